import Derived.Test.YtenjigdaaeiklaaP0
set_option linter.all false
/- Own work, printed by a program of mine: the walk of each function: a call returns what the plain function says. -/
namespace Go.Proofs.Ytenjigdaaeiklaa
open Go.Gv Go.Gv.D Go.RowKit
set_option maxHeartbeats 4000000 in
set_option maxRecDepth 100000 in
theorem integer_signed_ok (fuel : Nat) (neg_0 : Bool) (pa1_0 : Option Addr) (pc1_0 : Nat) (limbs_1 : (List Int)) (w0 : World) (X0 : Nat → Prop) (hX0 : ∀ k, X0 k → k < w0.heap.size) (hpa1_0 : Rd (iE .u32) w0 X0 pa1_0 pc1_0 limbs_1) (r0 : ((Bool × (List Int)) × (Int × Int))) (h0 : integer_signed fuel neg_0 limbs_1 = some r0) :
    Calls Try.prog 73 ([(.bool neg_0), (.slice pa1_0 (List.length limbs_1) pc1_0)] : List Value).toArray w0 (Ret fun v w' => w0.grownBy w' none ∧ ∃ (a0_0r : Option Addr) (c0_0r : Nat), ∃ (X0_0r : Nat → Prop), v = tup [(.agg #[(.bool r0.1.1), (.slice a0_0r (List.length r0.1.2) c0_0r)]), (.agg #[(.int .i64 r0.2.1), (.int .i64 r0.2.2)])] ∧ Rd (iE .u32) w' X0_0r a0_0r c0_0r r0.1.2 ∧ (∀ k, X0_0r k → k < w'.heap.size ∧ (X0 k ∨ w0.heap.size ≤ k))) := by
  have hB0 : Below w0.heap.size w0 w0 := Below.refl _ _
  unfold integer_signed at h0
  refine calls_run Try.func73 rfl Try.ntmps73 (by kernel_rfl) ?_
  refine gv_sub [0, 1] (σ' := [(0, (.bool neg_0)), (1, (.slice pa1_0 (List.length limbs_1) pc1_0))]) (by kernel_rfl) ?_
  refine gv_seq ?_
  refine gv_region ?_
  refine gv_new (fun b => .pointer (some ⟨b, 0, none⟩)) #[(.bool false), (.slice none (List.length ([] : List Int)) 0)] 24 (by decide) (by rfl) (by rfl) (by kernel_rfl) (by kernel_rfl) ?_
  intro b1 w2 hg3 hb4 hbe5 hz6
  refine ⟨(fun e => by cases e), ?_⟩
  refine gv_sub [0, 1, 4] (σ' := [(0, (.bool neg_0)), (1, (.slice pa1_0 (List.length limbs_1) pc1_0)), (4, (.pointer (some ⟨b1, 0, none⟩)))]) (by kernel_rfl) ?_
  refine gv_new (fun b => .pointer (some ⟨b, 0, none⟩)) #[(.int .i64 0), (.int .i64 0)] 29 (by decide) (by rfl) (by rfl) (by kernel_rfl) (by kernel_rfl) ?_
  intro b7 w8 hg9 hb10 hbe11 hz12
  refine ⟨(fun e => by cases e), ?_⟩
  refine gv_sub [0, 1, 4, 5] (σ' := [(0, (.bool neg_0)), (1, (.slice pa1_0 (List.length limbs_1) pc1_0)), (4, (.pointer (some ⟨b1, 0, none⟩))), (5, (.pointer (some ⟨b7, 0, none⟩)))]) (by kernel_rfl) ?_
  refine gv_nil ?_
  refine gv_seq ?_
  refine gv_seq ?_
  refine gv_region ?_
  refine gv_pure 3 [0, 1, 4, 5, 8] (σ' := [(0, (.bool neg_0)), (1, (.slice pa1_0 (List.length limbs_1) pc1_0)), (4, (.pointer (some ⟨b1, 0, none⟩))), (5, (.pointer (some ⟨b7, 0, none⟩))), (8, (.bool (decide (((List.length limbs_1 : Nat) : Int) > 128))))]) (by kernel_rfl) ?_
  refine gv_nil ?_
  refine gv_cond (b := (decide (((List.length limbs_1 : Nat) : Int) > 128))) (by rfl) (fun hc13 => ?_) (fun hc13 => ?_)
  · replace h0 := ite_t hc13 h0
    refine gv_seq ?_
    refine gv_region ?_
    refine gv_pure 1 [4, 5, 9] (σ' := [(4, (.pointer (some ⟨b1, 0, none⟩))), (5, (.pointer (some ⟨b7, 0, none⟩))), (9, (.agg #[(.bool false), (.slice none (List.length ([] : List Int)) 0)]))]) (by kernel_rfl) ?_
    refine bindE h0 ?_; clear h0; intro r14 hr15 h0
    refine gv_call (f := 69) (vs := [(.int .i64 14), (.int .i64 (-1))]) (cap := []) _ (by decide) (by rfl) (by rfl) rfl (by rfl) (by rfl) enters69 (integer_at_ok fuel 14 (-1) w8  r14 hr15) ?_
    rintro v18 w16 ⟨hg17, rfl⟩
    refine ⟨(fun e => by cases e), ?_⟩
    have hg23 := (grown_trans hg9 hg17)
    have hk24 := hb4.grown hg23 nb
    refine gv_sub [4, 5, 9, 10] (σ' := [(4, (.pointer (some ⟨b1, 0, none⟩))), (5, (.pointer (some ⟨b7, 0, none⟩))), (9, (.agg #[(.bool false), (.slice none (List.length ([] : List Int)) 0)])), (10, (.agg #[(.int .i64 r14.1), (.int .i64 r14.2)]))]) (by kernel_rfl) ?_
    refine gv_store (t := 24) (b := b1) (off := 0) (v := (.agg #[(.bool false), (.slice none (List.length ([] : List Int)) 0)])) (t' := 24) (cs := #[(.bool false), (.slice none (List.length ([] : List Int)) 0)]) #[(.bool false), (.slice none (List.length ([] : List Int)) 0)] (by decide) (by rfl) (by rfl) (by kernel_rfl) (by kernel_rfl) (by kernel_rfl) (by intro u hu; simp [Value.cells] at hu; rcases hu with rfl | rfl <;> rfl) (show 0 + 2 ≤ 2 by decide) (by rfl) hk24 ?_
    intro w19 hg20 hb21 hz22
    refine ⟨(fun e => by cases e), ?_⟩
    have ap29 : ¬ (· = b7) b1 := fun hx => Nat.not_lt_of_le ((lowb hbe11) _ hx) ((fun k (hk : k = b1) => Nat.lt_of_le_of_lt (Nat.le_of_eq hk) hb4.lt) _ rfl)
    have hk30 := (hb10.grown hg17 nb).grown hg20 (rowne ap29)
    refine gv_sub [4, 5, 10] (σ' := [(4, (.pointer (some ⟨b1, 0, none⟩))), (5, (.pointer (some ⟨b7, 0, none⟩))), (10, (.agg #[(.int .i64 r14.1), (.int .i64 r14.2)]))]) (by kernel_rfl) ?_
    refine gv_store (t := 29) (b := b7) (off := 0) (v := (.agg #[(.int .i64 r14.1), (.int .i64 r14.2)])) (t' := 29) (cs := #[(.int .i64 0), (.int .i64 0)]) #[(.int .i64 r14.1), (.int .i64 r14.2)] (by decide) (by rfl) (by rfl) (by kernel_rfl) (by kernel_rfl) (by kernel_rfl) (by intro u hu; simp [Value.cells] at hu; rcases hu with rfl | rfl <;> rfl) (show 0 + 2 ≤ 2 by decide) (by rfl) hk30 ?_
    intro w25 hg26 hb27 hz28
    refine ⟨(fun e => by cases e), ?_⟩
    refine gv_sub [4, 5] (σ' := [(4, (.pointer (some ⟨b1, 0, none⟩))), (5, (.pointer (some ⟨b7, 0, none⟩)))]) (by kernel_rfl) ?_
    refine gv_nil ?_
    refine gv_cret ?_
    have e := Option.some.inj h0; subst e
    have ap31 : ¬ (· = b1) b7 := fun hx => Nat.not_lt_of_le ((lowb hbe11) _ rfl) ((fun k (hk : k = b1) => Nat.lt_of_le_of_lt (Nat.le_of_eq hk) hb4.lt) _ hx)
    have hk32 := hb21.grown hg26 (rowne ap31)
    refine gv_ret (gv_done [(.agg #[(.bool false), (.slice none (List.length ([] : List Int)) 0)]), (.agg #[(.int .i64 r14.1), (.int .i64 r14.2)])] rfl ⟨⟨_, rfl, run_loadVar_row w25 b1 _ 24 _ _ _ hk32 Try.underlying24 rfl (by kernel_rfl)⟩, ⟨_, rfl, run_loadVar_row w25 b7 _ 29 _ _ _ hb27 Try.underlying29 rfl (by kernel_rfl)⟩, trivial⟩ ?_)
    have hg33 := (grown_trans hg3 hg23)
    have hB34 := below_grown hB0 hg33 hB0.size nb
    have hlo35 : w0.heap.size ≤ b1 := lob hbe5 hB0.size
    have hB36 := below_grown hB34 hg20 hB34.size (rowlo hlo35)
    have hB37 := below_grown hB0 hg3 hB0.size nb
    have hlo38 : w0.heap.size ≤ b7 := lob hbe11 hB37.size
    have hB39 := below_grown hB36 hg26 hB36.size (rowlo hlo38)
    exact ⟨grown_of_below hB39, none, 0, (fun _ => False), rfl, (Rd.nil (iE .u32) w25 (fun _ => False) none 0), (fun k hk => ⟨(fun _ h => h.elim) k hk, (fun _ h => h.elim) k hk⟩)⟩
  · replace h0 := ite_f hc13 h0
    refine gv_skip ?_
    refine gv_seq ?_
    refine gv_region ?_
    refine bindE h0 ?_; clear h0; intro j40 h1 h0
    refine gv_cut_ops (J := fun a w41 => ∃ (abb1_0j : Option Addr) (cbb1_0j : Nat), Below w0.heap.size w0 w41 ∧ w8.heap.size ≤ w41.heap.size ∧ Rd (iE .u32) w0 X0 abb1_0j cbb1_0j j40.1.2 ∧ Box w41 b1 24 #[(.bool j40.1.1), (.slice abb1_0j (List.length j40.1.2) cbb1_0j)] ∧ Box w41 b7 29 #[(.int .i64 j40.2.1), (.int .i64 j40.2.2)] ∧ a.defers = [] ∧ a.tmps.size = 20 ∧ Ok [(4, (.pointer (some ⟨b1, 0, none⟩))), (5, (.pointer (some ⟨b7, 0, none⟩)))] a.tmps) ?_ ?_
    · skip
      refine gv_pure 2 [1, 4, 5, 12] (σ' := [(1, (.slice pa1_0 (List.length limbs_1) pc1_0)), (4, (.pointer (some ⟨b1, 0, none⟩))), (5, (.pointer (some ⟨b7, 0, none⟩))), (12, (.bool neg_0))]) (by kernel_rfl) ?_
      refine gv_split (s := 12) (g := neg_0) (by rfl) (fun hc42 => ?_) (fun hc42 => ?_)
      · skip
        replace h1 := ite_t hc42 h1
        refine gv_pure 7 [4, 5, 18, 19] (σ' := [(4, (.pointer (some ⟨b1, 0, none⟩))), (5, (.pointer (some ⟨b7, 0, none⟩))), (18, (.agg #[(.bool (decide (((List.length limbs_1 : Nat) : Int) > 0))), (.slice pa1_0 (List.length limbs_1) pc1_0)])), (19, (.agg #[(.int .i64 0), (.int .i64 0)]))]) (by kernel_rfl) ?_
        have hk47 := hb4.grown hg9 nb
        refine gv_store (t := 24) (b := b1) (off := 0) (v := (.agg #[(.bool (decide (((List.length limbs_1 : Nat) : Int) > 0))), (.slice pa1_0 (List.length limbs_1) pc1_0)])) (t' := 24) (cs := #[(.bool false), (.slice none (List.length ([] : List Int)) 0)]) #[(.bool (decide (((List.length limbs_1 : Nat) : Int) > 0))), (.slice pa1_0 (List.length limbs_1) pc1_0)] (by decide) (by rfl) (by rfl) (by kernel_rfl) (by kernel_rfl) (by kernel_rfl) (by intro u hu; simp [Value.cells] at hu; rcases hu with rfl | rfl <;> rfl) (show 0 + 2 ≤ 2 by decide) (by rfl) hk47 ?_
        intro w43 hg44 hb45 hz46
        refine ⟨(fun e => by cases e), ?_⟩
        have ap52 : ¬ (· = b7) b1 := fun hx => Nat.not_lt_of_le ((lowb hbe11) _ hx) ((fun k (hk : k = b1) => Nat.lt_of_le_of_lt (Nat.le_of_eq hk) hb4.lt) _ rfl)
        have hk53 := hb10.grown hg44 (rowne ap52)
        refine gv_sub [4, 5, 19] (σ' := [(4, (.pointer (some ⟨b1, 0, none⟩))), (5, (.pointer (some ⟨b7, 0, none⟩))), (19, (.agg #[(.int .i64 0), (.int .i64 0)]))]) (by kernel_rfl) ?_
        refine gv_store (t := 29) (b := b7) (off := 0) (v := (.agg #[(.int .i64 0), (.int .i64 0)])) (t' := 29) (cs := #[(.int .i64 0), (.int .i64 0)]) #[(.int .i64 0), (.int .i64 0)] (by decide) (by rfl) (by rfl) (by kernel_rfl) (by kernel_rfl) (by kernel_rfl) (by intro u hu; simp [Value.cells] at hu; rcases hu with rfl | rfl <;> rfl) (show 0 + 2 ≤ 2 by decide) (by rfl) hk53 ?_
        intro w48 hg49 hb50 hz51
        refine ⟨(fun e => by cases e), ?_⟩
        refine gv_sub [4, 5] (σ' := [(4, (.pointer (some ⟨b1, 0, none⟩))), (5, (.pointer (some ⟨b7, 0, none⟩)))]) (by kernel_rfl) ?_
        refine gv_nil ?_
        have e := Option.some.inj h1; subst e
        refine gv_goal fun a hd hs hok => ?_
        obtain ⟨q4, q5, _⟩ := hok
        have hg54 := (grown_trans hg3 hg9)
        have hB55 := below_grown hB0 hg54 hB0.size nb
        have hlo56 : w0.heap.size ≤ b1 := lob hbe5 hB0.size
        have hB57 := below_grown hB55 hg44 hB55.size (rowlo hlo56)
        have hB58 := below_grown hB0 hg3 hB0.size nb
        have hlo59 : w0.heap.size ≤ b7 := lob hbe11 hB58.size
        have hB60 := below_grown hB57 hg49 hB57.size (rowlo hlo59)
        have hz61 : w8.heap.size ≤ w48.heap.size := (Nat.le_trans hg44.size hg49.size)
        have ap62 : ¬ (· = b1) b7 := fun hx => Nat.not_lt_of_le ((lowb hbe11) _ rfl) ((fun k (hk : k = b1) => Nat.lt_of_le_of_lt (Nat.le_of_eq hk) hb4.lt) _ hx)
        have hk63 := hb45.grown hg49 (rowne ap62)
        exact ⟨pa1_0, pc1_0, hB60, hz61, hpa1_0, hk63, hb50, hd, hs, ⟨q4, q5, trivial⟩⟩
      · skip
        replace h1 := ite_f hc42 h1
        refine gv_pure 7 [4, 5, 18, 19] (σ' := [(4, (.pointer (some ⟨b1, 0, none⟩))), (5, (.pointer (some ⟨b7, 0, none⟩))), (18, (.agg #[(.bool false), (.slice pa1_0 (List.length limbs_1) pc1_0)])), (19, (.agg #[(.int .i64 0), (.int .i64 0)]))]) (by kernel_rfl) ?_
        have hk68 := hb4.grown hg9 nb
        refine gv_store (t := 24) (b := b1) (off := 0) (v := (.agg #[(.bool false), (.slice pa1_0 (List.length limbs_1) pc1_0)])) (t' := 24) (cs := #[(.bool false), (.slice none (List.length ([] : List Int)) 0)]) #[(.bool false), (.slice pa1_0 (List.length limbs_1) pc1_0)] (by decide) (by rfl) (by rfl) (by kernel_rfl) (by kernel_rfl) (by kernel_rfl) (by intro u hu; simp [Value.cells] at hu; rcases hu with rfl | rfl <;> rfl) (show 0 + 2 ≤ 2 by decide) (by rfl) hk68 ?_
        intro w64 hg65 hb66 hz67
        refine ⟨(fun e => by cases e), ?_⟩
        clear hz67 hk68 hc42 hc13 hz12 hz6
        have ap73 : ¬ (· = b7) b1 := fun hx => Nat.not_lt_of_le ((lowb hbe11) _ hx) ((fun k (hk : k = b1) => Nat.lt_of_le_of_lt (Nat.le_of_eq hk) hb4.lt) _ rfl)
        have hk74 := hb10.grown hg65 (rowne ap73)
        refine gv_sub [4, 5, 19] (σ' := [(4, (.pointer (some ⟨b1, 0, none⟩))), (5, (.pointer (some ⟨b7, 0, none⟩))), (19, (.agg #[(.int .i64 0), (.int .i64 0)]))]) (by kernel_rfl) ?_
        refine gv_store (t := 29) (b := b7) (off := 0) (v := (.agg #[(.int .i64 0), (.int .i64 0)])) (t' := 29) (cs := #[(.int .i64 0), (.int .i64 0)]) #[(.int .i64 0), (.int .i64 0)] (by decide) (by rfl) (by rfl) (by kernel_rfl) (by kernel_rfl) (by kernel_rfl) (by intro u hu; simp [Value.cells] at hu; rcases hu with rfl | rfl <;> rfl) (show 0 + 2 ≤ 2 by decide) (by rfl) hk74 ?_
        intro w69 hg70 hb71 hz72
        refine ⟨(fun e => by cases e), ?_⟩
        refine gv_sub [4, 5] (σ' := [(4, (.pointer (some ⟨b1, 0, none⟩))), (5, (.pointer (some ⟨b7, 0, none⟩)))]) (by kernel_rfl) ?_
        refine gv_nil ?_
        have e := Option.some.inj h1; subst e
        refine gv_goal fun a hd hs hok => ?_
        obtain ⟨q4, q5, _⟩ := hok
        have hg75 := (grown_trans hg3 hg9)
        have hB76 := below_grown hB0 hg75 hB0.size nb
        have hlo77 : w0.heap.size ≤ b1 := lob hbe5 hB0.size
        have hB78 := below_grown hB76 hg65 hB76.size (rowlo hlo77)
        have hB79 := below_grown hB0 hg3 hB0.size nb
        have hlo80 : w0.heap.size ≤ b7 := lob hbe11 hB79.size
        have hB81 := below_grown hB78 hg70 hB78.size (rowlo hlo80)
        have hz82 : w8.heap.size ≤ w69.heap.size := (Nat.le_trans hg65.size hg70.size)
        have ap83 : ¬ (· = b1) b7 := fun hx => Nat.not_lt_of_le ((lowb hbe11) _ rfl) ((fun k (hk : k = b1) => Nat.lt_of_le_of_lt (Nat.le_of_eq hk) hb4.lt) _ hx)
        have hk84 := hb66.grown hg70 (rowne ap83)
        exact ⟨pa1_0, pc1_0, hB81, hz82, hpa1_0, hk84, hb71, hd, hs, ⟨q4, q5, trivial⟩⟩
    · rintro a w41 ⟨a87, c88, hB85, hz86, hp89, hb90, hb91, hd, hs, hok⟩
      refine (?_ : Run Try.prog _ 20 _ .normal [(4, (.pointer (some ⟨b1, 0, none⟩))), (5, (.pointer (some ⟨b7, 0, none⟩)))] w41) a hd hs hok
      clear hd hs hok
      clear hz86 hc13 hz12 hb10 hg9 hz6
      refine gv_cret ?_
      have e := Option.some.inj h0; subst e
      refine gv_ret (gv_done [(.agg #[(.bool j40.1.1), (.slice a87 (List.length j40.1.2) c88)]), (.agg #[(.int .i64 j40.2.1), (.int .i64 j40.2.2)])] rfl ⟨⟨_, rfl, run_loadVar_row w41 b1 _ 24 _ _ _ hb90 Try.underlying24 rfl (by kernel_rfl)⟩, ⟨_, rfl, run_loadVar_row w41 b7 _ 29 _ _ _ hb91 Try.underlying29 rfl (by kernel_rfl)⟩, trivial⟩ ?_)
      exact ⟨grown_of_below hB85, a87, c88, X0, rfl, (hp89.below hB85 hX0), (fun k hk => ⟨(fun k (hk : X0 k) => Nat.lt_of_lt_of_le (hX0 k hk) hB85.size) k hk, (fun k (hk : X0 k) => Or.inl hk) k hk⟩)⟩

set_option maxHeartbeats 4000000 in
set_option maxRecDepth 100000 in
theorem natural_compare_ok (fuel : Nat) (pa0_0 : Option Addr) (pc0_0 : Nat) (a_0 : (List Int)) (pa1_0 : Option Addr) (pc1_0 : Nat) (b_1 : (List Int)) (w0 : World) (X0 : Nat → Prop) (hX0 : ∀ k, X0 k → k < w0.heap.size) (hpa0_0 : Rd (iE .u32) w0 X0 pa0_0 pc0_0 a_0) (hpa1_0 : Rd (iE .u32) w0 X0 pa1_0 pc1_0 b_1) (r0 : Int) (h0 : natural_compare fuel a_0 b_1 = some r0) :
    Calls Try.prog 71 ([(.slice pa0_0 (List.length a_0) pc0_0), (.slice pa1_0 (List.length b_1) pc1_0)] : List Value).toArray w0 (Ret fun v w' => w0.grownBy w' none ∧ v = tup [(.int .i64 r0)]) := by
  have hB0 : Below w0.heap.size w0 w0 := Below.refl _ _
  unfold natural_compare at h0
  refine calls_run Try.func71 rfl Try.ntmps71 (by kernel_rfl) ?_
  refine gv_sub [0, 1] (σ' := [(0, (.slice pa0_0 (List.length a_0) pc0_0)), (1, (.slice pa1_0 (List.length b_1) pc1_0))]) (by kernel_rfl) ?_
  refine gv_seq ?_
  refine gv_region ?_
  refine gv_pure 1 [0, 1] (σ' := [(0, (.slice pa0_0 (List.length a_0) pc0_0)), (1, (.slice pa1_0 (List.length b_1) pc1_0))]) (by kernel_rfl) ?_
  refine gv_nil ?_
  refine gv_seq ?_
  refine gv_seq ?_
  refine gv_region ?_
  refine gv_pure 5 [0, 1, 10] (σ' := [(0, (.slice pa0_0 (List.length a_0) pc0_0)), (1, (.slice pa1_0 (List.length b_1) pc1_0)), (10, (.bool (((List.length a_0 : Nat) : Int) != ((List.length b_1 : Nat) : Int))))]) (by kernel_rfl) ?_
  refine gv_nil ?_
  refine gv_cond (b := (((List.length a_0 : Nat) : Int) != ((List.length b_1 : Nat) : Int))) (by rfl) (fun hc1 => ?_) (fun hc1 => ?_)
  · replace h0 := ite_t hc1 h0
    refine gv_seq ?_
    refine gv_region ?_
    refine gv_pure 6 [4] (σ' := [(4, (.int .i64 (IntKind.i64.wrap (((List.length a_0 : Nat) : Int) - ((List.length b_1 : Nat) : Int)))))]) (by kernel_rfl) ?_
    refine bindE h0 ?_; clear h0; intro n2 hn3 h0
    refine gv_name (s := 4) (v := (.int .i64 (IntKind.i64.wrap (((List.length a_0 : Nat) : Int) - ((List.length b_1 : Nat) : Int))))) (v' := (.int .i64 n2)) (by rfl) (congrArg (Value.int .i64) (Option.some.inj hn3)) ?_
    refine gv_sub [4] (σ' := [(4, (.int .i64 n2))]) (by kernel_rfl) ?_
    refine gv_nil ?_
    refine gv_cret ?_
    have e := Option.some.inj h0; subst e
    refine gv_ret (gv_done [(.int .i64 n2)] rfl ⟨rfl, trivial⟩ ?_)
    exact ⟨grown_of_below hB0, rfl⟩
  · replace h0 := ite_f hc1 h0
    refine gv_skip ?_
    refine gv_seq ?_
    refine gv_seq ?_
    refine gv_region ?_
    refine gv_pure 4 [0, 1, 5] (σ' := [(0, (.slice pa0_0 (List.length a_0) pc0_0)), (1, (.slice pa1_0 (List.length b_1) pc1_0)), (5, (.int .i64 (IntKind.i64.wrap (((List.length a_0 : Nat) : Int) - 1))))]) (by kernel_rfl) ?_
    refine bindE h0 ?_; clear h0; intro n4 hn5 h0
    refine gv_name (s := 5) (v := (.int .i64 (IntKind.i64.wrap (((List.length a_0 : Nat) : Int) - 1)))) (v' := (.int .i64 n4)) (by rfl) (congrArg (Value.int .i64) (Option.some.inj hn5)) ?_
    refine gv_sub [0, 1, 5] (σ' := [(0, (.slice pa0_0 (List.length a_0) pc0_0)), (1, (.slice pa1_0 (List.length b_1) pc1_0)), (5, (.int .i64 n4))]) (by kernel_rfl) ?_
    refine gv_nil ?_
    refine bindE h0 ?_; clear h0; intro j6 h1 h0
    refine gv_cut_code (J := fun a w8 => ∃ s7 : Unit, j6 = .inl s7 ∧ Below w0.heap.size w0 w8 ∧ w0.heap.size ≤ w8.heap.size ∧ a.defers = [] ∧ a.tmps.size = 41 ∧ Ok [] a.tmps) ?_ ?_
    · skip
      refine gv_block ?_
      refine gv_loop (A := fun (s9 : Int) a w10 => Below w0.heap.size w0 w10 ∧ w0.heap.size ≤ w10.heap.size ∧ a.defers = [] ∧ a.tmps.size = 41 ∧ Ok [(0, (.slice pa0_0 (List.length a_0) pc0_0)), (1, (.slice pa1_0 (List.length b_1) pc1_0)), (5, (.int .i64 s9))] a.tmps) h1 ?_ ?_
      · intro a hd hs hok
        obtain ⟨q0, q1, q5, _⟩ := hok
        exact ⟨hB0, (Nat.le_refl _), hd, hs, ⟨q0, q1, q5, trivial⟩⟩
      · rintro s9 r2 h2 hR2 a w10 ⟨hB11, hz12, hd, hs, hok⟩
        refine (?_ : Run Try.prog _ 41 _ .normal [(0, (.slice pa0_0 (List.length a_0) pc0_0)), (1, (.slice pa1_0 (List.length b_1) pc1_0)), (5, (.int .i64 s9))] w10) a hd hs hok
        clear hd hs hok
        refine gv_seq ?_
        refine gv_seq ?_
        refine gv_region ?_
        refine gv_pure 2 [0, 1, 5, 20] (σ' := [(0, (.slice pa0_0 (List.length a_0) pc0_0)), (1, (.slice pa1_0 (List.length b_1) pc1_0)), (5, (.int .i64 s9)), (20, (.bool (decide (s9 ≥ 0))))]) (by kernel_rfl) ?_
        refine gv_nil ?_
        refine gv_cond (b := (decide (s9 ≥ 0))) (by rfl) (fun hc13 => ?_) (fun hc13 => ?_)
        · replace h2 := ite_t hc13 h2
          refine gv_skip ?_
          refine gv_seq ?_
          refine gv_block ?_
          refine gv_seq ?_
          refine gv_drawA (by kernel_rfl) ?_
          intro w14 hg15
          refine gv_pre [0, 1, 2, 4, 5, 6] #[true, true, true, false, true, true, true, false, false] 3 (by kernel_rfl) (by rfl) ?_
          refine gv_pure 2 [0, 1, 5, 23, 24] (σ' := [(0, (.slice pa0_0 (List.length a_0) pc0_0)), (1, (.slice pa1_0 (List.length b_1) pc1_0)), (5, (.int .i64 s9)), (23, (.slice pa0_0 (List.length a_0) pc0_0)), (24, (.int .i64 s9))]) (by kernel_rfl) ?_
          refine bindE h2 ?_; clear h2; intro x16 hx17 h2
          have hB18 := below_grown hB11 hg15 hB11.size nb
          refine gv_idxaddr (t := 22) (e := 76) (a := pa0_0) (len := List.length a_0) (cap := pc0_0) (kk := .i64) (i := s9) (sz := 1) [0, 1, 5, 25] (σ' := [(0, (.slice pa0_0 (List.length a_0) pc0_0)), (1, (.slice pa1_0 (List.length b_1) pc1_0)), (5, (.int .i64 s9)), (25, (.pointer (some (elemAddr pa0_0 ((s9).toNat * 1)))))]) (fun e => by cases e) (by rfl) (by rfl) (by rfl) (by kernel_rfl) (by kernel_rfl) Try.underlying22 (by kernel_rfl) ((hpa0_0.below hB18 hX0).has hx17) (idx_spec hx17).1 (idx_spec hx17).2.1 (by kernel_rfl) ?_
          refine gv_pure 2 [0, 1, 5, 25, 27, 28] (σ' := [(0, (.slice pa0_0 (List.length a_0) pc0_0)), (1, (.slice pa1_0 (List.length b_1) pc1_0)), (5, (.int .i64 s9)), (25, (.pointer (some (elemAddr pa0_0 ((s9).toNat * 1))))), (27, (.slice pa1_0 (List.length b_1) pc1_0)), (28, (.int .i64 s9))]) (by kernel_rfl) ?_
          refine bindE h2 ?_; clear h2; intro x19 hx20 h2
          refine gv_idxaddr (t := 22) (e := 76) (a := pa1_0) (len := List.length b_1) (cap := pc1_0) (kk := .i64) (i := s9) (sz := 1) [0, 1, 5, 25, 29] (σ' := [(0, (.slice pa0_0 (List.length a_0) pc0_0)), (1, (.slice pa1_0 (List.length b_1) pc1_0)), (5, (.int .i64 s9)), (25, (.pointer (some (elemAddr pa0_0 ((s9).toNat * 1))))), (29, (.pointer (some (elemAddr pa1_0 ((s9).toNat * 1)))))]) (fun e => by cases e) (by rfl) (by rfl) (by rfl) (by kernel_rfl) (by kernel_rfl) Try.underlying22 (by kernel_rfl) ((hpa1_0.below hB18 hX0).has hx20) (idx_spec hx20).1 (idx_spec hx20).2.1 (by kernel_rfl) ?_
          refine gv_nil ?_
          refine gv_goal fun a hd hs hok => ?_
          refine (?_ : RunA Try.prog _ 41 _ _ 3 #[true, true, true, false, true, true, true, false, false] [(0, (.slice pa0_0 (List.length a_0) pc0_0)), (1, (.slice pa1_0 (List.length b_1) pc1_0)), (5, (.int .i64 s9)), (25, (.pointer (some (elemAddr pa0_0 ((s9).toNat * 1))))), (29, (.pointer (some (elemAddr pa1_0 ((s9).toNat * 1)))))] w14) a hd hs hok
          clear hd hs hok
          refine gv_stage (Cls w14 []) [0, 1, 2, 3, 4, 5, 6, 7] [(3, some true), (7, some true)] #[true, true, true, true, true, true, true, true, false] 1 (by kernel_rfl) (by rfl) (Cls.refl _ _) ?_
          have hC21 := Cls.refl w14 []
          refine gv_load (t := 76) (A := (elemAddr pa0_0 ((s9).toNat * 1))) (.int .u32 x16) [0, 1, 5, 26, 29] (σ' := [(0, (.slice pa0_0 (List.length a_0) pc0_0)), (1, (.slice pa1_0 (List.length b_1) pc1_0)), (5, (.int .i64 s9)), (26, (.int .u32 x16)), (29, (.pointer (some (elemAddr pa1_0 ((s9).toNat * 1)))))]) (fun e => by cases e) (by rfl) (by rfl) (by rfl) (by kernel_rfl) (by kernel_rfl) (by kernel_rfl) (inw1 fun w' hC' => ((hC'.rd (hpa0_0.below hB18 hX0) (fun k (hk : X0 k) => Nat.lt_of_lt_of_le (hX0 k hk) hB18.size) nmx_nil).cell hx17)) (by kernel_rfl) ?_
          refine gv_load (t := 76) (A := (elemAddr pa1_0 ((s9).toNat * 1))) (.int .u32 x19) [0, 1, 5, 26, 30] (σ' := [(0, (.slice pa0_0 (List.length a_0) pc0_0)), (1, (.slice pa1_0 (List.length b_1) pc1_0)), (5, (.int .i64 s9)), (26, (.int .u32 x16)), (30, (.int .u32 x19))]) (fun e => by cases e) (by rfl) (by rfl) (by rfl) (by kernel_rfl) (by kernel_rfl) (by kernel_rfl) (inw1 fun w' hC' => ((hC'.rd (hpa1_0.below hB18 hX0) (fun k (hk : X0 k) => Nat.lt_of_lt_of_le (hX0 k hk) hB18.size) nmx_nil).cell hx20)) (by kernel_rfl) ?_
          refine gv_nil ?_
          refine gv_goal fun a hd hs hok => ?_
          refine (?_ : RunA Try.prog _ 41 _ _ 1 #[true, true, true, true, true, true, true, true, false] [(0, (.slice pa0_0 (List.length a_0) pc0_0)), (1, (.slice pa1_0 (List.length b_1) pc1_0)), (5, (.int .i64 s9)), (26, (.int .u32 x16)), (30, (.int .u32 x19))] w14) a hd hs hok
          clear hd hs hok
          refine gv_pre [8] #[true, true, true, true, true, true, true, true, true] 0 (by kernel_rfl) (by rfl) ?_
          refine gv_pure 1 [0, 1, 5, 31] (σ' := [(0, (.slice pa0_0 (List.length a_0) pc0_0)), (1, (.slice pa1_0 (List.length b_1) pc1_0)), (5, (.int .i64 s9)), (31, (.bool (x16 != x19)))]) (by kernel_rfl) ?_
          refine gv_nil ?_
          refine gv_goal fun a hd hs hok => ?_
          refine (?_ : RunA Try.prog _ 41 _ _ 0 #[true, true, true, true, true, true, true, true, true] [(0, (.slice pa0_0 (List.length a_0) pc0_0)), (1, (.slice pa1_0 (List.length b_1) pc1_0)), (5, (.int .i64 s9)), (31, (.bool (x16 != x19)))] w14) a hd hs hok
          clear hd hs hok
          refine gv_stageE (by kernel_rfl) ?_
          refine gv_cond (b := (x16 != x19)) (by rfl) (fun hc22 => ?_) (fun hc22 => ?_)
          · replace h2 := ite_t hc22 h2
            refine gv_seq ?_
            refine gv_seq ?_
            refine gv_drawA (by kernel_rfl) ?_
            intro w23 hg24
            refine gv_pre [0, 1, 2, 4, 5, 6] #[true, true, true, false, true, true, true, false, false] 3 (by kernel_rfl) (by rfl) ?_
            refine gv_pure 2 [1, 5, 32, 33] (σ' := [(1, (.slice pa1_0 (List.length b_1) pc1_0)), (5, (.int .i64 s9)), (32, (.slice pa0_0 (List.length a_0) pc0_0)), (33, (.int .i64 s9))]) (by kernel_rfl) ?_
            refine bindE h2 ?_; clear h2; intro x25 hx26 h2
            have hB27 := below_grown hB18 hg24 hB18.size nb
            refine gv_idxaddr (t := 22) (e := 76) (a := pa0_0) (len := List.length a_0) (cap := pc0_0) (kk := .i64) (i := s9) (sz := 1) [1, 5, 34] (σ' := [(1, (.slice pa1_0 (List.length b_1) pc1_0)), (5, (.int .i64 s9)), (34, (.pointer (some (elemAddr pa0_0 ((s9).toNat * 1)))))]) (fun e => by cases e) (by rfl) (by rfl) (by rfl) (by kernel_rfl) (by kernel_rfl) Try.underlying22 (by kernel_rfl) ((hpa0_0.below hB27 hX0).has hx26) (idx_spec hx26).1 (idx_spec hx26).2.1 (by kernel_rfl) ?_
            refine gv_pure 2 [34, 36, 37] (σ' := [(34, (.pointer (some (elemAddr pa0_0 ((s9).toNat * 1))))), (36, (.slice pa1_0 (List.length b_1) pc1_0)), (37, (.int .i64 s9))]) (by kernel_rfl) ?_
            refine bindE h2 ?_; clear h2; intro x28 hx29 h2
            refine gv_idxaddr (t := 22) (e := 76) (a := pa1_0) (len := List.length b_1) (cap := pc1_0) (kk := .i64) (i := s9) (sz := 1) [34, 38] (σ' := [(34, (.pointer (some (elemAddr pa0_0 ((s9).toNat * 1))))), (38, (.pointer (some (elemAddr pa1_0 ((s9).toNat * 1)))))]) (fun e => by cases e) (by rfl) (by rfl) (by rfl) (by kernel_rfl) (by kernel_rfl) Try.underlying22 (by kernel_rfl) ((hpa1_0.below hB27 hX0).has hx29) (idx_spec hx29).1 (idx_spec hx29).2.1 (by kernel_rfl) ?_
            refine gv_nil ?_
            refine gv_goal fun a hd hs hok => ?_
            refine (?_ : RunA Try.prog _ 41 _ _ 3 #[true, true, true, false, true, true, true, false, false] [(34, (.pointer (some (elemAddr pa0_0 ((s9).toNat * 1))))), (38, (.pointer (some (elemAddr pa1_0 ((s9).toNat * 1)))))] w23) a hd hs hok
            clear hd hs hok
            refine gv_stage (Cls w23 []) [0, 1, 2, 3, 4, 5, 6, 7] [(3, some true), (7, some true)] #[true, true, true, true, true, true, true, true, false] 1 (by kernel_rfl) (by rfl) (Cls.refl _ _) ?_
            have hC30 := Cls.refl w23 []
            refine gv_load (t := 76) (A := (elemAddr pa0_0 ((s9).toNat * 1))) (.int .u32 x25) [35, 38] (σ' := [(35, (.int .u32 x25)), (38, (.pointer (some (elemAddr pa1_0 ((s9).toNat * 1)))))]) (fun e => by cases e) (by rfl) (by rfl) (by rfl) (by kernel_rfl) (by kernel_rfl) (by kernel_rfl) (inw1 fun w' hC' => ((hC'.rd (hpa0_0.below hB27 hX0) (fun k (hk : X0 k) => Nat.lt_of_lt_of_le (hX0 k hk) hB27.size) nmx_nil).cell hx26)) (by kernel_rfl) ?_
            refine gv_load (t := 76) (A := (elemAddr pa1_0 ((s9).toNat * 1))) (.int .u32 x28) [35, 39] (σ' := [(35, (.int .u32 x25)), (39, (.int .u32 x28))]) (fun e => by cases e) (by rfl) (by rfl) (by rfl) (by kernel_rfl) (by kernel_rfl) (by kernel_rfl) (inw1 fun w' hC' => ((hC'.rd (hpa1_0.below hB27 hX0) (fun k (hk : X0 k) => Nat.lt_of_lt_of_le (hX0 k hk) hB27.size) nmx_nil).cell hx29)) (by kernel_rfl) ?_
            refine gv_nil ?_
            refine gv_goal fun a hd hs hok => ?_
            refine (?_ : RunA Try.prog _ 41 _ _ 1 #[true, true, true, true, true, true, true, true, false] [(35, (.int .u32 x25)), (39, (.int .u32 x28))] w23) a hd hs hok
            clear hd hs hok
            refine gv_pre [8] #[true, true, true, true, true, true, true, true, true] 0 (by kernel_rfl) (by rfl) ?_
            refine gv_pure 1 [40] (σ' := [(40, (.bool (decide (x25 < x28))))]) (by kernel_rfl) ?_
            refine gv_nil ?_
            refine gv_goal fun a hd hs hok => ?_
            refine (?_ : RunA Try.prog _ 41 _ _ 0 #[true, true, true, true, true, true, true, true, true] [(40, (.bool (decide (x25 < x28))))] w23) a hd hs hok
            clear hd hs hok
            refine gv_stageE (by kernel_rfl) ?_
            refine gv_cond (b := (decide (x25 < x28))) (by rfl) (fun hc31 => ?_) (fun hc31 => ?_)
            · replace h2 := ite_t hc31 h2
              refine gv_seq ?_
              refine gv_region ?_
              refine gv_pure 1 [4] (σ' := [(4, (.int .i64 (-1)))]) (by kernel_rfl) ?_
              refine gv_nil ?_
              refine gv_cret ?_
              have e := Option.some.inj h2; subst e
              replace h1 := congrArg some (hR2 _ rfl)
              have e := Option.some.inj h1; subst e
              replace h0 := cont_inr h0
              have e := Option.some.inj h0; subst e
              refine gv_ret (gv_done [(.int .i64 (-1))] rfl ⟨rfl, trivial⟩ ?_)
              exact ⟨grown_of_below hB27, rfl⟩
            · replace h2 := ite_f hc31 h2
              refine gv_skip ?_
              refine gv_seq ?_
              refine gv_region ?_
              refine gv_pure 1 [4] (σ' := [(4, (.int .i64 1))]) (by kernel_rfl) ?_
              refine gv_nil ?_
              refine gv_cret ?_
              have e := Option.some.inj h2; subst e
              replace h1 := congrArg some (hR2 _ rfl)
              have e := Option.some.inj h1; subst e
              replace h0 := cont_inr h0
              have e := Option.some.inj h0; subst e
              refine gv_ret (gv_done [(.int .i64 1)] rfl ⟨rfl, trivial⟩ ?_)
              exact ⟨grown_of_below hB27, rfl⟩
          · replace h2 := ite_f hc22 h2
            refine gv_skip ?_
            refine gv_blk ?_
            refine gv_region ?_
            refine gv_pure 3 [0, 1, 5] (σ' := [(0, (.slice pa0_0 (List.length a_0) pc0_0)), (1, (.slice pa1_0 (List.length b_1) pc1_0)), (5, (.int .i64 (IntKind.i64.wrap (s9 - 1))))]) (by kernel_rfl) ?_
            refine gv_nil ?_
            have e := Option.some.inj h2; subst e
            refine gv_goal fun a hd hs hok => ?_
            obtain ⟨q0, q1, q5, _⟩ := hok
            have hz32 : w0.heap.size ≤ w14.heap.size := (Nat.le_trans hz12 hg15.size)
            exact ⟨(IntKind.i64.wrap (s9 - 1)), rfl, hB18, hz32, hd, hs, ⟨q0, q1, q5, trivial⟩⟩
        · replace h2 := ite_f hc13 h2
          refine gv_cexit ?_
          refine gv_exit rfl ?_
          have e := Option.some.inj h2; subst e
          replace h1 := congrArg some (hR2 _ rfl)
          have e := Option.some.inj h1; subst e
          refine gv_goal fun a hd hs hok => ?_
          obtain ⟨q0, q1, q5, q20, _⟩ := hok
          have hz33 : w0.heap.size ≤ w10.heap.size := hz12
          exact ⟨(), rfl, hB11, hz33, hd, hs, trivial⟩
    · rintro a w8 ⟨s7, e, hB34, hz35, hd, hs, hok⟩
      subst e
      refine (?_ : Run Try.prog _ 41 _ .normal [] w8) a hd hs hok
      clear hd hs hok
      replace h0 := cont_inl h0
      refine gv_seq ?_
      refine gv_region ?_
      refine gv_pure 1 [4] (σ' := [(4, (.int .i64 0))]) (by kernel_rfl) ?_
      refine gv_nil ?_
      refine gv_cret ?_
      have e := Option.some.inj h0; subst e
      refine gv_ret (gv_done [(.int .i64 0)] rfl ⟨rfl, trivial⟩ ?_)
      exact ⟨grown_of_below hB34, rfl⟩

set_option maxHeartbeats 4000000 in
set_option maxRecDepth 100000 in
theorem natural_Cmp_ok (fuel : Nat) (pa0_0 : Option Addr) (pc0_0 : Nat) (a_0 : (List Int)) (pa1_0 : Option Addr) (pc1_0 : Nat) (b_1 : (List Int)) (w0 : World) (X0 : Nat → Prop) (hX0 : ∀ k, X0 k → k < w0.heap.size) (hpa0_0 : Rd (iE .u32) w0 X0 pa0_0 pc0_0 a_0) (hpa1_0 : Rd (iE .u32) w0 X0 pa1_0 pc1_0 b_1) (r0 : (Int × (Int × Int))) (h0 : natural_Cmp fuel a_0 b_1 = some r0) :
    Calls Try.prog 63 ([(.slice pa0_0 (List.length a_0) pc0_0), (.slice pa1_0 (List.length b_1) pc1_0)] : List Value).toArray w0 (Ret fun v w' => w0.grownBy w' none ∧ v = tup [(.int .i64 r0.1), (.agg #[(.int .i64 r0.2.1), (.int .i64 r0.2.2)])]) := by
  have hB0 : Below w0.heap.size w0 w0 := Below.refl _ _
  unfold natural_Cmp at h0
  refine calls_run Try.func63 rfl Try.ntmps63 (by kernel_rfl) ?_
  refine gv_sub [0, 1] (σ' := [(0, (.slice pa0_0 (List.length a_0) pc0_0)), (1, (.slice pa1_0 (List.length b_1) pc1_0))]) (by kernel_rfl) ?_
  refine gv_seq ?_
  refine gv_region ?_
  refine gv_pure 1 [0, 1] (σ' := [(0, (.slice pa0_0 (List.length a_0) pc0_0)), (1, (.slice pa1_0 (List.length b_1) pc1_0))]) (by kernel_rfl) ?_
  refine gv_new (fun b => .pointer (some ⟨b, 0, none⟩)) #[(.int .i64 0), (.int .i64 0)] 29 (by decide) (by rfl) (by rfl) (by kernel_rfl) (by kernel_rfl) ?_
  intro b1 w2 hg3 hb4 hbe5 hz6
  refine ⟨(fun e => by cases e), ?_⟩
  refine gv_sub [0, 1, 5] (σ' := [(0, (.slice pa0_0 (List.length a_0) pc0_0)), (1, (.slice pa1_0 (List.length b_1) pc1_0)), (5, (.pointer (some ⟨b1, 0, none⟩)))]) (by kernel_rfl) ?_
  refine gv_nil ?_
  refine gv_seq ?_
  refine gv_seq ?_
  refine gv_region ?_
  refine gv_pure 2 [0, 1, 5, 7, 8] (σ' := [(0, (.slice pa0_0 (List.length a_0) pc0_0)), (1, (.slice pa1_0 (List.length b_1) pc1_0)), (5, (.pointer (some ⟨b1, 0, none⟩))), (7, (.slice pa0_0 (List.length a_0) pc0_0)), (8, (.slice pa1_0 (List.length b_1) pc1_0))]) (by kernel_rfl) ?_
  refine bindE h0 ?_; clear h0; intro r7 hr8 h0
  have hB9 := below_grown hB0 hg3 hB0.size nb
  refine gv_call (f := 70) (vs := [(.slice pa0_0 (List.length a_0) pc0_0), (.slice pa1_0 (List.length b_1) pc1_0)]) (cap := []) _ (by decide) (by rfl) (by rfl) rfl (by rfl) (by rfl) enters70 (natural_check_ok fuel pa0_0 pc0_0 a_0 pa1_0 pc1_0 b_1 w2 (fun k => X0 k ∨ X0 k) (fun k hk => (hk).elim (fun h => (fun k (hk : X0 k) => Nat.lt_of_lt_of_le (hX0 k hk) hB9.size) k h) (fun h => (fun k (hk : X0 k) => Nat.lt_of_lt_of_le (hX0 k hk) hB9.size) k h)) ((hpa0_0.below hB9 hX0).wide (fun k hk => (.inl hk))) ((hpa1_0.below hB9 hX0).wide (fun k hk => (.inr hk))) r7 hr8) ?_
  rintro v12 w10 ⟨hg11, rfl⟩
  refine ⟨(fun e => by cases e), ?_⟩
  refine gv_sub [0, 1, 5, 9] (σ' := [(0, (.slice pa0_0 (List.length a_0) pc0_0)), (1, (.slice pa1_0 (List.length b_1) pc1_0)), (5, (.pointer (some ⟨b1, 0, none⟩))), (9, (.agg #[(.int .i64 r7.1), (.int .i64 r7.2)]))]) (by kernel_rfl) ?_
  refine gv_new (fun b => .pointer (some ⟨b, 0, none⟩)) #[(.int .i64 0), (.int .i64 0)] 29 (by decide) (by rfl) (by rfl) (by kernel_rfl) (by kernel_rfl) ?_
  intro b13 w14 hg15 hb16 hbe17 hz18
  refine ⟨(fun e => by cases e), ?_⟩
  refine gv_sub [0, 1, 5, 6, 9] (σ' := [(0, (.slice pa0_0 (List.length a_0) pc0_0)), (1, (.slice pa1_0 (List.length b_1) pc1_0)), (5, (.pointer (some ⟨b1, 0, none⟩))), (6, (.pointer (some ⟨b13, 0, none⟩))), (9, (.agg #[(.int .i64 r7.1), (.int .i64 r7.2)]))]) (by kernel_rfl) ?_
  refine gv_store (t := 29) (b := b13) (off := 0) (v := (.agg #[(.int .i64 r7.1), (.int .i64 r7.2)])) (t' := 29) (cs := #[(.int .i64 0), (.int .i64 0)]) #[(.int .i64 r7.1), (.int .i64 r7.2)] (by decide) (by rfl) (by rfl) (by kernel_rfl) (by kernel_rfl) (by kernel_rfl) (by intro u hu; simp [Value.cells] at hu; rcases hu with rfl | rfl <;> rfl) (show 0 + 2 ≤ 2 by decide) (by rfl) hb16 ?_
  intro w19 hg20 hb21 hz22
  refine ⟨(fun e => by cases e), ?_⟩
  refine gv_sub [0, 1, 5, 6] (σ' := [(0, (.slice pa0_0 (List.length a_0) pc0_0)), (1, (.slice pa1_0 (List.length b_1) pc1_0)), (5, (.pointer (some ⟨b1, 0, none⟩))), (6, (.pointer (some ⟨b13, 0, none⟩)))]) (by kernel_rfl) ?_
  refine gv_nil ?_
  refine gv_seq ?_
  refine gv_region ?_
  refine gv_pure 1 [0, 1, 5, 6, 10] (σ' := [(0, (.slice pa0_0 (List.length a_0) pc0_0)), (1, (.slice pa1_0 (List.length b_1) pc1_0)), (5, (.pointer (some ⟨b1, 0, none⟩))), (6, (.pointer (some ⟨b13, 0, none⟩))), (10, (.pointer (some ⟨b13, 0, none⟩)))]) (by kernel_rfl) ?_
  refine gv_load (t := 3) (A := ⟨b13, 0, none⟩) (.int .i64 r7.1) [0, 1, 5, 6, 11] (σ' := [(0, (.slice pa0_0 (List.length a_0) pc0_0)), (1, (.slice pa1_0 (List.length b_1) pc1_0)), (5, (.pointer (some ⟨b1, 0, none⟩))), (6, (.pointer (some ⟨b13, 0, none⟩))), (11, (.int .i64 r7.1))]) (fun e => by cases e) (by rfl) (by rfl) (by rfl) (by kernel_rfl) (by kernel_rfl) (by kernel_rfl) (inw0 (hb21.cell 0 rfl)) (by kernel_rfl) ?_
  refine gv_pure 1 [0, 1, 5, 6, 12] (σ' := [(0, (.slice pa0_0 (List.length a_0) pc0_0)), (1, (.slice pa1_0 (List.length b_1) pc1_0)), (5, (.pointer (some ⟨b1, 0, none⟩))), (6, (.pointer (some ⟨b13, 0, none⟩))), (12, (.bool (r7.1 != 0)))]) (by kernel_rfl) ?_
  refine gv_nil ?_
  refine gv_cond (b := (r7.1 != 0)) (by rfl) (fun hc23 => ?_) (fun hc23 => ?_)
  · replace h0 := ite_t hc23 h0
    refine gv_seq ?_
    refine gv_drawA (by kernel_rfl) ?_
    intro w24 hg25
    refine gv_pre [1] #[false, true, false] 2 (by kernel_rfl) (by rfl) ?_
    refine gv_pure 1 [4, 5, 6] (σ' := [(4, (.int .i64 0)), (5, (.pointer (some ⟨b1, 0, none⟩))), (6, (.pointer (some ⟨b13, 0, none⟩)))]) (by kernel_rfl) ?_
    refine gv_nil ?_
    refine gv_goal fun a hd hs hok => ?_
    refine (?_ : RunA Try.prog _ 20 _ _ 2 #[false, true, false] [(4, (.int .i64 0)), (5, (.pointer (some ⟨b1, 0, none⟩))), (6, (.pointer (some ⟨b13, 0, none⟩)))] w24) a hd hs hok
    clear hd hs hok
    refine gv_stage (Cls w24 []) [0, 1] [(0, some true)] #[true, true, false] 1 (by kernel_rfl) (by rfl) (Cls.refl _ _) ?_
    have hC26 := Cls.refl w24 []
    have hk27 := hb21.grown hg25 nb
    refine gv_loadBox (t := 29) (b := b13) (t' := 29) (fr := (0, 0)) #[(.int .i64 r7.1), (.int .i64 r7.2)] [4, 5, 13] (σ' := [(4, (.int .i64 0)), (5, (.pointer (some ⟨b1, 0, none⟩))), (13, (.agg #[(.int .i64 r7.1), (.int .i64 r7.2)]))]) (fun e => by cases e) (by rfl) (by rfl) (by rfl) (by kernel_rfl) (by kernel_rfl) (by kernel_rfl) (by kernel_rfl) (inw1 fun w' hC' => (hC'.box hk27 nm_nil)) (by kernel_rfl) ?_
    refine gv_nil ?_
    refine gv_goal fun a hd hs hok => ?_
    refine (?_ : RunA Try.prog _ 20 _ _ 1 #[true, true, false] [(4, (.int .i64 0)), (5, (.pointer (some ⟨b1, 0, none⟩))), (13, (.agg #[(.int .i64 r7.1), (.int .i64 r7.2)]))] w24) a hd hs hok
    clear hd hs hok
    refine gv_stage (fun _ => True) [0, 1, 2] [(2, some false)] #[true, true, true] 0 (by kernel_rfl) (by rfl) trivial ?_
    have hg32 := (grown_trans hg11 hg15)
    have hk33 := hb4.grown hg11 nb
    have ap34 : ¬ (· = b1) b13 := fun hx => Nat.not_lt_of_le ((lowb hbe17) _ rfl) ((fun k (hk : k = b1) => Nat.lt_of_le_of_lt (Nat.le_of_eq hk) hk33.lt) _ hx)
    have hk35 := ((hb4.grown hg32 nb).grown hg20 (rowne ap34)).grown hg25 nb
    refine gv_store (t := 29) (b := b1) (off := 0) (v := (.agg #[(.int .i64 r7.1), (.int .i64 r7.2)])) (t' := 29) (cs := #[(.int .i64 0), (.int .i64 0)]) #[(.int .i64 r7.1), (.int .i64 r7.2)] (by decide) (by rfl) (by rfl) (by kernel_rfl) (by kernel_rfl) (by kernel_rfl) (by intro u hu; simp [Value.cells] at hu; rcases hu with rfl | rfl <;> rfl) (show 0 + 2 ≤ 2 by decide) (by rfl) hk35 ?_
    intro w28 hg29 hb30 hz31
    refine ⟨(fun _ => trivial), ?_⟩
    refine gv_sub [4, 5] (σ' := [(4, (.int .i64 0)), (5, (.pointer (some ⟨b1, 0, none⟩)))]) (by kernel_rfl) ?_
    refine gv_nil ?_
    refine gv_goal fun a hd hs hok => ?_
    refine (?_ : RunA Try.prog _ 20 _ _ 0 #[true, true, true] [(4, (.int .i64 0)), (5, (.pointer (some ⟨b1, 0, none⟩)))] w28) a hd hs hok
    clear hd hs hok
    refine gv_stageE (by kernel_rfl) ?_
    refine gv_cret ?_
    have e := Option.some.inj h0; subst e
    refine gv_ret (gv_done [(.int .i64 0), (.agg #[(.int .i64 r7.1), (.int .i64 r7.2)])] rfl ⟨rfl, ⟨_, rfl, run_loadVar_row w28 b1 _ 29 _ _ _ hb30 Try.underlying29 rfl (by kernel_rfl)⟩, trivial⟩ ?_)
    have hB36 := below_grown hB9 hg32 hB9.size nb
    have hB37 := below_grown hB9 hg11 hB9.size nb
    have hlo38 : w0.heap.size ≤ b13 := lob hbe17 hB37.size
    have hB39 := below_grown hB36 hg20 hB36.size (rowlo hlo38)
    have hB40 := below_grown hB39 hg25 hB39.size nb
    have hlo41 : w0.heap.size ≤ b1 := lob hbe5 hB0.size
    have hB42 := below_grown hB40 hg29 hB40.size (rowlo hlo41)
    exact ⟨grown_of_below hB42, rfl⟩
  · replace h0 := ite_f hc23 h0
    refine gv_skip ?_
    refine gv_seq ?_
    refine gv_region ?_
    refine gv_pure 2 [5, 14, 15] (σ' := [(5, (.pointer (some ⟨b1, 0, none⟩))), (14, (.slice pa0_0 (List.length a_0) pc0_0)), (15, (.slice pa1_0 (List.length b_1) pc1_0))]) (by kernel_rfl) ?_
    refine bindE h0 ?_; clear h0; intro r43 hr44 h0
    have hg45 := (grown_trans hg11 hg15)
    have hB46 := below_grown hB9 hg45 hB9.size nb
    have hB47 := below_grown hB9 hg11 hB9.size nb
    have hlo48 : w0.heap.size ≤ b13 := lob hbe17 hB47.size
    have hB49 := below_grown hB46 hg20 hB46.size (rowlo hlo48)
    refine gv_call (f := 71) (vs := [(.slice pa0_0 (List.length a_0) pc0_0), (.slice pa1_0 (List.length b_1) pc1_0)]) (cap := []) _ (by decide) (by rfl) (by rfl) rfl (by rfl) (by rfl) enters71 (natural_compare_ok fuel pa0_0 pc0_0 a_0 pa1_0 pc1_0 b_1 w19 (fun k => X0 k ∨ X0 k) (fun k hk => (hk).elim (fun h => (fun k (hk : X0 k) => Nat.lt_of_lt_of_le (hX0 k hk) hB49.size) k h) (fun h => (fun k (hk : X0 k) => Nat.lt_of_lt_of_le (hX0 k hk) hB49.size) k h)) ((hpa0_0.below hB49 hX0).wide (fun k hk => (.inl hk))) ((hpa1_0.below hB49 hX0).wide (fun k hk => (.inr hk))) r43 hr44) ?_
    rintro v52 w50 ⟨hg51, rfl⟩
    refine ⟨(fun e => by cases e), ?_⟩
    refine gv_pure 4 [4, 5, 19] (σ' := [(4, (.int .i64 (if 1 < (if r43 < (-1) then (-1) else r43) then 1 else (if r43 < (-1) then (-1) else r43)))), (5, (.pointer (some ⟨b1, 0, none⟩))), (19, (.agg #[(.int .i64 0), (.int .i64 0)]))]) (by kernel_rfl) ?_
    have hk57 := hb4.grown hg11 nb
    have ap58 : ¬ (· = b1) b13 := fun hx => Nat.not_lt_of_le ((lowb hbe17) _ rfl) ((fun k (hk : k = b1) => Nat.lt_of_le_of_lt (Nat.le_of_eq hk) hk57.lt) _ hx)
    have hk59 := ((hb4.grown hg45 nb).grown hg20 (rowne ap58)).grown hg51 nb
    refine gv_store (t := 29) (b := b1) (off := 0) (v := (.agg #[(.int .i64 0), (.int .i64 0)])) (t' := 29) (cs := #[(.int .i64 0), (.int .i64 0)]) #[(.int .i64 0), (.int .i64 0)] (by decide) (by rfl) (by rfl) (by kernel_rfl) (by kernel_rfl) (by kernel_rfl) (by intro u hu; simp [Value.cells] at hu; rcases hu with rfl | rfl <;> rfl) (show 0 + 2 ≤ 2 by decide) (by rfl) hk59 ?_
    intro w53 hg54 hb55 hz56
    refine ⟨(fun e => by cases e), ?_⟩
    clear hz56 hk59 ap58 hk57 hlo48 hB47 hB46 hg45 hr44 hc23 hz22 hb21 hg20 hz18 hbe17 hb16 hg15 hg11 hB9 hr8 hz6 hb4 hg3
    refine gv_sub [4, 5] (σ' := [(4, (.int .i64 (if 1 < (if r43 < (-1) then (-1) else r43) then 1 else (if r43 < (-1) then (-1) else r43)))), (5, (.pointer (some ⟨b1, 0, none⟩)))]) (by kernel_rfl) ?_
    refine bindE h0 ?_; clear h0; intro n60 hn61 h0
    refine gv_name (s := 4) (v := (.int .i64 (if 1 < (if r43 < (-1) then (-1) else r43) then 1 else (if r43 < (-1) then (-1) else r43)))) (v' := (.int .i64 n60)) (by rfl) (congrArg (Value.int .i64) (Option.some.inj hn61)) ?_
    refine gv_sub [4, 5] (σ' := [(4, (.int .i64 n60)), (5, (.pointer (some ⟨b1, 0, none⟩)))]) (by kernel_rfl) ?_
    refine gv_nil ?_
    refine gv_cret ?_
    have e := Option.some.inj h0; subst e
    refine gv_ret (gv_done [(.int .i64 n60), (.agg #[(.int .i64 0), (.int .i64 0)])] rfl ⟨rfl, ⟨_, rfl, run_loadVar_row w53 b1 _ 29 _ _ _ hb55 Try.underlying29 rfl (by kernel_rfl)⟩, trivial⟩ ?_)
    have hB62 := below_grown hB49 hg51 hB49.size nb
    have hlo63 : w0.heap.size ≤ b1 := lob hbe5 hB0.size
    have hB64 := below_grown hB62 hg54 hB62.size (rowlo hlo63)
    exact ⟨grown_of_below hB64, rfl⟩

set_option maxHeartbeats 4000000 in
set_option maxRecDepth 100000 in
theorem slices_Clone_suint32_uint32_ok (fuel : Nat) (pa0_0 : Option Addr) (pc0_0 : Nat) (s_0 : (List Int)) (w0 : World) (X0 : Nat → Prop) (hX0 : ∀ k, X0 k → k < w0.heap.size) (hpa0_0 : Rd (iE .u32) w0 X0 pa0_0 pc0_0 s_0) (r0 : (List Int)) (h0 : slices_Clone_suint32_uint32 fuel s_0 = some r0) :
    Calls Try.prog 82 ([(.slice pa0_0 (List.length s_0) pc0_0)] : List Value).toArray w0 (Ret fun v w' => w0.grownBy w' none ∧ ∃ (a0_0r : Option Addr) (c0_0r : Nat), v = tup [(.slice a0_0r (List.length r0) c0_0r)] ∧ Own (iE .u32) 76 w' (fun _ => False) a0_0r c0_0r r0 ∧ (∀ g, blk a0_0r = some g → w0.heap.size ≤ g)) := by
  have hB0 : Below w0.heap.size w0 w0 := Below.refl _ _
  unfold slices_Clone_suint32_uint32 at h0
  refine calls_run Try.func82 rfl Try.ntmps82 (by kernel_rfl) ?_
  refine gv_sub [0] (σ' := [(0, (.slice pa0_0 (List.length s_0) pc0_0))]) (by kernel_rfl) ?_
  refine gv_seq ?_
  refine gv_region ?_
  refine gv_pure 1 [0] (σ' := [(0, (.slice pa0_0 (List.length s_0) pc0_0))]) (by kernel_rfl) ?_
  refine gv_nil ?_
  refine gv_seq ?_
  refine gv_seq ?_
  refine gv_region ?_
  refine gv_pure 1 [0, 3] (σ' := [(0, (.slice pa0_0 (List.length s_0) pc0_0)), (3, (.slice pa0_0 (List.length s_0) pc0_0))]) (by kernel_rfl) ?_
  refine gv_nilcmp (t := 22) (x := (.tmp 3)) (y := (.const (.slice none 0 0))) (a := pa0_0) (len := List.length s_0) (cap := pc0_0) [0, 4] (σ' := [(0, (.slice pa0_0 (List.length s_0) pc0_0)), (4, (.bool (Option.isNone pa0_0)))]) (fun e => by cases e) (by rfl) (by rfl) (by rfl) (by kernel_rfl) (by kernel_rfl) Try.underlying22 (by kernel_rfl) ?_
  refine gv_nil ?_
  have hc1n := fun e => nil_of_none (hpa0_0.below hB0 hX0) e
  refine gv_cond (b := (Option.isNone pa0_0)) (by rfl) (fun hc1 => ?_) (fun hc1 => ?_)
  · skip
    replace h0 : (some (([] : List Int))) = some r0 := by have e := hc1n hc1; simp only [e] at h0; simpa [app] using h0
    refine gv_seq ?_
    refine gv_region ?_
    refine gv_pure 1 [2] (σ' := [(2, (.slice none (List.length ([] : List Int)) 0))]) (by kernel_rfl) ?_
    refine gv_nil ?_
    refine gv_cret ?_
    have e := Option.some.inj h0; subst e
    refine gv_ret (gv_done [(.slice none (List.length ([] : List Int)) 0)] rfl ⟨rfl, trivial⟩ ?_)
    exact ⟨grown_of_below hB0, none, 0, rfl, (Own.nil (iE .u32) 76 w0 (fun _ => False)), (fun _ h => by cases h)⟩
  · skip
    refine gv_skip ?_
    refine gv_seq ?_
    refine gv_region ?_
    refine gv_new (fun b => .slice (some ⟨b, 0, none⟩) 0 0) #[] 76 (by decide) (by rfl) (by rfl) (by kernel_rfl) (by kernel_rfl) ?_
    intro b2 w3 hg4 hb5 hbe6 hz7
    refine ⟨(fun e => by cases e), ?_⟩
    have ho8 : Own (iE .u32) 76 w3 (fun _ => False) (some ⟨b2, 0, none⟩) 0 ([] : List Int) := Box.ownE hb5 rfl (show 0 ≤ maxLen by decide) (fun h => h)
    have hl9 : ∀ g, blk (some ⟨b2, 0, none⟩) = some g → w0.heap.size ≤ g := loo hbe6 hB0.size
    refine gv_pure 1 [5, 6] (σ' := [(5, (.slice (some ⟨b2, 0, none⟩) (List.length ([] : List Int)) 0)), (6, (.slice pa0_0 (List.length s_0) pc0_0))]) (by kernel_rfl) ?_
    refine bindE h0 ?_; clear h0; intro l13 hx14 h0
    have hB21 := below_grown hB0 hg4 hB0.size nb
    refine gv_append (iE .u32) (t := 22) (ty := 22) (e := 76) (a := (some ⟨b2, 0, none⟩)) (ax := pa0_0) (cap := 0) (cx := pc0_0) (xs := ([] : List Int)) (ys := s_0) l13 (X := (fun _ => False)) (Y := X0) (by decide) (by rfl) (by rfl) (by kernel_rfl) (by kernel_rfl) Try.underlying22 info76 ho8 (hpa0_0.below hB21 hX0) hx14 (.inr fun _ _ _ _ _ h => h) (fun _ h => h.elim) ?_
    intro a15 c16 w17 hg18 ho19 hk20
    refine ⟨(fun e => by cases e), ?_⟩
    have hl22 : ∀ g, blk a15 = some g → w0.heap.size ≤ g := blk_step hk20 hl9 hB21.size
    refine gv_pure 1 [2] (σ' := [(2, (.slice a15 (List.length l13) c16))]) (by kernel_rfl) ?_
    refine gv_nil ?_
    refine gv_cret ?_
    have e := Option.some.inj h0; subst e
    refine gv_ret (gv_done [(.slice a15 (List.length l13) c16)] rfl ⟨rfl, trivial⟩ ?_)
    have hB23 := below_grown hB21 hg18 hB21.size hl9
    exact ⟨grown_of_below hB23, a15, c16, rfl, ho19, hl22⟩

set_option maxHeartbeats 4000000 in
set_option maxRecDepth 100000 in
theorem bits_Sub32_ok (fuel : Nat) (x_0 : Int) (y_1 : Int) (borrow_2 : Int) (w0 : World)  (r0 : (Int × Int)) (h0 : bits_Sub32 fuel x_0 y_1 borrow_2 = some r0) :
    Calls Try.prog 83 ([(.int .u32 x_0), (.int .u32 y_1), (.int .u32 borrow_2)] : List Value).toArray w0 (Ret fun v w' => w0.grownBy w' none ∧ v = tup [(.int .u32 r0.1), (.int .u32 r0.2)]) := by
  have hB0 : Below w0.heap.size w0 w0 := Below.refl _ _
  unfold bits_Sub32 at h0
  refine calls_run Try.func83 rfl Try.ntmps83 (by kernel_rfl) ?_
  refine gv_sub [0, 1, 2] (σ' := [(0, (.int .u32 x_0)), (1, (.int .u32 y_1)), (2, (.int .u32 borrow_2))]) (by kernel_rfl) ?_
  refine gv_seq ?_
  refine gv_region ?_
  refine gv_pure 2 [0, 1, 2] (σ' := [(0, (.int .u32 x_0)), (1, (.int .u32 y_1)), (2, (.int .u32 borrow_2))]) (by kernel_rfl) ?_
  refine gv_nil ?_
  refine gv_seq ?_
  refine gv_region ?_
  refine gv_pure 6 [0, 1, 6] (σ' := [(0, (.int .u32 x_0)), (1, (.int .u32 y_1)), (6, (.int .u32 (IntKind.u32.wrap ((IntKind.u32.wrap (x_0 - y_1)) - borrow_2))))]) (by kernel_rfl) ?_
  refine bindE h0 ?_; clear h0; intro n1 hn2 h0
  refine gv_name (s := 6) (v := (.int .u32 (IntKind.u32.wrap ((IntKind.u32.wrap (x_0 - y_1)) - borrow_2)))) (v' := (.int .u32 n1)) (by rfl) (congrArg (Value.int .u32) (Option.some.inj hn2)) ?_
  refine gv_sub [0, 1, 6] (σ' := [(0, (.int .u32 x_0)), (1, (.int .u32 y_1)), (6, (.int .u32 n1))]) (by kernel_rfl) ?_
  refine gv_nil ?_
  refine gv_seq ?_
  refine gv_region ?_
  refine gv_pure 13 [6, 7] (σ' := [(6, (.int .u32 n1)), (7, (.int .u32 (((bwOr .u32 (bwAnd .u32 (bwXor .u32 4294967295 x_0) y_1) (bwAnd .u32 (bwXor .u32 4294967295 (bwXor .u32 x_0 y_1)) n1))).fdiv (2 ^ 31))))]) (by kernel_rfl) ?_
  refine bindE h0 ?_; clear h0; intro n3 hn4 h0
  refine gv_name (s := 7) (v := (.int .u32 (((bwOr .u32 (bwAnd .u32 (bwXor .u32 4294967295 x_0) y_1) (bwAnd .u32 (bwXor .u32 4294967295 (bwXor .u32 x_0 y_1)) n1))).fdiv (2 ^ 31)))) (v' := (.int .u32 n3)) (by rfl) (congrArg (Value.int .u32) (Option.some.inj hn4)) ?_
  refine gv_sub [6, 7] (σ' := [(6, (.int .u32 n1)), (7, (.int .u32 n3))]) (by kernel_rfl) ?_
  refine gv_nil ?_
  refine gv_cret ?_
  have e := Option.some.inj h0; subst e
  refine gv_ret (gv_done [(.int .u32 n1), (.int .u32 n3)] rfl ⟨rfl, rfl, trivial⟩ ?_)
  exact ⟨grown_of_below hB0, rfl⟩

set_option maxHeartbeats 4000000 in
set_option maxRecDepth 100000 in
theorem natural_sub_ok (fuel : Nat) (pa0_0 : Option Addr) (pc0_0 : Nat) (a_0 : (List Int)) (pa1_0 : Option Addr) (pc1_0 : Nat) (b_1 : (List Int)) (w0 : World) (X0 : Nat → Prop) (hX0 : ∀ k, X0 k → k < w0.heap.size) (hpa0_0 : Rd (iE .u32) w0 X0 pa0_0 pc0_0 a_0) (hpa1_0 : Rd (iE .u32) w0 X0 pa1_0 pc1_0 b_1) (r0 : (List Int)) (h0 : natural_sub fuel a_0 b_1 = some r0) :
    Calls Try.prog 80 ([(.slice pa0_0 (List.length a_0) pc0_0), (.slice pa1_0 (List.length b_1) pc1_0)] : List Value).toArray w0 (Ret fun v w' => w0.grownBy w' none ∧ ∃ (a0_0r : Option Addr) (c0_0r : Nat), ∃ (X0_0r : Nat → Prop), v = tup [(.slice a0_0r (List.length r0) c0_0r)] ∧ Rd (iE .u32) w' X0_0r a0_0r c0_0r r0 ∧ (∀ k, X0_0r k → k < w'.heap.size ∧ (X0 k ∨ w0.heap.size ≤ k))) := by
  have hB0 : Below w0.heap.size w0 w0 := Below.refl _ _
  unfold natural_sub at h0
  refine calls_run Try.func80 rfl Try.ntmps80 (by kernel_rfl) ?_
  refine gv_sub [0, 1] (σ' := [(0, (.slice pa0_0 (List.length a_0) pc0_0)), (1, (.slice pa1_0 (List.length b_1) pc1_0))]) (by kernel_rfl) ?_
  refine gv_seq ?_
  refine gv_region ?_
  refine gv_pure 1 [0, 1] (σ' := [(0, (.slice pa0_0 (List.length a_0) pc0_0)), (1, (.slice pa1_0 (List.length b_1) pc1_0))]) (by kernel_rfl) ?_
  refine gv_nil ?_
  refine gv_seq ?_
  refine gv_region ?_
  refine gv_pure 1 [1, 9] (σ' := [(1, (.slice pa1_0 (List.length b_1) pc1_0)), (9, (.slice pa0_0 (List.length a_0) pc0_0))]) (by kernel_rfl) ?_
  refine bindE h0 ?_; clear h0; intro r1 hr2 h0
  refine gv_call (f := 82) (vs := [(.slice pa0_0 (List.length a_0) pc0_0)]) (cap := []) _ (by decide) (by rfl) (by rfl) rfl (by rfl) (by rfl) enters82 (slices_Clone_suint32_uint32_ok fuel pa0_0 pc0_0 a_0 w0 (fun k => X0 k) (fun k hk => (fun k (hk : X0 k) => Nat.lt_of_lt_of_le (hX0 k hk) hB0.size) k hk) ((hpa0_0.below hB0 hX0).wide (fun k hk => hk)) r1 hr2) ?_
  rintro v5 w3 ⟨hg4, a6, c7, rfl, ho8, hl9⟩
  refine ⟨(fun e => by cases e), ?_⟩
  have hl10 : ∀ g, blk a6 = some g → w0.heap.size ≤ g := fun g e => Nat.le_trans hB0.size (hl9 g e)
  refine gv_pure 1 [1, 5] (σ' := [(1, (.slice pa1_0 (List.length b_1) pc1_0)), (5, (.slice a6 (List.length r1) c7))]) (by kernel_rfl) ?_
  refine gv_nil ?_
  refine gv_seq ?_
  refine gv_region ?_
  refine gv_pure 1 [1, 5, 6] (σ' := [(1, (.slice pa1_0 (List.length b_1) pc1_0)), (5, (.slice a6 (List.length r1) c7)), (6, (.int .u32 0))]) (by kernel_rfl) ?_
  refine gv_nil ?_
  refine gv_seq ?_
  refine gv_seq ?_
  refine gv_region ?_
  refine gv_pure 3 [1, 5, 6, 12, 13] (σ' := [(1, (.slice pa1_0 (List.length b_1) pc1_0)), (5, (.slice a6 (List.length r1) c7)), (6, (.int .u32 0)), (12, (.int .i64 ((List.length r1 : Nat) : Int))), (13, (.int .i64 0))]) (by kernel_rfl) ?_
  refine gv_nil ?_
  refine bindE h0 ?_; clear h0; intro j11 h1 h0
  refine gv_cut_code (J := fun a w12 => ∃ (a5_0j : Option Addr) (c5_0j : Nat), Below w0.heap.size w0 w12 ∧ w3.heap.size ≤ w12.heap.size ∧ Own (iE .u32) 76 w12 (fun _ => False) a5_0j c5_0j j11 ∧ (∀ g, blk a5_0j = some g → w0.heap.size ≤ g) ∧ a.defers = [] ∧ a.tmps.size = 40 ∧ Ok [(5, (.slice a5_0j (List.length j11) c5_0j))] a.tmps) ?_ ?_
  · skip
    refine gv_block ?_
    refine gv_loop (A := fun (s13 : ((List Int) × Int × Int)) a w14 => ∃ (a5_0j : Option Addr) (c5_0j : Nat), Below w0.heap.size w0 w14 ∧ w3.heap.size ≤ w14.heap.size ∧ Own (iE .u32) 76 w14 (fun _ => False) a5_0j c5_0j s13.1 ∧ (∀ g, blk a5_0j = some g → w0.heap.size ≤ g) ∧ a.defers = [] ∧ a.tmps.size = 40 ∧ Ok [(1, (.slice pa1_0 (List.length b_1) pc1_0)), (5, (.slice a5_0j (List.length s13.1) c5_0j)), (6, (.int .u32 s13.2.1)), (12, (.int .i64 ((List.length r1 : Nat) : Int))), (13, (.int .i64 s13.2.2))] a.tmps) h1 ?_ ?_
    · intro a hd hs hok
      obtain ⟨q1, q5, q6, q12, q13, _⟩ := hok
      have hB15 := below_grown hB0 hg4 hB0.size nb
      exact ⟨a6, c7, hB15, (Nat.le_refl _), ho8, hl10, hd, hs, ⟨q1, q5, q6, q12, q13, trivial⟩⟩
    · rintro s13 r2 h2 hR2 a w14 ⟨a18, c19, hB16, hz17, ho20, hl21, hd, hs, hok⟩
      refine (?_ : Run Try.prog _ 40 _ .normal [(1, (.slice pa1_0 (List.length b_1) pc1_0)), (5, (.slice a18 (List.length s13.1) c19)), (6, (.int .u32 s13.2.1)), (12, (.int .i64 ((List.length r1 : Nat) : Int))), (13, (.int .i64 s13.2.2))] w14) a hd hs hok
      clear hd hs hok
      clear hl10 hl9 ho8 hg4 hr2
      refine gv_seq ?_
      refine gv_region ?_
      refine gv_pure 1 [1, 5, 6, 12, 13, 14] (σ' := [(1, (.slice pa1_0 (List.length b_1) pc1_0)), (5, (.slice a18 (List.length s13.1) c19)), (6, (.int .u32 s13.2.1)), (12, (.int .i64 ((List.length r1 : Nat) : Int))), (13, (.int .i64 s13.2.2)), (14, (.bool (decide (s13.2.2 < ((List.length r1 : Nat) : Int)))))]) (by kernel_rfl) ?_
      refine gv_nil ?_
      refine gv_seq ?_
      refine gv_cond (b := (decide (s13.2.2 < ((List.length r1 : Nat) : Int)))) (by rfl) (fun hc22 => ?_) (fun hc22 => ?_)
      · replace h2 := ite_t hc22 h2
        refine gv_skip ?_
        refine gv_seq ?_
        refine gv_block ?_
        refine gv_seq ?_
        refine gv_region ?_
        refine gv_pure 2 [1, 5, 6, 7, 12, 13] (σ' := [(1, (.slice pa1_0 (List.length b_1) pc1_0)), (5, (.slice a18 (List.length s13.1) c19)), (6, (.int .u32 s13.2.1)), (7, (.int .i64 s13.2.2)), (12, (.int .i64 ((List.length r1 : Nat) : Int))), (13, (.int .i64 s13.2.2))]) (by kernel_rfl) ?_
        refine gv_nil ?_
        refine gv_seq ?_
        refine gv_region ?_
        refine gv_pure 1 [1, 5, 6, 7, 8, 12, 13] (σ' := [(1, (.slice pa1_0 (List.length b_1) pc1_0)), (5, (.slice a18 (List.length s13.1) c19)), (6, (.int .u32 s13.2.1)), (7, (.int .i64 s13.2.2)), (8, (.int .u32 0)), (12, (.int .i64 ((List.length r1 : Nat) : Int))), (13, (.int .i64 s13.2.2))]) (by kernel_rfl) ?_
        refine gv_nil ?_
        refine gv_seq ?_
        refine gv_seq ?_
        refine gv_region ?_
        refine gv_pure 4 [1, 5, 6, 7, 8, 12, 13, 19] (σ' := [(1, (.slice pa1_0 (List.length b_1) pc1_0)), (5, (.slice a18 (List.length s13.1) c19)), (6, (.int .u32 s13.2.1)), (7, (.int .i64 s13.2.2)), (8, (.int .u32 0)), (12, (.int .i64 ((List.length r1 : Nat) : Int))), (13, (.int .i64 s13.2.2)), (19, (.bool (decide (s13.2.2 < ((List.length b_1 : Nat) : Int)))))]) (by kernel_rfl) ?_
        refine gv_nil ?_
        refine bindE h2 ?_; clear h2; intro j23 h3 h2
        refine gv_cut_code (J := fun a w24 => Below w0.heap.size w0 w24 ∧ w14.heap.size ≤ w24.heap.size ∧ Own (iE .u32) 76 w24 (fun _ => False) a18 c19 s13.1 ∧ a.defers = [] ∧ a.tmps.size = 40 ∧ Ok [(1, (.slice pa1_0 (List.length b_1) pc1_0)), (5, (.slice a18 (List.length s13.1) c19)), (6, (.int .u32 s13.2.1)), (7, (.int .i64 s13.2.2)), (8, (.int .u32 j23)), (12, (.int .i64 ((List.length r1 : Nat) : Int))), (13, (.int .i64 s13.2.2))] a.tmps) ?_ ?_
        · skip
          refine gv_cond (b := (decide (s13.2.2 < ((List.length b_1 : Nat) : Int)))) (by rfl) (fun hc25 => ?_) (fun hc25 => ?_)
          · replace h3 := ite_t hc25 h3
            refine gv_region ?_
            refine gv_pure 2 [1, 5, 6, 7, 12, 13, 20, 21] (σ' := [(1, (.slice pa1_0 (List.length b_1) pc1_0)), (5, (.slice a18 (List.length s13.1) c19)), (6, (.int .u32 s13.2.1)), (7, (.int .i64 s13.2.2)), (12, (.int .i64 ((List.length r1 : Nat) : Int))), (13, (.int .i64 s13.2.2)), (20, (.slice pa1_0 (List.length b_1) pc1_0)), (21, (.int .i64 s13.2.2))]) (by kernel_rfl) ?_
            refine bindE h3 ?_; clear h3; intro x26 hx27 h3
            refine gv_idxaddr (t := 22) (e := 76) (a := pa1_0) (len := List.length b_1) (cap := pc1_0) (kk := .i64) (i := s13.2.2) (sz := 1) [1, 5, 6, 7, 12, 13, 22] (σ' := [(1, (.slice pa1_0 (List.length b_1) pc1_0)), (5, (.slice a18 (List.length s13.1) c19)), (6, (.int .u32 s13.2.1)), (7, (.int .i64 s13.2.2)), (12, (.int .i64 ((List.length r1 : Nat) : Int))), (13, (.int .i64 s13.2.2)), (22, (.pointer (some (elemAddr pa1_0 ((s13.2.2).toNat * 1)))))]) (fun e => by cases e) (by rfl) (by rfl) (by rfl) (by kernel_rfl) (by kernel_rfl) Try.underlying22 (by kernel_rfl) ((hpa1_0.below hB16 hX0).has hx27) (idx_spec hx27).1 (idx_spec hx27).2.1 (by kernel_rfl) ?_
            refine gv_load (t := 76) (A := (elemAddr pa1_0 ((s13.2.2).toNat * 1))) (.int .u32 x26) [1, 5, 6, 7, 12, 13, 23] (σ' := [(1, (.slice pa1_0 (List.length b_1) pc1_0)), (5, (.slice a18 (List.length s13.1) c19)), (6, (.int .u32 s13.2.1)), (7, (.int .i64 s13.2.2)), (12, (.int .i64 ((List.length r1 : Nat) : Int))), (13, (.int .i64 s13.2.2)), (23, (.int .u32 x26))]) (fun e => by cases e) (by rfl) (by rfl) (by rfl) (by kernel_rfl) (by kernel_rfl) (by kernel_rfl) (inw0 ((hpa1_0.below hB16 hX0).cell hx27)) (by kernel_rfl) ?_
            refine gv_pure 1 [1, 5, 6, 7, 8, 12, 13] (σ' := [(1, (.slice pa1_0 (List.length b_1) pc1_0)), (5, (.slice a18 (List.length s13.1) c19)), (6, (.int .u32 s13.2.1)), (7, (.int .i64 s13.2.2)), (8, (.int .u32 x26)), (12, (.int .i64 ((List.length r1 : Nat) : Int))), (13, (.int .i64 s13.2.2))]) (by kernel_rfl) ?_
            refine gv_nil ?_
            have e := Option.some.inj h3; subst e
            refine gv_goal fun a hd hs hok => ?_
            obtain ⟨q1, q5, q6, q7, q8, q12, q13, _⟩ := hok
            exact ⟨hB16, (Nat.le_refl _), ho20, hd, hs, ⟨q1, q5, q6, q7, q8, q12, q13, trivial⟩⟩
          · replace h3 := ite_f hc25 h3
            refine gv_skip ?_
            have e := Option.some.inj h3; subst e
            refine gv_goal fun a hd hs hok => ?_
            obtain ⟨q1, q5, q6, q7, q8, q12, q13, q19, _⟩ := hok
            exact ⟨hB16, (Nat.le_refl _), ho20, hd, hs, ⟨q1, q5, q6, q7, q8, q12, q13, trivial⟩⟩
        · rintro a w24 ⟨hB28, hz29, hk30, hd, hs, hok⟩
          refine (?_ : Run Try.prog _ 40 _ .normal [(1, (.slice pa1_0 (List.length b_1) pc1_0)), (5, (.slice a18 (List.length s13.1) c19)), (6, (.int .u32 s13.2.1)), (7, (.int .i64 s13.2.2)), (8, (.int .u32 j23)), (12, (.int .i64 ((List.length r1 : Nat) : Int))), (13, (.int .i64 s13.2.2))] w24) a hd hs hok
          clear hd hs hok
          have hz31 : w3.heap.size ≤ w24.heap.size := (Nat.le_trans hz17 hz29)
          clear hz29 hc22 ho20 hz17 hB16
          refine gv_region ?_
          refine gv_pure 4 [1, 5, 6, 8, 12, 13, 25, 26, 27, 28] (σ' := [(1, (.slice pa1_0 (List.length b_1) pc1_0)), (5, (.slice a18 (List.length s13.1) c19)), (6, (.int .u32 s13.2.1)), (8, (.int .u32 j23)), (12, (.int .i64 ((List.length r1 : Nat) : Int))), (13, (.int .i64 s13.2.2)), (25, (.slice a18 (List.length s13.1) c19)), (26, (.int .i64 s13.2.2)), (27, (.slice a18 (List.length s13.1) c19)), (28, (.int .i64 s13.2.2))]) (by kernel_rfl) ?_
          refine bindE h2 ?_; clear h2; intro x32 hx33 h2
          refine gv_idxaddr (t := 22) (e := 76) (a := a18) (len := List.length s13.1) (cap := c19) (kk := .i64) (i := s13.2.2) (sz := 1) [1, 5, 6, 8, 12, 13, 25, 26, 29] (σ' := [(1, (.slice pa1_0 (List.length b_1) pc1_0)), (5, (.slice a18 (List.length s13.1) c19)), (6, (.int .u32 s13.2.1)), (8, (.int .u32 j23)), (12, (.int .i64 ((List.length r1 : Nat) : Int))), (13, (.int .i64 s13.2.2)), (25, (.slice a18 (List.length s13.1) c19)), (26, (.int .i64 s13.2.2)), (29, (.pointer (some (elemAddr a18 ((s13.2.2).toNat * 1)))))]) (fun e => by cases e) (by rfl) (by rfl) (by rfl) (by kernel_rfl) (by kernel_rfl) Try.underlying22 (by kernel_rfl) ((hk30.rd (Y := fun k => blk a18 = some k) (fun _ h => h.elim) (fun g e => e)).has hx33) (idx_spec hx33).1 (idx_spec hx33).2.1 (by kernel_rfl) ?_
          refine gv_load (t := 76) (A := (elemAddr a18 ((s13.2.2).toNat * 1))) (.int .u32 x32) [1, 5, 6, 8, 12, 13, 25, 26, 30] (σ' := [(1, (.slice pa1_0 (List.length b_1) pc1_0)), (5, (.slice a18 (List.length s13.1) c19)), (6, (.int .u32 s13.2.1)), (8, (.int .u32 j23)), (12, (.int .i64 ((List.length r1 : Nat) : Int))), (13, (.int .i64 s13.2.2)), (25, (.slice a18 (List.length s13.1) c19)), (26, (.int .i64 s13.2.2)), (30, (.int .u32 x32))]) (fun e => by cases e) (by rfl) (by rfl) (by rfl) (by kernel_rfl) (by kernel_rfl) (by kernel_rfl) (inw0 ((hk30.rd (Y := fun k => blk a18 = some k) (fun _ h => h.elim) (fun g e => e)).cell hx33)) (by kernel_rfl) ?_
          refine gv_pure 2 [1, 5, 12, 13, 25, 26, 30, 31, 32] (σ' := [(1, (.slice pa1_0 (List.length b_1) pc1_0)), (5, (.slice a18 (List.length s13.1) c19)), (12, (.int .i64 ((List.length r1 : Nat) : Int))), (13, (.int .i64 s13.2.2)), (25, (.slice a18 (List.length s13.1) c19)), (26, (.int .i64 s13.2.2)), (30, (.int .u32 x32)), (31, (.int .u32 j23)), (32, (.int .u32 s13.2.1))]) (by kernel_rfl) ?_
          refine bindE h2 ?_; clear h2; intro r34 hr35 h2
          refine gv_call (f := 83) (vs := [(.int .u32 x32), (.int .u32 j23), (.int .u32 s13.2.1)]) (cap := []) _ (by decide) (by rfl) (by rfl) rfl (by rfl) (by rfl) enters83 (bits_Sub32_ok fuel x32 j23 s13.2.1 w24  r34 hr35) ?_
          rintro v38 w36 ⟨hg37, rfl⟩
          refine ⟨(fun e => by cases e), ?_⟩
          refine gv_pure 3 [1, 5, 12, 13, 25, 26, 34, 35] (σ' := [(1, (.slice pa1_0 (List.length b_1) pc1_0)), (5, (.slice a18 (List.length s13.1) c19)), (12, (.int .i64 ((List.length r1 : Nat) : Int))), (13, (.int .i64 s13.2.2)), (25, (.slice a18 (List.length s13.1) c19)), (26, (.int .i64 s13.2.2)), (34, (.int .u32 r34.1)), (35, (.int .u32 r34.2))]) (by kernel_rfl) ?_
          refine bindE h2 ?_; clear h2; intro x39 hx40 h2
          have hk41 := hk30.grown hg37 (fun _ h => h.elim) nb
          refine gv_idxaddr (t := 22) (e := 76) (a := a18) (len := List.length s13.1) (cap := c19) (kk := .i64) (i := s13.2.2) (sz := 1) [1, 5, 12, 13, 34, 35, 36] (σ' := [(1, (.slice pa1_0 (List.length b_1) pc1_0)), (5, (.slice a18 (List.length s13.1) c19)), (12, (.int .i64 ((List.length r1 : Nat) : Int))), (13, (.int .i64 s13.2.2)), (34, (.int .u32 r34.1)), (35, (.int .u32 r34.2)), (36, (.pointer (some (elemAddr a18 ((s13.2.2).toNat * 1)))))]) (fun e => by cases e) (by rfl) (by rfl) (by rfl) (by kernel_rfl) (by kernel_rfl) Try.underlying22 (by kernel_rfl) ((hk41.rd (Y := fun k => blk a18 = some k) (fun _ h => h.elim) (fun g e => e)).has hx40) (idx_spec hx40).1 (idx_spec hx40).2.1 (by kernel_rfl) ?_
          refine bindE h2 ?_; clear h2; intro l42 hx43 h2
          refine gv_upd (f := (fun n : Int => Value.int .u32 n)) (hf := fun _ => rfl) (t := 76) (e := 76) (a := a18) (cap := c19) (xs := s13.1) (i := s13.2.2) r34.1 l42 (by decide) (by rfl) (by rfl) (by kernel_rfl) rfl (by kernel_rfl) (by kernel_rfl) hk41 hx43 ?_
          intro w44 hg45 ho46 hz47
          refine ⟨(fun e => by cases e), ?_⟩
          have hln48 : List.length s13.1 = List.length l42 := by obtain ⟨_, _, e⟩ := upd_spec hx43; rw [e, List.length_set]
          refine gv_sub [1, 5, 12, 13, 35] (σ' := [(1, (.slice pa1_0 (List.length b_1) pc1_0)), (5, (.slice a18 (List.length s13.1) c19)), (12, (.int .i64 ((List.length r1 : Nat) : Int))), (13, (.int .i64 s13.2.2)), (35, (.int .u32 r34.2))]) (by kernel_rfl) ?_
          refine gv_name (s := 5) (v := (.slice a18 (List.length s13.1) c19)) (v' := (.slice a18 (List.length l42) c19)) (by rfl) (by rw [hln48]) ?_
          refine gv_pure 1 [1, 5, 6, 12, 13] (σ' := [(1, (.slice pa1_0 (List.length b_1) pc1_0)), (5, (.slice a18 (List.length l42) c19)), (6, (.int .u32 r34.2)), (12, (.int .i64 ((List.length r1 : Nat) : Int))), (13, (.int .i64 s13.2.2))]) (by kernel_rfl) ?_
          refine gv_nil ?_
          refine gv_blk ?_
          refine gv_region ?_
          refine gv_pure 2 [1, 5, 6, 12, 13] (σ' := [(1, (.slice pa1_0 (List.length b_1) pc1_0)), (5, (.slice a18 (List.length l42) c19)), (6, (.int .u32 r34.2)), (12, (.int .i64 ((List.length r1 : Nat) : Int))), (13, (.int .i64 (IntKind.i64.wrap (s13.2.2 + 1))))]) (by kernel_rfl) ?_
          refine gv_nil ?_
          have e := Option.some.inj h2; subst e
          refine gv_goal fun a hd hs hok => ?_
          obtain ⟨q1, q5, q6, q12, q13, _⟩ := hok
          have hB49 := below_grown hB28 hg37 hB28.size nb
          have hB50 := below_grown hB49 hg45 hB49.size hl21
          have hz51 : w3.heap.size ≤ w44.heap.size := (Nat.le_trans (Nat.le_trans hz31 hg37.size) hg45.size)
          exact ⟨(l42, r34.2, (IntKind.i64.wrap (s13.2.2 + 1))), rfl, a18, c19, hB50, hz51, ho46, hl21, hd, hs, ⟨q1, q5, q6, q12, q13, trivial⟩⟩
      · replace h2 := ite_f hc22 h2
        refine gv_cexit ?_
        refine gv_exit rfl ?_
        have e := Option.some.inj h2; subst e
        replace h1 := congrArg some (hR2 _ rfl)
        have e := Option.some.inj h1; subst e
        refine gv_goal fun a hd hs hok => ?_
        obtain ⟨q1, q5, q6, q12, q13, q14, _⟩ := hok
        have hz52 : w3.heap.size ≤ w14.heap.size := hz17
        exact ⟨a18, c19, hB16, hz52, ho20, hl21, hd, hs, ⟨q5, trivial⟩⟩
  · rintro a w12 ⟨a55, c56, hB53, hz54, ho57, hl58, hd, hs, hok⟩
    refine (?_ : Run Try.prog _ 40 _ .normal [(5, (.slice a55 (List.length j11) c56))] w12) a hd hs hok
    clear hd hs hok
    clear hz54 hl10 hl9 ho8 hg4 hr2
    refine gv_seq ?_
    refine gv_region ?_
    refine gv_pure 1 [38] (σ' := [(38, (.slice a55 (List.length j11) c56))]) (by kernel_rfl) ?_
    refine bindE h0 ?_; clear h0; intro r59 hr60 h0
    refine gv_call (f := 81) (vs := [(.slice a55 (List.length j11) c56)]) (cap := []) _ (by decide) (by rfl) (by rfl) rfl (by rfl) (by rfl) enters81 (natural_trim_ok fuel a55 c56 j11 w12 (fun k => (fun k => blk a55 = some k) k) (fun k hk => (fun k (hk : blk a55 = some k) => ho57.lt k hk) k hk) ((ho57.rd (Y := fun k => blk a55 = some k) (fun _ h => h.elim) (fun g e => e)).wide (fun k hk => hk)) r59 hr60) ?_
    rintro v63 w61 ⟨hg62, a64, c65, X67, rfl, ho66, hx68⟩
    refine ⟨(fun e => by cases e), ?_⟩
    have hx69 : ∀ k, X67 k → k < w61.heap.size := fun k hk => (hx68 k hk).1
    have hx70 : ∀ k, X67 k → X0 k ∨ w0.heap.size ≤ k := fun k hk => (hx68 k hk).2.elim (fun h => (fun k (hk : blk a55 = some k) => Or.inr (hl58 k hk)) k h) (fun h => .inr (Nat.le_trans hB53.size h))
    refine gv_pure 1 [4] (σ' := [(4, (.slice a64 (List.length r59) c65))]) (by kernel_rfl) ?_
    refine gv_nil ?_
    refine gv_cret ?_
    have e := Option.some.inj h0; subst e
    refine gv_ret (gv_done [(.slice a64 (List.length r59) c65)] rfl ⟨rfl, trivial⟩ ?_)
    have hB71 := below_grown hB53 hg62 hB53.size nb
    exact ⟨grown_of_below hB71, a64, c65, X67, rfl, ho66, (fun k hk => ⟨hx69 k hk, hx70 k hk⟩)⟩

set_option maxHeartbeats 4000000 in
set_option maxRecDepth 100000 in
theorem natural_Sub_ok (fuel : Nat) (pa0_0 : Option Addr) (pc0_0 : Nat) (a_0 : (List Int)) (pa1_0 : Option Addr) (pc1_0 : Nat) (b_1 : (List Int)) (w0 : World) (X0 : Nat → Prop) (hX0 : ∀ k, X0 k → k < w0.heap.size) (hpa0_0 : Rd (iE .u32) w0 X0 pa0_0 pc0_0 a_0) (hpa1_0 : Rd (iE .u32) w0 X0 pa1_0 pc1_0 b_1) (r0 : ((List Int) × (Int × Int))) (h0 : natural_Sub fuel a_0 b_1 = some r0) :
    Calls Try.prog 74 ([(.slice pa0_0 (List.length a_0) pc0_0), (.slice pa1_0 (List.length b_1) pc1_0)] : List Value).toArray w0 (Ret fun v w' => w0.grownBy w' none ∧ ∃ (a0_0r : Option Addr) (c0_0r : Nat), ∃ (X0_0r : Nat → Prop), v = tup [(.slice a0_0r (List.length r0.1) c0_0r), (.agg #[(.int .i64 r0.2.1), (.int .i64 r0.2.2)])] ∧ Rd (iE .u32) w' X0_0r a0_0r c0_0r r0.1 ∧ (∀ k, X0_0r k → k < w'.heap.size ∧ (X0 k ∨ w0.heap.size ≤ k))) := by
  have hB0 : Below w0.heap.size w0 w0 := Below.refl _ _
  unfold natural_Sub at h0
  refine calls_run Try.func74 rfl Try.ntmps74 (by kernel_rfl) ?_
  refine gv_sub [0, 1] (σ' := [(0, (.slice pa0_0 (List.length a_0) pc0_0)), (1, (.slice pa1_0 (List.length b_1) pc1_0))]) (by kernel_rfl) ?_
  refine gv_seq ?_
  refine gv_region ?_
  refine gv_pure 1 [0, 1] (σ' := [(0, (.slice pa0_0 (List.length a_0) pc0_0)), (1, (.slice pa1_0 (List.length b_1) pc1_0))]) (by kernel_rfl) ?_
  refine gv_new (fun b => .pointer (some ⟨b, 0, none⟩)) #[(.int .i64 0), (.int .i64 0)] 29 (by decide) (by rfl) (by rfl) (by kernel_rfl) (by kernel_rfl) ?_
  intro b1 w2 hg3 hb4 hbe5 hz6
  refine ⟨(fun e => by cases e), ?_⟩
  refine gv_sub [0, 1, 5] (σ' := [(0, (.slice pa0_0 (List.length a_0) pc0_0)), (1, (.slice pa1_0 (List.length b_1) pc1_0)), (5, (.pointer (some ⟨b1, 0, none⟩)))]) (by kernel_rfl) ?_
  refine gv_nil ?_
  refine gv_seq ?_
  refine gv_seq ?_
  refine gv_region ?_
  refine gv_pure 2 [0, 1, 5, 7, 8] (σ' := [(0, (.slice pa0_0 (List.length a_0) pc0_0)), (1, (.slice pa1_0 (List.length b_1) pc1_0)), (5, (.pointer (some ⟨b1, 0, none⟩))), (7, (.slice pa0_0 (List.length a_0) pc0_0)), (8, (.slice pa1_0 (List.length b_1) pc1_0))]) (by kernel_rfl) ?_
  refine bindE h0 ?_; clear h0; intro r7 hr8 h0
  have hB9 := below_grown hB0 hg3 hB0.size nb
  refine gv_call (f := 70) (vs := [(.slice pa0_0 (List.length a_0) pc0_0), (.slice pa1_0 (List.length b_1) pc1_0)]) (cap := []) _ (by decide) (by rfl) (by rfl) rfl (by rfl) (by rfl) enters70 (natural_check_ok fuel pa0_0 pc0_0 a_0 pa1_0 pc1_0 b_1 w2 (fun k => X0 k ∨ X0 k) (fun k hk => (hk).elim (fun h => (fun k (hk : X0 k) => Nat.lt_of_lt_of_le (hX0 k hk) hB9.size) k h) (fun h => (fun k (hk : X0 k) => Nat.lt_of_lt_of_le (hX0 k hk) hB9.size) k h)) ((hpa0_0.below hB9 hX0).wide (fun k hk => (.inl hk))) ((hpa1_0.below hB9 hX0).wide (fun k hk => (.inr hk))) r7 hr8) ?_
  rintro v12 w10 ⟨hg11, rfl⟩
  refine ⟨(fun e => by cases e), ?_⟩
  refine gv_sub [0, 1, 5, 9] (σ' := [(0, (.slice pa0_0 (List.length a_0) pc0_0)), (1, (.slice pa1_0 (List.length b_1) pc1_0)), (5, (.pointer (some ⟨b1, 0, none⟩))), (9, (.agg #[(.int .i64 r7.1), (.int .i64 r7.2)]))]) (by kernel_rfl) ?_
  refine gv_new (fun b => .pointer (some ⟨b, 0, none⟩)) #[(.int .i64 0), (.int .i64 0)] 29 (by decide) (by rfl) (by rfl) (by kernel_rfl) (by kernel_rfl) ?_
  intro b13 w14 hg15 hb16 hbe17 hz18
  refine ⟨(fun e => by cases e), ?_⟩
  refine gv_sub [0, 1, 5, 6, 9] (σ' := [(0, (.slice pa0_0 (List.length a_0) pc0_0)), (1, (.slice pa1_0 (List.length b_1) pc1_0)), (5, (.pointer (some ⟨b1, 0, none⟩))), (6, (.pointer (some ⟨b13, 0, none⟩))), (9, (.agg #[(.int .i64 r7.1), (.int .i64 r7.2)]))]) (by kernel_rfl) ?_
  refine gv_store (t := 29) (b := b13) (off := 0) (v := (.agg #[(.int .i64 r7.1), (.int .i64 r7.2)])) (t' := 29) (cs := #[(.int .i64 0), (.int .i64 0)]) #[(.int .i64 r7.1), (.int .i64 r7.2)] (by decide) (by rfl) (by rfl) (by kernel_rfl) (by kernel_rfl) (by kernel_rfl) (by intro u hu; simp [Value.cells] at hu; rcases hu with rfl | rfl <;> rfl) (show 0 + 2 ≤ 2 by decide) (by rfl) hb16 ?_
  intro w19 hg20 hb21 hz22
  refine ⟨(fun e => by cases e), ?_⟩
  refine gv_sub [0, 1, 5, 6] (σ' := [(0, (.slice pa0_0 (List.length a_0) pc0_0)), (1, (.slice pa1_0 (List.length b_1) pc1_0)), (5, (.pointer (some ⟨b1, 0, none⟩))), (6, (.pointer (some ⟨b13, 0, none⟩)))]) (by kernel_rfl) ?_
  refine gv_nil ?_
  refine gv_seq ?_
  refine gv_region ?_
  refine gv_pure 1 [0, 1, 5, 6, 10] (σ' := [(0, (.slice pa0_0 (List.length a_0) pc0_0)), (1, (.slice pa1_0 (List.length b_1) pc1_0)), (5, (.pointer (some ⟨b1, 0, none⟩))), (6, (.pointer (some ⟨b13, 0, none⟩))), (10, (.pointer (some ⟨b13, 0, none⟩)))]) (by kernel_rfl) ?_
  refine gv_load (t := 3) (A := ⟨b13, 0, none⟩) (.int .i64 r7.1) [0, 1, 5, 6, 11] (σ' := [(0, (.slice pa0_0 (List.length a_0) pc0_0)), (1, (.slice pa1_0 (List.length b_1) pc1_0)), (5, (.pointer (some ⟨b1, 0, none⟩))), (6, (.pointer (some ⟨b13, 0, none⟩))), (11, (.int .i64 r7.1))]) (fun e => by cases e) (by rfl) (by rfl) (by rfl) (by kernel_rfl) (by kernel_rfl) (by kernel_rfl) (inw0 (hb21.cell 0 rfl)) (by kernel_rfl) ?_
  refine gv_pure 1 [0, 1, 5, 6, 12] (σ' := [(0, (.slice pa0_0 (List.length a_0) pc0_0)), (1, (.slice pa1_0 (List.length b_1) pc1_0)), (5, (.pointer (some ⟨b1, 0, none⟩))), (6, (.pointer (some ⟨b13, 0, none⟩))), (12, (.bool (r7.1 != 0)))]) (by kernel_rfl) ?_
  refine gv_nil ?_
  refine gv_cond (b := (r7.1 != 0)) (by rfl) (fun hc23 => ?_) (fun hc23 => ?_)
  · replace h0 := ite_t hc23 h0
    refine gv_seq ?_
    refine gv_drawA (by kernel_rfl) ?_
    intro w24 hg25
    refine gv_pre [1] #[false, true, false] 2 (by kernel_rfl) (by rfl) ?_
    refine gv_pure 1 [4, 5, 6] (σ' := [(4, (.slice none (List.length ([] : List Int)) 0)), (5, (.pointer (some ⟨b1, 0, none⟩))), (6, (.pointer (some ⟨b13, 0, none⟩)))]) (by kernel_rfl) ?_
    refine gv_nil ?_
    refine gv_goal fun a hd hs hok => ?_
    refine (?_ : RunA Try.prog _ 23 _ _ 2 #[false, true, false] [(4, (.slice none (List.length ([] : List Int)) 0)), (5, (.pointer (some ⟨b1, 0, none⟩))), (6, (.pointer (some ⟨b13, 0, none⟩)))] w24) a hd hs hok
    clear hd hs hok
    refine gv_stage (Cls w24 []) [0, 1] [(0, some true)] #[true, true, false] 1 (by kernel_rfl) (by rfl) (Cls.refl _ _) ?_
    have hC26 := Cls.refl w24 []
    have hk27 := hb21.grown hg25 nb
    refine gv_loadBox (t := 29) (b := b13) (t' := 29) (fr := (0, 0)) #[(.int .i64 r7.1), (.int .i64 r7.2)] [4, 5, 13] (σ' := [(4, (.slice none (List.length ([] : List Int)) 0)), (5, (.pointer (some ⟨b1, 0, none⟩))), (13, (.agg #[(.int .i64 r7.1), (.int .i64 r7.2)]))]) (fun e => by cases e) (by rfl) (by rfl) (by rfl) (by kernel_rfl) (by kernel_rfl) (by kernel_rfl) (by kernel_rfl) (inw1 fun w' hC' => (hC'.box hk27 nm_nil)) (by kernel_rfl) ?_
    refine gv_nil ?_
    refine gv_goal fun a hd hs hok => ?_
    refine (?_ : RunA Try.prog _ 23 _ _ 1 #[true, true, false] [(4, (.slice none (List.length ([] : List Int)) 0)), (5, (.pointer (some ⟨b1, 0, none⟩))), (13, (.agg #[(.int .i64 r7.1), (.int .i64 r7.2)]))] w24) a hd hs hok
    clear hd hs hok
    refine gv_stage (fun _ => True) [0, 1, 2] [(2, some false)] #[true, true, true] 0 (by kernel_rfl) (by rfl) trivial ?_
    have hg32 := (grown_trans hg11 hg15)
    have hk33 := hb4.grown hg11 nb
    have ap34 : ¬ (· = b1) b13 := fun hx => Nat.not_lt_of_le ((lowb hbe17) _ rfl) ((fun k (hk : k = b1) => Nat.lt_of_le_of_lt (Nat.le_of_eq hk) hk33.lt) _ hx)
    have hk35 := ((hb4.grown hg32 nb).grown hg20 (rowne ap34)).grown hg25 nb
    refine gv_store (t := 29) (b := b1) (off := 0) (v := (.agg #[(.int .i64 r7.1), (.int .i64 r7.2)])) (t' := 29) (cs := #[(.int .i64 0), (.int .i64 0)]) #[(.int .i64 r7.1), (.int .i64 r7.2)] (by decide) (by rfl) (by rfl) (by kernel_rfl) (by kernel_rfl) (by kernel_rfl) (by intro u hu; simp [Value.cells] at hu; rcases hu with rfl | rfl <;> rfl) (show 0 + 2 ≤ 2 by decide) (by rfl) hk35 ?_
    intro w28 hg29 hb30 hz31
    refine ⟨(fun _ => trivial), ?_⟩
    refine gv_sub [4, 5] (σ' := [(4, (.slice none (List.length ([] : List Int)) 0)), (5, (.pointer (some ⟨b1, 0, none⟩)))]) (by kernel_rfl) ?_
    refine gv_nil ?_
    refine gv_goal fun a hd hs hok => ?_
    refine (?_ : RunA Try.prog _ 23 _ _ 0 #[true, true, true] [(4, (.slice none (List.length ([] : List Int)) 0)), (5, (.pointer (some ⟨b1, 0, none⟩)))] w28) a hd hs hok
    clear hd hs hok
    refine gv_stageE (by kernel_rfl) ?_
    refine gv_cret ?_
    have e := Option.some.inj h0; subst e
    refine gv_ret (gv_done [(.slice none (List.length ([] : List Int)) 0), (.agg #[(.int .i64 r7.1), (.int .i64 r7.2)])] rfl ⟨rfl, ⟨_, rfl, run_loadVar_row w28 b1 _ 29 _ _ _ hb30 Try.underlying29 rfl (by kernel_rfl)⟩, trivial⟩ ?_)
    have hB36 := below_grown hB9 hg32 hB9.size nb
    have hB37 := below_grown hB9 hg11 hB9.size nb
    have hlo38 : w0.heap.size ≤ b13 := lob hbe17 hB37.size
    have hB39 := below_grown hB36 hg20 hB36.size (rowlo hlo38)
    have hB40 := below_grown hB39 hg25 hB39.size nb
    have hlo41 : w0.heap.size ≤ b1 := lob hbe5 hB0.size
    have hB42 := below_grown hB40 hg29 hB40.size (rowlo hlo41)
    exact ⟨grown_of_below hB42, none, 0, (fun _ => False), rfl, (Rd.nil (iE .u32) w28 (fun _ => False) none 0), (fun k hk => ⟨(fun _ h => h.elim) k hk, (fun _ h => h.elim) k hk⟩)⟩
  · replace h0 := ite_f hc23 h0
    refine gv_skip ?_
    refine gv_seq ?_
    refine gv_seq ?_
    refine gv_region ?_
    refine gv_pure 2 [0, 1, 5, 14, 15] (σ' := [(0, (.slice pa0_0 (List.length a_0) pc0_0)), (1, (.slice pa1_0 (List.length b_1) pc1_0)), (5, (.pointer (some ⟨b1, 0, none⟩))), (14, (.slice pa0_0 (List.length a_0) pc0_0)), (15, (.slice pa1_0 (List.length b_1) pc1_0))]) (by kernel_rfl) ?_
    refine bindE h0 ?_; clear h0; intro r43 hr44 h0
    have hg45 := (grown_trans hg11 hg15)
    have hB46 := below_grown hB9 hg45 hB9.size nb
    have hB47 := below_grown hB9 hg11 hB9.size nb
    have hlo48 : w0.heap.size ≤ b13 := lob hbe17 hB47.size
    have hB49 := below_grown hB46 hg20 hB46.size (rowlo hlo48)
    refine gv_call (f := 71) (vs := [(.slice pa0_0 (List.length a_0) pc0_0), (.slice pa1_0 (List.length b_1) pc1_0)]) (cap := []) _ (by decide) (by rfl) (by rfl) rfl (by rfl) (by rfl) enters71 (natural_compare_ok fuel pa0_0 pc0_0 a_0 pa1_0 pc1_0 b_1 w19 (fun k => X0 k ∨ X0 k) (fun k hk => (hk).elim (fun h => (fun k (hk : X0 k) => Nat.lt_of_lt_of_le (hX0 k hk) hB49.size) k h) (fun h => (fun k (hk : X0 k) => Nat.lt_of_lt_of_le (hX0 k hk) hB49.size) k h)) ((hpa0_0.below hB49 hX0).wide (fun k hk => (.inl hk))) ((hpa1_0.below hB49 hX0).wide (fun k hk => (.inr hk))) r43 hr44) ?_
    rintro v52 w50 ⟨hg51, rfl⟩
    refine ⟨(fun e => by cases e), ?_⟩
    refine gv_pure 1 [0, 1, 5, 17] (σ' := [(0, (.slice pa0_0 (List.length a_0) pc0_0)), (1, (.slice pa1_0 (List.length b_1) pc1_0)), (5, (.pointer (some ⟨b1, 0, none⟩))), (17, (.bool (decide (r43 < 0))))]) (by kernel_rfl) ?_
    refine gv_nil ?_
    refine gv_cond (b := (decide (r43 < 0))) (by rfl) (fun hc53 => ?_) (fun hc53 => ?_)
    · replace h0 := ite_t hc53 h0
      refine gv_seq ?_
      refine gv_region ?_
      refine bindE h0 ?_; clear h0; intro r54 hr55 h0
      refine gv_call (f := 76) (vs := [(.int .i64 4), (.int .i64 (-2))]) (cap := []) _ (by decide) (by rfl) (by rfl) rfl (by rfl) (by rfl) enters76 (natural_at_ok fuel 4 (-2) w50  r54 hr55) ?_
      rintro v58 w56 ⟨hg57, rfl⟩
      refine ⟨(fun e => by cases e), ?_⟩
      clear hr55 hc53 hlo48 hB47 hB46 hg45 hr44 hc23 hz22 hb21 hz18 hb16 hB9 hr8 hz6 hg3
      refine gv_pure 1 [4, 5, 18] (σ' := [(4, (.slice none (List.length ([] : List Int)) 0)), (5, (.pointer (some ⟨b1, 0, none⟩))), (18, (.agg #[(.int .i64 r54.1), (.int .i64 r54.2)]))]) (by kernel_rfl) ?_
      have hg63 := (grown_trans hg11 hg15)
      have hk64 := hb4.grown hg11 nb
      have ap65 : ¬ (· = b1) b13 := fun hx => Nat.not_lt_of_le ((lowb hbe17) _ rfl) ((fun k (hk : k = b1) => Nat.lt_of_le_of_lt (Nat.le_of_eq hk) hk64.lt) _ hx)
      have hg66 := (grown_trans hg51 hg57)
      have hk67 := ((hb4.grown hg63 nb).grown hg20 (rowne ap65)).grown hg66 nb
      refine gv_store (t := 29) (b := b1) (off := 0) (v := (.agg #[(.int .i64 r54.1), (.int .i64 r54.2)])) (t' := 29) (cs := #[(.int .i64 0), (.int .i64 0)]) #[(.int .i64 r54.1), (.int .i64 r54.2)] (by decide) (by rfl) (by rfl) (by kernel_rfl) (by kernel_rfl) (by kernel_rfl) (by intro u hu; simp [Value.cells] at hu; rcases hu with rfl | rfl <;> rfl) (show 0 + 2 ≤ 2 by decide) (by rfl) hk67 ?_
      intro w59 hg60 hb61 hz62
      refine ⟨(fun e => by cases e), ?_⟩
      refine gv_sub [4, 5] (σ' := [(4, (.slice none (List.length ([] : List Int)) 0)), (5, (.pointer (some ⟨b1, 0, none⟩)))]) (by kernel_rfl) ?_
      refine gv_nil ?_
      refine gv_cret ?_
      have e := Option.some.inj h0; subst e
      refine gv_ret (gv_done [(.slice none (List.length ([] : List Int)) 0), (.agg #[(.int .i64 r54.1), (.int .i64 r54.2)])] rfl ⟨rfl, ⟨_, rfl, run_loadVar_row w59 b1 _ 29 _ _ _ hb61 Try.underlying29 rfl (by kernel_rfl)⟩, trivial⟩ ?_)
      have hB68 := below_grown hB49 hg66 hB49.size nb
      have hlo69 : w0.heap.size ≤ b1 := lob hbe5 hB0.size
      have hB70 := below_grown hB68 hg60 hB68.size (rowlo hlo69)
      exact ⟨grown_of_below hB70, none, 0, (fun _ => False), rfl, (Rd.nil (iE .u32) w59 (fun _ => False) none 0), (fun k hk => ⟨(fun _ h => h.elim) k hk, (fun _ h => h.elim) k hk⟩)⟩
    · replace h0 := ite_f hc53 h0
      refine gv_skip ?_
      refine gv_seq ?_
      refine gv_region ?_
      refine gv_pure 2 [5, 19, 20] (σ' := [(5, (.pointer (some ⟨b1, 0, none⟩))), (19, (.slice pa0_0 (List.length a_0) pc0_0)), (20, (.slice pa1_0 (List.length b_1) pc1_0))]) (by kernel_rfl) ?_
      refine bindE h0 ?_; clear h0; intro r71 hr72 h0
      have hB73 := below_grown hB49 hg51 hB49.size nb
      refine gv_call (f := 80) (vs := [(.slice pa0_0 (List.length a_0) pc0_0), (.slice pa1_0 (List.length b_1) pc1_0)]) (cap := []) _ (by decide) (by rfl) (by rfl) rfl (by rfl) (by rfl) enters80 (natural_sub_ok fuel pa0_0 pc0_0 a_0 pa1_0 pc1_0 b_1 w50 (fun k => X0 k ∨ X0 k) (fun k hk => (hk).elim (fun h => (fun k (hk : X0 k) => Nat.lt_of_lt_of_le (hX0 k hk) hB73.size) k h) (fun h => (fun k (hk : X0 k) => Nat.lt_of_lt_of_le (hX0 k hk) hB73.size) k h)) ((hpa0_0.below hB73 hX0).wide (fun k hk => (.inl hk))) ((hpa1_0.below hB73 hX0).wide (fun k hk => (.inr hk))) r71 hr72) ?_
      rintro v76 w74 ⟨hg75, a77, c78, X80, rfl, ho79, hx81⟩
      refine ⟨(fun e => by cases e), ?_⟩
      have hx82 : ∀ k, X80 k → k < w74.heap.size := fun k hk => (hx81 k hk).1
      have hx83 : ∀ k, X80 k → X0 k ∨ w0.heap.size ≤ k := fun k hk => (hx81 k hk).2.elim (fun h => (h).elim (fun h => (fun k (hk : X0 k) => Or.inl hk) k h) (fun h => (fun k (hk : X0 k) => Or.inl hk) k h)) (fun h => .inr (Nat.le_trans hB73.size h))
      refine gv_pure 2 [4, 5, 22] (σ' := [(4, (.slice a77 (List.length r71) c78)), (5, (.pointer (some ⟨b1, 0, none⟩))), (22, (.agg #[(.int .i64 0), (.int .i64 0)]))]) (by kernel_rfl) ?_
      have hk88 := hb4.grown hg11 nb
      have ap89 : ¬ (· = b1) b13 := fun hx => Nat.not_lt_of_le ((lowb hbe17) _ rfl) ((fun k (hk : k = b1) => Nat.lt_of_le_of_lt (Nat.le_of_eq hk) hk88.lt) _ hx)
      have hg90 := (grown_trans hg51 hg75)
      have hk91 := ((hb4.grown hg45 nb).grown hg20 (rowne ap89)).grown hg90 nb
      refine gv_store (t := 29) (b := b1) (off := 0) (v := (.agg #[(.int .i64 0), (.int .i64 0)])) (t' := 29) (cs := #[(.int .i64 0), (.int .i64 0)]) #[(.int .i64 0), (.int .i64 0)] (by decide) (by rfl) (by rfl) (by kernel_rfl) (by kernel_rfl) (by kernel_rfl) (by intro u hu; simp [Value.cells] at hu; rcases hu with rfl | rfl <;> rfl) (show 0 + 2 ≤ 2 by decide) (by rfl) hk91 ?_
      intro w84 hg85 hb86 hz87
      refine ⟨(fun e => by cases e), ?_⟩
      refine gv_sub [4, 5] (σ' := [(4, (.slice a77 (List.length r71) c78)), (5, (.pointer (some ⟨b1, 0, none⟩)))]) (by kernel_rfl) ?_
      refine gv_nil ?_
      refine gv_cret ?_
      have e := Option.some.inj h0; subst e
      refine gv_ret (gv_done [(.slice a77 (List.length r71) c78), (.agg #[(.int .i64 0), (.int .i64 0)])] rfl ⟨rfl, ⟨_, rfl, run_loadVar_row w84 b1 _ 29 _ _ _ hb86 Try.underlying29 rfl (by kernel_rfl)⟩, trivial⟩ ?_)
      have hB92 := below_grown hB73 hg75 hB73.size nb
      have hlo93 : w0.heap.size ≤ b1 := lob hbe5 hB0.size
      have hB94 := below_grown hB92 hg85 hB92.size (rowlo hlo93)
      have hk95 := ((hk88.grown hg15 nb).grown hg20 (rowne ap89)).grown hg51 nb
      have ap96 : ¬ X80 b1 := fun h => ((hx81 _ h).2.elim (fun h => (h).elim (fun h => ((fun (hx : X0 b1) => Nat.not_lt_of_le hlo93 (hX0 _ hx)))  h) (fun h => ((fun (hx : X0 b1) => Nat.not_lt_of_le hlo93 (hX0 _ hx)))  h)) (fun h => Nat.not_lt_of_le h (hk95.lt)))
      have hk97 := ho79.grown hg85 hx82 (rowne ap96)
      have hx98 := ltx hx82 hg85.size
      exact ⟨grown_of_below hB94, a77, c78, X80, rfl, hk97, (fun k hk => ⟨hx98 k hk, hx83 k hk⟩)⟩

set_option maxHeartbeats 4000000 in
set_option maxRecDepth 100000 in
theorem integer_plus_ok (fuel : Nat) (pa0_0 : Option Addr) (pc0_0 : Nat) (a_0 : (Bool × (List Int))) (pa1_0 : Option Addr) (pc1_0 : Nat) (b_1 : (Bool × (List Int))) (w0 : World) (X0 : Nat → Prop) (hX0 : ∀ k, X0 k → k < w0.heap.size) (hpa0_0 : Rd (iE .u32) w0 X0 pa0_0 pc0_0 a_0.2) (hpa1_0 : Rd (iE .u32) w0 X0 pa1_0 pc1_0 b_1.2) (r0 : ((Bool × (List Int)) × (Int × Int))) (h0 : integer_plus fuel a_0 b_1 = some r0) :
    Calls Try.prog 64 ([(.agg #[(.bool a_0.1), (.slice pa0_0 (List.length a_0.2) pc0_0)]), (.agg #[(.bool b_1.1), (.slice pa1_0 (List.length b_1.2) pc1_0)])] : List Value).toArray w0 (Ret fun v w' => w0.grownBy w' none ∧ ∃ (a0_0r : Option Addr) (c0_0r : Nat), ∃ (X0_0r : Nat → Prop), v = tup [(.agg #[(.bool r0.1.1), (.slice a0_0r (List.length r0.1.2) c0_0r)]), (.agg #[(.int .i64 r0.2.1), (.int .i64 r0.2.2)])] ∧ Rd (iE .u32) w' X0_0r a0_0r c0_0r r0.1.2 ∧ (∀ k, X0_0r k → k < w'.heap.size ∧ (X0 k ∨ w0.heap.size ≤ k))) := by
  have hB0 : Below w0.heap.size w0 w0 := Below.refl _ _
  unfold integer_plus at h0
  refine calls_run Try.func64 rfl Try.ntmps64 (by kernel_rfl) ?_
  refine gv_sub [0, 1] (σ' := [(0, (.agg #[(.bool a_0.1), (.slice pa0_0 (List.length a_0.2) pc0_0)])), (1, (.agg #[(.bool b_1.1), (.slice pa1_0 (List.length b_1.2) pc1_0)]))]) (by kernel_rfl) ?_
  refine gv_seq ?_
  refine gv_region ?_
  refine gv_new (fun b => .pointer (some ⟨b, 0, none⟩)) #[(.bool a_0.1), (.slice pa0_0 (List.length a_0.2) pc0_0)] 24 (by decide) (by rfl) (by rfl) (by kernel_rfl) (by kernel_rfl) ?_
  intro b1 w2 hg3 hb4 hbe5 hz6
  refine ⟨(fun e => by cases e), ?_⟩
  refine gv_sub [1, 2] (σ' := [(1, (.agg #[(.bool b_1.1), (.slice pa1_0 (List.length b_1.2) pc1_0)])), (2, (.pointer (some ⟨b1, 0, none⟩)))]) (by kernel_rfl) ?_
  refine gv_new (fun b => .pointer (some ⟨b, 0, none⟩)) #[(.bool b_1.1), (.slice pa1_0 (List.length b_1.2) pc1_0)] 24 (by decide) (by rfl) (by rfl) (by kernel_rfl) (by kernel_rfl) ?_
  intro b7 w8 hg9 hb10 hbe11 hz12
  refine ⟨(fun e => by cases e), ?_⟩
  refine gv_sub [2, 3] (σ' := [(2, (.pointer (some ⟨b1, 0, none⟩))), (3, (.pointer (some ⟨b7, 0, none⟩)))]) (by kernel_rfl) ?_
  refine gv_new (fun b => .pointer (some ⟨b, 0, none⟩)) #[(.bool false), (.slice none (List.length ([] : List Int)) 0)] 24 (by decide) (by rfl) (by rfl) (by kernel_rfl) (by kernel_rfl) ?_
  intro b13 w14 hg15 hb16 hbe17 hz18
  refine ⟨(fun e => by cases e), ?_⟩
  refine gv_sub [2, 3, 4] (σ' := [(2, (.pointer (some ⟨b1, 0, none⟩))), (3, (.pointer (some ⟨b7, 0, none⟩))), (4, (.pointer (some ⟨b13, 0, none⟩)))]) (by kernel_rfl) ?_
  refine gv_new (fun b => .pointer (some ⟨b, 0, none⟩)) #[(.int .i64 0), (.int .i64 0)] 29 (by decide) (by rfl) (by rfl) (by kernel_rfl) (by kernel_rfl) ?_
  intro b19 w20 hg21 hb22 hbe23 hz24
  refine ⟨(fun e => by cases e), ?_⟩
  refine gv_sub [2, 3, 4, 5] (σ' := [(2, (.pointer (some ⟨b1, 0, none⟩))), (3, (.pointer (some ⟨b7, 0, none⟩))), (4, (.pointer (some ⟨b13, 0, none⟩))), (5, (.pointer (some ⟨b19, 0, none⟩)))]) (by kernel_rfl) ?_
  refine gv_nil ?_
  refine gv_seq ?_
  refine gv_seq ?_
  refine gv_region ?_
  refine gv_pure 1 [2, 3, 4, 5, 12] (σ' := [(2, (.pointer (some ⟨b1, 0, none⟩))), (3, (.pointer (some ⟨b7, 0, none⟩))), (4, (.pointer (some ⟨b13, 0, none⟩))), (5, (.pointer (some ⟨b19, 0, none⟩))), (12, (.pointer (some ⟨b1, 0, none⟩)))]) (by kernel_rfl) ?_
  have hg25 := (grown_trans (grown_trans hg9 hg15) hg21)
  have hk26 := hb4.grown hg25 nb
  refine gv_load (t := 4) (A := ⟨b1, 0, none⟩) (.bool a_0.1) [2, 3, 4, 5, 13] (σ' := [(2, (.pointer (some ⟨b1, 0, none⟩))), (3, (.pointer (some ⟨b7, 0, none⟩))), (4, (.pointer (some ⟨b13, 0, none⟩))), (5, (.pointer (some ⟨b19, 0, none⟩))), (13, (.bool a_0.1))]) (fun e => by cases e) (by rfl) (by rfl) (by rfl) (by kernel_rfl) (by kernel_rfl) (by kernel_rfl) (inw0 (hk26.cell 0 rfl)) (by kernel_rfl) ?_
  refine gv_pure 1 [2, 3, 4, 5, 13, 14] (σ' := [(2, (.pointer (some ⟨b1, 0, none⟩))), (3, (.pointer (some ⟨b7, 0, none⟩))), (4, (.pointer (some ⟨b13, 0, none⟩))), (5, (.pointer (some ⟨b19, 0, none⟩))), (13, (.bool a_0.1)), (14, (.pointer (some ⟨b7, 0, none⟩)))]) (by kernel_rfl) ?_
  have hg27 := (grown_trans hg15 hg21)
  have hk28 := hb10.grown hg27 nb
  refine gv_load (t := 4) (A := ⟨b7, 0, none⟩) (.bool b_1.1) [2, 3, 4, 5, 13, 15] (σ' := [(2, (.pointer (some ⟨b1, 0, none⟩))), (3, (.pointer (some ⟨b7, 0, none⟩))), (4, (.pointer (some ⟨b13, 0, none⟩))), (5, (.pointer (some ⟨b19, 0, none⟩))), (13, (.bool a_0.1)), (15, (.bool b_1.1))]) (fun e => by cases e) (by rfl) (by rfl) (by rfl) (by kernel_rfl) (by kernel_rfl) (by kernel_rfl) (inw0 (hk28.cell 0 rfl)) (by kernel_rfl) ?_
  refine gv_pure 1 [2, 3, 4, 5, 16] (σ' := [(2, (.pointer (some ⟨b1, 0, none⟩))), (3, (.pointer (some ⟨b7, 0, none⟩))), (4, (.pointer (some ⟨b13, 0, none⟩))), (5, (.pointer (some ⟨b19, 0, none⟩))), (16, (.bool (a_0.1 == b_1.1)))]) (by kernel_rfl) ?_
  refine gv_nil ?_
  refine gv_cond (b := (a_0.1 == b_1.1)) (by rfl) (fun hc29 => ?_) (fun hc29 => ?_)
  · replace h0 := ite_t hc29 h0
    refine gv_seq ?_
    refine gv_region ?_
    refine gv_pure 1 [2, 3, 4, 5, 18] (σ' := [(2, (.pointer (some ⟨b1, 0, none⟩))), (3, (.pointer (some ⟨b7, 0, none⟩))), (4, (.pointer (some ⟨b13, 0, none⟩))), (5, (.pointer (some ⟨b19, 0, none⟩))), (18, (.pointer (some ⟨b1, 1, none⟩)))]) (by kernel_rfl) ?_
    refine gv_load (t := 22) (A := ⟨b1, 1, none⟩) (.slice pa0_0 (List.length a_0.2) pc0_0) [2, 3, 4, 5, 19] (σ' := [(2, (.pointer (some ⟨b1, 0, none⟩))), (3, (.pointer (some ⟨b7, 0, none⟩))), (4, (.pointer (some ⟨b13, 0, none⟩))), (5, (.pointer (some ⟨b19, 0, none⟩))), (19, (.slice pa0_0 (List.length a_0.2) pc0_0))]) (fun e => by cases e) (by rfl) (by rfl) (by rfl) (by kernel_rfl) (by kernel_rfl) (by kernel_rfl) (inw0 (hk26.cell 1 rfl)) (by kernel_rfl) ?_
    refine gv_pure 1 [2, 4, 5, 19, 20] (σ' := [(2, (.pointer (some ⟨b1, 0, none⟩))), (4, (.pointer (some ⟨b13, 0, none⟩))), (5, (.pointer (some ⟨b19, 0, none⟩))), (19, (.slice pa0_0 (List.length a_0.2) pc0_0)), (20, (.pointer (some ⟨b7, 1, none⟩)))]) (by kernel_rfl) ?_
    refine gv_load (t := 22) (A := ⟨b7, 1, none⟩) (.slice pa1_0 (List.length b_1.2) pc1_0) [2, 4, 5, 19, 21] (σ' := [(2, (.pointer (some ⟨b1, 0, none⟩))), (4, (.pointer (some ⟨b13, 0, none⟩))), (5, (.pointer (some ⟨b19, 0, none⟩))), (19, (.slice pa0_0 (List.length a_0.2) pc0_0)), (21, (.slice pa1_0 (List.length b_1.2) pc1_0))]) (fun e => by cases e) (by rfl) (by rfl) (by rfl) (by kernel_rfl) (by kernel_rfl) (by kernel_rfl) (inw0 (hk28.cell 1 rfl)) (by kernel_rfl) ?_
    refine bindE h0 ?_; clear h0; intro r30 hr31 h0
    have hg32 := (grown_trans hg3 hg25)
    have hB33 := below_grown hB0 hg32 hB0.size nb
    refine gv_call (f := 72) (vs := [(.slice pa0_0 (List.length a_0.2) pc0_0), (.slice pa1_0 (List.length b_1.2) pc1_0)]) (cap := []) _ (by decide) (by rfl) (by rfl) rfl (by rfl) (by rfl) enters72 (natural_Add_ok fuel pa0_0 pc0_0 a_0.2 pa1_0 pc1_0 b_1.2 w20 (fun k => X0 k ∨ X0 k) (fun k hk => (hk).elim (fun h => (fun k (hk : X0 k) => Nat.lt_of_lt_of_le (hX0 k hk) hB33.size) k h) (fun h => (fun k (hk : X0 k) => Nat.lt_of_lt_of_le (hX0 k hk) hB33.size) k h)) ((hpa0_0.below hB33 hX0).wide (fun k hk => (.inl hk))) ((hpa1_0.below hB33 hX0).wide (fun k hk => (.inr hk))) r30 hr31) ?_
    rintro v36 w34 ⟨hg35, a37, c38, X40, rfl, ho39, hx41⟩
    refine ⟨(fun e => by cases e), ?_⟩
    have hx42 : ∀ k, X40 k → k < w34.heap.size := fun k hk => (hx41 k hk).1
    have hx43 : ∀ k, X40 k → X0 k ∨ w0.heap.size ≤ k := fun k hk => (hx41 k hk).2.elim (fun h => (h).elim (fun h => (fun k (hk : X0 k) => Or.inl hk) k h) (fun h => (fun k (hk : X0 k) => Or.inl hk) k h)) (fun h => .inr (Nat.le_trans hB33.size h))
    refine gv_pure 3 [2, 4, 5, 23, 24] (σ' := [(2, (.pointer (some ⟨b1, 0, none⟩))), (4, (.pointer (some ⟨b13, 0, none⟩))), (5, (.pointer (some ⟨b19, 0, none⟩))), (23, (.slice a37 (List.length r30.1) c38)), (24, (.agg #[(.int .i64 r30.2.1), (.int .i64 r30.2.2)]))]) (by kernel_rfl) ?_
    refine gv_new (fun b => .pointer (some ⟨b, 0, none⟩)) #[(.int .i64 0), (.int .i64 0)] 29 (by decide) (by rfl) (by rfl) (by kernel_rfl) (by kernel_rfl) ?_
    intro b44 w45 hg46 hb47 hbe48 hz49
    refine ⟨(fun e => by cases e), ?_⟩
    refine gv_pure 1 [2, 4, 5, 6, 7, 24] (σ' := [(2, (.pointer (some ⟨b1, 0, none⟩))), (4, (.pointer (some ⟨b13, 0, none⟩))), (5, (.pointer (some ⟨b19, 0, none⟩))), (6, (.slice a37 (List.length r30.1) c38)), (7, (.pointer (some ⟨b44, 0, none⟩))), (24, (.agg #[(.int .i64 r30.2.1), (.int .i64 r30.2.2)]))]) (by kernel_rfl) ?_
    refine gv_store (t := 29) (b := b44) (off := 0) (v := (.agg #[(.int .i64 r30.2.1), (.int .i64 r30.2.2)])) (t' := 29) (cs := #[(.int .i64 0), (.int .i64 0)]) #[(.int .i64 r30.2.1), (.int .i64 r30.2.2)] (by decide) (by rfl) (by rfl) (by kernel_rfl) (by kernel_rfl) (by kernel_rfl) (by intro u hu; simp [Value.cells] at hu; rcases hu with rfl | rfl <;> rfl) (show 0 + 2 ≤ 2 by decide) (by rfl) hb47 ?_
    intro w50 hg51 hb52 hz53
    refine ⟨(fun e => by cases e), ?_⟩
    refine gv_sub [2, 4, 5, 6] (σ' := [(2, (.pointer (some ⟨b1, 0, none⟩))), (4, (.pointer (some ⟨b13, 0, none⟩))), (5, (.pointer (some ⟨b19, 0, none⟩))), (6, (.slice a37 (List.length r30.1) c38))]) (by kernel_rfl) ?_
    refine gv_nil ?_
    refine gv_seq ?_
    refine gv_region ?_
    refine gv_pure 1 [4, 5, 6, 25] (σ' := [(4, (.pointer (some ⟨b13, 0, none⟩))), (5, (.pointer (some ⟨b19, 0, none⟩))), (6, (.slice a37 (List.length r30.1) c38)), (25, (.pointer (some ⟨b1, 0, none⟩)))]) (by kernel_rfl) ?_
    have hg54 := (grown_trans hg35 hg46)
    have hk55 := hk26.grown hg35 nb
    have ap56 : ¬ (· = b1) b44 := fun hx => Nat.not_lt_of_le ((lowb hbe48) _ rfl) ((fun k (hk : k = b1) => Nat.lt_of_le_of_lt (Nat.le_of_eq hk) hk55.lt) _ hx)
    have hk57 := (hk26.grown hg54 nb).grown hg51 (rowne ap56)
    refine gv_load (t := 4) (A := ⟨b1, 0, none⟩) (.bool a_0.1) [4, 5, 6, 26] (σ' := [(4, (.pointer (some ⟨b13, 0, none⟩))), (5, (.pointer (some ⟨b19, 0, none⟩))), (6, (.slice a37 (List.length r30.1) c38)), (26, (.bool a_0.1))]) (fun e => by cases e) (by rfl) (by rfl) (by rfl) (by kernel_rfl) (by kernel_rfl) (by kernel_rfl) (inw0 (hk57.cell 0 rfl)) (by kernel_rfl) ?_
    refine gv_pure 1 [4, 5, 26, 27] (σ' := [(4, (.pointer (some ⟨b13, 0, none⟩))), (5, (.pointer (some ⟨b19, 0, none⟩))), (26, (.bool a_0.1)), (27, (.slice a37 (List.length r30.1) c38))]) (by kernel_rfl) ?_
    refine bindE h0 ?_; clear h0; intro r58 hr59 h0
    have hx60 := ltx (ltx hx42 hg46.size) hg51.size
    have ap61 : ¬ X40 b44 := fun hx => Nat.not_lt_of_le ((lowb hbe48) _ rfl) (hx42 _ hx)
    have hx62 := ltx hx42 hg46.size
    have hk63 := (ho39.grown hg46 hx42 nb).grown hg51 hx62 (rowne ap61)
    refine gv_call (f := 73) (vs := [(.bool a_0.1), (.slice a37 (List.length r30.1) c38)]) (cap := []) _ (by decide) (by rfl) (by rfl) rfl (by rfl) (by rfl) enters73 (integer_signed_ok fuel a_0.1 a37 c38 r30.1 w50 (fun k => X40 k) (fun k hk => hx60 k hk) (hk63.wide (fun k hk => hk)) r58 hr59) ?_
    rintro v66 w64 ⟨hg65, a67, c68, X70, rfl, ho69, hx71⟩
    refine ⟨(fun e => by cases e), ?_⟩
    have hx72 : ∀ k, X70 k → k < w64.heap.size := fun k hk => (hx71 k hk).1
    have hB74 := below_grown hB33 hg54 hB33.size nb
    have hB75 := below_grown hB33 hg35 hB33.size nb
    have hlo76 : w0.heap.size ≤ b44 := lob hbe48 hB75.size
    have hB77 := below_grown hB74 hg51 hB74.size (rowlo hlo76)
    have hx73 : ∀ k, X70 k → X0 k ∨ w0.heap.size ≤ k := fun k hk => (hx71 k hk).2.elim (fun h => hx43 k h) (fun h => .inr (Nat.le_trans hB77.size h))
    clear hlo76 hB75 hB74 hk63 hx62 ap61 hx60 hr59 hk57 ap56 hk55 hg54 hz53 hb52 hz49 hb47 hx43 hx42 ho39 hB33 hg32 hr31 hc29 hk28 hg27 hk26 hg25 hz24 hz18 hz12 hbe11 hb10 hz6 hbe5 hb4
    refine gv_pure 2 [4, 5, 29, 30] (σ' := [(4, (.pointer (some ⟨b13, 0, none⟩))), (5, (.pointer (some ⟨b19, 0, none⟩))), (29, (.agg #[(.bool r58.1.1), (.slice a67 (List.length r58.1.2) c68)])), (30, (.agg #[(.int .i64 r58.2.1), (.int .i64 r58.2.2)]))]) (by kernel_rfl) ?_
    have hg82 := (grown_trans (grown_trans hg21 hg35) hg46)
    have hg83 := (grown_trans hg21 hg35)
    have hk84 := hb16.grown hg83 nb
    have ap85 : ¬ (· = b13) b44 := fun hx => Nat.not_lt_of_le ((lowb hbe48) _ rfl) ((fun k (hk : k = b13) => Nat.lt_of_le_of_lt (Nat.le_of_eq hk) hk84.lt) _ hx)
    have hk86 := ((hb16.grown hg82 nb).grown hg51 (rowne ap85)).grown hg65 nb
    refine gv_store (t := 24) (b := b13) (off := 0) (v := (.agg #[(.bool r58.1.1), (.slice a67 (List.length r58.1.2) c68)])) (t' := 24) (cs := #[(.bool false), (.slice none (List.length ([] : List Int)) 0)]) #[(.bool r58.1.1), (.slice a67 (List.length r58.1.2) c68)] (by decide) (by rfl) (by rfl) (by kernel_rfl) (by kernel_rfl) (by kernel_rfl) (by intro u hu; simp [Value.cells] at hu; rcases hu with rfl | rfl <;> rfl) (show 0 + 2 ≤ 2 by decide) (by rfl) hk86 ?_
    intro w78 hg79 hb80 hz81
    refine ⟨(fun e => by cases e), ?_⟩
    have hg91 := (grown_trans hg35 hg46)
    have hk92 := hb22.grown hg35 nb
    have ap93 : ¬ (· = b19) b44 := fun hx => Nat.not_lt_of_le ((lowb hbe48) _ rfl) ((fun k (hk : k = b19) => Nat.lt_of_le_of_lt (Nat.le_of_eq hk) hk92.lt) _ hx)
    have ap94 : ¬ (· = b19) b13 := fun hx => Nat.not_lt_of_le ((lowb hbe23) _ hx) ((fun k (hk : k = b13) => Nat.lt_of_le_of_lt (Nat.le_of_eq hk) hb16.lt) _ rfl)
    have hk95 := (((hb22.grown hg91 nb).grown hg51 (rowne ap93)).grown hg65 nb).grown hg79 (rowne ap94)
    refine gv_sub [4, 5, 30] (σ' := [(4, (.pointer (some ⟨b13, 0, none⟩))), (5, (.pointer (some ⟨b19, 0, none⟩))), (30, (.agg #[(.int .i64 r58.2.1), (.int .i64 r58.2.2)]))]) (by kernel_rfl) ?_
    refine gv_store (t := 29) (b := b19) (off := 0) (v := (.agg #[(.int .i64 r58.2.1), (.int .i64 r58.2.2)])) (t' := 29) (cs := #[(.int .i64 0), (.int .i64 0)]) #[(.int .i64 r58.2.1), (.int .i64 r58.2.2)] (by decide) (by rfl) (by rfl) (by kernel_rfl) (by kernel_rfl) (by kernel_rfl) (by intro u hu; simp [Value.cells] at hu; rcases hu with rfl | rfl <;> rfl) (show 0 + 2 ≤ 2 by decide) (by rfl) hk95 ?_
    intro w87 hg88 hb89 hz90
    refine ⟨(fun e => by cases e), ?_⟩
    refine gv_sub [4, 5] (σ' := [(4, (.pointer (some ⟨b13, 0, none⟩))), (5, (.pointer (some ⟨b19, 0, none⟩)))]) (by kernel_rfl) ?_
    refine gv_nil ?_
    refine gv_cret ?_
    have e := Option.some.inj h0; subst e
    have ap96 : ¬ (· = b13) b19 := fun hx => Nat.not_lt_of_le ((lowb hbe23) _ rfl) ((fun k (hk : k = b13) => Nat.lt_of_le_of_lt (Nat.le_of_eq hk) hb16.lt) _ hx)
    have hk97 := hb80.grown hg88 (rowne ap96)
    refine gv_ret (gv_done [(.agg #[(.bool r58.1.1), (.slice a67 (List.length r58.1.2) c68)]), (.agg #[(.int .i64 r58.2.1), (.int .i64 r58.2.2)])] rfl ⟨⟨_, rfl, run_loadVar_row w87 b13 _ 24 _ _ _ hk97 Try.underlying24 rfl (by kernel_rfl)⟩, ⟨_, rfl, run_loadVar_row w87 b19 _ 29 _ _ _ hb89 Try.underlying29 rfl (by kernel_rfl)⟩, trivial⟩ ?_)
    have hB98 := below_grown hB77 hg65 hB77.size nb
    have hg99 := (grown_trans hg3 hg9)
    have hB100 := below_grown hB0 hg99 hB0.size nb
    have hlo101 : w0.heap.size ≤ b13 := lob hbe17 hB100.size
    have hB102 := below_grown hB98 hg79 hB98.size (rowlo hlo101)
    have hB103 := below_grown hB100 hg15 hB100.size nb
    have hlo104 : w0.heap.size ≤ b19 := lob hbe23 hB103.size
    have hB105 := below_grown hB102 hg88 hB102.size (rowlo hlo104)
    have hk106 := hb16.grown hg21 nb
    have ap107 : ¬ X40 b13 := fun h => ((hx41 _ h).2.elim (fun h => (h).elim (fun h => ((fun (hx : X0 b13) => Nat.not_lt_of_le hlo101 (hX0 _ hx)))  h) (fun h => ((fun (hx : X0 b13) => Nat.not_lt_of_le hlo101 (hX0 _ hx)))  h)) (fun h => Nat.not_lt_of_le h (hk106.lt)))
    have hk108 := (hk84.grown hg46 nb).grown hg51 (rowne ap85)
    have ap109 : ¬ X70 b13 := fun h => ((hx71 _ h).2.elim (fun h => (ap107)  h) (fun h => Nat.not_lt_of_le h (hk108.lt)))
    have ap110 : ¬ X40 b19 := fun h => ((hx41 _ h).2.elim (fun h => (h).elim (fun h => ((fun (hx : X0 b19) => Nat.not_lt_of_le hlo104 (hX0 _ hx)))  h) (fun h => ((fun (hx : X0 b19) => Nat.not_lt_of_le hlo104 (hX0 _ hx)))  h)) (fun h => Nat.not_lt_of_le h (hb22.lt)))
    have hk111 := (hk92.grown hg46 nb).grown hg51 (rowne ap93)
    have ap112 : ¬ X70 b19 := fun h => ((hx71 _ h).2.elim (fun h => (ap110)  h) (fun h => Nat.not_lt_of_le h (hk111.lt)))
    have hx113 := ltx hx72 hg79.size
    have hk114 := (ho69.grown hg79 hx72 (rowne ap109)).grown hg88 hx113 (rowne ap112)
    have hx115 := ltx hx113 hg88.size
    exact ⟨grown_of_below hB105, a67, c68, X70, rfl, hk114, (fun k hk => ⟨hx115 k hk, hx73 k hk⟩)⟩
  · replace h0 := ite_f hc29 h0
    refine gv_skip ?_
    refine gv_seq ?_
    refine gv_seq ?_
    refine gv_region ?_
    refine gv_pure 1 [2, 3, 4, 5, 32] (σ' := [(2, (.pointer (some ⟨b1, 0, none⟩))), (3, (.pointer (some ⟨b7, 0, none⟩))), (4, (.pointer (some ⟨b13, 0, none⟩))), (5, (.pointer (some ⟨b19, 0, none⟩))), (32, (.pointer (some ⟨b1, 1, none⟩)))]) (by kernel_rfl) ?_
    refine gv_load (t := 22) (A := ⟨b1, 1, none⟩) (.slice pa0_0 (List.length a_0.2) pc0_0) [2, 3, 4, 5, 33] (σ' := [(2, (.pointer (some ⟨b1, 0, none⟩))), (3, (.pointer (some ⟨b7, 0, none⟩))), (4, (.pointer (some ⟨b13, 0, none⟩))), (5, (.pointer (some ⟨b19, 0, none⟩))), (33, (.slice pa0_0 (List.length a_0.2) pc0_0))]) (fun e => by cases e) (by rfl) (by rfl) (by rfl) (by kernel_rfl) (by kernel_rfl) (by kernel_rfl) (inw0 (hk26.cell 1 rfl)) (by kernel_rfl) ?_
    refine gv_pure 1 [2, 3, 4, 5, 33, 34] (σ' := [(2, (.pointer (some ⟨b1, 0, none⟩))), (3, (.pointer (some ⟨b7, 0, none⟩))), (4, (.pointer (some ⟨b13, 0, none⟩))), (5, (.pointer (some ⟨b19, 0, none⟩))), (33, (.slice pa0_0 (List.length a_0.2) pc0_0)), (34, (.pointer (some ⟨b7, 1, none⟩)))]) (by kernel_rfl) ?_
    refine gv_load (t := 22) (A := ⟨b7, 1, none⟩) (.slice pa1_0 (List.length b_1.2) pc1_0) [2, 3, 4, 5, 33, 35] (σ' := [(2, (.pointer (some ⟨b1, 0, none⟩))), (3, (.pointer (some ⟨b7, 0, none⟩))), (4, (.pointer (some ⟨b13, 0, none⟩))), (5, (.pointer (some ⟨b19, 0, none⟩))), (33, (.slice pa0_0 (List.length a_0.2) pc0_0)), (35, (.slice pa1_0 (List.length b_1.2) pc1_0))]) (fun e => by cases e) (by rfl) (by rfl) (by rfl) (by kernel_rfl) (by kernel_rfl) (by kernel_rfl) (inw0 (hk28.cell 1 rfl)) (by kernel_rfl) ?_
    refine bindE h0 ?_; clear h0; intro r116 hr117 h0
    have hg118 := (grown_trans hg3 hg25)
    have hB119 := below_grown hB0 hg118 hB0.size nb
    refine gv_call (f := 63) (vs := [(.slice pa0_0 (List.length a_0.2) pc0_0), (.slice pa1_0 (List.length b_1.2) pc1_0)]) (cap := []) _ (by decide) (by rfl) (by rfl) rfl (by rfl) (by rfl) enters63 (natural_Cmp_ok fuel pa0_0 pc0_0 a_0.2 pa1_0 pc1_0 b_1.2 w20 (fun k => X0 k ∨ X0 k) (fun k hk => (hk).elim (fun h => (fun k (hk : X0 k) => Nat.lt_of_lt_of_le (hX0 k hk) hB119.size) k h) (fun h => (fun k (hk : X0 k) => Nat.lt_of_lt_of_le (hX0 k hk) hB119.size) k h)) ((hpa0_0.below hB119 hX0).wide (fun k hk => (.inl hk))) ((hpa1_0.below hB119 hX0).wide (fun k hk => (.inr hk))) r116 hr117) ?_
    rintro v122 w120 ⟨hg121, rfl⟩
    refine ⟨(fun e => by cases e), ?_⟩
    refine gv_pure 3 [2, 3, 4, 5, 37, 38] (σ' := [(2, (.pointer (some ⟨b1, 0, none⟩))), (3, (.pointer (some ⟨b7, 0, none⟩))), (4, (.pointer (some ⟨b13, 0, none⟩))), (5, (.pointer (some ⟨b19, 0, none⟩))), (37, (.int .i64 r116.1)), (38, (.agg #[(.int .i64 r116.2.1), (.int .i64 r116.2.2)]))]) (by kernel_rfl) ?_
    refine gv_new (fun b => .pointer (some ⟨b, 0, none⟩)) #[(.int .i64 0), (.int .i64 0)] 29 (by decide) (by rfl) (by rfl) (by kernel_rfl) (by kernel_rfl) ?_
    intro b123 w124 hg125 hb126 hbe127 hz128
    refine ⟨(fun e => by cases e), ?_⟩
    refine gv_pure 1 [2, 3, 4, 5, 8, 9, 38] (σ' := [(2, (.pointer (some ⟨b1, 0, none⟩))), (3, (.pointer (some ⟨b7, 0, none⟩))), (4, (.pointer (some ⟨b13, 0, none⟩))), (5, (.pointer (some ⟨b19, 0, none⟩))), (8, (.int .i64 r116.1)), (9, (.pointer (some ⟨b123, 0, none⟩))), (38, (.agg #[(.int .i64 r116.2.1), (.int .i64 r116.2.2)]))]) (by kernel_rfl) ?_
    refine gv_store (t := 29) (b := b123) (off := 0) (v := (.agg #[(.int .i64 r116.2.1), (.int .i64 r116.2.2)])) (t' := 29) (cs := #[(.int .i64 0), (.int .i64 0)]) #[(.int .i64 r116.2.1), (.int .i64 r116.2.2)] (by decide) (by rfl) (by rfl) (by kernel_rfl) (by kernel_rfl) (by kernel_rfl) (by intro u hu; simp [Value.cells] at hu; rcases hu with rfl | rfl <;> rfl) (show 0 + 2 ≤ 2 by decide) (by rfl) hb126 ?_
    intro w129 hg130 hb131 hz132
    refine ⟨(fun e => by cases e), ?_⟩
    refine gv_sub [2, 3, 4, 5, 8] (σ' := [(2, (.pointer (some ⟨b1, 0, none⟩))), (3, (.pointer (some ⟨b7, 0, none⟩))), (4, (.pointer (some ⟨b13, 0, none⟩))), (5, (.pointer (some ⟨b19, 0, none⟩))), (8, (.int .i64 r116.1))]) (by kernel_rfl) ?_
    refine gv_nil ?_
    refine gv_seq ?_
    refine gv_region ?_
    refine gv_pure 2 [2, 3, 4, 5, 40] (σ' := [(2, (.pointer (some ⟨b1, 0, none⟩))), (3, (.pointer (some ⟨b7, 0, none⟩))), (4, (.pointer (some ⟨b13, 0, none⟩))), (5, (.pointer (some ⟨b19, 0, none⟩))), (40, (.bool (decide (r116.1 < 0))))]) (by kernel_rfl) ?_
    refine gv_nil ?_
    refine bindE h0 ?_; clear h0; intro j133 h1 h0
    refine gv_cut_code (J := fun a w134 => ∃ (abb1_0j : Option Addr) (cbb1_0j : Nat), ∃ (abb7_0j : Option Addr) (cbb7_0j : Nat), Below w0.heap.size w0 w134 ∧ w129.heap.size ≤ w134.heap.size ∧ Rd (iE .u32) w0 X0 abb1_0j cbb1_0j j133.1.2 ∧ Rd (iE .u32) w0 X0 abb7_0j cbb7_0j j133.2.2 ∧ Box w134 b1 24 #[(.bool j133.1.1), (.slice abb1_0j (List.length j133.1.2) cbb1_0j)] ∧ Box w134 b7 24 #[(.bool j133.2.1), (.slice abb7_0j (List.length j133.2.2) cbb7_0j)] ∧ Box w134 b13 24 #[(.bool false), (.slice none (List.length ([] : List Int)) 0)] ∧ Box w134 b19 29 #[(.int .i64 0), (.int .i64 0)] ∧ a.defers = [] ∧ a.tmps.size = 57 ∧ Ok [(2, (.pointer (some ⟨b1, 0, none⟩))), (3, (.pointer (some ⟨b7, 0, none⟩))), (4, (.pointer (some ⟨b13, 0, none⟩))), (5, (.pointer (some ⟨b19, 0, none⟩)))] a.tmps) ?_ ?_
    · skip
      refine gv_cond (b := (decide (r116.1 < 0))) (by rfl) (fun hc135 => ?_) (fun hc135 => ?_)
      · replace h1 := ite_t hc135 h1
        refine gv_region ?_
        have hg136 := (grown_trans hg121 hg125)
        have hk137 := hk28.grown hg121 nb
        have ap138 : ¬ (· = b7) b123 := fun hx => Nat.not_lt_of_le ((lowb hbe127) _ rfl) ((fun k (hk : k = b7) => Nat.lt_of_le_of_lt (Nat.le_of_eq hk) hk137.lt) _ hx)
        have hk139 := (hk28.grown hg136 nb).grown hg130 (rowne ap138)
        refine gv_loadBox (t := 24) (b := b7) (t' := 24) (fr := (0, 0)) #[(.bool b_1.1), (.slice pa1_0 (List.length b_1.2) pc1_0)] [2, 3, 4, 5, 41] (σ' := [(2, (.pointer (some ⟨b1, 0, none⟩))), (3, (.pointer (some ⟨b7, 0, none⟩))), (4, (.pointer (some ⟨b13, 0, none⟩))), (5, (.pointer (some ⟨b19, 0, none⟩))), (41, (.agg #[(.bool b_1.1), (.slice pa1_0 (List.length b_1.2) pc1_0)]))]) (fun e => by cases e) (by rfl) (by rfl) (by rfl) (by kernel_rfl) (by kernel_rfl) (by kernel_rfl) (by kernel_rfl) (inw0 hk139) (by kernel_rfl) ?_
        have hk140 := hk26.grown hg121 nb
        have ap141 : ¬ (· = b1) b123 := fun hx => Nat.not_lt_of_le ((lowb hbe127) _ rfl) ((fun k (hk : k = b1) => Nat.lt_of_le_of_lt (Nat.le_of_eq hk) hk140.lt) _ hx)
        have hk142 := (hk26.grown hg136 nb).grown hg130 (rowne ap141)
        refine gv_loadBox (t := 24) (b := b1) (t' := 24) (fr := (0, 0)) #[(.bool a_0.1), (.slice pa0_0 (List.length a_0.2) pc0_0)] [2, 3, 4, 5, 41, 42] (σ' := [(2, (.pointer (some ⟨b1, 0, none⟩))), (3, (.pointer (some ⟨b7, 0, none⟩))), (4, (.pointer (some ⟨b13, 0, none⟩))), (5, (.pointer (some ⟨b19, 0, none⟩))), (41, (.agg #[(.bool b_1.1), (.slice pa1_0 (List.length b_1.2) pc1_0)])), (42, (.agg #[(.bool a_0.1), (.slice pa0_0 (List.length a_0.2) pc0_0)]))]) (fun e => by cases e) (by rfl) (by rfl) (by rfl) (by kernel_rfl) (by kernel_rfl) (by kernel_rfl) (by kernel_rfl) (inw0 hk142) (by kernel_rfl) ?_
        refine gv_store (t := 24) (b := b1) (off := 0) (v := (.agg #[(.bool b_1.1), (.slice pa1_0 (List.length b_1.2) pc1_0)])) (t' := 24) (cs := #[(.bool a_0.1), (.slice pa0_0 (List.length a_0.2) pc0_0)]) #[(.bool b_1.1), (.slice pa1_0 (List.length b_1.2) pc1_0)] (by decide) (by rfl) (by rfl) (by kernel_rfl) (by kernel_rfl) (by kernel_rfl) (by intro u hu; simp [Value.cells] at hu; rcases hu with rfl | rfl <;> rfl) (show 0 + 2 ≤ 2 by decide) (by rfl) hk142 ?_
        intro w143 hg144 hb145 hz146
        refine ⟨(fun e => by cases e), ?_⟩
        have ap151 : ¬ (· = b7) b1 := fun hx => Nat.not_lt_of_le ((lowb hbe11) _ hx) ((fun k (hk : k = b1) => Nat.lt_of_le_of_lt (Nat.le_of_eq hk) hb4.lt) _ rfl)
        have hk152 := hk139.grown hg144 (rowne ap151)
        refine gv_sub [2, 3, 4, 5, 42] (σ' := [(2, (.pointer (some ⟨b1, 0, none⟩))), (3, (.pointer (some ⟨b7, 0, none⟩))), (4, (.pointer (some ⟨b13, 0, none⟩))), (5, (.pointer (some ⟨b19, 0, none⟩))), (42, (.agg #[(.bool a_0.1), (.slice pa0_0 (List.length a_0.2) pc0_0)]))]) (by kernel_rfl) ?_
        refine gv_store (t := 24) (b := b7) (off := 0) (v := (.agg #[(.bool a_0.1), (.slice pa0_0 (List.length a_0.2) pc0_0)])) (t' := 24) (cs := #[(.bool b_1.1), (.slice pa1_0 (List.length b_1.2) pc1_0)]) #[(.bool a_0.1), (.slice pa0_0 (List.length a_0.2) pc0_0)] (by decide) (by rfl) (by rfl) (by kernel_rfl) (by kernel_rfl) (by kernel_rfl) (by intro u hu; simp [Value.cells] at hu; rcases hu with rfl | rfl <;> rfl) (show 0 + 2 ≤ 2 by decide) (by rfl) hk152 ?_
        intro w147 hg148 hb149 hz150
        refine ⟨(fun e => by cases e), ?_⟩
        refine gv_sub [2, 3, 4, 5] (σ' := [(2, (.pointer (some ⟨b1, 0, none⟩))), (3, (.pointer (some ⟨b7, 0, none⟩))), (4, (.pointer (some ⟨b13, 0, none⟩))), (5, (.pointer (some ⟨b19, 0, none⟩)))]) (by kernel_rfl) ?_
        refine gv_nil ?_
        have e := Option.some.inj h1; subst e
        refine gv_goal fun a hd hs hok => ?_
        obtain ⟨q2, q3, q4, q5, _⟩ := hok
        have hB153 := below_grown hB119 hg136 hB119.size nb
        have hB154 := below_grown hB119 hg121 hB119.size nb
        have hlo155 : w0.heap.size ≤ b123 := lob hbe127 hB154.size
        have hB156 := below_grown hB153 hg130 hB153.size (rowlo hlo155)
        have hlo157 : w0.heap.size ≤ b1 := lob hbe5 hB0.size
        have hB158 := below_grown hB156 hg144 hB156.size (rowlo hlo157)
        have hB159 := below_grown hB0 hg3 hB0.size nb
        have hlo160 : w0.heap.size ≤ b7 := lob hbe11 hB159.size
        have hB161 := below_grown hB158 hg148 hB158.size (rowlo hlo160)
        have hz162 : w129.heap.size ≤ w147.heap.size := (Nat.le_trans hg144.size hg148.size)
        have ap163 : ¬ (· = b1) b7 := fun hx => Nat.not_lt_of_le ((lowb hbe11) _ rfl) ((fun k (hk : k = b1) => Nat.lt_of_le_of_lt (Nat.le_of_eq hk) hb4.lt) _ hx)
        have hk164 := hb145.grown hg148 (rowne ap163)
        have hg165 := (grown_trans hg21 hg136)
        have hg166 := (grown_trans hg21 hg121)
        have hk167 := hb16.grown hg166 nb
        have ap168 : ¬ (· = b13) b123 := fun hx => Nat.not_lt_of_le ((lowb hbe127) _ rfl) ((fun k (hk : k = b13) => Nat.lt_of_le_of_lt (Nat.le_of_eq hk) hk167.lt) _ hx)
        have hk169 := hb4.grown hg9 nb
        have ap170 : ¬ (· = b13) b1 := fun hx => Nat.not_lt_of_le ((lowb hbe17) _ hx) ((fun k (hk : k = b1) => Nat.lt_of_le_of_lt (Nat.le_of_eq hk) hk169.lt) _ rfl)
        have ap171 : ¬ (· = b13) b7 := fun hx => Nat.not_lt_of_le ((lowb hbe17) _ hx) ((fun k (hk : k = b7) => Nat.lt_of_le_of_lt (Nat.le_of_eq hk) hb10.lt) _ rfl)
        have hk172 := (((hb16.grown hg165 nb).grown hg130 (rowne ap168)).grown hg144 (rowne ap170)).grown hg148 (rowne ap171)
        have hk173 := hb22.grown hg121 nb
        have ap174 : ¬ (· = b19) b123 := fun hx => Nat.not_lt_of_le ((lowb hbe127) _ rfl) ((fun k (hk : k = b19) => Nat.lt_of_le_of_lt (Nat.le_of_eq hk) hk173.lt) _ hx)
        have hk175 := hk169.grown hg15 nb
        have ap176 : ¬ (· = b19) b1 := fun hx => Nat.not_lt_of_le ((lowb hbe23) _ hx) ((fun k (hk : k = b1) => Nat.lt_of_le_of_lt (Nat.le_of_eq hk) hk175.lt) _ rfl)
        have hk177 := hb10.grown hg15 nb
        have ap178 : ¬ (· = b19) b7 := fun hx => Nat.not_lt_of_le ((lowb hbe23) _ hx) ((fun k (hk : k = b7) => Nat.lt_of_le_of_lt (Nat.le_of_eq hk) hk177.lt) _ rfl)
        have hk179 := (((hb22.grown hg136 nb).grown hg130 (rowne ap174)).grown hg144 (rowne ap176)).grown hg148 (rowne ap178)
        exact ⟨pa1_0, pc1_0, pa0_0, pc0_0, hB161, hz162, hpa1_0, hpa0_0, hk164, hb149, hk172, hk179, hd, hs, ⟨q2, q3, q4, q5, trivial⟩⟩
      · replace h1 := ite_f hc135 h1
        refine gv_skip ?_
        have e := Option.some.inj h1; subst e
        refine gv_goal fun a hd hs hok => ?_
        obtain ⟨q2, q3, q4, q5, q40, _⟩ := hok
        have hg180 := (grown_trans hg121 hg125)
        have hB181 := below_grown hB119 hg180 hB119.size nb
        have hB182 := below_grown hB119 hg121 hB119.size nb
        have hlo183 : w0.heap.size ≤ b123 := lob hbe127 hB182.size
        have hB184 := below_grown hB181 hg130 hB181.size (rowlo hlo183)
        have hk185 := hk26.grown hg121 nb
        have ap186 : ¬ (· = b1) b123 := fun hx => Nat.not_lt_of_le ((lowb hbe127) _ rfl) ((fun k (hk : k = b1) => Nat.lt_of_le_of_lt (Nat.le_of_eq hk) hk185.lt) _ hx)
        have hk187 := (hk26.grown hg180 nb).grown hg130 (rowne ap186)
        have hk188 := hk28.grown hg121 nb
        have ap189 : ¬ (· = b7) b123 := fun hx => Nat.not_lt_of_le ((lowb hbe127) _ rfl) ((fun k (hk : k = b7) => Nat.lt_of_le_of_lt (Nat.le_of_eq hk) hk188.lt) _ hx)
        have hk190 := (hk28.grown hg180 nb).grown hg130 (rowne ap189)
        have hg191 := (grown_trans hg21 hg180)
        have hg192 := (grown_trans hg21 hg121)
        have hk193 := hb16.grown hg192 nb
        have ap194 : ¬ (· = b13) b123 := fun hx => Nat.not_lt_of_le ((lowb hbe127) _ rfl) ((fun k (hk : k = b13) => Nat.lt_of_le_of_lt (Nat.le_of_eq hk) hk193.lt) _ hx)
        have hk195 := (hb16.grown hg191 nb).grown hg130 (rowne ap194)
        have hk196 := hb22.grown hg121 nb
        have ap197 : ¬ (· = b19) b123 := fun hx => Nat.not_lt_of_le ((lowb hbe127) _ rfl) ((fun k (hk : k = b19) => Nat.lt_of_le_of_lt (Nat.le_of_eq hk) hk196.lt) _ hx)
        have hk198 := (hb22.grown hg180 nb).grown hg130 (rowne ap197)
        exact ⟨pa0_0, pc0_0, pa1_0, pc1_0, hB184, (Nat.le_refl _), hpa0_0, hpa1_0, hk187, hk190, hk195, hk198, hd, hs, ⟨q2, q3, q4, q5, trivial⟩⟩
    · rintro a w134 ⟨a201, c202, a203, c204, hB199, hz200, hp205, hp206, hb207, hb208, hb209, hb210, hd, hs, hok⟩
      refine (?_ : Run Try.prog _ 57 _ .normal [(2, (.pointer (some ⟨b1, 0, none⟩))), (3, (.pointer (some ⟨b7, 0, none⟩))), (4, (.pointer (some ⟨b13, 0, none⟩))), (5, (.pointer (some ⟨b19, 0, none⟩)))] w134) a hd hs hok
      clear hd hs hok
      clear hz200 hz132 hb131 hg130 hz128 hbe127 hb126 hg125 hg121 hB119 hg118 hr117 hc29 hk28 hg27 hk26 hg25 hz24 hb22 hg21 hz18 hz12 hz6
      refine gv_seq ?_
      refine gv_region ?_
      refine gv_pure 1 [2, 3, 4, 5, 44] (σ' := [(2, (.pointer (some ⟨b1, 0, none⟩))), (3, (.pointer (some ⟨b7, 0, none⟩))), (4, (.pointer (some ⟨b13, 0, none⟩))), (5, (.pointer (some ⟨b19, 0, none⟩))), (44, (.pointer (some ⟨b1, 1, none⟩)))]) (by kernel_rfl) ?_
      refine gv_load (t := 22) (A := ⟨b1, 1, none⟩) (.slice a201 (List.length j133.1.2) c202) [2, 3, 4, 5, 45] (σ' := [(2, (.pointer (some ⟨b1, 0, none⟩))), (3, (.pointer (some ⟨b7, 0, none⟩))), (4, (.pointer (some ⟨b13, 0, none⟩))), (5, (.pointer (some ⟨b19, 0, none⟩))), (45, (.slice a201 (List.length j133.1.2) c202))]) (fun e => by cases e) (by rfl) (by rfl) (by rfl) (by kernel_rfl) (by kernel_rfl) (by kernel_rfl) (inw0 (hb207.cell 1 rfl)) (by kernel_rfl) ?_
      refine gv_pure 1 [2, 4, 5, 45, 46] (σ' := [(2, (.pointer (some ⟨b1, 0, none⟩))), (4, (.pointer (some ⟨b13, 0, none⟩))), (5, (.pointer (some ⟨b19, 0, none⟩))), (45, (.slice a201 (List.length j133.1.2) c202)), (46, (.pointer (some ⟨b7, 1, none⟩)))]) (by kernel_rfl) ?_
      refine gv_load (t := 22) (A := ⟨b7, 1, none⟩) (.slice a203 (List.length j133.2.2) c204) [2, 4, 5, 45, 47] (σ' := [(2, (.pointer (some ⟨b1, 0, none⟩))), (4, (.pointer (some ⟨b13, 0, none⟩))), (5, (.pointer (some ⟨b19, 0, none⟩))), (45, (.slice a201 (List.length j133.1.2) c202)), (47, (.slice a203 (List.length j133.2.2) c204))]) (fun e => by cases e) (by rfl) (by rfl) (by rfl) (by kernel_rfl) (by kernel_rfl) (by kernel_rfl) (inw0 (hb208.cell 1 rfl)) (by kernel_rfl) ?_
      refine bindE h0 ?_; clear h0; intro r211 hr212 h0
      refine gv_call (f := 74) (vs := [(.slice a201 (List.length j133.1.2) c202), (.slice a203 (List.length j133.2.2) c204)]) (cap := []) _ (by decide) (by rfl) (by rfl) rfl (by rfl) (by rfl) enters74 (natural_Sub_ok fuel a201 c202 j133.1.2 a203 c204 j133.2.2 w134 (fun k => X0 k ∨ X0 k) (fun k hk => (hk).elim (fun h => (fun k (hk : X0 k) => Nat.lt_of_lt_of_le (hX0 k hk) hB199.size) k h) (fun h => (fun k (hk : X0 k) => Nat.lt_of_lt_of_le (hX0 k hk) hB199.size) k h)) ((hp205.below hB199 hX0).wide (fun k hk => (.inl hk))) ((hp206.below hB199 hX0).wide (fun k hk => (.inr hk))) r211 hr212) ?_
      rintro v215 w213 ⟨hg214, a216, c217, X219, rfl, ho218, hx220⟩
      refine ⟨(fun e => by cases e), ?_⟩
      have hx221 : ∀ k, X219 k → k < w213.heap.size := fun k hk => (hx220 k hk).1
      have hx222 : ∀ k, X219 k → X0 k ∨ w0.heap.size ≤ k := fun k hk => (hx220 k hk).2.elim (fun h => (h).elim (fun h => (fun k (hk : X0 k) => Or.inl hk) k h) (fun h => (fun k (hk : X0 k) => Or.inl hk) k h)) (fun h => .inr (Nat.le_trans hB199.size h))
      clear hr212 hb208 hbe11 hb10
      refine gv_pure 3 [2, 4, 5, 49, 50] (σ' := [(2, (.pointer (some ⟨b1, 0, none⟩))), (4, (.pointer (some ⟨b13, 0, none⟩))), (5, (.pointer (some ⟨b19, 0, none⟩))), (49, (.slice a216 (List.length r211.1) c217)), (50, (.agg #[(.int .i64 r211.2.1), (.int .i64 r211.2.2)]))]) (by kernel_rfl) ?_
      refine gv_new (fun b => .pointer (some ⟨b, 0, none⟩)) #[(.int .i64 0), (.int .i64 0)] 29 (by decide) (by rfl) (by rfl) (by kernel_rfl) (by kernel_rfl) ?_
      intro b223 w224 hg225 hb226 hbe227 hz228
      refine ⟨(fun e => by cases e), ?_⟩
      refine gv_pure 1 [2, 4, 5, 10, 11, 50] (σ' := [(2, (.pointer (some ⟨b1, 0, none⟩))), (4, (.pointer (some ⟨b13, 0, none⟩))), (5, (.pointer (some ⟨b19, 0, none⟩))), (10, (.slice a216 (List.length r211.1) c217)), (11, (.pointer (some ⟨b223, 0, none⟩))), (50, (.agg #[(.int .i64 r211.2.1), (.int .i64 r211.2.2)]))]) (by kernel_rfl) ?_
      refine gv_store (t := 29) (b := b223) (off := 0) (v := (.agg #[(.int .i64 r211.2.1), (.int .i64 r211.2.2)])) (t' := 29) (cs := #[(.int .i64 0), (.int .i64 0)]) #[(.int .i64 r211.2.1), (.int .i64 r211.2.2)] (by decide) (by rfl) (by rfl) (by kernel_rfl) (by kernel_rfl) (by kernel_rfl) (by intro u hu; simp [Value.cells] at hu; rcases hu with rfl | rfl <;> rfl) (show 0 + 2 ≤ 2 by decide) (by rfl) hb226 ?_
      intro w229 hg230 hb231 hz232
      refine ⟨(fun e => by cases e), ?_⟩
      refine gv_sub [2, 4, 5, 10] (σ' := [(2, (.pointer (some ⟨b1, 0, none⟩))), (4, (.pointer (some ⟨b13, 0, none⟩))), (5, (.pointer (some ⟨b19, 0, none⟩))), (10, (.slice a216 (List.length r211.1) c217))]) (by kernel_rfl) ?_
      refine gv_nil ?_
      refine gv_seq ?_
      refine gv_region ?_
      refine gv_pure 1 [4, 5, 10, 51] (σ' := [(4, (.pointer (some ⟨b13, 0, none⟩))), (5, (.pointer (some ⟨b19, 0, none⟩))), (10, (.slice a216 (List.length r211.1) c217)), (51, (.pointer (some ⟨b1, 0, none⟩)))]) (by kernel_rfl) ?_
      have hg233 := (grown_trans hg214 hg225)
      have hk234 := hb207.grown hg214 nb
      have ap235 : ¬ (· = b1) b223 := fun hx => Nat.not_lt_of_le ((lowb hbe227) _ rfl) ((fun k (hk : k = b1) => Nat.lt_of_le_of_lt (Nat.le_of_eq hk) hk234.lt) _ hx)
      have hk236 := (hb207.grown hg233 nb).grown hg230 (rowne ap235)
      refine gv_load (t := 4) (A := ⟨b1, 0, none⟩) (.bool j133.1.1) [4, 5, 10, 52] (σ' := [(4, (.pointer (some ⟨b13, 0, none⟩))), (5, (.pointer (some ⟨b19, 0, none⟩))), (10, (.slice a216 (List.length r211.1) c217)), (52, (.bool j133.1.1))]) (fun e => by cases e) (by rfl) (by rfl) (by rfl) (by kernel_rfl) (by kernel_rfl) (by kernel_rfl) (inw0 (hk236.cell 0 rfl)) (by kernel_rfl) ?_
      refine gv_pure 1 [4, 5, 52, 53] (σ' := [(4, (.pointer (some ⟨b13, 0, none⟩))), (5, (.pointer (some ⟨b19, 0, none⟩))), (52, (.bool j133.1.1)), (53, (.slice a216 (List.length r211.1) c217))]) (by kernel_rfl) ?_
      refine bindE h0 ?_; clear h0; intro r237 hr238 h0
      have hx239 := ltx (ltx hx221 hg225.size) hg230.size
      have ap240 : ¬ X219 b223 := fun hx => Nat.not_lt_of_le ((lowb hbe227) _ rfl) (hx221 _ hx)
      have hx241 := ltx hx221 hg225.size
      have hk242 := (ho218.grown hg225 hx221 nb).grown hg230 hx241 (rowne ap240)
      refine gv_call (f := 73) (vs := [(.bool j133.1.1), (.slice a216 (List.length r211.1) c217)]) (cap := []) _ (by decide) (by rfl) (by rfl) rfl (by rfl) (by rfl) enters73 (integer_signed_ok fuel j133.1.1 a216 c217 r211.1 w229 (fun k => X219 k) (fun k hk => hx239 k hk) (hk242.wide (fun k hk => hk)) r237 hr238) ?_
      rintro v245 w243 ⟨hg244, a246, c247, X249, rfl, ho248, hx250⟩
      refine ⟨(fun e => by cases e), ?_⟩
      have hx251 : ∀ k, X249 k → k < w243.heap.size := fun k hk => (hx250 k hk).1
      have hB253 := below_grown hB199 hg233 hB199.size nb
      have hB254 := below_grown hB199 hg214 hB199.size nb
      have hlo255 : w0.heap.size ≤ b223 := lob hbe227 hB254.size
      have hB256 := below_grown hB253 hg230 hB253.size (rowlo hlo255)
      have hx252 : ∀ k, X249 k → X0 k ∨ w0.heap.size ≤ k := fun k hk => (hx250 k hk).2.elim (fun h => hx222 k h) (fun h => .inr (Nat.le_trans hB256.size h))
      refine gv_pure 2 [4, 5, 55, 56] (σ' := [(4, (.pointer (some ⟨b13, 0, none⟩))), (5, (.pointer (some ⟨b19, 0, none⟩))), (55, (.agg #[(.bool r237.1.1), (.slice a246 (List.length r237.1.2) c247)])), (56, (.agg #[(.int .i64 r237.2.1), (.int .i64 r237.2.2)]))]) (by kernel_rfl) ?_
      have hk261 := hb209.grown hg214 nb
      have ap262 : ¬ (· = b13) b223 := fun hx => Nat.not_lt_of_le ((lowb hbe227) _ rfl) ((fun k (hk : k = b13) => Nat.lt_of_le_of_lt (Nat.le_of_eq hk) hk261.lt) _ hx)
      have hk263 := ((hb209.grown hg233 nb).grown hg230 (rowne ap262)).grown hg244 nb
      refine gv_store (t := 24) (b := b13) (off := 0) (v := (.agg #[(.bool r237.1.1), (.slice a246 (List.length r237.1.2) c247)])) (t' := 24) (cs := #[(.bool false), (.slice none (List.length ([] : List Int)) 0)]) #[(.bool r237.1.1), (.slice a246 (List.length r237.1.2) c247)] (by decide) (by rfl) (by rfl) (by kernel_rfl) (by kernel_rfl) (by kernel_rfl) (by intro u hu; simp [Value.cells] at hu; rcases hu with rfl | rfl <;> rfl) (show 0 + 2 ≤ 2 by decide) (by rfl) hk263 ?_
      intro w257 hg258 hb259 hz260
      refine ⟨(fun e => by cases e), ?_⟩
      have hk268 := hb210.grown hg214 nb
      have ap269 : ¬ (· = b19) b223 := fun hx => Nat.not_lt_of_le ((lowb hbe227) _ rfl) ((fun k (hk : k = b19) => Nat.lt_of_le_of_lt (Nat.le_of_eq hk) hk268.lt) _ hx)
      have ap270 : ¬ (· = b19) b13 := fun hx => Nat.not_lt_of_le ((lowb hbe23) _ hx) ((fun k (hk : k = b13) => Nat.lt_of_le_of_lt (Nat.le_of_eq hk) hb16.lt) _ rfl)
      have hk271 := (((hb210.grown hg233 nb).grown hg230 (rowne ap269)).grown hg244 nb).grown hg258 (rowne ap270)
      refine gv_sub [4, 5, 56] (σ' := [(4, (.pointer (some ⟨b13, 0, none⟩))), (5, (.pointer (some ⟨b19, 0, none⟩))), (56, (.agg #[(.int .i64 r237.2.1), (.int .i64 r237.2.2)]))]) (by kernel_rfl) ?_
      refine gv_store (t := 29) (b := b19) (off := 0) (v := (.agg #[(.int .i64 r237.2.1), (.int .i64 r237.2.2)])) (t' := 29) (cs := #[(.int .i64 0), (.int .i64 0)]) #[(.int .i64 r237.2.1), (.int .i64 r237.2.2)] (by decide) (by rfl) (by rfl) (by kernel_rfl) (by kernel_rfl) (by kernel_rfl) (by intro u hu; simp [Value.cells] at hu; rcases hu with rfl | rfl <;> rfl) (show 0 + 2 ≤ 2 by decide) (by rfl) hk271 ?_
      intro w264 hg265 hb266 hz267
      refine ⟨(fun e => by cases e), ?_⟩
      refine gv_sub [4, 5] (σ' := [(4, (.pointer (some ⟨b13, 0, none⟩))), (5, (.pointer (some ⟨b19, 0, none⟩)))]) (by kernel_rfl) ?_
      refine gv_nil ?_
      refine gv_cret ?_
      have e := Option.some.inj h0; subst e
      have ap272 : ¬ (· = b13) b19 := fun hx => Nat.not_lt_of_le ((lowb hbe23) _ rfl) ((fun k (hk : k = b13) => Nat.lt_of_le_of_lt (Nat.le_of_eq hk) hb16.lt) _ hx)
      have hk273 := hb259.grown hg265 (rowne ap272)
      refine gv_ret (gv_done [(.agg #[(.bool r237.1.1), (.slice a246 (List.length r237.1.2) c247)]), (.agg #[(.int .i64 r237.2.1), (.int .i64 r237.2.2)])] rfl ⟨⟨_, rfl, run_loadVar_row w264 b13 _ 24 _ _ _ hk273 Try.underlying24 rfl (by kernel_rfl)⟩, ⟨_, rfl, run_loadVar_row w264 b19 _ 29 _ _ _ hb266 Try.underlying29 rfl (by kernel_rfl)⟩, trivial⟩ ?_)
      have hB274 := below_grown hB256 hg244 hB256.size nb
      have hg275 := (grown_trans hg3 hg9)
      have hB276 := below_grown hB0 hg275 hB0.size nb
      have hlo277 : w0.heap.size ≤ b13 := lob hbe17 hB276.size
      have hB278 := below_grown hB274 hg258 hB274.size (rowlo hlo277)
      have hB279 := below_grown hB276 hg15 hB276.size nb
      have hlo280 : w0.heap.size ≤ b19 := lob hbe23 hB279.size
      have hB281 := below_grown hB278 hg265 hB278.size (rowlo hlo280)
      have ap282 : ¬ X219 b13 := fun h => ((hx220 _ h).2.elim (fun h => (h).elim (fun h => ((fun (hx : X0 b13) => Nat.not_lt_of_le hlo277 (hX0 _ hx)))  h) (fun h => ((fun (hx : X0 b13) => Nat.not_lt_of_le hlo277 (hX0 _ hx)))  h)) (fun h => Nat.not_lt_of_le h (hb209.lt)))
      have hk283 := (hk261.grown hg225 nb).grown hg230 (rowne ap262)
      have ap284 : ¬ X249 b13 := fun h => ((hx250 _ h).2.elim (fun h => (ap282)  h) (fun h => Nat.not_lt_of_le h (hk283.lt)))
      have ap285 : ¬ X219 b19 := fun h => ((hx220 _ h).2.elim (fun h => (h).elim (fun h => ((fun (hx : X0 b19) => Nat.not_lt_of_le hlo280 (hX0 _ hx)))  h) (fun h => ((fun (hx : X0 b19) => Nat.not_lt_of_le hlo280 (hX0 _ hx)))  h)) (fun h => Nat.not_lt_of_le h (hb210.lt)))
      have hk286 := (hk268.grown hg225 nb).grown hg230 (rowne ap269)
      have ap287 : ¬ X249 b19 := fun h => ((hx250 _ h).2.elim (fun h => (ap285)  h) (fun h => Nat.not_lt_of_le h (hk286.lt)))
      have hx288 := ltx hx251 hg258.size
      have hk289 := (ho248.grown hg258 hx251 (rowne ap284)).grown hg265 hx288 (rowne ap287)
      have hx290 := ltx hx288 hg265.size
      exact ⟨grown_of_below hB281, a246, c247, X249, rfl, hk289, (fun k hk => ⟨hx290 k hk, hx252 k hk⟩)⟩

set_option maxHeartbeats 4000000 in
set_option maxRecDepth 100000 in
theorem integer_Sub_ok (fuel : Nat) (pa0_0 : Option Addr) (pc0_0 : Nat) (a_0 : (Bool × (List Int))) (pa1_0 : Option Addr) (pc1_0 : Nat) (b_1 : (Bool × (List Int))) (w0 : World) (X0 : Nat → Prop) (hX0 : ∀ k, X0 k → k < w0.heap.size) (hpa0_0 : Rd (iE .u32) w0 X0 pa0_0 pc0_0 a_0.2) (hpa1_0 : Rd (iE .u32) w0 X0 pa1_0 pc1_0 b_1.2) (r0 : ((Bool × (List Int)) × (Int × Int))) (h0 : integer_Sub fuel a_0 b_1 = some r0) :
    Calls Try.prog 45 ([(.agg #[(.bool a_0.1), (.slice pa0_0 (List.length a_0.2) pc0_0)]), (.agg #[(.bool b_1.1), (.slice pa1_0 (List.length b_1.2) pc1_0)])] : List Value).toArray w0 (Ret fun v w' => w0.grownBy w' none ∧ ∃ (a0_0r : Option Addr) (c0_0r : Nat), ∃ (X0_0r : Nat → Prop), v = tup [(.agg #[(.bool r0.1.1), (.slice a0_0r (List.length r0.1.2) c0_0r)]), (.agg #[(.int .i64 r0.2.1), (.int .i64 r0.2.2)])] ∧ Rd (iE .u32) w' X0_0r a0_0r c0_0r r0.1.2 ∧ (∀ k, X0_0r k → k < w'.heap.size ∧ (X0 k ∨ w0.heap.size ≤ k))) := by
  have hB0 : Below w0.heap.size w0 w0 := Below.refl _ _
  unfold integer_Sub at h0
  refine calls_run Try.func45 rfl Try.ntmps45 (by kernel_rfl) ?_
  refine gv_sub [0, 1] (σ' := [(0, (.agg #[(.bool a_0.1), (.slice pa0_0 (List.length a_0.2) pc0_0)])), (1, (.agg #[(.bool b_1.1), (.slice pa1_0 (List.length b_1.2) pc1_0)]))]) (by kernel_rfl) ?_
  refine gv_seq ?_
  refine gv_region ?_
  refine gv_new (fun b => .pointer (some ⟨b, 0, none⟩)) #[(.bool a_0.1), (.slice pa0_0 (List.length a_0.2) pc0_0)] 24 (by decide) (by rfl) (by rfl) (by kernel_rfl) (by kernel_rfl) ?_
  intro b1 w2 hg3 hb4 hbe5 hz6
  refine ⟨(fun e => by cases e), ?_⟩
  refine gv_sub [1, 2] (σ' := [(1, (.agg #[(.bool b_1.1), (.slice pa1_0 (List.length b_1.2) pc1_0)])), (2, (.pointer (some ⟨b1, 0, none⟩)))]) (by kernel_rfl) ?_
  refine gv_new (fun b => .pointer (some ⟨b, 0, none⟩)) #[(.bool b_1.1), (.slice pa1_0 (List.length b_1.2) pc1_0)] 24 (by decide) (by rfl) (by rfl) (by kernel_rfl) (by kernel_rfl) ?_
  intro b7 w8 hg9 hb10 hbe11 hz12
  refine ⟨(fun e => by cases e), ?_⟩
  refine gv_sub [2, 3] (σ' := [(2, (.pointer (some ⟨b1, 0, none⟩))), (3, (.pointer (some ⟨b7, 0, none⟩)))]) (by kernel_rfl) ?_
  refine gv_new (fun b => .pointer (some ⟨b, 0, none⟩)) #[(.bool false), (.slice none (List.length ([] : List Int)) 0)] 24 (by decide) (by rfl) (by rfl) (by kernel_rfl) (by kernel_rfl) ?_
  intro b13 w14 hg15 hb16 hbe17 hz18
  refine ⟨(fun e => by cases e), ?_⟩
  refine gv_sub [2, 3, 4] (σ' := [(2, (.pointer (some ⟨b1, 0, none⟩))), (3, (.pointer (some ⟨b7, 0, none⟩))), (4, (.pointer (some ⟨b13, 0, none⟩)))]) (by kernel_rfl) ?_
  refine gv_new (fun b => .pointer (some ⟨b, 0, none⟩)) #[(.int .i64 0), (.int .i64 0)] 29 (by decide) (by rfl) (by rfl) (by kernel_rfl) (by kernel_rfl) ?_
  intro b19 w20 hg21 hb22 hbe23 hz24
  refine ⟨(fun e => by cases e), ?_⟩
  refine gv_sub [2, 3, 4, 5] (σ' := [(2, (.pointer (some ⟨b1, 0, none⟩))), (3, (.pointer (some ⟨b7, 0, none⟩))), (4, (.pointer (some ⟨b13, 0, none⟩))), (5, (.pointer (some ⟨b19, 0, none⟩)))]) (by kernel_rfl) ?_
  refine gv_nil ?_
  refine gv_seq ?_
  refine gv_seq ?_
  refine gv_region ?_
  have hg25 := (grown_trans (grown_trans hg9 hg15) hg21)
  have hk26 := hb4.grown hg25 nb
  refine gv_loadBox (t := 24) (b := b1) (t' := 24) (fr := (0, 0)) #[(.bool a_0.1), (.slice pa0_0 (List.length a_0.2) pc0_0)] [2, 3, 4, 5, 7] (σ' := [(2, (.pointer (some ⟨b1, 0, none⟩))), (3, (.pointer (some ⟨b7, 0, none⟩))), (4, (.pointer (some ⟨b13, 0, none⟩))), (5, (.pointer (some ⟨b19, 0, none⟩))), (7, (.agg #[(.bool a_0.1), (.slice pa0_0 (List.length a_0.2) pc0_0)]))]) (fun e => by cases e) (by rfl) (by rfl) (by rfl) (by kernel_rfl) (by kernel_rfl) (by kernel_rfl) (by kernel_rfl) (inw0 hk26) (by kernel_rfl) ?_
  have hg27 := (grown_trans hg15 hg21)
  have hk28 := hb10.grown hg27 nb
  refine gv_loadBox (t := 24) (b := b7) (t' := 24) (fr := (0, 0)) #[(.bool b_1.1), (.slice pa1_0 (List.length b_1.2) pc1_0)] [2, 3, 4, 5, 7, 8] (σ' := [(2, (.pointer (some ⟨b1, 0, none⟩))), (3, (.pointer (some ⟨b7, 0, none⟩))), (4, (.pointer (some ⟨b13, 0, none⟩))), (5, (.pointer (some ⟨b19, 0, none⟩))), (7, (.agg #[(.bool a_0.1), (.slice pa0_0 (List.length a_0.2) pc0_0)])), (8, (.agg #[(.bool b_1.1), (.slice pa1_0 (List.length b_1.2) pc1_0)]))]) (fun e => by cases e) (by rfl) (by rfl) (by rfl) (by kernel_rfl) (by kernel_rfl) (by kernel_rfl) (by kernel_rfl) (inw0 hk28) (by kernel_rfl) ?_
  refine gv_new (fun b => .slice (some ⟨b, 0, none⟩) 2 2) #[(.bool a_0.1), (.slice pa0_0 (List.length a_0.2) pc0_0), (.bool b_1.1), (.slice pa1_0 (List.length b_1.2) pc1_0)] 24 (by decide) (by rfl) (by rfl) (by kernel_rfl) (by kernel_rfl) ?_
  intro b29 w30 hg31 hb32 hbe33 hz34
  refine ⟨(fun e => by cases e), ?_⟩
  obtain ⟨X40, e⟩ : ∃ X : Nat → Prop, X = (fun k => X0 k) := ⟨_, rfl⟩
  have hg41 := (grown_trans hg3 hg25)
  have hB42 := below_grown hB0 hg41 hB0.size nb
  have hx38 : ∀ k, X40 k → k < w20.heap.size := fun k h => by rw [e] at h; exact (fun k (hk : X0 k) => Nat.lt_of_lt_of_le (hX0 k hk) hB42.size) k h
  have hz43 : w20.heap.size ≤ w30.heap.size := hg31.size
  have hx37 : ∀ k, X40 k → k < w30.heap.size := fun k h => Nat.lt_of_lt_of_le (hx38 k h) hz43
  have hx39 : ∀ k, X40 k → X0 k ∨ w0.heap.size ≤ k := fun k h => by rw [e] at h; exact (fun k (hk : X0 k) => Or.inl hk) k h
  have hB44 := below_grown hB42 hg31 hB42.size nb
  have ho35 : Own (prE tE (slE (iE .u32))) 24 w30 X40 (some ⟨b29, 0, none⟩) 2 ([(a_0.1, a_0.2), (b_1.1, b_1.2)] : List (Bool × (List Int))) := Box.ownE hb32 (by rw [e]; exact ⟨[(.bool a_0.1), (.slice pa0_0 (List.length a_0.2) pc0_0)], [(.bool b_1.1), (.slice pa1_0 (List.length b_1.2) pc1_0)], rfl, ⟨[(.bool a_0.1)], [(.slice pa0_0 (List.length a_0.2) pc0_0)], rfl, rfl, ⟨pa0_0, pc0_0, rfl, ((hpa0_0.below hB44 hX0).wide (fun _ h => h))⟩⟩, ⟨[(.bool b_1.1), (.slice pa1_0 (List.length b_1.2) pc1_0)], [], rfl, ⟨[(.bool b_1.1)], [(.slice pa1_0 (List.length b_1.2) pc1_0)], rfl, rfl, ⟨pa1_0, pc1_0, rfl, ((hpa1_0.below hB44 hX0).wide (fun _ h => h))⟩⟩, rfl⟩⟩) (show 2 ≤ maxLen by decide) (fun h => noteq hbe33 (hx38 _ h))
  have hx45 : ∀ k, X40 k → (fun k => X0 k) k := fun k h => by rw [e] at h; exact h
  clear e
  have hl36 : ∀ g, blk (some ⟨b29, 0, none⟩) = some g → w0.heap.size ≤ g := loo hbe33 hB42.size
  have ap46 : ∀ g, blk (some ⟨b29, 0, none⟩) = some g → ¬ (· = b1) g := fun g e hx => Nat.not_lt_of_le (lowo hbe33 g e) ((fun k (hk : k = b1) => Nat.lt_of_le_of_lt (Nat.le_of_eq hk) hk26.lt) _ hx)
  have hlo48 : w0.heap.size ≤ b1 := lob hbe5 hB0.size
  have ap47 : ¬ (fun k => blk (some ⟨b29, 0, none⟩) = some k ∨ X40 k) b1 := fun h => h.elim (fun h => Nat.not_lt_of_le (lowo hbe33 _ h) ((fun k (hk : k = b1) => Nat.lt_of_le_of_lt (Nat.le_of_eq hk) hk26.lt) _ rfl)) (fun h => ((fun (hx : X0 b1) => Nat.not_lt_of_le hlo48 (hX0 _ hx)))  (hx45 _ h))
  have ap49 : ∀ g, blk (some ⟨b29, 0, none⟩) = some g → ¬ (· = b7) g := fun g e hx => Nat.not_lt_of_le (lowo hbe33 g e) ((fun k (hk : k = b7) => Nat.lt_of_le_of_lt (Nat.le_of_eq hk) hk28.lt) _ hx)
  have hB51 := below_grown hB0 hg3 hB0.size nb
  have hlo52 : w0.heap.size ≤ b7 := lob hbe11 hB51.size
  have ap50 : ¬ (fun k => blk (some ⟨b29, 0, none⟩) = some k ∨ X40 k) b7 := fun h => h.elim (fun h => Nat.not_lt_of_le (lowo hbe33 _ h) ((fun k (hk : k = b7) => Nat.lt_of_le_of_lt (Nat.le_of_eq hk) hk28.lt) _ rfl)) (fun h => ((fun (hx : X0 b7) => Nat.not_lt_of_le hlo52 (hX0 _ hx)))  (hx45 _ h))
  have hk54 := hb16.grown hg21 nb
  have ap53 : ∀ g, blk (some ⟨b29, 0, none⟩) = some g → ¬ (· = b13) g := fun g e hx => Nat.not_lt_of_le (lowo hbe33 g e) ((fun k (hk : k = b13) => Nat.lt_of_le_of_lt (Nat.le_of_eq hk) hk54.lt) _ hx)
  have hB56 := below_grown hB51 hg9 hB51.size nb
  have hlo57 : w0.heap.size ≤ b13 := lob hbe17 hB56.size
  have ap55 : ¬ (fun k => blk (some ⟨b29, 0, none⟩) = some k ∨ X40 k) b13 := fun h => h.elim (fun h => Nat.not_lt_of_le (lowo hbe33 _ h) ((fun k (hk : k = b13) => Nat.lt_of_le_of_lt (Nat.le_of_eq hk) hk54.lt) _ rfl)) (fun h => ((fun (hx : X0 b13) => Nat.not_lt_of_le hlo57 (hX0 _ hx)))  (hx45 _ h))
  have ap58 : ∀ g, blk (some ⟨b29, 0, none⟩) = some g → ¬ (· = b19) g := fun g e hx => Nat.not_lt_of_le (lowo hbe33 g e) ((fun k (hk : k = b19) => Nat.lt_of_le_of_lt (Nat.le_of_eq hk) hb22.lt) _ hx)
  have hB60 := below_grown hB56 hg15 hB56.size nb
  have hlo61 : w0.heap.size ≤ b19 := lob hbe23 hB60.size
  have ap59 : ¬ (fun k => blk (some ⟨b29, 0, none⟩) = some k ∨ X40 k) b19 := fun h => h.elim (fun h => Nat.not_lt_of_le (lowo hbe33 _ h) ((fun k (hk : k = b19) => Nat.lt_of_le_of_lt (Nat.le_of_eq hk) hb22.lt) _ rfl)) (fun h => ((fun (hx : X0 b19) => Nat.not_lt_of_le hlo61 (hX0 _ hx)))  (hx45 _ h))
  refine gv_sub [2, 3, 4, 5, 9] (σ' := [(2, (.pointer (some ⟨b1, 0, none⟩))), (3, (.pointer (some ⟨b7, 0, none⟩))), (4, (.pointer (some ⟨b13, 0, none⟩))), (5, (.pointer (some ⟨b19, 0, none⟩))), (9, (.slice (some ⟨b29, 0, none⟩) (List.length ([(a_0.1, a_0.2), (b_1.1, b_1.2)] : List (Bool × (List Int)))) 2))]) (by kernel_rfl) ?_
  refine bindE h0 ?_; clear h0; intro r62 hr63 h0
  refine gv_call (f := 62) (vs := [(.slice (some ⟨b29, 0, none⟩) (List.length ([(a_0.1, a_0.2), (b_1.1, b_1.2)] : List (Bool × (List Int)))) 2)]) (cap := []) _ (by decide) (by rfl) (by rfl) rfl (by rfl) (by rfl) enters62 (integer_check_ok fuel (some ⟨b29, 0, none⟩) 2 ([(a_0.1, a_0.2), (b_1.1, b_1.2)] : List (Bool × (List Int))) w30 (fun k => (fun k => blk (some ⟨b29, 0, none⟩) = some k ∨ X40 k) k) (fun k hk => (fun k (hk : blk (some ⟨b29, 0, none⟩) = some k ∨ X40 k) => hk.elim (fun h => ho35.lt k h) (fun h => hx37 k h)) k hk) ((ho35.rd (Y := fun k => blk (some ⟨b29, 0, none⟩) = some k ∨ X40 k) (fun _ h => .inr h) (fun g e => .inl e)).wide (fun k hk => hk)) r62 hr63) ?_
  rintro v66 w64 ⟨hg65, rfl⟩
  refine ⟨(fun e => by cases e), ?_⟩
  refine gv_sub [2, 3, 4, 5, 10] (σ' := [(2, (.pointer (some ⟨b1, 0, none⟩))), (3, (.pointer (some ⟨b7, 0, none⟩))), (4, (.pointer (some ⟨b13, 0, none⟩))), (5, (.pointer (some ⟨b19, 0, none⟩))), (10, (.agg #[(.int .i64 r62.1), (.int .i64 r62.2)]))]) (by kernel_rfl) ?_
  refine gv_new (fun b => .pointer (some ⟨b, 0, none⟩)) #[(.int .i64 0), (.int .i64 0)] 29 (by decide) (by rfl) (by rfl) (by kernel_rfl) (by kernel_rfl) ?_
  intro b67 w68 hg69 hb70 hbe71 hz72
  refine ⟨(fun e => by cases e), ?_⟩
  refine gv_sub [2, 3, 4, 5, 6, 10] (σ' := [(2, (.pointer (some ⟨b1, 0, none⟩))), (3, (.pointer (some ⟨b7, 0, none⟩))), (4, (.pointer (some ⟨b13, 0, none⟩))), (5, (.pointer (some ⟨b19, 0, none⟩))), (6, (.pointer (some ⟨b67, 0, none⟩))), (10, (.agg #[(.int .i64 r62.1), (.int .i64 r62.2)]))]) (by kernel_rfl) ?_
  refine gv_store (t := 29) (b := b67) (off := 0) (v := (.agg #[(.int .i64 r62.1), (.int .i64 r62.2)])) (t' := 29) (cs := #[(.int .i64 0), (.int .i64 0)]) #[(.int .i64 r62.1), (.int .i64 r62.2)] (by decide) (by rfl) (by rfl) (by kernel_rfl) (by kernel_rfl) (by kernel_rfl) (by intro u hu; simp [Value.cells] at hu; rcases hu with rfl | rfl <;> rfl) (show 0 + 2 ≤ 2 by decide) (by rfl) hb70 ?_
  intro w73 hg74 hb75 hz76
  refine ⟨(fun e => by cases e), ?_⟩
  clear hz76 hz72 hb70 hr63 ap59 hB60 ap58 ap55 hB56 ap53 ap50 hB51 ap49 ap47 ap46 hl36 hx45 ho35 hx39 hx37 hz43 hx38 hB42 hg41 hz34 hbe33 hb32 hg27 hg25 hz24 hg21 hz18 hz12 hz6 hbe5 hg3
  refine gv_sub [2, 3, 4, 5, 6] (σ' := [(2, (.pointer (some ⟨b1, 0, none⟩))), (3, (.pointer (some ⟨b7, 0, none⟩))), (4, (.pointer (some ⟨b13, 0, none⟩))), (5, (.pointer (some ⟨b19, 0, none⟩))), (6, (.pointer (some ⟨b67, 0, none⟩)))]) (by kernel_rfl) ?_
  refine gv_nil ?_
  refine gv_seq ?_
  refine gv_region ?_
  refine gv_pure 1 [2, 3, 4, 5, 6, 11] (σ' := [(2, (.pointer (some ⟨b1, 0, none⟩))), (3, (.pointer (some ⟨b7, 0, none⟩))), (4, (.pointer (some ⟨b13, 0, none⟩))), (5, (.pointer (some ⟨b19, 0, none⟩))), (6, (.pointer (some ⟨b67, 0, none⟩))), (11, (.pointer (some ⟨b67, 0, none⟩)))]) (by kernel_rfl) ?_
  refine gv_load (t := 3) (A := ⟨b67, 0, none⟩) (.int .i64 r62.1) [2, 3, 4, 5, 6, 12] (σ' := [(2, (.pointer (some ⟨b1, 0, none⟩))), (3, (.pointer (some ⟨b7, 0, none⟩))), (4, (.pointer (some ⟨b13, 0, none⟩))), (5, (.pointer (some ⟨b19, 0, none⟩))), (6, (.pointer (some ⟨b67, 0, none⟩))), (12, (.int .i64 r62.1))]) (fun e => by cases e) (by rfl) (by rfl) (by rfl) (by kernel_rfl) (by kernel_rfl) (by kernel_rfl) (inw0 (hb75.cell 0 rfl)) (by kernel_rfl) ?_
  refine gv_pure 1 [2, 3, 4, 5, 6, 13] (σ' := [(2, (.pointer (some ⟨b1, 0, none⟩))), (3, (.pointer (some ⟨b7, 0, none⟩))), (4, (.pointer (some ⟨b13, 0, none⟩))), (5, (.pointer (some ⟨b19, 0, none⟩))), (6, (.pointer (some ⟨b67, 0, none⟩))), (13, (.bool (r62.1 != 0)))]) (by kernel_rfl) ?_
  refine gv_nil ?_
  refine gv_cond (b := (r62.1 != 0)) (by rfl) (fun hc77 => ?_) (fun hc77 => ?_)
  · replace h0 := ite_t hc77 h0
    refine gv_seq ?_
    refine gv_drawA (by kernel_rfl) ?_
    intro w78 hg79
    refine gv_pre [0] #[true, false, false, false] 3 (by kernel_rfl) (by rfl) ?_
    refine gv_pure 1 [4, 5, 6, 14] (σ' := [(4, (.pointer (some ⟨b13, 0, none⟩))), (5, (.pointer (some ⟨b19, 0, none⟩))), (6, (.pointer (some ⟨b67, 0, none⟩))), (14, (.agg #[(.bool false), (.slice none (List.length ([] : List Int)) 0)]))]) (by kernel_rfl) ?_
    refine gv_nil ?_
    refine gv_goal fun a hd hs hok => ?_
    refine (?_ : RunA Try.prog _ 26 _ _ 3 #[true, false, false, false] [(4, (.pointer (some ⟨b13, 0, none⟩))), (5, (.pointer (some ⟨b19, 0, none⟩))), (6, (.pointer (some ⟨b67, 0, none⟩))), (14, (.agg #[(.bool false), (.slice none (List.length ([] : List Int)) 0)]))] w78) a hd hs hok
    clear hd hs hok
    refine gv_stage (Cls w78 [b13]) [0, 1, 2] [(1, some true), (2, some false)] #[true, true, true, false] 1 (by kernel_rfl) (by rfl) (Cls.refl _ _) ?_
    have hC80 := Cls.refl w78 [b13]
    have hk81 := hb75.grown hg79 nb
    have hg82 := (grown_trans hg31 hg65)
    have hk83 := hk54.grown hg82 nb
    have ap84 : ¬ (· = b13) b67 := fun hx => Nat.not_lt_of_le ((lowb hbe71) _ rfl) ((fun k (hk : k = b13) => Nat.lt_of_le_of_lt (Nat.le_of_eq hk) hk83.lt) _ hx)
    refine gv_loadBox (t := 29) (b := b67) (t' := 29) (fr := (0, 0)) #[(.int .i64 r62.1), (.int .i64 r62.2)] [4, 5, 14, 15] (σ' := [(4, (.pointer (some ⟨b13, 0, none⟩))), (5, (.pointer (some ⟨b19, 0, none⟩))), (14, (.agg #[(.bool false), (.slice none (List.length ([] : List Int)) 0)])), (15, (.agg #[(.int .i64 r62.1), (.int .i64 r62.2)]))]) (fun e => by cases e) (by rfl) (by rfl) (by rfl) (by kernel_rfl) (by kernel_rfl) (by kernel_rfl) (by kernel_rfl) (inw1 fun w' hC' => (hC'.box hk81 (nm_cons ap84 nm_nil))) (by kernel_rfl) ?_
    have hk89 := ((hk83.grown hg69 nb).grown hg74 (rowne ap84)).grown hg79 nb
    refine gv_store (t := 24) (b := b13) (off := 0) (v := (.agg #[(.bool false), (.slice none (List.length ([] : List Int)) 0)])) (t' := 24) (cs := #[(.bool false), (.slice none (List.length ([] : List Int)) 0)]) #[(.bool false), (.slice none (List.length ([] : List Int)) 0)] (by decide) (by rfl) (by rfl) (by kernel_rfl) (by kernel_rfl) (by kernel_rfl) (by intro u hu; simp [Value.cells] at hu; rcases hu with rfl | rfl <;> rfl) (show 0 + 2 ≤ 2 by decide) (by rfl) hk89 ?_
    intro w85 hg86 hb87 hz88
    refine ⟨(fun _ => hC80.grown hg86 (rowm (List.Mem.head _))), ?_⟩
    refine gv_sub [4, 5, 15] (σ' := [(4, (.pointer (some ⟨b13, 0, none⟩))), (5, (.pointer (some ⟨b19, 0, none⟩))), (15, (.agg #[(.int .i64 r62.1), (.int .i64 r62.2)]))]) (by kernel_rfl) ?_
    refine gv_nil ?_
    refine gv_goal fun a hd hs hok => ?_
    refine (?_ : RunA Try.prog _ 26 _ _ 1 #[true, true, true, false] [(4, (.pointer (some ⟨b13, 0, none⟩))), (5, (.pointer (some ⟨b19, 0, none⟩))), (15, (.agg #[(.int .i64 r62.1), (.int .i64 r62.2)]))] w85) a hd hs hok
    clear hd hs hok
    refine gv_stage (fun _ => True) [0, 1, 2, 3] [(3, some false)] #[true, true, true, true] 0 (by kernel_rfl) (by rfl) trivial ?_
    have hg94 := (grown_trans hg82 hg69)
    have hk95 := hb22.grown hg82 nb
    have ap96 : ¬ (· = b19) b67 := fun hx => Nat.not_lt_of_le ((lowb hbe71) _ rfl) ((fun k (hk : k = b19) => Nat.lt_of_le_of_lt (Nat.le_of_eq hk) hk95.lt) _ hx)
    have ap97 : ¬ (· = b19) b13 := fun hx => Nat.not_lt_of_le ((lowb hbe23) _ hx) ((fun k (hk : k = b13) => Nat.lt_of_le_of_lt (Nat.le_of_eq hk) hb16.lt) _ rfl)
    have hk98 := (((hb22.grown hg94 nb).grown hg74 (rowne ap96)).grown hg79 nb).grown hg86 (rowne ap97)
    refine gv_store (t := 29) (b := b19) (off := 0) (v := (.agg #[(.int .i64 r62.1), (.int .i64 r62.2)])) (t' := 29) (cs := #[(.int .i64 0), (.int .i64 0)]) #[(.int .i64 r62.1), (.int .i64 r62.2)] (by decide) (by rfl) (by rfl) (by kernel_rfl) (by kernel_rfl) (by kernel_rfl) (by intro u hu; simp [Value.cells] at hu; rcases hu with rfl | rfl <;> rfl) (show 0 + 2 ≤ 2 by decide) (by rfl) hk98 ?_
    intro w90 hg91 hb92 hz93
    refine ⟨(fun _ => trivial), ?_⟩
    refine gv_sub [4, 5] (σ' := [(4, (.pointer (some ⟨b13, 0, none⟩))), (5, (.pointer (some ⟨b19, 0, none⟩)))]) (by kernel_rfl) ?_
    refine gv_nil ?_
    refine gv_goal fun a hd hs hok => ?_
    refine (?_ : RunA Try.prog _ 26 _ _ 0 #[true, true, true, true] [(4, (.pointer (some ⟨b13, 0, none⟩))), (5, (.pointer (some ⟨b19, 0, none⟩)))] w90) a hd hs hok
    clear hd hs hok
    refine gv_stageE (by kernel_rfl) ?_
    refine gv_cret ?_
    have e := Option.some.inj h0; subst e
    have ap99 : ¬ (· = b13) b19 := fun hx => Nat.not_lt_of_le ((lowb hbe23) _ rfl) ((fun k (hk : k = b13) => Nat.lt_of_le_of_lt (Nat.le_of_eq hk) hb16.lt) _ hx)
    have hk100 := hb87.grown hg91 (rowne ap99)
    refine gv_ret (gv_done [(.agg #[(.bool false), (.slice none (List.length ([] : List Int)) 0)]), (.agg #[(.int .i64 r62.1), (.int .i64 r62.2)])] rfl ⟨⟨_, rfl, run_loadVar_row w90 b13 _ 24 _ _ _ hk100 Try.underlying24 rfl (by kernel_rfl)⟩, ⟨_, rfl, run_loadVar_row w90 b19 _ 29 _ _ _ hb92 Try.underlying29 rfl (by kernel_rfl)⟩, trivial⟩ ?_)
    have hg101 := (grown_trans hg65 hg69)
    have hB102 := below_grown hB44 hg101 hB44.size nb
    have hB103 := below_grown hB44 hg65 hB44.size nb
    have hlo104 : w0.heap.size ≤ b67 := lob hbe71 hB103.size
    have hB105 := below_grown hB102 hg74 hB102.size (rowlo hlo104)
    have hB106 := below_grown hB105 hg79 hB105.size nb
    have hB107 := below_grown hB106 hg86 hB106.size (rowlo hlo57)
    have hB108 := below_grown hB107 hg91 hB107.size (rowlo hlo61)
    exact ⟨grown_of_below hB108, none, 0, (fun _ => False), rfl, (Rd.nil (iE .u32) w90 (fun _ => False) none 0), (fun k hk => ⟨(fun _ h => h.elim) k hk, (fun _ h => h.elim) k hk⟩)⟩
  · replace h0 := ite_f hc77 h0
    refine gv_skip ?_
    refine gv_seq ?_
    refine gv_region ?_
    have hg109 := (grown_trans (grown_trans hg31 hg65) hg69)
    have hg110 := (grown_trans hg31 hg65)
    have hk111 := hk26.grown hg110 nb
    have ap112 : ¬ (· = b1) b67 := fun hx => Nat.not_lt_of_le ((lowb hbe71) _ rfl) ((fun k (hk : k = b1) => Nat.lt_of_le_of_lt (Nat.le_of_eq hk) hk111.lt) _ hx)
    have hk113 := (hk26.grown hg109 nb).grown hg74 (rowne ap112)
    refine gv_loadBox (t := 24) (b := b1) (t' := 24) (fr := (0, 0)) #[(.bool a_0.1), (.slice pa0_0 (List.length a_0.2) pc0_0)] [3, 4, 5, 16] (σ' := [(3, (.pointer (some ⟨b7, 0, none⟩))), (4, (.pointer (some ⟨b13, 0, none⟩))), (5, (.pointer (some ⟨b19, 0, none⟩))), (16, (.agg #[(.bool a_0.1), (.slice pa0_0 (List.length a_0.2) pc0_0)]))]) (fun e => by cases e) (by rfl) (by rfl) (by rfl) (by kernel_rfl) (by kernel_rfl) (by kernel_rfl) (by kernel_rfl) (inw0 hk113) (by kernel_rfl) ?_
    refine gv_pure 1 [3, 4, 5, 16, 17] (σ' := [(3, (.pointer (some ⟨b7, 0, none⟩))), (4, (.pointer (some ⟨b13, 0, none⟩))), (5, (.pointer (some ⟨b19, 0, none⟩))), (16, (.agg #[(.bool a_0.1), (.slice pa0_0 (List.length a_0.2) pc0_0)])), (17, (.pointer (some ⟨b7, 0, none⟩)))]) (by kernel_rfl) ?_
    have hk114 := hk28.grown hg110 nb
    have ap115 : ¬ (· = b7) b67 := fun hx => Nat.not_lt_of_le ((lowb hbe71) _ rfl) ((fun k (hk : k = b7) => Nat.lt_of_le_of_lt (Nat.le_of_eq hk) hk114.lt) _ hx)
    have hk116 := (hk28.grown hg109 nb).grown hg74 (rowne ap115)
    refine gv_load (t := 4) (A := ⟨b7, 0, none⟩) (.bool b_1.1) [3, 4, 5, 16, 18] (σ' := [(3, (.pointer (some ⟨b7, 0, none⟩))), (4, (.pointer (some ⟨b13, 0, none⟩))), (5, (.pointer (some ⟨b19, 0, none⟩))), (16, (.agg #[(.bool a_0.1), (.slice pa0_0 (List.length a_0.2) pc0_0)])), (18, (.bool b_1.1))]) (fun e => by cases e) (by rfl) (by rfl) (by rfl) (by kernel_rfl) (by kernel_rfl) (by kernel_rfl) (inw0 (hk116.cell 0 rfl)) (by kernel_rfl) ?_
    refine gv_pure 2 [4, 5, 16, 19, 20] (σ' := [(4, (.pointer (some ⟨b13, 0, none⟩))), (5, (.pointer (some ⟨b19, 0, none⟩))), (16, (.agg #[(.bool a_0.1), (.slice pa0_0 (List.length a_0.2) pc0_0)])), (19, (.bool (!b_1.1))), (20, (.pointer (some ⟨b7, 1, none⟩)))]) (by kernel_rfl) ?_
    refine gv_load (t := 22) (A := ⟨b7, 1, none⟩) (.slice pa1_0 (List.length b_1.2) pc1_0) [4, 5, 16, 19, 21] (σ' := [(4, (.pointer (some ⟨b13, 0, none⟩))), (5, (.pointer (some ⟨b19, 0, none⟩))), (16, (.agg #[(.bool a_0.1), (.slice pa0_0 (List.length a_0.2) pc0_0)])), (19, (.bool (!b_1.1))), (21, (.slice pa1_0 (List.length b_1.2) pc1_0))]) (fun e => by cases e) (by rfl) (by rfl) (by rfl) (by kernel_rfl) (by kernel_rfl) (by kernel_rfl) (inw0 (hk116.cell 1 rfl)) (by kernel_rfl) ?_
    refine gv_pure 1 [4, 5, 16, 22] (σ' := [(4, (.pointer (some ⟨b13, 0, none⟩))), (5, (.pointer (some ⟨b19, 0, none⟩))), (16, (.agg #[(.bool a_0.1), (.slice pa0_0 (List.length a_0.2) pc0_0)])), (22, (.agg #[(.bool (!b_1.1)), (.slice pa1_0 (List.length b_1.2) pc1_0)]))]) (by kernel_rfl) ?_
    refine bindE h0 ?_; clear h0; intro r117 hr118 h0
    have hg119 := (grown_trans hg65 hg69)
    have hB120 := below_grown hB44 hg119 hB44.size nb
    have hB121 := below_grown hB44 hg65 hB44.size nb
    have hlo122 : w0.heap.size ≤ b67 := lob hbe71 hB121.size
    have hB123 := below_grown hB120 hg74 hB120.size (rowlo hlo122)
    refine gv_call (f := 64) (vs := [(.agg #[(.bool a_0.1), (.slice pa0_0 (List.length a_0.2) pc0_0)]), (.agg #[(.bool (!b_1.1)), (.slice pa1_0 (List.length b_1.2) pc1_0)])]) (cap := []) _ (by decide) (by rfl) (by rfl) rfl (by rfl) (by rfl) enters64 (integer_plus_ok fuel pa0_0 pc0_0 (a_0.1, a_0.2) pa1_0 pc1_0 ((!b_1.1), b_1.2) w73 (fun k => X0 k ∨ X0 k) (fun k hk => (hk).elim (fun h => (fun k (hk : X0 k) => Nat.lt_of_lt_of_le (hX0 k hk) hB123.size) k h) (fun h => (fun k (hk : X0 k) => Nat.lt_of_lt_of_le (hX0 k hk) hB123.size) k h)) ((hpa0_0.below hB123 hX0).wide (fun k hk => (.inl hk))) ((hpa1_0.below hB123 hX0).wide (fun k hk => (.inr hk))) r117 hr118) ?_
    rintro v126 w124 ⟨hg125, a127, c128, X130, rfl, ho129, hx131⟩
    refine ⟨(fun e => by cases e), ?_⟩
    have hx132 : ∀ k, X130 k → k < w124.heap.size := fun k hk => (hx131 k hk).1
    have hx133 : ∀ k, X130 k → X0 k ∨ w0.heap.size ≤ k := fun k hk => (hx131 k hk).2.elim (fun h => (h).elim (fun h => (fun k (hk : X0 k) => Or.inl hk) k h) (fun h => (fun k (hk : X0 k) => Or.inl hk) k h)) (fun h => .inr (Nat.le_trans hB123.size h))
    refine gv_pure 2 [4, 5, 24, 25] (σ' := [(4, (.pointer (some ⟨b13, 0, none⟩))), (5, (.pointer (some ⟨b19, 0, none⟩))), (24, (.agg #[(.bool r117.1.1), (.slice a127 (List.length r117.1.2) c128)])), (25, (.agg #[(.int .i64 r117.2.1), (.int .i64 r117.2.2)]))]) (by kernel_rfl) ?_
    have hk138 := hk54.grown hg110 nb
    have ap139 : ¬ (· = b13) b67 := fun hx => Nat.not_lt_of_le ((lowb hbe71) _ rfl) ((fun k (hk : k = b13) => Nat.lt_of_le_of_lt (Nat.le_of_eq hk) hk138.lt) _ hx)
    have hk140 := ((hk54.grown hg109 nb).grown hg74 (rowne ap139)).grown hg125 nb
    refine gv_store (t := 24) (b := b13) (off := 0) (v := (.agg #[(.bool r117.1.1), (.slice a127 (List.length r117.1.2) c128)])) (t' := 24) (cs := #[(.bool false), (.slice none (List.length ([] : List Int)) 0)]) #[(.bool r117.1.1), (.slice a127 (List.length r117.1.2) c128)] (by decide) (by rfl) (by rfl) (by kernel_rfl) (by kernel_rfl) (by kernel_rfl) (by intro u hu; simp [Value.cells] at hu; rcases hu with rfl | rfl <;> rfl) (show 0 + 2 ≤ 2 by decide) (by rfl) hk140 ?_
    intro w134 hg135 hb136 hz137
    refine ⟨(fun e => by cases e), ?_⟩
    have hk145 := hb22.grown hg110 nb
    have ap146 : ¬ (· = b19) b67 := fun hx => Nat.not_lt_of_le ((lowb hbe71) _ rfl) ((fun k (hk : k = b19) => Nat.lt_of_le_of_lt (Nat.le_of_eq hk) hk145.lt) _ hx)
    have ap147 : ¬ (· = b19) b13 := fun hx => Nat.not_lt_of_le ((lowb hbe23) _ hx) ((fun k (hk : k = b13) => Nat.lt_of_le_of_lt (Nat.le_of_eq hk) hb16.lt) _ rfl)
    have hk148 := (((hb22.grown hg109 nb).grown hg74 (rowne ap146)).grown hg125 nb).grown hg135 (rowne ap147)
    refine gv_sub [4, 5, 25] (σ' := [(4, (.pointer (some ⟨b13, 0, none⟩))), (5, (.pointer (some ⟨b19, 0, none⟩))), (25, (.agg #[(.int .i64 r117.2.1), (.int .i64 r117.2.2)]))]) (by kernel_rfl) ?_
    refine gv_store (t := 29) (b := b19) (off := 0) (v := (.agg #[(.int .i64 r117.2.1), (.int .i64 r117.2.2)])) (t' := 29) (cs := #[(.int .i64 0), (.int .i64 0)]) #[(.int .i64 r117.2.1), (.int .i64 r117.2.2)] (by decide) (by rfl) (by rfl) (by kernel_rfl) (by kernel_rfl) (by kernel_rfl) (by intro u hu; simp [Value.cells] at hu; rcases hu with rfl | rfl <;> rfl) (show 0 + 2 ≤ 2 by decide) (by rfl) hk148 ?_
    intro w141 hg142 hb143 hz144
    refine ⟨(fun e => by cases e), ?_⟩
    refine gv_sub [4, 5] (σ' := [(4, (.pointer (some ⟨b13, 0, none⟩))), (5, (.pointer (some ⟨b19, 0, none⟩)))]) (by kernel_rfl) ?_
    refine gv_nil ?_
    refine gv_cret ?_
    have e := Option.some.inj h0; subst e
    have ap149 : ¬ (· = b13) b19 := fun hx => Nat.not_lt_of_le ((lowb hbe23) _ rfl) ((fun k (hk : k = b13) => Nat.lt_of_le_of_lt (Nat.le_of_eq hk) hb16.lt) _ hx)
    have hk150 := hb136.grown hg142 (rowne ap149)
    refine gv_ret (gv_done [(.agg #[(.bool r117.1.1), (.slice a127 (List.length r117.1.2) c128)]), (.agg #[(.int .i64 r117.2.1), (.int .i64 r117.2.2)])] rfl ⟨⟨_, rfl, run_loadVar_row w141 b13 _ 24 _ _ _ hk150 Try.underlying24 rfl (by kernel_rfl)⟩, ⟨_, rfl, run_loadVar_row w141 b19 _ 29 _ _ _ hb143 Try.underlying29 rfl (by kernel_rfl)⟩, trivial⟩ ?_)
    have hB151 := below_grown hB123 hg125 hB123.size nb
    have hB152 := below_grown hB151 hg135 hB151.size (rowlo hlo57)
    have hB153 := below_grown hB152 hg142 hB152.size (rowlo hlo61)
    have hk154 := (hk138.grown hg69 nb).grown hg74 (rowne ap139)
    have ap155 : ¬ X130 b13 := fun h => ((hx131 _ h).2.elim (fun h => (h).elim (fun h => ((fun (hx : X0 b13) => Nat.not_lt_of_le hlo57 (hX0 _ hx)))  h) (fun h => ((fun (hx : X0 b13) => Nat.not_lt_of_le hlo57 (hX0 _ hx)))  h)) (fun h => Nat.not_lt_of_le h (hk154.lt)))
    have hk156 := (hk145.grown hg69 nb).grown hg74 (rowne ap146)
    have ap157 : ¬ X130 b19 := fun h => ((hx131 _ h).2.elim (fun h => (h).elim (fun h => ((fun (hx : X0 b19) => Nat.not_lt_of_le hlo61 (hX0 _ hx)))  h) (fun h => ((fun (hx : X0 b19) => Nat.not_lt_of_le hlo61 (hX0 _ hx)))  h)) (fun h => Nat.not_lt_of_le h (hk156.lt)))
    have hx158 := ltx hx132 hg135.size
    have hk159 := (ho129.grown hg135 hx132 (rowne ap155)).grown hg142 hx158 (rowne ap157)
    have hx160 := ltx hx158 hg142.size
    exact ⟨grown_of_below hB153, a127, c128, X130, rfl, hk159, (fun k hk => ⟨hx160 k hk, hx133 k hk⟩)⟩

set_option maxHeartbeats 4000000 in
set_option maxRecDepth 100000 in
theorem bits_Len32_ok (fuel : Nat) (x_0 : Int) (w0 : World)  (r0 : Int) (h0 : bits_Len32 fuel x_0 = some r0) :
    Calls Try.prog 77 ([(.int .u32 x_0)] : List Value).toArray w0 (Ret fun v w' => w0.grownBy w' none ∧ v = tup [(.int .i64 r0)]) := by
  have hB0 : Below w0.heap.size w0 w0 := Below.refl _ _
  unfold bits_Len32 at h0
  refine calls_run Try.func77 rfl Try.ntmps77 (by kernel_rfl) ?_
  refine gv_sub [0] (σ' := [(0, (.int .u32 x_0))]) (by kernel_rfl) ?_
  refine gv_seq ?_
  refine gv_region ?_
  refine gv_pure 1 [0, 2] (σ' := [(0, (.int .u32 x_0)), (2, (.int .i64 0))]) (by kernel_rfl) ?_
  refine gv_nil ?_
  refine gv_seq ?_
  refine gv_seq ?_
  refine gv_region ?_
  refine gv_pure 2 [0, 2, 4] (σ' := [(0, (.int .u32 x_0)), (2, (.int .i64 0)), (4, (.bool (decide (x_0 ≥ 65536))))]) (by kernel_rfl) ?_
  refine gv_nil ?_
  refine bindE h0 ?_; clear h0; intro j1 h1 h0
  refine gv_cut_code (J := fun a w2 => Below w0.heap.size w0 w2 ∧ w0.heap.size ≤ w2.heap.size ∧ a.defers = [] ∧ a.tmps.size = 19 ∧ Ok [(0, (.int .u32 j1.1)), (2, (.int .i64 j1.2))] a.tmps) ?_ ?_
  · skip
    refine gv_cond (b := (decide (x_0 ≥ 65536))) (by rfl) (fun hc3 => ?_) (fun hc3 => ?_)
    · replace h1 := ite_t hc3 h1
      refine gv_seq ?_
      refine gv_region ?_
      refine gv_pure 3 [0] (σ' := [(0, (.int .u32 ((x_0).fdiv (2 ^ 16))))]) (by kernel_rfl) ?_
      refine gv_nil ?_
      refine gv_region ?_
      refine gv_pure 1 [0, 2] (σ' := [(0, (.int .u32 ((x_0).fdiv (2 ^ 16)))), (2, (.int .i64 16))]) (by kernel_rfl) ?_
      refine gv_nil ?_
      have e := Option.some.inj h1; subst e
      refine gv_goal fun a hd hs hok => ?_
      obtain ⟨q0, q2, _⟩ := hok
      exact ⟨hB0, (Nat.le_refl _), hd, hs, ⟨q0, q2, trivial⟩⟩
    · replace h1 := ite_f hc3 h1
      refine gv_skip ?_
      have e := Option.some.inj h1; subst e
      refine gv_goal fun a hd hs hok => ?_
      obtain ⟨q0, q2, q4, _⟩ := hok
      exact ⟨hB0, (Nat.le_refl _), hd, hs, ⟨q0, q2, trivial⟩⟩
  · rintro a w2 ⟨hB4, hz5, hd, hs, hok⟩
    refine (?_ : Run Try.prog _ 19 _ .normal [(0, (.int .u32 j1.1)), (2, (.int .i64 j1.2))] w2) a hd hs hok
    clear hd hs hok
    refine gv_seq ?_
    refine gv_seq ?_
    refine gv_region ?_
    refine gv_pure 2 [0, 2, 8] (σ' := [(0, (.int .u32 j1.1)), (2, (.int .i64 j1.2)), (8, (.bool (decide (j1.1 ≥ 256))))]) (by kernel_rfl) ?_
    refine gv_nil ?_
    refine bindE h0 ?_; clear h0; intro j6 h1 h0
    refine gv_cut_code (J := fun a w7 => Below w0.heap.size w0 w7 ∧ w2.heap.size ≤ w7.heap.size ∧ a.defers = [] ∧ a.tmps.size = 19 ∧ Ok [(0, (.int .u32 j6.1)), (2, (.int .i64 j6.2))] a.tmps) ?_ ?_
    · skip
      refine gv_cond (b := (decide (j1.1 ≥ 256))) (by rfl) (fun hc8 => ?_) (fun hc8 => ?_)
      · replace h1 := ite_t hc8 h1
        refine gv_seq ?_
        refine gv_region ?_
        refine gv_pure 3 [0, 2] (σ' := [(0, (.int .u32 ((j1.1).fdiv (2 ^ 8)))), (2, (.int .i64 j1.2))]) (by kernel_rfl) ?_
        refine gv_nil ?_
        refine gv_region ?_
        refine gv_pure 3 [0, 2] (σ' := [(0, (.int .u32 ((j1.1).fdiv (2 ^ 8)))), (2, (.int .i64 (IntKind.i64.wrap (j1.2 + 8))))]) (by kernel_rfl) ?_
        refine gv_nil ?_
        have e := Option.some.inj h1; subst e
        refine gv_goal fun a hd hs hok => ?_
        obtain ⟨q0, q2, _⟩ := hok
        exact ⟨hB4, (Nat.le_refl _), hd, hs, ⟨q0, q2, trivial⟩⟩
      · replace h1 := ite_f hc8 h1
        refine gv_skip ?_
        have e := Option.some.inj h1; subst e
        refine gv_goal fun a hd hs hok => ?_
        obtain ⟨q0, q2, q8, _⟩ := hok
        exact ⟨hB4, (Nat.le_refl _), hd, hs, ⟨q0, q2, trivial⟩⟩
    · rintro a w7 ⟨hB9, hz10, hd, hs, hok⟩
      refine (?_ : Run Try.prog _ 19 _ .normal [(0, (.int .u32 j6.1)), (2, (.int .i64 j6.2))] w7) a hd hs hok
      clear hd hs hok
      refine gv_seq ?_
      refine gv_region ?_
      refine gv_pure 3 [13, 15] (σ' := [(13, (.int .i64 j6.2)), (15, (.int .u8 (IntKind.u8.wrap (j6.1))))]) (by kernel_rfl) ?_
      refine bindE h0 ?_; clear h0; intro x11 hx12 h0
      refine gv_sindex (t := 9) (s := (strOf [0, 1, 2, 2, 3, 3, 3, 3, 4, 4, 4, 4, 4, 4, 4, 4, 5, 5, 5, 5, 5, 5, 5, 5, 5, 5, 5, 5, 5, 5, 5, 5, 6, 6, 6, 6, 6, 6, 6, 6, 6, 6, 6, 6, 6, 6, 6, 6, 6, 6, 6, 6, 6, 6, 6, 6, 6, 6, 6, 6, 6, 6, 6, 6, 7, 7, 7, 7, 7, 7, 7, 7, 7, 7, 7, 7, 7, 7, 7, 7, 7, 7, 7, 7, 7, 7, 7, 7, 7, 7, 7, 7, 7, 7, 7, 7, 7, 7, 7, 7, 7, 7, 7, 7, 7, 7, 7, 7, 7, 7, 7, 7, 7, 7, 7, 7, 7, 7, 7, 7, 7, 7, 7, 7, 7, 7, 7, 7, 8, 8, 8, 8, 8, 8, 8, 8, 8, 8, 8, 8, 8, 8, 8, 8, 8, 8, 8, 8, 8, 8, 8, 8, 8, 8, 8, 8, 8, 8, 8, 8, 8, 8, 8, 8, 8, 8, 8, 8, 8, 8, 8, 8, 8, 8, 8, 8, 8, 8, 8, 8, 8, 8, 8, 8, 8, 8, 8, 8, 8, 8, 8, 8, 8, 8, 8, 8, 8, 8, 8, 8, 8, 8, 8, 8, 8, 8, 8, 8, 8, 8, 8, 8, 8, 8, 8, 8, 8, 8, 8, 8, 8, 8, 8, 8, 8, 8, 8, 8, 8, 8, 8, 8, 8, 8, 8, 8, 8, 8, 8, 8, 8, 8, 8, 8, 8, 8, 8, 8, 8, 8, 8, 8, 8, 8, 8, 8])) (kk := .u8) (i := (IntKind.u8.wrap (j6.1))) x11 [13, 16] (σ' := [(13, (.int .i64 j6.2)), (16, (.int .u8 x11))]) (fun e => by cases e) (by rfl) (by rfl) (by rfl) (by kernel_rfl) (by kernel_rfl) Try.underlying9 hx12 (by kernel_rfl) ?_
      refine gv_pure 3 [2] (σ' := [(2, (.int .i64 (IntKind.i64.wrap (j6.2 + (IntKind.i64.wrap (x11))))))]) (by kernel_rfl) ?_
      refine bindE h0 ?_; clear h0; intro n13 hn14 h0
      refine gv_name (s := 2) (v := (.int .i64 (IntKind.i64.wrap (j6.2 + (IntKind.i64.wrap (x11)))))) (v' := (.int .i64 n13)) (by rfl) (congrArg (Value.int .i64) (Option.some.inj hn14)) ?_
      refine gv_sub [2] (σ' := [(2, (.int .i64 n13))]) (by kernel_rfl) ?_
      refine gv_nil ?_
      refine gv_cret ?_
      have e := Option.some.inj h0; subst e
      refine gv_ret (gv_done [(.int .i64 n13)] rfl ⟨rfl, trivial⟩ ?_)
      exact ⟨grown_of_below hB9, rfl⟩

set_option maxHeartbeats 4000000 in
set_option maxRecDepth 100000 in
theorem natural_Bits_ok (fuel : Nat) (pa0_0 : Option Addr) (pc0_0 : Nat) (a_0 : (List Int)) (w0 : World) (X0 : Nat → Prop) (hX0 : ∀ k, X0 k → k < w0.heap.size) (hpa0_0 : Rd (iE .u32) w0 X0 pa0_0 pc0_0 a_0) (r0 : (Int × (Int × Int))) (h0 : natural_Bits fuel a_0 = some r0) :
    Calls Try.prog 68 ([(.slice pa0_0 (List.length a_0) pc0_0)] : List Value).toArray w0 (Ret fun v w' => w0.grownBy w' none ∧ v = tup [(.int .i64 r0.1), (.agg #[(.int .i64 r0.2.1), (.int .i64 r0.2.2)])]) := by
  have hB0 : Below w0.heap.size w0 w0 := Below.refl _ _
  unfold natural_Bits at h0
  refine calls_run Try.func68 rfl Try.ntmps68 (by kernel_rfl) ?_
  refine gv_sub [0] (σ' := [(0, (.slice pa0_0 (List.length a_0) pc0_0))]) (by kernel_rfl) ?_
  refine gv_seq ?_
  refine gv_region ?_
  refine gv_pure 1 [0] (σ' := [(0, (.slice pa0_0 (List.length a_0) pc0_0))]) (by kernel_rfl) ?_
  refine gv_new (fun b => .pointer (some ⟨b, 0, none⟩)) #[(.int .i64 0), (.int .i64 0)] 29 (by decide) (by rfl) (by rfl) (by kernel_rfl) (by kernel_rfl) ?_
  intro b1 w2 hg3 hb4 hbe5 hz6
  refine ⟨(fun e => by cases e), ?_⟩
  refine gv_sub [0, 3] (σ' := [(0, (.slice pa0_0 (List.length a_0) pc0_0)), (3, (.pointer (some ⟨b1, 0, none⟩)))]) (by kernel_rfl) ?_
  refine gv_nil ?_
  refine gv_seq ?_
  refine gv_seq ?_
  refine gv_region ?_
  refine gv_pure 1 [0, 3, 4] (σ' := [(0, (.slice pa0_0 (List.length a_0) pc0_0)), (3, (.pointer (some ⟨b1, 0, none⟩))), (4, (.slice pa0_0 (List.length a_0) pc0_0))]) (by kernel_rfl) ?_
  refine bindE h0 ?_; clear h0; intro r7 hr8 h0
  have hB9 := below_grown hB0 hg3 hB0.size nb
  refine gv_call (f := 75) (vs := [(.slice pa0_0 (List.length a_0) pc0_0)]) (cap := []) _ (by decide) (by rfl) (by rfl) rfl (by rfl) (by rfl) enters75 (natural_Valid_ok fuel pa0_0 pc0_0 a_0 w2 (fun k => X0 k) (fun k hk => (fun k (hk : X0 k) => Nat.lt_of_lt_of_le (hX0 k hk) hB9.size) k hk) ((hpa0_0.below hB9 hX0).wide (fun k hk => hk)) r7 hr8) ?_
  rintro v12 w10 ⟨hg11, rfl⟩
  refine ⟨(fun e => by cases e), ?_⟩
  refine gv_pure 1 [0, 3, 6] (σ' := [(0, (.slice pa0_0 (List.length a_0) pc0_0)), (3, (.pointer (some ⟨b1, 0, none⟩))), (6, (.bool (!r7)))]) (by kernel_rfl) ?_
  refine gv_nil ?_
  refine gv_cond (b := (!r7)) (by rfl) (fun hc13 => ?_) (fun hc13 => ?_)
  · replace h0 := ite_t hc13 h0
    refine gv_seq ?_
    refine gv_region ?_
    refine bindE h0 ?_; clear h0; intro r14 hr15 h0
    refine gv_call (f := 76) (vs := [(.int .i64 6), (.int .i64 (-1))]) (cap := []) _ (by decide) (by rfl) (by rfl) rfl (by rfl) (by rfl) enters76 (natural_at_ok fuel 6 (-1) w10  r14 hr15) ?_
    rintro v18 w16 ⟨hg17, rfl⟩
    refine ⟨(fun e => by cases e), ?_⟩
    refine gv_pure 1 [2, 3, 7] (σ' := [(2, (.int .i64 0)), (3, (.pointer (some ⟨b1, 0, none⟩))), (7, (.agg #[(.int .i64 r14.1), (.int .i64 r14.2)]))]) (by kernel_rfl) ?_
    have hg23 := (grown_trans hg11 hg17)
    have hk24 := hb4.grown hg23 nb
    refine gv_store (t := 29) (b := b1) (off := 0) (v := (.agg #[(.int .i64 r14.1), (.int .i64 r14.2)])) (t' := 29) (cs := #[(.int .i64 0), (.int .i64 0)]) #[(.int .i64 r14.1), (.int .i64 r14.2)] (by decide) (by rfl) (by rfl) (by kernel_rfl) (by kernel_rfl) (by kernel_rfl) (by intro u hu; simp [Value.cells] at hu; rcases hu with rfl | rfl <;> rfl) (show 0 + 2 ≤ 2 by decide) (by rfl) hk24 ?_
    intro w19 hg20 hb21 hz22
    refine ⟨(fun e => by cases e), ?_⟩
    refine gv_sub [2, 3] (σ' := [(2, (.int .i64 0)), (3, (.pointer (some ⟨b1, 0, none⟩)))]) (by kernel_rfl) ?_
    refine gv_nil ?_
    refine gv_cret ?_
    have e := Option.some.inj h0; subst e
    refine gv_ret (gv_done [(.int .i64 0), (.agg #[(.int .i64 r14.1), (.int .i64 r14.2)])] rfl ⟨rfl, ⟨_, rfl, run_loadVar_row w19 b1 _ 29 _ _ _ hb21 Try.underlying29 rfl (by kernel_rfl)⟩, trivial⟩ ?_)
    have hB25 := below_grown hB9 hg23 hB9.size nb
    have hlo26 : w0.heap.size ≤ b1 := lob hbe5 hB0.size
    have hB27 := below_grown hB25 hg20 hB25.size (rowlo hlo26)
    exact ⟨grown_of_below hB27, rfl⟩
  · replace h0 := ite_f hc13 h0
    refine gv_skip ?_
    refine gv_seq ?_
    refine gv_seq ?_
    refine gv_region ?_
    refine gv_pure 3 [0, 3, 10] (σ' := [(0, (.slice pa0_0 (List.length a_0) pc0_0)), (3, (.pointer (some ⟨b1, 0, none⟩))), (10, (.bool (((List.length a_0 : Nat) : Int) == 0)))]) (by kernel_rfl) ?_
    refine gv_nil ?_
    refine gv_cond (b := (((List.length a_0 : Nat) : Int) == 0)) (by rfl) (fun hc28 => ?_) (fun hc28 => ?_)
    · replace h0 := ite_t hc28 h0
      refine gv_seq ?_
      refine gv_region ?_
      refine gv_pure 2 [2, 3, 11] (σ' := [(2, (.int .i64 0)), (3, (.pointer (some ⟨b1, 0, none⟩))), (11, (.agg #[(.int .i64 0), (.int .i64 0)]))]) (by kernel_rfl) ?_
      have hk33 := hb4.grown hg11 nb
      refine gv_store (t := 29) (b := b1) (off := 0) (v := (.agg #[(.int .i64 0), (.int .i64 0)])) (t' := 29) (cs := #[(.int .i64 0), (.int .i64 0)]) #[(.int .i64 0), (.int .i64 0)] (by decide) (by rfl) (by rfl) (by kernel_rfl) (by kernel_rfl) (by kernel_rfl) (by intro u hu; simp [Value.cells] at hu; rcases hu with rfl | rfl <;> rfl) (show 0 + 2 ≤ 2 by decide) (by rfl) hk33 ?_
      intro w29 hg30 hb31 hz32
      refine ⟨(fun e => by cases e), ?_⟩
      refine gv_sub [2, 3] (σ' := [(2, (.int .i64 0)), (3, (.pointer (some ⟨b1, 0, none⟩)))]) (by kernel_rfl) ?_
      refine gv_nil ?_
      refine gv_cret ?_
      have e := Option.some.inj h0; subst e
      refine gv_ret (gv_done [(.int .i64 0), (.agg #[(.int .i64 0), (.int .i64 0)])] rfl ⟨rfl, ⟨_, rfl, run_loadVar_row w29 b1 _ 29 _ _ _ hb31 Try.underlying29 rfl (by kernel_rfl)⟩, trivial⟩ ?_)
      have hB34 := below_grown hB9 hg11 hB9.size nb
      have hlo35 : w0.heap.size ≤ b1 := lob hbe5 hB0.size
      have hB36 := below_grown hB34 hg30 hB34.size (rowlo hlo35)
      exact ⟨grown_of_below hB36, rfl⟩
    · replace h0 := ite_f hc28 h0
      refine gv_skip ?_
      refine gv_seq ?_
      refine gv_region ?_
      refine gv_pure 8 [3, 15, 16, 19] (σ' := [(3, (.pointer (some ⟨b1, 0, none⟩))), (15, (.int .i64 (IntKind.i64.wrap (32 * (IntKind.i64.wrap (((List.length a_0 : Nat) : Int) - 1)))))), (16, (.slice pa0_0 (List.length a_0) pc0_0)), (19, (.int .i64 (IntKind.i64.wrap (((List.length a_0 : Nat) : Int) - 1))))]) (by kernel_rfl) ?_
      refine bindE h0 ?_; clear h0; intro x37 hx38 h0
      have hB39 := below_grown hB9 hg11 hB9.size nb
      refine gv_idxaddr (t := 22) (e := 76) (a := pa0_0) (len := List.length a_0) (cap := pc0_0) (kk := .i64) (i := (IntKind.i64.wrap (((List.length a_0 : Nat) : Int) - 1))) (sz := 1) [3, 15, 20] (σ' := [(3, (.pointer (some ⟨b1, 0, none⟩))), (15, (.int .i64 (IntKind.i64.wrap (32 * (IntKind.i64.wrap (((List.length a_0 : Nat) : Int) - 1)))))), (20, (.pointer (some (elemAddr pa0_0 (((IntKind.i64.wrap (((List.length a_0 : Nat) : Int) - 1))).toNat * 1)))))]) (fun e => by cases e) (by rfl) (by rfl) (by rfl) (by kernel_rfl) (by kernel_rfl) Try.underlying22 (by kernel_rfl) ((hpa0_0.below hB39 hX0).has hx38) (idx_spec hx38).1 (idx_spec hx38).2.1 (by kernel_rfl) ?_
      refine gv_load (t := 76) (A := (elemAddr pa0_0 (((IntKind.i64.wrap (((List.length a_0 : Nat) : Int) - 1))).toNat * 1))) (.int .u32 x37) [3, 15, 21] (σ' := [(3, (.pointer (some ⟨b1, 0, none⟩))), (15, (.int .i64 (IntKind.i64.wrap (32 * (IntKind.i64.wrap (((List.length a_0 : Nat) : Int) - 1)))))), (21, (.int .u32 x37))]) (fun e => by cases e) (by rfl) (by rfl) (by rfl) (by kernel_rfl) (by kernel_rfl) (by kernel_rfl) (inw0 ((hpa0_0.below hB39 hX0).cell hx38)) (by kernel_rfl) ?_
      refine bindE h0 ?_; clear h0; intro r40 hr41 h0
      refine gv_call (f := 77) (vs := [(.int .u32 x37)]) (cap := []) _ (by decide) (by rfl) (by rfl) rfl (by rfl) (by rfl) enters77 (bits_Len32_ok fuel x37 w10  r40 hr41) ?_
      rintro v44 w42 ⟨hg43, rfl⟩
      refine ⟨(fun e => by cases e), ?_⟩
      refine gv_pure 3 [2, 3, 24] (σ' := [(2, (.int .i64 (IntKind.i64.wrap ((IntKind.i64.wrap (32 * (IntKind.i64.wrap (((List.length a_0 : Nat) : Int) - 1)))) + r40)))), (3, (.pointer (some ⟨b1, 0, none⟩))), (24, (.agg #[(.int .i64 0), (.int .i64 0)]))]) (by kernel_rfl) ?_
      have hg49 := (grown_trans hg11 hg43)
      have hk50 := hb4.grown hg49 nb
      refine gv_store (t := 29) (b := b1) (off := 0) (v := (.agg #[(.int .i64 0), (.int .i64 0)])) (t' := 29) (cs := #[(.int .i64 0), (.int .i64 0)]) #[(.int .i64 0), (.int .i64 0)] (by decide) (by rfl) (by rfl) (by kernel_rfl) (by kernel_rfl) (by kernel_rfl) (by intro u hu; simp [Value.cells] at hu; rcases hu with rfl | rfl <;> rfl) (show 0 + 2 ≤ 2 by decide) (by rfl) hk50 ?_
      intro w45 hg46 hb47 hz48
      refine ⟨(fun e => by cases e), ?_⟩
      refine gv_sub [2, 3] (σ' := [(2, (.int .i64 (IntKind.i64.wrap ((IntKind.i64.wrap (32 * (IntKind.i64.wrap (((List.length a_0 : Nat) : Int) - 1)))) + r40)))), (3, (.pointer (some ⟨b1, 0, none⟩)))]) (by kernel_rfl) ?_
      refine bindE h0 ?_; clear h0; intro n51 hn52 h0
      refine gv_name (s := 2) (v := (.int .i64 (IntKind.i64.wrap ((IntKind.i64.wrap (32 * (IntKind.i64.wrap (((List.length a_0 : Nat) : Int) - 1)))) + r40)))) (v' := (.int .i64 n51)) (by rfl) (congrArg (Value.int .i64) (Option.some.inj hn52)) ?_
      refine gv_sub [2, 3] (σ' := [(2, (.int .i64 n51)), (3, (.pointer (some ⟨b1, 0, none⟩)))]) (by kernel_rfl) ?_
      refine gv_nil ?_
      refine gv_cret ?_
      have e := Option.some.inj h0; subst e
      refine gv_ret (gv_done [(.int .i64 n51), (.agg #[(.int .i64 0), (.int .i64 0)])] rfl ⟨rfl, ⟨_, rfl, run_loadVar_row w45 b1 _ 29 _ _ _ hb47 Try.underlying29 rfl (by kernel_rfl)⟩, trivial⟩ ?_)
      have hB53 := below_grown hB39 hg43 hB39.size nb
      have hlo54 : w0.heap.size ≤ b1 := lob hbe5 hB0.size
      have hB55 := below_grown hB53 hg46 hB53.size (rowlo hlo54)
      exact ⟨grown_of_below hB55, rfl⟩

set_option maxHeartbeats 4000000 in
set_option maxRecDepth 100000 in
theorem integer_Bits_ok (fuel : Nat) (pa0_0 : Option Addr) (pc0_0 : Nat) (a_0 : (Bool × (List Int))) (w0 : World) (X0 : Nat → Prop) (hX0 : ∀ k, X0 k → k < w0.heap.size) (hpa0_0 : Rd (iE .u32) w0 X0 pa0_0 pc0_0 a_0.2) (r0 : (Int × (Int × Int))) (h0 : integer_Bits fuel a_0 = some r0) :
    Calls Try.prog 60 ([(.agg #[(.bool a_0.1), (.slice pa0_0 (List.length a_0.2) pc0_0)])] : List Value).toArray w0 (Ret fun v w' => w0.grownBy w' none ∧ v = tup [(.int .i64 r0.1), (.agg #[(.int .i64 r0.2.1), (.int .i64 r0.2.2)])]) := by
  have hB0 : Below w0.heap.size w0 w0 := Below.refl _ _
  unfold integer_Bits at h0
  refine calls_run Try.func60 rfl Try.ntmps60 (by kernel_rfl) ?_
  refine gv_sub [0] (σ' := [(0, (.agg #[(.bool a_0.1), (.slice pa0_0 (List.length a_0.2) pc0_0)]))]) (by kernel_rfl) ?_
  refine gv_seq ?_
  refine gv_region ?_
  refine gv_new (fun b => .pointer (some ⟨b, 0, none⟩)) #[(.bool a_0.1), (.slice pa0_0 (List.length a_0.2) pc0_0)] 24 (by decide) (by rfl) (by rfl) (by kernel_rfl) (by kernel_rfl) ?_
  intro b1 w2 hg3 hb4 hbe5 hz6
  refine ⟨(fun e => by cases e), ?_⟩
  refine gv_pure 1 [1] (σ' := [(1, (.pointer (some ⟨b1, 0, none⟩)))]) (by kernel_rfl) ?_
  refine gv_new (fun b => .pointer (some ⟨b, 0, none⟩)) #[(.int .i64 0), (.int .i64 0)] 29 (by decide) (by rfl) (by rfl) (by kernel_rfl) (by kernel_rfl) ?_
  intro b7 w8 hg9 hb10 hbe11 hz12
  refine ⟨(fun e => by cases e), ?_⟩
  refine gv_sub [1, 3] (σ' := [(1, (.pointer (some ⟨b1, 0, none⟩))), (3, (.pointer (some ⟨b7, 0, none⟩)))]) (by kernel_rfl) ?_
  refine gv_nil ?_
  refine gv_seq ?_
  refine gv_seq ?_
  refine gv_region ?_
  have hk13 := hb4.grown hg9 nb
  refine gv_loadBox (t := 24) (b := b1) (t' := 24) (fr := (0, 0)) #[(.bool a_0.1), (.slice pa0_0 (List.length a_0.2) pc0_0)] [1, 3, 5] (σ' := [(1, (.pointer (some ⟨b1, 0, none⟩))), (3, (.pointer (some ⟨b7, 0, none⟩))), (5, (.agg #[(.bool a_0.1), (.slice pa0_0 (List.length a_0.2) pc0_0)]))]) (fun e => by cases e) (by rfl) (by rfl) (by rfl) (by kernel_rfl) (by kernel_rfl) (by kernel_rfl) (by kernel_rfl) (inw0 hk13) (by kernel_rfl) ?_
  refine gv_new (fun b => .slice (some ⟨b, 0, none⟩) 1 1) #[(.bool a_0.1), (.slice pa0_0 (List.length a_0.2) pc0_0)] 24 (by decide) (by rfl) (by rfl) (by kernel_rfl) (by kernel_rfl) ?_
  intro b14 w15 hg16 hb17 hbe18 hz19
  refine ⟨(fun e => by cases e), ?_⟩
  obtain ⟨X25, e⟩ : ∃ X : Nat → Prop, X = (fun k => X0 k) := ⟨_, rfl⟩
  have hg26 := (grown_trans hg3 hg9)
  have hB27 := below_grown hB0 hg26 hB0.size nb
  have hx23 : ∀ k, X25 k → k < w8.heap.size := fun k h => by rw [e] at h; exact (fun k (hk : X0 k) => Nat.lt_of_lt_of_le (hX0 k hk) hB27.size) k h
  have hz28 : w8.heap.size ≤ w15.heap.size := hg16.size
  have hx22 : ∀ k, X25 k → k < w15.heap.size := fun k h => Nat.lt_of_lt_of_le (hx23 k h) hz28
  have hx24 : ∀ k, X25 k → X0 k ∨ w0.heap.size ≤ k := fun k h => by rw [e] at h; exact (fun k (hk : X0 k) => Or.inl hk) k h
  have hB29 := below_grown hB27 hg16 hB27.size nb
  have ho20 : Own (prE tE (slE (iE .u32))) 24 w15 X25 (some ⟨b14, 0, none⟩) 1 ([(a_0.1, a_0.2)] : List (Bool × (List Int))) := Box.ownE hb17 (by rw [e]; exact ⟨[(.bool a_0.1), (.slice pa0_0 (List.length a_0.2) pc0_0)], [], rfl, ⟨[(.bool a_0.1)], [(.slice pa0_0 (List.length a_0.2) pc0_0)], rfl, rfl, ⟨pa0_0, pc0_0, rfl, ((hpa0_0.below hB29 hX0).wide (fun _ h => h))⟩⟩, rfl⟩) (show 1 ≤ maxLen by decide) (fun h => noteq hbe18 (hx23 _ h))
  have hx30 : ∀ k, X25 k → (fun k => X0 k) k := fun k h => by rw [e] at h; exact h
  clear e
  have hl21 : ∀ g, blk (some ⟨b14, 0, none⟩) = some g → w0.heap.size ≤ g := loo hbe18 hB27.size
  have ap31 : ∀ g, blk (some ⟨b14, 0, none⟩) = some g → ¬ (· = b1) g := fun g e hx => Nat.not_lt_of_le (lowo hbe18 g e) ((fun k (hk : k = b1) => Nat.lt_of_le_of_lt (Nat.le_of_eq hk) hk13.lt) _ hx)
  have hlo33 : w0.heap.size ≤ b1 := lob hbe5 hB0.size
  have ap32 : ¬ (fun k => blk (some ⟨b14, 0, none⟩) = some k ∨ X25 k) b1 := fun h => h.elim (fun h => Nat.not_lt_of_le (lowo hbe18 _ h) ((fun k (hk : k = b1) => Nat.lt_of_le_of_lt (Nat.le_of_eq hk) hk13.lt) _ rfl)) (fun h => ((fun (hx : X0 b1) => Nat.not_lt_of_le hlo33 (hX0 _ hx)))  (hx30 _ h))
  have ap34 : ∀ g, blk (some ⟨b14, 0, none⟩) = some g → ¬ (· = b7) g := fun g e hx => Nat.not_lt_of_le (lowo hbe18 g e) ((fun k (hk : k = b7) => Nat.lt_of_le_of_lt (Nat.le_of_eq hk) hb10.lt) _ hx)
  have hB36 := below_grown hB0 hg3 hB0.size nb
  have hlo37 : w0.heap.size ≤ b7 := lob hbe11 hB36.size
  have ap35 : ¬ (fun k => blk (some ⟨b14, 0, none⟩) = some k ∨ X25 k) b7 := fun h => h.elim (fun h => Nat.not_lt_of_le (lowo hbe18 _ h) ((fun k (hk : k = b7) => Nat.lt_of_le_of_lt (Nat.le_of_eq hk) hb10.lt) _ rfl)) (fun h => ((fun (hx : X0 b7) => Nat.not_lt_of_le hlo37 (hX0 _ hx)))  (hx30 _ h))
  refine gv_sub [1, 3, 6] (σ' := [(1, (.pointer (some ⟨b1, 0, none⟩))), (3, (.pointer (some ⟨b7, 0, none⟩))), (6, (.slice (some ⟨b14, 0, none⟩) (List.length ([(a_0.1, a_0.2)] : List (Bool × (List Int)))) 1))]) (by kernel_rfl) ?_
  refine bindE h0 ?_; clear h0; intro r38 hr39 h0
  refine gv_call (f := 62) (vs := [(.slice (some ⟨b14, 0, none⟩) (List.length ([(a_0.1, a_0.2)] : List (Bool × (List Int)))) 1)]) (cap := []) _ (by decide) (by rfl) (by rfl) rfl (by rfl) (by rfl) enters62 (integer_check_ok fuel (some ⟨b14, 0, none⟩) 1 ([(a_0.1, a_0.2)] : List (Bool × (List Int))) w15 (fun k => (fun k => blk (some ⟨b14, 0, none⟩) = some k ∨ X25 k) k) (fun k hk => (fun k (hk : blk (some ⟨b14, 0, none⟩) = some k ∨ X25 k) => hk.elim (fun h => ho20.lt k h) (fun h => hx22 k h)) k hk) ((ho20.rd (Y := fun k => blk (some ⟨b14, 0, none⟩) = some k ∨ X25 k) (fun _ h => .inr h) (fun g e => .inl e)).wide (fun k hk => hk)) r38 hr39) ?_
  rintro v42 w40 ⟨hg41, rfl⟩
  refine ⟨(fun e => by cases e), ?_⟩
  refine gv_sub [1, 3, 7] (σ' := [(1, (.pointer (some ⟨b1, 0, none⟩))), (3, (.pointer (some ⟨b7, 0, none⟩))), (7, (.agg #[(.int .i64 r38.1), (.int .i64 r38.2)]))]) (by kernel_rfl) ?_
  refine gv_new (fun b => .pointer (some ⟨b, 0, none⟩)) #[(.int .i64 0), (.int .i64 0)] 29 (by decide) (by rfl) (by rfl) (by kernel_rfl) (by kernel_rfl) ?_
  intro b43 w44 hg45 hb46 hbe47 hz48
  refine ⟨(fun e => by cases e), ?_⟩
  refine gv_sub [1, 3, 4, 7] (σ' := [(1, (.pointer (some ⟨b1, 0, none⟩))), (3, (.pointer (some ⟨b7, 0, none⟩))), (4, (.pointer (some ⟨b43, 0, none⟩))), (7, (.agg #[(.int .i64 r38.1), (.int .i64 r38.2)]))]) (by kernel_rfl) ?_
  refine gv_store (t := 29) (b := b43) (off := 0) (v := (.agg #[(.int .i64 r38.1), (.int .i64 r38.2)])) (t' := 29) (cs := #[(.int .i64 0), (.int .i64 0)]) #[(.int .i64 r38.1), (.int .i64 r38.2)] (by decide) (by rfl) (by rfl) (by kernel_rfl) (by kernel_rfl) (by kernel_rfl) (by intro u hu; simp [Value.cells] at hu; rcases hu with rfl | rfl <;> rfl) (show 0 + 2 ≤ 2 by decide) (by rfl) hb46 ?_
  intro w49 hg50 hb51 hz52
  refine ⟨(fun e => by cases e), ?_⟩
  refine gv_sub [1, 3, 4] (σ' := [(1, (.pointer (some ⟨b1, 0, none⟩))), (3, (.pointer (some ⟨b7, 0, none⟩))), (4, (.pointer (some ⟨b43, 0, none⟩)))]) (by kernel_rfl) ?_
  refine gv_nil ?_
  refine gv_seq ?_
  refine gv_region ?_
  refine gv_pure 1 [1, 3, 4, 8] (σ' := [(1, (.pointer (some ⟨b1, 0, none⟩))), (3, (.pointer (some ⟨b7, 0, none⟩))), (4, (.pointer (some ⟨b43, 0, none⟩))), (8, (.pointer (some ⟨b43, 0, none⟩)))]) (by kernel_rfl) ?_
  refine gv_load (t := 3) (A := ⟨b43, 0, none⟩) (.int .i64 r38.1) [1, 3, 4, 9] (σ' := [(1, (.pointer (some ⟨b1, 0, none⟩))), (3, (.pointer (some ⟨b7, 0, none⟩))), (4, (.pointer (some ⟨b43, 0, none⟩))), (9, (.int .i64 r38.1))]) (fun e => by cases e) (by rfl) (by rfl) (by rfl) (by kernel_rfl) (by kernel_rfl) (by kernel_rfl) (inw0 (hb51.cell 0 rfl)) (by kernel_rfl) ?_
  refine gv_pure 1 [1, 3, 4, 10] (σ' := [(1, (.pointer (some ⟨b1, 0, none⟩))), (3, (.pointer (some ⟨b7, 0, none⟩))), (4, (.pointer (some ⟨b43, 0, none⟩))), (10, (.bool (r38.1 != 0)))]) (by kernel_rfl) ?_
  refine gv_nil ?_
  refine gv_cond (b := (r38.1 != 0)) (by rfl) (fun hc53 => ?_) (fun hc53 => ?_)
  · replace h0 := ite_t hc53 h0
    refine gv_seq ?_
    refine gv_drawA (by kernel_rfl) ?_
    intro w54 hg55
    refine gv_pre [1] #[false, true, false] 2 (by kernel_rfl) (by rfl) ?_
    refine gv_pure 1 [2, 3, 4] (σ' := [(2, (.int .i64 0)), (3, (.pointer (some ⟨b7, 0, none⟩))), (4, (.pointer (some ⟨b43, 0, none⟩)))]) (by kernel_rfl) ?_
    refine gv_nil ?_
    refine gv_goal fun a hd hs hok => ?_
    refine (?_ : RunA Try.prog _ 17 _ _ 2 #[false, true, false] [(2, (.int .i64 0)), (3, (.pointer (some ⟨b7, 0, none⟩))), (4, (.pointer (some ⟨b43, 0, none⟩)))] w54) a hd hs hok
    clear hd hs hok
    refine gv_stage (Cls w54 []) [0, 1] [(0, some true)] #[true, true, false] 1 (by kernel_rfl) (by rfl) (Cls.refl _ _) ?_
    have hC56 := Cls.refl w54 []
    have hk57 := hb51.grown hg55 nb
    refine gv_loadBox (t := 29) (b := b43) (t' := 29) (fr := (0, 0)) #[(.int .i64 r38.1), (.int .i64 r38.2)] [2, 3, 11] (σ' := [(2, (.int .i64 0)), (3, (.pointer (some ⟨b7, 0, none⟩))), (11, (.agg #[(.int .i64 r38.1), (.int .i64 r38.2)]))]) (fun e => by cases e) (by rfl) (by rfl) (by rfl) (by kernel_rfl) (by kernel_rfl) (by kernel_rfl) (by kernel_rfl) (inw1 fun w' hC' => (hC'.box hk57 nm_nil)) (by kernel_rfl) ?_
    refine gv_nil ?_
    refine gv_goal fun a hd hs hok => ?_
    refine (?_ : RunA Try.prog _ 17 _ _ 1 #[true, true, false] [(2, (.int .i64 0)), (3, (.pointer (some ⟨b7, 0, none⟩))), (11, (.agg #[(.int .i64 r38.1), (.int .i64 r38.2)]))] w54) a hd hs hok
    clear hd hs hok
    refine gv_stage (fun _ => True) [0, 1, 2] [(2, some false)] #[true, true, true] 0 (by kernel_rfl) (by rfl) trivial ?_
    have hg62 := (grown_trans (grown_trans hg16 hg41) hg45)
    have hg63 := (grown_trans hg16 hg41)
    have hk64 := hb10.grown hg63 nb
    have ap65 : ¬ (· = b7) b43 := fun hx => Nat.not_lt_of_le ((lowb hbe47) _ rfl) ((fun k (hk : k = b7) => Nat.lt_of_le_of_lt (Nat.le_of_eq hk) hk64.lt) _ hx)
    have hk66 := ((hb10.grown hg62 nb).grown hg50 (rowne ap65)).grown hg55 nb
    refine gv_store (t := 29) (b := b7) (off := 0) (v := (.agg #[(.int .i64 r38.1), (.int .i64 r38.2)])) (t' := 29) (cs := #[(.int .i64 0), (.int .i64 0)]) #[(.int .i64 r38.1), (.int .i64 r38.2)] (by decide) (by rfl) (by rfl) (by kernel_rfl) (by kernel_rfl) (by kernel_rfl) (by intro u hu; simp [Value.cells] at hu; rcases hu with rfl | rfl <;> rfl) (show 0 + 2 ≤ 2 by decide) (by rfl) hk66 ?_
    intro w58 hg59 hb60 hz61
    refine ⟨(fun _ => trivial), ?_⟩
    clear hz61 ap65 hk64 hg63 hg62 hC56 hc53 hz52 hb51 hz48 hb46 hr39 ap35 hB36 ap34 ap32 ap31 hx30 hz28 hx23 hB27 hg26 hz19 hbe18 hb17 hz12 hbe11 hb10 hg9 hz6 hbe5 hb4 hg3
    refine gv_sub [2, 3] (σ' := [(2, (.int .i64 0)), (3, (.pointer (some ⟨b7, 0, none⟩)))]) (by kernel_rfl) ?_
    refine gv_nil ?_
    refine gv_goal fun a hd hs hok => ?_
    refine (?_ : RunA Try.prog _ 17 _ _ 0 #[true, true, true] [(2, (.int .i64 0)), (3, (.pointer (some ⟨b7, 0, none⟩)))] w58) a hd hs hok
    clear hd hs hok
    refine gv_stageE (by kernel_rfl) ?_
    refine gv_cret ?_
    have e := Option.some.inj h0; subst e
    refine gv_ret (gv_done [(.int .i64 0), (.agg #[(.int .i64 r38.1), (.int .i64 r38.2)])] rfl ⟨rfl, ⟨_, rfl, run_loadVar_row w58 b7 _ 29 _ _ _ hb60 Try.underlying29 rfl (by kernel_rfl)⟩, trivial⟩ ?_)
    have hg67 := (grown_trans hg41 hg45)
    have hB68 := below_grown hB29 hg67 hB29.size nb
    have hB69 := below_grown hB29 hg41 hB29.size nb
    have hlo70 : w0.heap.size ≤ b43 := lob hbe47 hB69.size
    have hB71 := below_grown hB68 hg50 hB68.size (rowlo hlo70)
    have hB72 := below_grown hB71 hg55 hB71.size nb
    have hB73 := below_grown hB72 hg59 hB72.size (rowlo hlo37)
    exact ⟨grown_of_below hB73, rfl⟩
  · replace h0 := ite_f hc53 h0
    refine gv_skip ?_
    refine gv_seq ?_
    refine gv_region ?_
    refine gv_pure 1 [3, 12] (σ' := [(3, (.pointer (some ⟨b7, 0, none⟩))), (12, (.pointer (some ⟨b1, 1, none⟩)))]) (by kernel_rfl) ?_
    have hg74 := (grown_trans (grown_trans hg16 hg41) hg45)
    have hg75 := (grown_trans hg16 hg41)
    have hk76 := hk13.grown hg75 nb
    have ap77 : ¬ (· = b1) b43 := fun hx => Nat.not_lt_of_le ((lowb hbe47) _ rfl) ((fun k (hk : k = b1) => Nat.lt_of_le_of_lt (Nat.le_of_eq hk) hk76.lt) _ hx)
    have hk78 := (hk13.grown hg74 nb).grown hg50 (rowne ap77)
    refine gv_load (t := 22) (A := ⟨b1, 1, none⟩) (.slice pa0_0 (List.length a_0.2) pc0_0) [3, 13] (σ' := [(3, (.pointer (some ⟨b7, 0, none⟩))), (13, (.slice pa0_0 (List.length a_0.2) pc0_0))]) (fun e => by cases e) (by rfl) (by rfl) (by rfl) (by kernel_rfl) (by kernel_rfl) (by kernel_rfl) (inw0 (hk78.cell 1 rfl)) (by kernel_rfl) ?_
    refine bindE h0 ?_; clear h0; intro r79 hr80 h0
    have hg81 := (grown_trans hg41 hg45)
    have hB82 := below_grown hB29 hg81 hB29.size nb
    have hB83 := below_grown hB29 hg41 hB29.size nb
    have hlo84 : w0.heap.size ≤ b43 := lob hbe47 hB83.size
    have hB85 := below_grown hB82 hg50 hB82.size (rowlo hlo84)
    refine gv_call (f := 68) (vs := [(.slice pa0_0 (List.length a_0.2) pc0_0)]) (cap := []) _ (by decide) (by rfl) (by rfl) rfl (by rfl) (by rfl) enters68 (natural_Bits_ok fuel pa0_0 pc0_0 a_0.2 w49 (fun k => X0 k) (fun k hk => (fun k (hk : X0 k) => Nat.lt_of_lt_of_le (hX0 k hk) hB85.size) k hk) ((hpa0_0.below hB85 hX0).wide (fun k hk => hk)) r79 hr80) ?_
    rintro v88 w86 ⟨hg87, rfl⟩
    refine ⟨(fun e => by cases e), ?_⟩
    refine gv_pure 3 [2, 3, 16] (σ' := [(2, (.int .i64 r79.1)), (3, (.pointer (some ⟨b7, 0, none⟩))), (16, (.agg #[(.int .i64 r79.2.1), (.int .i64 r79.2.2)]))]) (by kernel_rfl) ?_
    have hk93 := hb10.grown hg75 nb
    have ap94 : ¬ (· = b7) b43 := fun hx => Nat.not_lt_of_le ((lowb hbe47) _ rfl) ((fun k (hk : k = b7) => Nat.lt_of_le_of_lt (Nat.le_of_eq hk) hk93.lt) _ hx)
    have hk95 := ((hb10.grown hg74 nb).grown hg50 (rowne ap94)).grown hg87 nb
    refine gv_store (t := 29) (b := b7) (off := 0) (v := (.agg #[(.int .i64 r79.2.1), (.int .i64 r79.2.2)])) (t' := 29) (cs := #[(.int .i64 0), (.int .i64 0)]) #[(.int .i64 r79.2.1), (.int .i64 r79.2.2)] (by decide) (by rfl) (by rfl) (by kernel_rfl) (by kernel_rfl) (by kernel_rfl) (by intro u hu; simp [Value.cells] at hu; rcases hu with rfl | rfl <;> rfl) (show 0 + 2 ≤ 2 by decide) (by rfl) hk95 ?_
    intro w89 hg90 hb91 hz92
    refine ⟨(fun e => by cases e), ?_⟩
    refine gv_sub [2, 3] (σ' := [(2, (.int .i64 r79.1)), (3, (.pointer (some ⟨b7, 0, none⟩)))]) (by kernel_rfl) ?_
    refine gv_nil ?_
    refine gv_cret ?_
    have e := Option.some.inj h0; subst e
    refine gv_ret (gv_done [(.int .i64 r79.1), (.agg #[(.int .i64 r79.2.1), (.int .i64 r79.2.2)])] rfl ⟨rfl, ⟨_, rfl, run_loadVar_row w89 b7 _ 29 _ _ _ hb91 Try.underlying29 rfl (by kernel_rfl)⟩, trivial⟩ ?_)
    have hB96 := below_grown hB85 hg87 hB85.size nb
    have hB97 := below_grown hB96 hg90 hB96.size (rowlo hlo37)
    exact ⟨grown_of_below hB97, rfl⟩

set_option maxHeartbeats 4000000 in
set_option maxRecDepth 100000 in
theorem random_source_bits_ok (fuel : Nat) (pb0 : Nat) (s_0 : ((Int × Int))) (n_1 : Int) (w0 : World) (hp0 : Box w0 pb0 81 #[(.int .u64 s_0.1), (.int .u64 s_0.2)]) (r0 : ((Bool × (List Int)) × ((Int × Int)))) (h0 : random_source_bits fuel s_0 n_1 = some r0) :
    Calls Try.prog 61 ([(.pointer (some ⟨pb0, 0, none⟩)), (.int .i64 n_1)] : List Value).toArray w0 (Ret fun v w' => w0.grownBy w' (some pb0) ∧ ∃ (a0_0r : Option Addr) (c0_0r : Nat), v = tup [(.agg #[(.bool r0.1.1), (.slice a0_0r (List.length r0.1.2) c0_0r)])] ∧ Own (iE .u32) 76 w' (fun _ => False) a0_0r c0_0r r0.1.2 ∧ (∀ g, blk a0_0r = some g → w0.heap.size ≤ g) ∧ Box w' pb0 81 #[(.int .u64 r0.2.1), (.int .u64 r0.2.2)]) := by
  have hB0 : w0.grownBy w0 (some pb0) := grown_refl _ _
  unfold random_source_bits at h0
  refine calls_run Try.func61 rfl Try.ntmps61 (by kernel_rfl) ?_
  refine gv_sub [0, 1] (σ' := [(0, (.pointer (some ⟨pb0, 0, none⟩))), (1, (.int .i64 n_1))]) (by kernel_rfl) ?_
  have hpl0 := hp0.lt
  refine gv_seq ?_
  refine gv_region ?_
  refine gv_new (fun b => .pointer (some ⟨b, 0, none⟩)) #[(.bool false), (.slice none (List.length ([] : List Int)) 0)] 24 (by decide) (by rfl) (by rfl) (by kernel_rfl) (by kernel_rfl) ?_
  intro b1 w2 hg3 hb4 hbe5 hz6
  refine ⟨(fun e => by cases e), ?_⟩
  refine gv_sub [0, 1, 4] (σ' := [(0, (.pointer (some ⟨pb0, 0, none⟩))), (1, (.int .i64 n_1)), (4, (.pointer (some ⟨b1, 0, none⟩)))]) (by kernel_rfl) ?_
  refine gv_nil ?_
  refine gv_seq ?_
  refine gv_region ?_
  refine gv_pure 1 [0, 1, 4, 5] (σ' := [(0, (.pointer (some ⟨pb0, 0, none⟩))), (1, (.int .i64 n_1)), (4, (.pointer (some ⟨b1, 0, none⟩))), (5, (.slice none (List.length ([] : List Int)) 0))]) (by kernel_rfl) ?_
  refine gv_nil ?_
  refine gv_seq ?_
  refine bindE h0 ?_; clear h0; intro j7 h1 h0
  refine gv_cut_code (J := fun a w8 => ∃ (a5_0j : Option Addr) (c5_0j : Nat), w0.grownBy w8 (some pb0) ∧ w2.heap.size ≤ w8.heap.size ∧ Own (iE .u32) 76 w8 (fun _ => False) a5_0j c5_0j j7.1 ∧ (∀ g, blk a5_0j = some g → w0.heap.size ≤ g) ∧ (∀ g, blk a5_0j = some g → ¬ (· = b1) g) ∧ ¬ (fun k => blk a5_0j = some k) b1 ∧ Box w8 pb0 81 #[(.int .u64 j7.2.1), (.int .u64 j7.2.2)] ∧ Box w8 b1 24 #[(.bool false), (.slice none (List.length ([] : List Int)) 0)] ∧ a.defers = [] ∧ a.tmps.size = 44 ∧ Ok [(4, (.pointer (some ⟨b1, 0, none⟩))), (5, (.slice a5_0j (List.length j7.1) c5_0j))] a.tmps) ?_ ?_
  · skip
    refine gv_block ?_
    refine gv_loop (A := fun (s9 : (Int × (List Int) × ((Int × Int)))) a w10 => ∃ (a5_0j : Option Addr) (c5_0j : Nat), w0.grownBy w10 (some pb0) ∧ w2.heap.size ≤ w10.heap.size ∧ Own (iE .u32) 76 w10 (fun _ => False) a5_0j c5_0j s9.2.1 ∧ (∀ g, blk a5_0j = some g → w0.heap.size ≤ g) ∧ (∀ g, blk a5_0j = some g → ¬ (· = b1) g) ∧ ¬ (fun k => blk a5_0j = some k) b1 ∧ Box w10 pb0 81 #[(.int .u64 s9.2.2.1), (.int .u64 s9.2.2.2)] ∧ Box w10 b1 24 #[(.bool false), (.slice none (List.length ([] : List Int)) 0)] ∧ a.defers = [] ∧ a.tmps.size = 44 ∧ Ok [(0, (.pointer (some ⟨pb0, 0, none⟩))), (1, (.int .i64 s9.1)), (4, (.pointer (some ⟨b1, 0, none⟩))), (5, (.slice a5_0j (List.length s9.2.1) c5_0j))] a.tmps) h1 ?_ ?_
    · intro a hd hs hok
      obtain ⟨q0, q1, q4, q5, _⟩ := hok
      have hB11 := grown_step hB0 hg3  nb
      have hk12 := hp0.grown hg3 nb
      exact ⟨none, 0, hB11, (Nat.le_refl _), (Own.nil (iE .u32) 76 w2 (fun _ => False)), (fun _ h => by cases h), (fun _ h => by cases h), (fun h => by cases h), hk12, hb4, hd, hs, ⟨q0, q1, q4, q5, trivial⟩⟩
    · rintro s9 r2 h2 hR2 a w10 ⟨a15, c16, hB13, hz14, ho17, hl18, ap19, ap20, hb21, hb22, hd, hs, hok⟩
      refine (?_ : Run Try.prog _ 44 _ .normal [(0, (.pointer (some ⟨pb0, 0, none⟩))), (1, (.int .i64 s9.1)), (4, (.pointer (some ⟨b1, 0, none⟩))), (5, (.slice a15 (List.length s9.2.1) c16))] w10) a hd hs hok
      clear hd hs hok
      refine gv_seq ?_
      refine gv_seq ?_
      refine gv_region ?_
      refine gv_pure 2 [0, 1, 4, 5, 8] (σ' := [(0, (.pointer (some ⟨pb0, 0, none⟩))), (1, (.int .i64 s9.1)), (4, (.pointer (some ⟨b1, 0, none⟩))), (5, (.slice a15 (List.length s9.2.1) c16)), (8, (.bool (decide (s9.1 > 0))))]) (by kernel_rfl) ?_
      refine gv_nil ?_
      refine gv_cond (b := (decide (s9.1 > 0))) (by rfl) (fun hc23 => ?_) (fun hc23 => ?_)
      · replace h2 := ite_t hc23 h2
        refine gv_skip ?_
        refine gv_seq ?_
        refine gv_block ?_
        refine gv_seq ?_
        refine gv_region ?_
        refine gv_pure 1 [0, 1, 4, 5, 11] (σ' := [(0, (.pointer (some ⟨pb0, 0, none⟩))), (1, (.int .i64 s9.1)), (4, (.pointer (some ⟨b1, 0, none⟩))), (5, (.slice a15 (List.length s9.2.1) c16)), (11, (.pointer (some ⟨pb0, 0, none⟩)))]) (by kernel_rfl) ?_
        refine bindE h2 ?_; clear h2; intro r24 hr25 h2
        refine gv_call (f := 40) (vs := [(.pointer (some ⟨pb0, 0, none⟩))]) (cap := []) _ (by decide) (by rfl) (by rfl) rfl (by rfl) (by rfl) enters40 (random_source_next_ok fuel pb0 (s9.2.2.1, s9.2.2.2) w10 hb21 r24 hr25) ?_
        rintro v28 w26 ⟨hg27, rfl, hb29⟩
        refine ⟨(fun e => by cases e), ?_⟩
        refine gv_pure 3 [0, 1, 4, 5, 6] (σ' := [(0, (.pointer (some ⟨pb0, 0, none⟩))), (1, (.int .i64 s9.1)), (4, (.pointer (some ⟨b1, 0, none⟩))), (5, (.slice a15 (List.length s9.2.1) c16)), (6, (.int .u32 (IntKind.u32.wrap (((r24.1).fdiv (2 ^ 32))))))]) (by kernel_rfl) ?_
        refine bindE h2 ?_; clear h2; intro n30 hn31 h2
        refine gv_name (s := 6) (v := (.int .u32 (IntKind.u32.wrap (((r24.1).fdiv (2 ^ 32)))))) (v' := (.int .u32 n30)) (by rfl) (congrArg (Value.int .u32) (Option.some.inj hn31)) ?_
        refine gv_sub [0, 1, 4, 5, 6] (σ' := [(0, (.pointer (some ⟨pb0, 0, none⟩))), (1, (.int .i64 s9.1)), (4, (.pointer (some ⟨b1, 0, none⟩))), (5, (.slice a15 (List.length s9.2.1) c16)), (6, (.int .u32 n30))]) (by kernel_rfl) ?_
        refine gv_nil ?_
        refine gv_seq ?_
        refine gv_seq ?_
        refine gv_region ?_
        refine gv_pure 2 [0, 1, 4, 5, 6, 16] (σ' := [(0, (.pointer (some ⟨pb0, 0, none⟩))), (1, (.int .i64 s9.1)), (4, (.pointer (some ⟨b1, 0, none⟩))), (5, (.slice a15 (List.length s9.2.1) c16)), (6, (.int .u32 n30)), (16, (.bool (decide (s9.1 < 32))))]) (by kernel_rfl) ?_
        refine gv_nil ?_
        refine bindE h2 ?_; clear h2; intro j32 h3 h2
        refine gv_cut_code (J := fun a w33 => w0.grownBy w33 (some pb0) ∧ w26.heap.size ≤ w33.heap.size ∧ Box w33 pb0 81 #[(.int .u64 r24.2.1), (.int .u64 r24.2.2)] ∧ Box w33 b1 24 #[(.bool false), (.slice none (List.length ([] : List Int)) 0)] ∧ Own (iE .u32) 76 w33 (fun _ => False) a15 c16 s9.2.1 ∧ a.defers = [] ∧ a.tmps.size = 44 ∧ Ok [(0, (.pointer (some ⟨pb0, 0, none⟩))), (1, (.int .i64 s9.1)), (4, (.pointer (some ⟨b1, 0, none⟩))), (5, (.slice a15 (List.length s9.2.1) c16)), (6, (.int .u32 j32))] a.tmps) ?_ ?_
        · skip
          refine gv_cond (b := (decide (s9.1 < 32))) (by rfl) (fun hc34 => ?_) (fun hc34 => ?_)
          · replace h3 := ite_t hc34 h3
            refine gv_region ?_
            refine gv_pure 3 [0, 1, 4, 5, 17, 19] (σ' := [(0, (.pointer (some ⟨pb0, 0, none⟩))), (1, (.int .i64 s9.1)), (4, (.pointer (some ⟨b1, 0, none⟩))), (5, (.slice a15 (List.length s9.2.1) c16)), (17, (.int .u32 n30)), (19, (.int .i64 (IntKind.i64.wrap (32 - s9.1))))]) (by kernel_rfl) ?_
            refine bindE h3 ?_; clear h3; intro _ hx35 h3
            refine gv_shift .shr (t := 76) (kk := .u32) (ky := .i64) (x := n30) (y := (IntKind.i64.wrap (32 - s9.1))) (shrI .u32 n30 (IntKind.i64.wrap (32 - s9.1))) [0, 1, 4, 5, 20] (σ' := [(0, (.pointer (some ⟨pb0, 0, none⟩))), (1, (.int .i64 s9.1)), (4, (.pointer (some ⟨b1, 0, none⟩))), (5, (.slice a15 (List.length s9.2.1) c16)), (20, (.int .u32 (shrI .u32 n30 (IntKind.i64.wrap (32 - s9.1)))))]) (fun e => by cases e) (by rfl) (by rfl) (by rfl) (by kernel_rfl) (by kernel_rfl) (nn_spec hx35) (.inr ⟨rfl, rfl⟩) (by kernel_rfl) ?_
            refine gv_pure 1 [0, 1, 4, 5, 6] (σ' := [(0, (.pointer (some ⟨pb0, 0, none⟩))), (1, (.int .i64 s9.1)), (4, (.pointer (some ⟨b1, 0, none⟩))), (5, (.slice a15 (List.length s9.2.1) c16)), (6, (.int .u32 (shrI .u32 n30 (IntKind.i64.wrap (32 - s9.1)))))]) (by kernel_rfl) ?_
            refine bindE h3 ?_; clear h3; intro n36 hn37 h3
            refine gv_name (s := 6) (v := (.int .u32 (shrI .u32 n30 (IntKind.i64.wrap (32 - s9.1))))) (v' := (.int .u32 n36)) (by rfl) (congrArg (Value.int .u32) (Option.some.inj hn37)) ?_
            refine gv_sub [0, 1, 4, 5, 6] (σ' := [(0, (.pointer (some ⟨pb0, 0, none⟩))), (1, (.int .i64 s9.1)), (4, (.pointer (some ⟨b1, 0, none⟩))), (5, (.slice a15 (List.length s9.2.1) c16)), (6, (.int .u32 n36))]) (by kernel_rfl) ?_
            refine gv_nil ?_
            have e := Option.some.inj h3; subst e
            refine gv_goal fun a hd hs hok => ?_
            obtain ⟨q0, q1, q4, q5, q6, _⟩ := hok
            have hB38 := grown_step hB13 hg27  rowpp
            have ap39 : ¬ (· = b1) pb0 := fun hx => Nat.not_lt_of_le ((lowb hbe5) _ hx) ((fun k (hk : k = pb0) => Nat.lt_of_le_of_lt (Nat.le_of_eq hk) hp0.lt) _ rfl)
            have hk40 := hb22.grown hg27 (rowne ap39)
            have hk41 := ho17.grown hg27 (fun _ h => h.elim) (rdnn (rowne (fun (h : blk a15 = some pb0) => Nat.not_lt_of_le (hl18 _ h) hpl0)))
            exact ⟨hB38, (Nat.le_refl _), hb29, hk40, hk41, hd, hs, ⟨q0, q1, q4, q5, q6, trivial⟩⟩
          · replace h3 := ite_f hc34 h3
            refine gv_skip ?_
            have e := Option.some.inj h3; subst e
            refine gv_goal fun a hd hs hok => ?_
            obtain ⟨q0, q1, q4, q5, q6, q16, _⟩ := hok
            have hB42 := grown_step hB13 hg27  rowpp
            have ap43 : ¬ (· = b1) pb0 := fun hx => Nat.not_lt_of_le ((lowb hbe5) _ hx) ((fun k (hk : k = pb0) => Nat.lt_of_le_of_lt (Nat.le_of_eq hk) hp0.lt) _ rfl)
            have hk44 := hb22.grown hg27 (rowne ap43)
            have hk45 := ho17.grown hg27 (fun _ h => h.elim) (rdnn (rowne (fun (h : blk a15 = some pb0) => Nat.not_lt_of_le (hl18 _ h) hpl0)))
            exact ⟨hB42, (Nat.le_refl _), hb29, hk44, hk45, hd, hs, ⟨q0, q1, q4, q5, q6, trivial⟩⟩
        · rintro a w33 ⟨hB46, hz47, hb48, hb49, hk50, hd, hs, hok⟩
          refine (?_ : Run Try.prog _ 44 _ .normal [(0, (.pointer (some ⟨pb0, 0, none⟩))), (1, (.int .i64 s9.1)), (4, (.pointer (some ⟨b1, 0, none⟩))), (5, (.slice a15 (List.length s9.2.1) c16)), (6, (.int .u32 j32))] w33) a hd hs hok
          clear hd hs hok
          have hz51 : w2.heap.size ≤ w33.heap.size := (Nat.le_trans (Nat.le_trans hz14 hg27.size) hz47)
          clear hz47 hn31 hb29 hg27 hr25 hc23 hb22 hb21 ho17 hz14 hB13 hz6 hb4 hg3
          refine gv_region ?_
          refine gv_pure 2 [0, 1, 4, 21, 22] (σ' := [(0, (.pointer (some ⟨pb0, 0, none⟩))), (1, (.int .i64 s9.1)), (4, (.pointer (some ⟨b1, 0, none⟩))), (21, (.slice a15 (List.length s9.2.1) c16)), (22, (.int .u32 j32))]) (by kernel_rfl) ?_
          refine gv_new (fun b => .slice (some ⟨b, 0, none⟩) 1 1) #[(.int .u32 j32)] 76 (by decide) (by rfl) (by rfl) (by kernel_rfl) (by kernel_rfl) ?_
          intro b52 w53 hg54 hb55 hbe56 hz57
          refine ⟨(fun e => by cases e), ?_⟩
          have ho58 : Own (iE .u32) 76 w53 (fun _ => False) (some ⟨b52, 0, none⟩) 1 ([j32] : List Int) := Box.ownE hb55 ⟨[(.int .u32 j32)], [], rfl, rfl, rfl⟩ (show 1 ≤ maxLen by decide) (fun h => h)
          have hl59 : ∀ g, blk (some ⟨b52, 0, none⟩) = some g → w0.heap.size ≤ g := loo hbe56 hB46.size
          refine gv_sub [0, 1, 4, 21, 23] (σ' := [(0, (.pointer (some ⟨pb0, 0, none⟩))), (1, (.int .i64 s9.1)), (4, (.pointer (some ⟨b1, 0, none⟩))), (21, (.slice a15 (List.length s9.2.1) c16)), (23, (.slice (some ⟨b52, 0, none⟩) (List.length ([j32] : List Int)) 1))]) (by kernel_rfl) ?_
          refine bindE h2 ?_; clear h2; intro l63 hx64 h2
          have hk71 := hk50.grown hg54 (fun _ h => h.elim) nb
          refine gv_append (iE .u32) (t := 22) (ty := 22) (e := 76) (a := a15) (ax := (some ⟨b52, 0, none⟩)) (cap := c16) (cx := 1) (xs := s9.2.1) (ys := ([j32] : List Int)) l63 (X := (fun _ => False)) (Y := (fun k => blk (some ⟨b52, 0, none⟩) = some k)) (by decide) (by rfl) (by rfl) (by kernel_rfl) (by kernel_rfl) Try.underlying22 info76 hk71 (ho58.rd (Y := fun k => blk (some ⟨b52, 0, none⟩) = some k) (fun _ h => h.elim) (fun g e => e)) hx64 (.inr fun _ _ _ _ _ h => h) (fun _ h => h.elim) ?_
          intro a65 c66 w67 hg68 ho69 hk70
          refine ⟨(fun e => by cases e), ?_⟩
          have hB73 := grown_step hB46 hg54  nb
          have hl72 : ∀ g, blk a65 = some g → w0.heap.size ≤ g := blk_step hk70 hl18 hB73.size
          have hk75 := hb49.grown hg54 nb
          have ap74 : ∀ g, blk a65 = some g → ¬ (· = b1) g := blk_neX hk70 ap19 (fun k (hk : k = b1) => Nat.lt_of_le_of_lt (Nat.le_of_eq hk) hk75.lt)
          have ap76 : ¬ (fun k => blk a65 = some k) b1 := fun h => blk_rev hk70 (fun h => (ap20) h) (hk75.lt) h
          have ap78 : ∀ g, blk a15 = some g → ¬ (fun k => blk (some ⟨b52, 0, none⟩) = some k) g := fun g e hx => Nat.not_lt_of_le ((lowo hbe56) _ hx) ((fun k (hk : blk a15 = some k) => hk50.lt k hk) g e)
          have ap77 : ∀ g, blk a65 = some g → ¬ (fun k => blk (some ⟨b52, 0, none⟩) = some k) g := blk_neX hk70 ap78 (fun k (hk : blk (some ⟨b52, 0, none⟩) = some k) => ho58.lt k hk)
          have ap80 : ∀ g, blk (some ⟨b52, 0, none⟩) = some g → ¬ (fun k => blk a15 = some k) g := fun g e hx => Nat.not_lt_of_le ((lowo hbe56) g e) ((fun k (hk : blk a15 = some k) => hk50.lt k hk) _ hx)
          have ap79 : ∀ g, blk (some ⟨b52, 0, none⟩) = some g → ¬ (fun k => blk a65 = some k) g := fun g e h => blk_rev hk70 (fun h => ((ap80) g e) h) (ho58.lt g e) h
          refine gv_pure 1 [0, 1, 4, 5] (σ' := [(0, (.pointer (some ⟨pb0, 0, none⟩))), (1, (.int .i64 s9.1)), (4, (.pointer (some ⟨b1, 0, none⟩))), (5, (.slice a65 (List.length l63) c66))]) (by kernel_rfl) ?_
          refine gv_nil ?_
          refine gv_blk ?_
          refine gv_region ?_
          refine gv_pure 3 [0, 1, 4, 5] (σ' := [(0, (.pointer (some ⟨pb0, 0, none⟩))), (1, (.int .i64 (IntKind.i64.wrap (s9.1 - 32)))), (4, (.pointer (some ⟨b1, 0, none⟩))), (5, (.slice a65 (List.length l63) c66))]) (by kernel_rfl) ?_
          refine gv_nil ?_
          have e := Option.some.inj h2; subst e
          refine gv_goal fun a hd hs hok => ?_
          obtain ⟨q0, q1, q4, q5, _⟩ := hok
          have hB81 := grown_step hB73 hg68  (fun g e => .inr (hl18 g e))
          have hz82 : w2.heap.size ≤ w67.heap.size := (Nat.le_trans (Nat.le_trans hz51 hg54.size) hg68.size)
          have hk83 := (hb48.grown hg54 nb).grown hg68 (fun g (e : blk a15 = some g) (h : g = pb0) => negt hpl0 (hl18 g e) h)
          have hk84 := hk75.grown hg68 ap19
          exact ⟨((IntKind.i64.wrap (s9.1 - 32)), l63, (r24.2.1, r24.2.2)), rfl, a65, c66, hB81, hz82, ho69, hl72, ap74, ap76, hk83, hk84, hd, hs, ⟨q0, q1, q4, q5, trivial⟩⟩
      · replace h2 := ite_f hc23 h2
        refine gv_cexit ?_
        refine gv_exit rfl ?_
        have e := Option.some.inj h2; subst e
        replace h1 := congrArg some (hR2 _ rfl)
        have e := Option.some.inj h1; subst e
        refine gv_goal fun a hd hs hok => ?_
        obtain ⟨q0, q1, q4, q5, q8, _⟩ := hok
        have hz85 : w2.heap.size ≤ w10.heap.size := hz14
        exact ⟨a15, c16, hB13, hz85, ho17, hl18, ap19, ap20, hb21, hb22, hd, hs, ⟨q4, q5, trivial⟩⟩
  · rintro a w8 ⟨a88, c89, hB86, hz87, ho90, hl91, ap92, ap93, hb94, hb95, hd, hs, hok⟩
    refine (?_ : Run Try.prog _ 44 _ .normal [(4, (.pointer (some ⟨b1, 0, none⟩))), (5, (.slice a88 (List.length j7.1) c89))] w8) a hd hs hok
    clear hd hs hok
    clear hz87 hz6 hb4 hg3
    refine gv_seq ?_
    refine bindE h0 ?_; clear h0; intro j96 h1 h0
    refine gv_cut_code (J := fun a w97 => ∃ (a5_0j : Option Addr) (c5_0j : Nat), w0.grownBy w97 (some pb0) ∧ w8.heap.size ≤ w97.heap.size ∧ Own (iE .u32) 76 w97 (fun _ => False) a5_0j c5_0j j96 ∧ (∀ g, blk a5_0j = some g → w0.heap.size ≤ g) ∧ (∀ g, blk a5_0j = some g → ¬ (· = b1) g) ∧ ¬ (fun k => blk a5_0j = some k) b1 ∧ Box w97 pb0 81 #[(.int .u64 j7.2.1), (.int .u64 j7.2.2)] ∧ Box w97 b1 24 #[(.bool false), (.slice none (List.length ([] : List Int)) 0)] ∧ a.defers = [] ∧ a.tmps.size = 44 ∧ Ok [(4, (.pointer (some ⟨b1, 0, none⟩))), (5, (.slice a5_0j (List.length j96) c5_0j))] a.tmps) ?_ ?_
    · skip
      refine gv_block ?_
      refine gv_loop (A := fun (s98 : (List Int)) a w99 => ∃ (a5_0j : Option Addr) (c5_0j : Nat), w0.grownBy w99 (some pb0) ∧ w8.heap.size ≤ w99.heap.size ∧ Own (iE .u32) 76 w99 (fun _ => False) a5_0j c5_0j s98 ∧ (∀ g, blk a5_0j = some g → w0.heap.size ≤ g) ∧ (∀ g, blk a5_0j = some g → ¬ (· = b1) g) ∧ ¬ (fun k => blk a5_0j = some k) b1 ∧ Box w99 pb0 81 #[(.int .u64 j7.2.1), (.int .u64 j7.2.2)] ∧ Box w99 b1 24 #[(.bool false), (.slice none (List.length ([] : List Int)) 0)] ∧ a.defers = [] ∧ a.tmps.size = 44 ∧ Ok [(4, (.pointer (some ⟨b1, 0, none⟩))), (5, (.slice a5_0j (List.length s98) c5_0j))] a.tmps) h1 ?_ ?_
      · intro a hd hs hok
        obtain ⟨q4, q5, _⟩ := hok
        exact ⟨a88, c89, hB86, (Nat.le_refl _), ho90, hl91, ap92, ap93, hb94, hb95, hd, hs, ⟨q4, q5, trivial⟩⟩
      · rintro s98 r2 h2 hR2 a w99 ⟨a102, c103, hB100, hz101, ho104, hl105, ap106, ap107, hb108, hb109, hd, hs, hok⟩
        refine (?_ : Run Try.prog _ 44 _ .normal [(4, (.pointer (some ⟨b1, 0, none⟩))), (5, (.slice a102 (List.length s98) c103))] w99) a hd hs hok
        clear hd hs hok
        clear hb95 hb94 ap93 ap92 hl91 ho90 hB86
        refine gv_seq ?_
        refine gv_seq ?_
        refine gv_region ?_
        refine bindE h2 ?_; clear h2; intro j110 h3 h2
        refine gv_cut_ops (J := fun a w111 => w0.grownBy w111 (some pb0) ∧ w99.heap.size ≤ w111.heap.size ∧ Box w111 pb0 81 #[(.int .u64 j7.2.1), (.int .u64 j7.2.2)] ∧ Box w111 b1 24 #[(.bool false), (.slice none (List.length ([] : List Int)) 0)] ∧ Own (iE .u32) 76 w111 (fun _ => False) a102 c103 s98 ∧ a.defers = [] ∧ a.tmps.size = 44 ∧ Ok [(4, (.pointer (some ⟨b1, 0, none⟩))), (5, (.slice a102 (List.length s98) c103)), (36, (.bool j110))] a.tmps) ?_ ?_
        · skip
          refine gv_pure 4 [4, 5, 28] (σ' := [(4, (.pointer (some ⟨b1, 0, none⟩))), (5, (.slice a102 (List.length s98) c103)), (28, (.bool (decide (((List.length s98 : Nat) : Int) > 0))))]) (by kernel_rfl) ?_
          refine gv_split (s := 28) (g := (decide (((List.length s98 : Nat) : Int) > 0))) (by rfl) (fun hc112 => ?_) (fun hc112 => ?_)
          · skip
            replace h3 := ite_t hc112 h3
            refine gv_pure 4 [4, 5, 28, 29, 32] (σ' := [(4, (.pointer (some ⟨b1, 0, none⟩))), (5, (.slice a102 (List.length s98) c103)), (28, (.bool true)), (29, (.slice a102 (List.length s98) c103)), (32, (.int .i64 (IntKind.i64.wrap (((List.length s98 : Nat) : Int) - 1))))]) (by kernel_rfl) ?_
            refine bindE h3 ?_; clear h3; intro x113 hx114 h3
            refine gv_idxaddr (t := 22) (e := 76) (a := a102) (len := List.length s98) (cap := c103) (kk := .i64) (i := (IntKind.i64.wrap (((List.length s98 : Nat) : Int) - 1))) (sz := 1) [4, 5, 28, 33] (σ' := [(4, (.pointer (some ⟨b1, 0, none⟩))), (5, (.slice a102 (List.length s98) c103)), (28, (.bool true)), (33, (.pointer (some (elemAddr a102 (((IntKind.i64.wrap (((List.length s98 : Nat) : Int) - 1))).toNat * 1)))))]) (fun e => by cases e) (by rfl) (by rfl) (by rfl) (by kernel_rfl) (by kernel_rfl) Try.underlying22 (by kernel_rfl) ((ho104.rd (Y := fun k => blk a102 = some k) (fun _ h => h.elim) (fun g e => e)).has hx114) (idx_spec hx114).1 (idx_spec hx114).2.1 (by kernel_rfl) ?_
            refine gv_load (t := 76) (A := (elemAddr a102 (((IntKind.i64.wrap (((List.length s98 : Nat) : Int) - 1))).toNat * 1))) (.int .u32 x113) [4, 5, 28, 34] (σ' := [(4, (.pointer (some ⟨b1, 0, none⟩))), (5, (.slice a102 (List.length s98) c103)), (28, (.bool true)), (34, (.int .u32 x113))]) (fun e => by cases e) (by rfl) (by rfl) (by rfl) (by kernel_rfl) (by kernel_rfl) (by kernel_rfl) (inw0 ((ho104.rd (Y := fun k => blk a102 = some k) (fun _ h => h.elim) (fun g e => e)).cell hx114)) (by kernel_rfl) ?_
            refine gv_pure 2 [4, 5, 36] (σ' := [(4, (.pointer (some ⟨b1, 0, none⟩))), (5, (.slice a102 (List.length s98) c103)), (36, (.bool (x113 == 0)))]) (by kernel_rfl) ?_
            refine gv_nil ?_
            have e := Option.some.inj h3; subst e
            refine gv_goal fun a hd hs hok => ?_
            obtain ⟨q4, q5, q36, _⟩ := hok
            exact ⟨hB100, (Nat.le_refl _), hb108, hb109, ho104, hd, hs, ⟨q4, q5, q36, trivial⟩⟩
          · skip
            replace h3 := ite_f hc112 h3
            refine gv_pure 8 [4, 5, 36] (σ' := [(4, (.pointer (some ⟨b1, 0, none⟩))), (5, (.slice a102 (List.length s98) c103)), (36, (.bool false))]) (by kernel_rfl) ?_
            refine gv_nil ?_
            have e := Option.some.inj h3; subst e
            refine gv_goal fun a hd hs hok => ?_
            obtain ⟨q4, q5, q36, _⟩ := hok
            exact ⟨hB100, (Nat.le_refl _), hb108, hb109, ho104, hd, hs, ⟨q4, q5, q36, trivial⟩⟩
        · rintro a w111 ⟨hB115, hz116, hb117, hb118, hk119, hd, hs, hok⟩
          refine (?_ : Run Try.prog _ 44 _ .normal [(4, (.pointer (some ⟨b1, 0, none⟩))), (5, (.slice a102 (List.length s98) c103)), (36, (.bool j110))] w111) a hd hs hok
          clear hd hs hok
          have hz120 : w8.heap.size ≤ w111.heap.size := (Nat.le_trans hz101 hz116)
          clear hz116 hb109 hb108 ho104 hz101 hB100
          refine gv_cond (b := j110) (by rfl) (fun hc121 => ?_) (fun hc121 => ?_)
          · replace h2 := ite_t hc121 h2
            refine gv_skip ?_
            refine gv_block ?_
            refine gv_region ?_
            refine gv_pure 4 [4, 37, 40] (σ' := [(4, (.pointer (some ⟨b1, 0, none⟩))), (37, (.slice a102 (List.length s98) c103)), (40, (.int .i64 (IntKind.i64.wrap (((List.length s98 : Nat) : Int) - 1))))]) (by kernel_rfl) ?_
            refine bindE h2 ?_; clear h2; intro x122 hx123 h2
            refine gv_pop (iE .u32) (t := 22) (e := 76) (xs := s98) (a := a102) (cap := c103) (lo := none) (hi := (some (.int .i64 (IntKind.i64.wrap (((List.length s98 : Nat) : Int) - 1))))) (IntKind.i64.wrap (((List.length s98 : Nat) : Int) - 1)) x122 (fun e => by cases e) (by rfl) (by rfl) (by rfl) (by kernel_rfl) (by kernel_rfl) Try.underlying22 (by kernel_rfl) (.inl ⟨rfl, rfl⟩) (.inr ⟨_, rfl⟩) hx123 (hk119.rd (Y := fun k => blk a102 = some k) (fun _ h => h.elim) (fun g e => e)).1 ?_
            have ho124 := hk119.pop hx123
            refine gv_pure 1 [4, 5] (σ' := [(4, (.pointer (some ⟨b1, 0, none⟩))), (5, (.slice a102 (List.length x122) c103))]) (by kernel_rfl) ?_
            refine gv_nil ?_
            refine gv_blk ?_
            have e := Option.some.inj h2; subst e
            refine gv_goal fun a hd hs hok => ?_
            obtain ⟨q4, q5, _⟩ := hok
            have hz125 : w8.heap.size ≤ w111.heap.size := hz120
            exact ⟨x122, rfl, a102, c103, hB115, hz125, ho124, hl105, ap106, ap107, hb117, hb118, hd, hs, ⟨q4, q5, trivial⟩⟩
          · replace h2 := ite_f hc121 h2
            refine gv_cexit ?_
            refine gv_exit rfl ?_
            have e := Option.some.inj h2; subst e
            replace h1 := congrArg some (hR2 _ rfl)
            have e := Option.some.inj h1; subst e
            refine gv_goal fun a hd hs hok => ?_
            obtain ⟨q4, q5, q36, _⟩ := hok
            have hz126 : w8.heap.size ≤ w111.heap.size := hz120
            exact ⟨a102, c103, hB115, hz126, hk119, hl105, ap106, ap107, hb117, hb118, hd, hs, ⟨q4, q5, trivial⟩⟩
    · rintro a w97 ⟨a129, c130, hB127, hz128, ho131, hl132, ap133, ap134, hb135, hb136, hd, hs, hok⟩
      refine (?_ : Run Try.prog _ 44 _ .normal [(4, (.pointer (some ⟨b1, 0, none⟩))), (5, (.slice a129 (List.length j96) c130))] w97) a hd hs hok
      clear hd hs hok
      clear hz128 hb95 hb94 ap93 ap92 hl91 ho90 hB86
      refine gv_seq ?_
      refine gv_region ?_
      refine gv_pure 2 [4, 43] (σ' := [(4, (.pointer (some ⟨b1, 0, none⟩))), (43, (.agg #[(.bool false), (.slice a129 (List.length j96) c130)]))]) (by kernel_rfl) ?_
      refine gv_store (t := 24) (b := b1) (off := 0) (v := (.agg #[(.bool false), (.slice a129 (List.length j96) c130)])) (t' := 24) (cs := #[(.bool false), (.slice none (List.length ([] : List Int)) 0)]) #[(.bool false), (.slice a129 (List.length j96) c130)] (by decide) (by rfl) (by rfl) (by kernel_rfl) (by kernel_rfl) (by kernel_rfl) (by intro u hu; simp [Value.cells] at hu; rcases hu with rfl | rfl <;> rfl) (show 0 + 2 ≤ 2 by decide) (by rfl) hb136 ?_
      intro w137 hg138 hb139 hz140
      refine ⟨(fun e => by cases e), ?_⟩
      refine gv_sub [4] (σ' := [(4, (.pointer (some ⟨b1, 0, none⟩)))]) (by kernel_rfl) ?_
      refine gv_nil ?_
      refine gv_cret ?_
      have e := Option.some.inj h0; subst e
      refine gv_ret (gv_done [(.agg #[(.bool false), (.slice a129 (List.length j96) c130)])] rfl ⟨⟨_, rfl, run_loadVar_row w137 b1 _ 24 _ _ _ hb139 Try.underlying24 rfl (by kernel_rfl)⟩, trivial⟩ ?_)
      have hlo141 : w0.heap.size ≤ b1 := lob hbe5 hB0.size
      have hB142 := grown_step hB127 hg138  (rowppr hlo141)
      have hk143 := ho131.grown hg138 (fun _ h => h.elim) (rdnn (rowne ap134))
      have ap144 : ¬ (· = pb0) b1 := fun hx => Nat.not_lt_of_le ((lowb hbe5) _ rfl) ((fun k (hk : k = pb0) => Nat.lt_of_le_of_lt (Nat.le_of_eq hk) hp0.lt) _ hx)
      have hk145 := hb135.grown hg138 (rowne ap144)
      exact ⟨hB142, a129, c130, rfl, hk143, hl132, hk145⟩

set_option maxHeartbeats 4000000 in
set_option maxRecDepth 100000 in
theorem integer_Cmp_ok (fuel : Nat) (pa0_0 : Option Addr) (pc0_0 : Nat) (a_0 : (Bool × (List Int))) (pa1_0 : Option Addr) (pc1_0 : Nat) (b_1 : (Bool × (List Int))) (w0 : World) (X0 : Nat → Prop) (hX0 : ∀ k, X0 k → k < w0.heap.size) (hpa0_0 : Rd (iE .u32) w0 X0 pa0_0 pc0_0 a_0.2) (hpa1_0 : Rd (iE .u32) w0 X0 pa1_0 pc1_0 b_1.2) (r0 : (Int × (Int × Int))) (h0 : integer_Cmp fuel a_0 b_1 = some r0) :
    Calls Try.prog 44 ([(.agg #[(.bool a_0.1), (.slice pa0_0 (List.length a_0.2) pc0_0)]), (.agg #[(.bool b_1.1), (.slice pa1_0 (List.length b_1.2) pc1_0)])] : List Value).toArray w0 (Ret fun v w' => w0.grownBy w' none ∧ v = tup [(.int .i64 r0.1), (.agg #[(.int .i64 r0.2.1), (.int .i64 r0.2.2)])]) := by
  have hB0 : Below w0.heap.size w0 w0 := Below.refl _ _
  unfold integer_Cmp at h0
  refine calls_run Try.func44 rfl Try.ntmps44 (by kernel_rfl) ?_
  refine gv_sub [0, 1] (σ' := [(0, (.agg #[(.bool a_0.1), (.slice pa0_0 (List.length a_0.2) pc0_0)])), (1, (.agg #[(.bool b_1.1), (.slice pa1_0 (List.length b_1.2) pc1_0)]))]) (by kernel_rfl) ?_
  refine gv_seq ?_
  refine gv_region ?_
  refine gv_new (fun b => .pointer (some ⟨b, 0, none⟩)) #[(.bool a_0.1), (.slice pa0_0 (List.length a_0.2) pc0_0)] 24 (by decide) (by rfl) (by rfl) (by kernel_rfl) (by kernel_rfl) ?_
  intro b1 w2 hg3 hb4 hbe5 hz6
  refine ⟨(fun e => by cases e), ?_⟩
  refine gv_sub [1, 2] (σ' := [(1, (.agg #[(.bool b_1.1), (.slice pa1_0 (List.length b_1.2) pc1_0)])), (2, (.pointer (some ⟨b1, 0, none⟩)))]) (by kernel_rfl) ?_
  refine gv_new (fun b => .pointer (some ⟨b, 0, none⟩)) #[(.bool b_1.1), (.slice pa1_0 (List.length b_1.2) pc1_0)] 24 (by decide) (by rfl) (by rfl) (by kernel_rfl) (by kernel_rfl) ?_
  intro b7 w8 hg9 hb10 hbe11 hz12
  refine ⟨(fun e => by cases e), ?_⟩
  refine gv_pure 1 [2, 3] (σ' := [(2, (.pointer (some ⟨b1, 0, none⟩))), (3, (.pointer (some ⟨b7, 0, none⟩)))]) (by kernel_rfl) ?_
  refine gv_new (fun b => .pointer (some ⟨b, 0, none⟩)) #[(.int .i64 0), (.int .i64 0)] 29 (by decide) (by rfl) (by rfl) (by kernel_rfl) (by kernel_rfl) ?_
  intro b13 w14 hg15 hb16 hbe17 hz18
  refine ⟨(fun e => by cases e), ?_⟩
  refine gv_sub [2, 3, 5] (σ' := [(2, (.pointer (some ⟨b1, 0, none⟩))), (3, (.pointer (some ⟨b7, 0, none⟩))), (5, (.pointer (some ⟨b13, 0, none⟩)))]) (by kernel_rfl) ?_
  refine gv_nil ?_
  refine gv_seq ?_
  refine gv_seq ?_
  refine gv_region ?_
  have hg19 := (grown_trans hg9 hg15)
  have hk20 := hb4.grown hg19 nb
  refine gv_loadBox (t := 24) (b := b1) (t' := 24) (fr := (0, 0)) #[(.bool a_0.1), (.slice pa0_0 (List.length a_0.2) pc0_0)] [2, 3, 5, 9] (σ' := [(2, (.pointer (some ⟨b1, 0, none⟩))), (3, (.pointer (some ⟨b7, 0, none⟩))), (5, (.pointer (some ⟨b13, 0, none⟩))), (9, (.agg #[(.bool a_0.1), (.slice pa0_0 (List.length a_0.2) pc0_0)]))]) (fun e => by cases e) (by rfl) (by rfl) (by rfl) (by kernel_rfl) (by kernel_rfl) (by kernel_rfl) (by kernel_rfl) (inw0 hk20) (by kernel_rfl) ?_
  have hk21 := hb10.grown hg15 nb
  refine gv_loadBox (t := 24) (b := b7) (t' := 24) (fr := (0, 0)) #[(.bool b_1.1), (.slice pa1_0 (List.length b_1.2) pc1_0)] [2, 3, 5, 9, 10] (σ' := [(2, (.pointer (some ⟨b1, 0, none⟩))), (3, (.pointer (some ⟨b7, 0, none⟩))), (5, (.pointer (some ⟨b13, 0, none⟩))), (9, (.agg #[(.bool a_0.1), (.slice pa0_0 (List.length a_0.2) pc0_0)])), (10, (.agg #[(.bool b_1.1), (.slice pa1_0 (List.length b_1.2) pc1_0)]))]) (fun e => by cases e) (by rfl) (by rfl) (by rfl) (by kernel_rfl) (by kernel_rfl) (by kernel_rfl) (by kernel_rfl) (inw0 hk21) (by kernel_rfl) ?_
  refine gv_new (fun b => .slice (some ⟨b, 0, none⟩) 2 2) #[(.bool a_0.1), (.slice pa0_0 (List.length a_0.2) pc0_0), (.bool b_1.1), (.slice pa1_0 (List.length b_1.2) pc1_0)] 24 (by decide) (by rfl) (by rfl) (by kernel_rfl) (by kernel_rfl) ?_
  intro b22 w23 hg24 hb25 hbe26 hz27
  refine ⟨(fun e => by cases e), ?_⟩
  obtain ⟨X33, e⟩ : ∃ X : Nat → Prop, X = (fun k => X0 k) := ⟨_, rfl⟩
  have hg34 := (grown_trans hg3 hg19)
  have hB35 := below_grown hB0 hg34 hB0.size nb
  have hx31 : ∀ k, X33 k → k < w14.heap.size := fun k h => by rw [e] at h; exact (fun k (hk : X0 k) => Nat.lt_of_lt_of_le (hX0 k hk) hB35.size) k h
  have hz36 : w14.heap.size ≤ w23.heap.size := hg24.size
  have hx30 : ∀ k, X33 k → k < w23.heap.size := fun k h => Nat.lt_of_lt_of_le (hx31 k h) hz36
  have hx32 : ∀ k, X33 k → X0 k ∨ w0.heap.size ≤ k := fun k h => by rw [e] at h; exact (fun k (hk : X0 k) => Or.inl hk) k h
  have hB37 := below_grown hB35 hg24 hB35.size nb
  have ho28 : Own (prE tE (slE (iE .u32))) 24 w23 X33 (some ⟨b22, 0, none⟩) 2 ([(a_0.1, a_0.2), (b_1.1, b_1.2)] : List (Bool × (List Int))) := Box.ownE hb25 (by rw [e]; exact ⟨[(.bool a_0.1), (.slice pa0_0 (List.length a_0.2) pc0_0)], [(.bool b_1.1), (.slice pa1_0 (List.length b_1.2) pc1_0)], rfl, ⟨[(.bool a_0.1)], [(.slice pa0_0 (List.length a_0.2) pc0_0)], rfl, rfl, ⟨pa0_0, pc0_0, rfl, ((hpa0_0.below hB37 hX0).wide (fun _ h => h))⟩⟩, ⟨[(.bool b_1.1), (.slice pa1_0 (List.length b_1.2) pc1_0)], [], rfl, ⟨[(.bool b_1.1)], [(.slice pa1_0 (List.length b_1.2) pc1_0)], rfl, rfl, ⟨pa1_0, pc1_0, rfl, ((hpa1_0.below hB37 hX0).wide (fun _ h => h))⟩⟩, rfl⟩⟩) (show 2 ≤ maxLen by decide) (fun h => noteq hbe26 (hx31 _ h))
  have hx38 : ∀ k, X33 k → (fun k => X0 k) k := fun k h => by rw [e] at h; exact h
  clear e
  have hl29 : ∀ g, blk (some ⟨b22, 0, none⟩) = some g → w0.heap.size ≤ g := loo hbe26 hB35.size
  have ap39 : ∀ g, blk (some ⟨b22, 0, none⟩) = some g → ¬ (· = b1) g := fun g e hx => Nat.not_lt_of_le (lowo hbe26 g e) ((fun k (hk : k = b1) => Nat.lt_of_le_of_lt (Nat.le_of_eq hk) hk20.lt) _ hx)
  have hlo41 : w0.heap.size ≤ b1 := lob hbe5 hB0.size
  have ap40 : ¬ (fun k => blk (some ⟨b22, 0, none⟩) = some k ∨ X33 k) b1 := fun h => h.elim (fun h => Nat.not_lt_of_le (lowo hbe26 _ h) ((fun k (hk : k = b1) => Nat.lt_of_le_of_lt (Nat.le_of_eq hk) hk20.lt) _ rfl)) (fun h => ((fun (hx : X0 b1) => Nat.not_lt_of_le hlo41 (hX0 _ hx)))  (hx38 _ h))
  have ap42 : ∀ g, blk (some ⟨b22, 0, none⟩) = some g → ¬ (· = b7) g := fun g e hx => Nat.not_lt_of_le (lowo hbe26 g e) ((fun k (hk : k = b7) => Nat.lt_of_le_of_lt (Nat.le_of_eq hk) hk21.lt) _ hx)
  have hB44 := below_grown hB0 hg3 hB0.size nb
  have hlo45 : w0.heap.size ≤ b7 := lob hbe11 hB44.size
  have ap43 : ¬ (fun k => blk (some ⟨b22, 0, none⟩) = some k ∨ X33 k) b7 := fun h => h.elim (fun h => Nat.not_lt_of_le (lowo hbe26 _ h) ((fun k (hk : k = b7) => Nat.lt_of_le_of_lt (Nat.le_of_eq hk) hk21.lt) _ rfl)) (fun h => ((fun (hx : X0 b7) => Nat.not_lt_of_le hlo45 (hX0 _ hx)))  (hx38 _ h))
  have ap46 : ∀ g, blk (some ⟨b22, 0, none⟩) = some g → ¬ (· = b13) g := fun g e hx => Nat.not_lt_of_le (lowo hbe26 g e) ((fun k (hk : k = b13) => Nat.lt_of_le_of_lt (Nat.le_of_eq hk) hb16.lt) _ hx)
  have hB48 := below_grown hB44 hg9 hB44.size nb
  have hlo49 : w0.heap.size ≤ b13 := lob hbe17 hB48.size
  have ap47 : ¬ (fun k => blk (some ⟨b22, 0, none⟩) = some k ∨ X33 k) b13 := fun h => h.elim (fun h => Nat.not_lt_of_le (lowo hbe26 _ h) ((fun k (hk : k = b13) => Nat.lt_of_le_of_lt (Nat.le_of_eq hk) hb16.lt) _ rfl)) (fun h => ((fun (hx : X0 b13) => Nat.not_lt_of_le hlo49 (hX0 _ hx)))  (hx38 _ h))
  refine gv_sub [2, 3, 5, 11] (σ' := [(2, (.pointer (some ⟨b1, 0, none⟩))), (3, (.pointer (some ⟨b7, 0, none⟩))), (5, (.pointer (some ⟨b13, 0, none⟩))), (11, (.slice (some ⟨b22, 0, none⟩) (List.length ([(a_0.1, a_0.2), (b_1.1, b_1.2)] : List (Bool × (List Int)))) 2))]) (by kernel_rfl) ?_
  refine bindE h0 ?_; clear h0; intro r50 hr51 h0
  refine gv_call (f := 62) (vs := [(.slice (some ⟨b22, 0, none⟩) (List.length ([(a_0.1, a_0.2), (b_1.1, b_1.2)] : List (Bool × (List Int)))) 2)]) (cap := []) _ (by decide) (by rfl) (by rfl) rfl (by rfl) (by rfl) enters62 (integer_check_ok fuel (some ⟨b22, 0, none⟩) 2 ([(a_0.1, a_0.2), (b_1.1, b_1.2)] : List (Bool × (List Int))) w23 (fun k => (fun k => blk (some ⟨b22, 0, none⟩) = some k ∨ X33 k) k) (fun k hk => (fun k (hk : blk (some ⟨b22, 0, none⟩) = some k ∨ X33 k) => hk.elim (fun h => ho28.lt k h) (fun h => hx30 k h)) k hk) ((ho28.rd (Y := fun k => blk (some ⟨b22, 0, none⟩) = some k ∨ X33 k) (fun _ h => .inr h) (fun g e => .inl e)).wide (fun k hk => hk)) r50 hr51) ?_
  rintro v54 w52 ⟨hg53, rfl⟩
  refine ⟨(fun e => by cases e), ?_⟩
  refine gv_sub [2, 3, 5, 12] (σ' := [(2, (.pointer (some ⟨b1, 0, none⟩))), (3, (.pointer (some ⟨b7, 0, none⟩))), (5, (.pointer (some ⟨b13, 0, none⟩))), (12, (.agg #[(.int .i64 r50.1), (.int .i64 r50.2)]))]) (by kernel_rfl) ?_
  refine gv_new (fun b => .pointer (some ⟨b, 0, none⟩)) #[(.int .i64 0), (.int .i64 0)] 29 (by decide) (by rfl) (by rfl) (by kernel_rfl) (by kernel_rfl) ?_
  intro b55 w56 hg57 hb58 hbe59 hz60
  refine ⟨(fun e => by cases e), ?_⟩
  refine gv_sub [2, 3, 5, 6, 12] (σ' := [(2, (.pointer (some ⟨b1, 0, none⟩))), (3, (.pointer (some ⟨b7, 0, none⟩))), (5, (.pointer (some ⟨b13, 0, none⟩))), (6, (.pointer (some ⟨b55, 0, none⟩))), (12, (.agg #[(.int .i64 r50.1), (.int .i64 r50.2)]))]) (by kernel_rfl) ?_
  refine gv_store (t := 29) (b := b55) (off := 0) (v := (.agg #[(.int .i64 r50.1), (.int .i64 r50.2)])) (t' := 29) (cs := #[(.int .i64 0), (.int .i64 0)]) #[(.int .i64 r50.1), (.int .i64 r50.2)] (by decide) (by rfl) (by rfl) (by kernel_rfl) (by kernel_rfl) (by kernel_rfl) (by intro u hu; simp [Value.cells] at hu; rcases hu with rfl | rfl <;> rfl) (show 0 + 2 ≤ 2 by decide) (by rfl) hb58 ?_
  intro w61 hg62 hb63 hz64
  refine ⟨(fun e => by cases e), ?_⟩
  refine gv_sub [2, 3, 5, 6] (σ' := [(2, (.pointer (some ⟨b1, 0, none⟩))), (3, (.pointer (some ⟨b7, 0, none⟩))), (5, (.pointer (some ⟨b13, 0, none⟩))), (6, (.pointer (some ⟨b55, 0, none⟩)))]) (by kernel_rfl) ?_
  refine gv_nil ?_
  refine gv_seq ?_
  refine gv_region ?_
  refine gv_pure 1 [2, 3, 5, 6, 13] (σ' := [(2, (.pointer (some ⟨b1, 0, none⟩))), (3, (.pointer (some ⟨b7, 0, none⟩))), (5, (.pointer (some ⟨b13, 0, none⟩))), (6, (.pointer (some ⟨b55, 0, none⟩))), (13, (.pointer (some ⟨b55, 0, none⟩)))]) (by kernel_rfl) ?_
  refine gv_load (t := 3) (A := ⟨b55, 0, none⟩) (.int .i64 r50.1) [2, 3, 5, 6, 14] (σ' := [(2, (.pointer (some ⟨b1, 0, none⟩))), (3, (.pointer (some ⟨b7, 0, none⟩))), (5, (.pointer (some ⟨b13, 0, none⟩))), (6, (.pointer (some ⟨b55, 0, none⟩))), (14, (.int .i64 r50.1))]) (fun e => by cases e) (by rfl) (by rfl) (by rfl) (by kernel_rfl) (by kernel_rfl) (by kernel_rfl) (inw0 (hb63.cell 0 rfl)) (by kernel_rfl) ?_
  refine gv_pure 1 [2, 3, 5, 6, 15] (σ' := [(2, (.pointer (some ⟨b1, 0, none⟩))), (3, (.pointer (some ⟨b7, 0, none⟩))), (5, (.pointer (some ⟨b13, 0, none⟩))), (6, (.pointer (some ⟨b55, 0, none⟩))), (15, (.bool (r50.1 != 0)))]) (by kernel_rfl) ?_
  refine gv_nil ?_
  refine gv_cond (b := (r50.1 != 0)) (by rfl) (fun hc65 => ?_) (fun hc65 => ?_)
  · replace h0 := ite_t hc65 h0
    refine gv_seq ?_
    refine gv_drawA (by kernel_rfl) ?_
    intro w66 hg67
    refine gv_pre [1] #[false, true, false] 2 (by kernel_rfl) (by rfl) ?_
    clear hc65 hz64 hz60 hb58 hr51 ap47 hB48 ap46 ap43 hB44 ap42 ap40 ap39 hx38 hz36 hx31 hB35 hg34 hz27 hbe26 hb25 hg19 hz18 hg15 hz12 hz6 hbe5 hg3
    refine gv_pure 1 [4, 5, 6] (σ' := [(4, (.int .i64 0)), (5, (.pointer (some ⟨b13, 0, none⟩))), (6, (.pointer (some ⟨b55, 0, none⟩)))]) (by kernel_rfl) ?_
    refine gv_nil ?_
    refine gv_goal fun a hd hs hok => ?_
    refine (?_ : RunA Try.prog _ 45 _ _ 2 #[false, true, false] [(4, (.int .i64 0)), (5, (.pointer (some ⟨b13, 0, none⟩))), (6, (.pointer (some ⟨b55, 0, none⟩)))] w66) a hd hs hok
    clear hd hs hok
    refine gv_stage (Cls w66 []) [0, 1] [(0, some true)] #[true, true, false] 1 (by kernel_rfl) (by rfl) (Cls.refl _ _) ?_
    have hC68 := Cls.refl w66 []
    have hk69 := hb63.grown hg67 nb
    refine gv_loadBox (t := 29) (b := b55) (t' := 29) (fr := (0, 0)) #[(.int .i64 r50.1), (.int .i64 r50.2)] [4, 5, 16] (σ' := [(4, (.int .i64 0)), (5, (.pointer (some ⟨b13, 0, none⟩))), (16, (.agg #[(.int .i64 r50.1), (.int .i64 r50.2)]))]) (fun e => by cases e) (by rfl) (by rfl) (by rfl) (by kernel_rfl) (by kernel_rfl) (by kernel_rfl) (by kernel_rfl) (inw1 fun w' hC' => (hC'.box hk69 nm_nil)) (by kernel_rfl) ?_
    refine gv_nil ?_
    refine gv_goal fun a hd hs hok => ?_
    refine (?_ : RunA Try.prog _ 45 _ _ 1 #[true, true, false] [(4, (.int .i64 0)), (5, (.pointer (some ⟨b13, 0, none⟩))), (16, (.agg #[(.int .i64 r50.1), (.int .i64 r50.2)]))] w66) a hd hs hok
    clear hd hs hok
    refine gv_stage (fun _ => True) [0, 1, 2] [(2, some false)] #[true, true, true] 0 (by kernel_rfl) (by rfl) trivial ?_
    have hg74 := (grown_trans (grown_trans hg24 hg53) hg57)
    have hg75 := (grown_trans hg24 hg53)
    have hk76 := hb16.grown hg75 nb
    have ap77 : ¬ (· = b13) b55 := fun hx => Nat.not_lt_of_le ((lowb hbe59) _ rfl) ((fun k (hk : k = b13) => Nat.lt_of_le_of_lt (Nat.le_of_eq hk) hk76.lt) _ hx)
    have hk78 := ((hb16.grown hg74 nb).grown hg62 (rowne ap77)).grown hg67 nb
    refine gv_store (t := 29) (b := b13) (off := 0) (v := (.agg #[(.int .i64 r50.1), (.int .i64 r50.2)])) (t' := 29) (cs := #[(.int .i64 0), (.int .i64 0)]) #[(.int .i64 r50.1), (.int .i64 r50.2)] (by decide) (by rfl) (by rfl) (by kernel_rfl) (by kernel_rfl) (by kernel_rfl) (by intro u hu; simp [Value.cells] at hu; rcases hu with rfl | rfl <;> rfl) (show 0 + 2 ≤ 2 by decide) (by rfl) hk78 ?_
    intro w70 hg71 hb72 hz73
    refine ⟨(fun _ => trivial), ?_⟩
    refine gv_sub [4, 5] (σ' := [(4, (.int .i64 0)), (5, (.pointer (some ⟨b13, 0, none⟩)))]) (by kernel_rfl) ?_
    refine gv_nil ?_
    refine gv_goal fun a hd hs hok => ?_
    refine (?_ : RunA Try.prog _ 45 _ _ 0 #[true, true, true] [(4, (.int .i64 0)), (5, (.pointer (some ⟨b13, 0, none⟩)))] w70) a hd hs hok
    clear hd hs hok
    refine gv_stageE (by kernel_rfl) ?_
    refine gv_cret ?_
    have e := Option.some.inj h0; subst e
    refine gv_ret (gv_done [(.int .i64 0), (.agg #[(.int .i64 r50.1), (.int .i64 r50.2)])] rfl ⟨rfl, ⟨_, rfl, run_loadVar_row w70 b13 _ 29 _ _ _ hb72 Try.underlying29 rfl (by kernel_rfl)⟩, trivial⟩ ?_)
    have hg79 := (grown_trans hg53 hg57)
    have hB80 := below_grown hB37 hg79 hB37.size nb
    have hB81 := below_grown hB37 hg53 hB37.size nb
    have hlo82 : w0.heap.size ≤ b55 := lob hbe59 hB81.size
    have hB83 := below_grown hB80 hg62 hB80.size (rowlo hlo82)
    have hB84 := below_grown hB83 hg67 hB83.size nb
    have hB85 := below_grown hB84 hg71 hB84.size (rowlo hlo49)
    exact ⟨grown_of_below hB85, rfl⟩
  · replace h0 := ite_f hc65 h0
    refine gv_skip ?_
    refine gv_seq ?_
    refine gv_region ?_
    refine gv_pure 1 [2, 3, 5, 18] (σ' := [(2, (.pointer (some ⟨b1, 0, none⟩))), (3, (.pointer (some ⟨b7, 0, none⟩))), (5, (.pointer (some ⟨b13, 0, none⟩))), (18, (.pointer (some ⟨b1, 1, none⟩)))]) (by kernel_rfl) ?_
    have hg86 := (grown_trans (grown_trans hg24 hg53) hg57)
    have hg87 := (grown_trans hg24 hg53)
    have hk88 := hk20.grown hg87 nb
    have ap89 : ¬ (· = b1) b55 := fun hx => Nat.not_lt_of_le ((lowb hbe59) _ rfl) ((fun k (hk : k = b1) => Nat.lt_of_le_of_lt (Nat.le_of_eq hk) hk88.lt) _ hx)
    have hk90 := (hk20.grown hg86 nb).grown hg62 (rowne ap89)
    refine gv_load (t := 22) (A := ⟨b1, 1, none⟩) (.slice pa0_0 (List.length a_0.2) pc0_0) [2, 3, 5, 19] (σ' := [(2, (.pointer (some ⟨b1, 0, none⟩))), (3, (.pointer (some ⟨b7, 0, none⟩))), (5, (.pointer (some ⟨b13, 0, none⟩))), (19, (.slice pa0_0 (List.length a_0.2) pc0_0))]) (fun e => by cases e) (by rfl) (by rfl) (by rfl) (by kernel_rfl) (by kernel_rfl) (by kernel_rfl) (inw0 (hk90.cell 1 rfl)) (by kernel_rfl) ?_
    refine gv_pure 1 [2, 3, 5, 19, 20] (σ' := [(2, (.pointer (some ⟨b1, 0, none⟩))), (3, (.pointer (some ⟨b7, 0, none⟩))), (5, (.pointer (some ⟨b13, 0, none⟩))), (19, (.slice pa0_0 (List.length a_0.2) pc0_0)), (20, (.pointer (some ⟨b7, 1, none⟩)))]) (by kernel_rfl) ?_
    have hk91 := hk21.grown hg87 nb
    have ap92 : ¬ (· = b7) b55 := fun hx => Nat.not_lt_of_le ((lowb hbe59) _ rfl) ((fun k (hk : k = b7) => Nat.lt_of_le_of_lt (Nat.le_of_eq hk) hk91.lt) _ hx)
    have hk93 := (hk21.grown hg86 nb).grown hg62 (rowne ap92)
    refine gv_load (t := 22) (A := ⟨b7, 1, none⟩) (.slice pa1_0 (List.length b_1.2) pc1_0) [2, 3, 5, 19, 21] (σ' := [(2, (.pointer (some ⟨b1, 0, none⟩))), (3, (.pointer (some ⟨b7, 0, none⟩))), (5, (.pointer (some ⟨b13, 0, none⟩))), (19, (.slice pa0_0 (List.length a_0.2) pc0_0)), (21, (.slice pa1_0 (List.length b_1.2) pc1_0))]) (fun e => by cases e) (by rfl) (by rfl) (by rfl) (by kernel_rfl) (by kernel_rfl) (by kernel_rfl) (inw0 (hk93.cell 1 rfl)) (by kernel_rfl) ?_
    refine bindE h0 ?_; clear h0; intro r94 hr95 h0
    have hg96 := (grown_trans hg53 hg57)
    have hB97 := below_grown hB37 hg96 hB37.size nb
    have hB98 := below_grown hB37 hg53 hB37.size nb
    have hlo99 : w0.heap.size ≤ b55 := lob hbe59 hB98.size
    have hB100 := below_grown hB97 hg62 hB97.size (rowlo hlo99)
    refine gv_call (f := 63) (vs := [(.slice pa0_0 (List.length a_0.2) pc0_0), (.slice pa1_0 (List.length b_1.2) pc1_0)]) (cap := []) _ (by decide) (by rfl) (by rfl) rfl (by rfl) (by rfl) enters63 (natural_Cmp_ok fuel pa0_0 pc0_0 a_0.2 pa1_0 pc1_0 b_1.2 w61 (fun k => X0 k ∨ X0 k) (fun k hk => (hk).elim (fun h => (fun k (hk : X0 k) => Nat.lt_of_lt_of_le (hX0 k hk) hB100.size) k h) (fun h => (fun k (hk : X0 k) => Nat.lt_of_lt_of_le (hX0 k hk) hB100.size) k h)) ((hpa0_0.below hB100 hX0).wide (fun k hk => (.inl hk))) ((hpa1_0.below hB100 hX0).wide (fun k hk => (.inr hk))) r94 hr95) ?_
    rintro v103 w101 ⟨hg102, rfl⟩
    refine ⟨(fun e => by cases e), ?_⟩
    refine gv_pure 3 [2, 3, 5, 23, 24] (σ' := [(2, (.pointer (some ⟨b1, 0, none⟩))), (3, (.pointer (some ⟨b7, 0, none⟩))), (5, (.pointer (some ⟨b13, 0, none⟩))), (23, (.int .i64 r94.1)), (24, (.agg #[(.int .i64 r94.2.1), (.int .i64 r94.2.2)]))]) (by kernel_rfl) ?_
    refine gv_new (fun b => .pointer (some ⟨b, 0, none⟩)) #[(.int .i64 0), (.int .i64 0)] 29 (by decide) (by rfl) (by rfl) (by kernel_rfl) (by kernel_rfl) ?_
    intro b104 w105 hg106 hb107 hbe108 hz109
    refine ⟨(fun e => by cases e), ?_⟩
    refine gv_pure 1 [2, 3, 5, 7, 8, 24] (σ' := [(2, (.pointer (some ⟨b1, 0, none⟩))), (3, (.pointer (some ⟨b7, 0, none⟩))), (5, (.pointer (some ⟨b13, 0, none⟩))), (7, (.int .i64 r94.1)), (8, (.pointer (some ⟨b104, 0, none⟩))), (24, (.agg #[(.int .i64 r94.2.1), (.int .i64 r94.2.2)]))]) (by kernel_rfl) ?_
    refine gv_store (t := 29) (b := b104) (off := 0) (v := (.agg #[(.int .i64 r94.2.1), (.int .i64 r94.2.2)])) (t' := 29) (cs := #[(.int .i64 0), (.int .i64 0)]) #[(.int .i64 r94.2.1), (.int .i64 r94.2.2)] (by decide) (by rfl) (by rfl) (by kernel_rfl) (by kernel_rfl) (by kernel_rfl) (by intro u hu; simp [Value.cells] at hu; rcases hu with rfl | rfl <;> rfl) (show 0 + 2 ≤ 2 by decide) (by rfl) hb107 ?_
    intro w110 hg111 hb112 hz113
    refine ⟨(fun e => by cases e), ?_⟩
    refine gv_sub [2, 3, 5, 7] (σ' := [(2, (.pointer (some ⟨b1, 0, none⟩))), (3, (.pointer (some ⟨b7, 0, none⟩))), (5, (.pointer (some ⟨b13, 0, none⟩))), (7, (.int .i64 r94.1))]) (by kernel_rfl) ?_
    refine gv_nil ?_
    refine gv_seq ?_
    refine gv_block ?_
    refine gv_seq ?_
    refine gv_region ?_
    refine bindE h0 ?_; clear h0; intro j114 h1 h0
    refine gv_cut_ops (J := fun a w115 => Below w0.heap.size w0 w115 ∧ w110.heap.size ≤ w115.heap.size ∧ Box w115 b1 24 #[(.bool a_0.1), (.slice pa0_0 (List.length a_0.2) pc0_0)] ∧ Box w115 b7 24 #[(.bool b_1.1), (.slice pa1_0 (List.length b_1.2) pc1_0)] ∧ Box w115 b13 29 #[(.int .i64 0), (.int .i64 0)] ∧ a.defers = [] ∧ a.tmps.size = 45 ∧ Ok [(2, (.pointer (some ⟨b1, 0, none⟩))), (3, (.pointer (some ⟨b7, 0, none⟩))), (5, (.pointer (some ⟨b13, 0, none⟩))), (7, (.int .i64 r94.1)), (25, (.bool j114))] a.tmps) ?_ ?_
    · skip
      refine gv_pure 1 [2, 3, 5, 7, 26] (σ' := [(2, (.pointer (some ⟨b1, 0, none⟩))), (3, (.pointer (some ⟨b7, 0, none⟩))), (5, (.pointer (some ⟨b13, 0, none⟩))), (7, (.int .i64 r94.1)), (26, (.pointer (some ⟨b1, 0, none⟩)))]) (by kernel_rfl) ?_
      have hg116 := (grown_trans hg102 hg106)
      have hk117 := hk90.grown hg102 nb
      have ap118 : ¬ (· = b1) b104 := fun hx => Nat.not_lt_of_le ((lowb hbe108) _ rfl) ((fun k (hk : k = b1) => Nat.lt_of_le_of_lt (Nat.le_of_eq hk) hk117.lt) _ hx)
      have hk119 := (hk90.grown hg116 nb).grown hg111 (rowne ap118)
      refine gv_load (t := 4) (A := ⟨b1, 0, none⟩) (.bool a_0.1) [2, 3, 5, 7, 27] (σ' := [(2, (.pointer (some ⟨b1, 0, none⟩))), (3, (.pointer (some ⟨b7, 0, none⟩))), (5, (.pointer (some ⟨b13, 0, none⟩))), (7, (.int .i64 r94.1)), (27, (.bool a_0.1))]) (fun e => by cases e) (by rfl) (by rfl) (by rfl) (by kernel_rfl) (by kernel_rfl) (by kernel_rfl) (inw0 (hk119.cell 0 rfl)) (by kernel_rfl) ?_
      refine gv_pure 1 [2, 3, 5, 7, 28] (σ' := [(2, (.pointer (some ⟨b1, 0, none⟩))), (3, (.pointer (some ⟨b7, 0, none⟩))), (5, (.pointer (some ⟨b13, 0, none⟩))), (7, (.int .i64 r94.1)), (28, (.bool a_0.1))]) (by kernel_rfl) ?_
      refine gv_split (s := 28) (g := a_0.1) (by rfl) (fun hc120 => ?_) (fun hc120 => ?_)
      · skip
        replace h1 := ite_t hc120 h1
        refine gv_pure 1 [2, 3, 5, 7, 28, 29] (σ' := [(2, (.pointer (some ⟨b1, 0, none⟩))), (3, (.pointer (some ⟨b7, 0, none⟩))), (5, (.pointer (some ⟨b13, 0, none⟩))), (7, (.int .i64 r94.1)), (28, (.bool true)), (29, (.pointer (some ⟨b7, 0, none⟩)))]) (by kernel_rfl) ?_
        have hk121 := hk93.grown hg102 nb
        have ap122 : ¬ (· = b7) b104 := fun hx => Nat.not_lt_of_le ((lowb hbe108) _ rfl) ((fun k (hk : k = b7) => Nat.lt_of_le_of_lt (Nat.le_of_eq hk) hk121.lt) _ hx)
        have hk123 := (hk93.grown hg116 nb).grown hg111 (rowne ap122)
        refine gv_load (t := 4) (A := ⟨b7, 0, none⟩) (.bool b_1.1) [2, 3, 5, 7, 28, 30] (σ' := [(2, (.pointer (some ⟨b1, 0, none⟩))), (3, (.pointer (some ⟨b7, 0, none⟩))), (5, (.pointer (some ⟨b13, 0, none⟩))), (7, (.int .i64 r94.1)), (28, (.bool true)), (30, (.bool b_1.1))]) (fun e => by cases e) (by rfl) (by rfl) (by rfl) (by kernel_rfl) (by kernel_rfl) (by kernel_rfl) (inw0 (hk123.cell 0 rfl)) (by kernel_rfl) ?_
        refine gv_pure 2 [2, 3, 5, 7, 25] (σ' := [(2, (.pointer (some ⟨b1, 0, none⟩))), (3, (.pointer (some ⟨b7, 0, none⟩))), (5, (.pointer (some ⟨b13, 0, none⟩))), (7, (.int .i64 r94.1)), (25, (.bool b_1.1))]) (by kernel_rfl) ?_
        refine gv_nil ?_
        have e := Option.some.inj h1; subst e
        refine gv_goal fun a hd hs hok => ?_
        obtain ⟨q2, q3, q5, q7, q25, _⟩ := hok
        have hB124 := below_grown hB100 hg116 hB100.size nb
        have hB125 := below_grown hB100 hg102 hB100.size nb
        have hlo126 : w0.heap.size ≤ b104 := lob hbe108 hB125.size
        have hB127 := below_grown hB124 hg111 hB124.size (rowlo hlo126)
        have hk128 := hb16.grown hg87 nb
        have ap129 : ¬ (· = b13) b55 := fun hx => Nat.not_lt_of_le ((lowb hbe59) _ rfl) ((fun k (hk : k = b13) => Nat.lt_of_le_of_lt (Nat.le_of_eq hk) hk128.lt) _ hx)
        have hk130 := ((hk128.grown hg57 nb).grown hg62 (rowne ap129)).grown hg102 nb
        have ap131 : ¬ (· = b13) b104 := fun hx => Nat.not_lt_of_le ((lowb hbe108) _ rfl) ((fun k (hk : k = b13) => Nat.lt_of_le_of_lt (Nat.le_of_eq hk) hk130.lt) _ hx)
        have hk132 := (((hb16.grown hg86 nb).grown hg62 (rowne ap129)).grown hg116 nb).grown hg111 (rowne ap131)
        exact ⟨hB127, (Nat.le_refl _), hk119, hk123, hk132, hd, hs, ⟨q2, q3, q5, q7, q25, trivial⟩⟩
      · skip
        replace h1 := ite_f hc120 h1
        refine gv_pure 4 [2, 3, 5, 7, 25] (σ' := [(2, (.pointer (some ⟨b1, 0, none⟩))), (3, (.pointer (some ⟨b7, 0, none⟩))), (5, (.pointer (some ⟨b13, 0, none⟩))), (7, (.int .i64 r94.1)), (25, (.bool false))]) (by kernel_rfl) ?_
        refine gv_nil ?_
        have e := Option.some.inj h1; subst e
        refine gv_goal fun a hd hs hok => ?_
        obtain ⟨q2, q3, q5, q7, q25, _⟩ := hok
        have hB133 := below_grown hB100 hg116 hB100.size nb
        have hB134 := below_grown hB100 hg102 hB100.size nb
        have hlo135 : w0.heap.size ≤ b104 := lob hbe108 hB134.size
        have hB136 := below_grown hB133 hg111 hB133.size (rowlo hlo135)
        have hk137 := hk93.grown hg102 nb
        have ap138 : ¬ (· = b7) b104 := fun hx => Nat.not_lt_of_le ((lowb hbe108) _ rfl) ((fun k (hk : k = b7) => Nat.lt_of_le_of_lt (Nat.le_of_eq hk) hk137.lt) _ hx)
        have hk139 := (hk93.grown hg116 nb).grown hg111 (rowne ap138)
        have hk140 := hb16.grown hg87 nb
        have ap141 : ¬ (· = b13) b55 := fun hx => Nat.not_lt_of_le ((lowb hbe59) _ rfl) ((fun k (hk : k = b13) => Nat.lt_of_le_of_lt (Nat.le_of_eq hk) hk140.lt) _ hx)
        have hk142 := ((hk140.grown hg57 nb).grown hg62 (rowne ap141)).grown hg102 nb
        have ap143 : ¬ (· = b13) b104 := fun hx => Nat.not_lt_of_le ((lowb hbe108) _ rfl) ((fun k (hk : k = b13) => Nat.lt_of_le_of_lt (Nat.le_of_eq hk) hk142.lt) _ hx)
        have hk144 := (((hb16.grown hg86 nb).grown hg62 (rowne ap141)).grown hg116 nb).grown hg111 (rowne ap143)
        exact ⟨hB136, (Nat.le_refl _), hk119, hk139, hk144, hd, hs, ⟨q2, q3, q5, q7, q25, trivial⟩⟩
    · rintro a w115 ⟨hB145, hz146, hb147, hb148, hb149, hd, hs, hok⟩
      refine (?_ : Run Try.prog _ 45 _ .normal [(2, (.pointer (some ⟨b1, 0, none⟩))), (3, (.pointer (some ⟨b7, 0, none⟩))), (5, (.pointer (some ⟨b13, 0, none⟩))), (7, (.int .i64 r94.1)), (25, (.bool j114))] w115) a hd hs hok
      clear hd hs hok
      clear hz146 hz113 hb112 hg111 hz109 hbe108 hb107 hg106 hg102 hB100 hlo99 hB98 hB97 hg96 hr95 hk93 ap92 hk91 hk90 ap89 hk88 hg87 hg86 hc65 hz64 hb63 hg62 hz60 hbe59 hb58 hg57 hg53 hr51 ap47 hB48 ap46 ap43 hB44 ap42 ap40 ap39 hl29 hx38 ho28 hB37 hx32 hx30 hz36 hx31 hB35 hg34 hz27 hbe26 hb25 hg24 hk21 hk20 hg19 hz18 hb16 hg15 hz12 hz6 hbe5 hg3
      refine gv_cond (b := j114) (by rfl) (fun hc150 => ?_) (fun hc150 => ?_)
      · replace h0 := ite_t hc150 h0
        refine gv_seq ?_
        refine gv_region ?_
        refine gv_pure 4 [4, 5, 34] (σ' := [(4, (.int .i64 (IntKind.i64.wrap (0 - r94.1)))), (5, (.pointer (some ⟨b13, 0, none⟩))), (34, (.agg #[(.int .i64 0), (.int .i64 0)]))]) (by kernel_rfl) ?_
        refine gv_store (t := 29) (b := b13) (off := 0) (v := (.agg #[(.int .i64 0), (.int .i64 0)])) (t' := 29) (cs := #[(.int .i64 0), (.int .i64 0)]) #[(.int .i64 0), (.int .i64 0)] (by decide) (by rfl) (by rfl) (by kernel_rfl) (by kernel_rfl) (by kernel_rfl) (by intro u hu; simp [Value.cells] at hu; rcases hu with rfl | rfl <;> rfl) (show 0 + 2 ≤ 2 by decide) (by rfl) hb149 ?_
        intro w151 hg152 hb153 hz154
        refine ⟨(fun e => by cases e), ?_⟩
        refine gv_sub [4, 5] (σ' := [(4, (.int .i64 (IntKind.i64.wrap (0 - r94.1)))), (5, (.pointer (some ⟨b13, 0, none⟩)))]) (by kernel_rfl) ?_
        refine gv_nil ?_
        refine gv_cret ?_
        have e := Option.some.inj h0; subst e
        refine gv_ret (gv_done [(.int .i64 (IntKind.i64.wrap (0 - r94.1))), (.agg #[(.int .i64 0), (.int .i64 0)])] rfl ⟨rfl, ⟨_, rfl, run_loadVar_row w151 b13 _ 29 _ _ _ hb153 Try.underlying29 rfl (by kernel_rfl)⟩, trivial⟩ ?_)
        have hB155 := below_grown hB145 hg152 hB145.size (rowlo hlo49)
        exact ⟨grown_of_below hB155, rfl⟩
      · replace h0 := ite_f hc150 h0
        refine gv_seq ?_
        refine gv_region ?_
        refine gv_pure 1 [3, 5, 7, 36] (σ' := [(3, (.pointer (some ⟨b7, 0, none⟩))), (5, (.pointer (some ⟨b13, 0, none⟩))), (7, (.int .i64 r94.1)), (36, (.pointer (some ⟨b1, 0, none⟩)))]) (by kernel_rfl) ?_
        refine gv_load (t := 4) (A := ⟨b1, 0, none⟩) (.bool a_0.1) [3, 5, 7, 37] (σ' := [(3, (.pointer (some ⟨b7, 0, none⟩))), (5, (.pointer (some ⟨b13, 0, none⟩))), (7, (.int .i64 r94.1)), (37, (.bool a_0.1))]) (fun e => by cases e) (by rfl) (by rfl) (by rfl) (by kernel_rfl) (by kernel_rfl) (by kernel_rfl) (inw0 (hb147.cell 0 rfl)) (by kernel_rfl) ?_
        refine gv_pure 1 [3, 5, 7, 35] (σ' := [(3, (.pointer (some ⟨b7, 0, none⟩))), (5, (.pointer (some ⟨b13, 0, none⟩))), (7, (.int .i64 r94.1)), (35, (.bool a_0.1))]) (by kernel_rfl) ?_
        refine gv_nil ?_
        refine gv_cond (b := a_0.1) (by rfl) (fun hc156 => ?_) (fun hc156 => ?_)
        · replace h0 := ite_t hc156 h0
          refine gv_seq ?_
          refine gv_region ?_
          refine gv_pure 2 [4, 5, 38] (σ' := [(4, (.int .i64 (-1))), (5, (.pointer (some ⟨b13, 0, none⟩))), (38, (.agg #[(.int .i64 0), (.int .i64 0)]))]) (by kernel_rfl) ?_
          refine gv_store (t := 29) (b := b13) (off := 0) (v := (.agg #[(.int .i64 0), (.int .i64 0)])) (t' := 29) (cs := #[(.int .i64 0), (.int .i64 0)]) #[(.int .i64 0), (.int .i64 0)] (by decide) (by rfl) (by rfl) (by kernel_rfl) (by kernel_rfl) (by kernel_rfl) (by intro u hu; simp [Value.cells] at hu; rcases hu with rfl | rfl <;> rfl) (show 0 + 2 ≤ 2 by decide) (by rfl) hb149 ?_
          intro w157 hg158 hb159 hz160
          refine ⟨(fun e => by cases e), ?_⟩
          refine gv_sub [4, 5] (σ' := [(4, (.int .i64 (-1))), (5, (.pointer (some ⟨b13, 0, none⟩)))]) (by kernel_rfl) ?_
          refine gv_nil ?_
          refine gv_cret ?_
          have e := Option.some.inj h0; subst e
          refine gv_ret (gv_done [(.int .i64 (-1)), (.agg #[(.int .i64 0), (.int .i64 0)])] rfl ⟨rfl, ⟨_, rfl, run_loadVar_row w157 b13 _ 29 _ _ _ hb159 Try.underlying29 rfl (by kernel_rfl)⟩, trivial⟩ ?_)
          have hB161 := below_grown hB145 hg158 hB145.size (rowlo hlo49)
          exact ⟨grown_of_below hB161, rfl⟩
        · replace h0 := ite_f hc156 h0
          refine gv_seq ?_
          refine gv_region ?_
          refine gv_pure 1 [5, 7, 40] (σ' := [(5, (.pointer (some ⟨b13, 0, none⟩))), (7, (.int .i64 r94.1)), (40, (.pointer (some ⟨b7, 0, none⟩)))]) (by kernel_rfl) ?_
          refine gv_load (t := 4) (A := ⟨b7, 0, none⟩) (.bool b_1.1) [5, 7, 41] (σ' := [(5, (.pointer (some ⟨b13, 0, none⟩))), (7, (.int .i64 r94.1)), (41, (.bool b_1.1))]) (fun e => by cases e) (by rfl) (by rfl) (by rfl) (by kernel_rfl) (by kernel_rfl) (by kernel_rfl) (inw0 (hb148.cell 0 rfl)) (by kernel_rfl) ?_
          refine gv_pure 1 [5, 7, 39] (σ' := [(5, (.pointer (some ⟨b13, 0, none⟩))), (7, (.int .i64 r94.1)), (39, (.bool b_1.1))]) (by kernel_rfl) ?_
          refine gv_nil ?_
          refine gv_cond (b := b_1.1) (by rfl) (fun hc162 => ?_) (fun hc162 => ?_)
          · replace h0 := ite_t hc162 h0
            refine gv_seq ?_
            refine gv_region ?_
            refine gv_pure 2 [4, 5, 42] (σ' := [(4, (.int .i64 1)), (5, (.pointer (some ⟨b13, 0, none⟩))), (42, (.agg #[(.int .i64 0), (.int .i64 0)]))]) (by kernel_rfl) ?_
            refine gv_store (t := 29) (b := b13) (off := 0) (v := (.agg #[(.int .i64 0), (.int .i64 0)])) (t' := 29) (cs := #[(.int .i64 0), (.int .i64 0)]) #[(.int .i64 0), (.int .i64 0)] (by decide) (by rfl) (by rfl) (by kernel_rfl) (by kernel_rfl) (by kernel_rfl) (by intro u hu; simp [Value.cells] at hu; rcases hu with rfl | rfl <;> rfl) (show 0 + 2 ≤ 2 by decide) (by rfl) hb149 ?_
            intro w163 hg164 hb165 hz166
            refine ⟨(fun e => by cases e), ?_⟩
            refine gv_sub [4, 5] (σ' := [(4, (.int .i64 1)), (5, (.pointer (some ⟨b13, 0, none⟩)))]) (by kernel_rfl) ?_
            refine gv_nil ?_
            refine gv_cret ?_
            have e := Option.some.inj h0; subst e
            refine gv_ret (gv_done [(.int .i64 1), (.agg #[(.int .i64 0), (.int .i64 0)])] rfl ⟨rfl, ⟨_, rfl, run_loadVar_row w163 b13 _ 29 _ _ _ hb165 Try.underlying29 rfl (by kernel_rfl)⟩, trivial⟩ ?_)
            have hB167 := below_grown hB145 hg164 hB145.size (rowlo hlo49)
            exact ⟨grown_of_below hB167, rfl⟩
          · replace h0 := ite_f hc162 h0
            refine gv_skip ?_
            refine gv_blk ?_
            refine gv_seq ?_
            refine gv_region ?_
            refine gv_pure 3 [4, 5, 44] (σ' := [(4, (.int .i64 r94.1)), (5, (.pointer (some ⟨b13, 0, none⟩))), (44, (.agg #[(.int .i64 0), (.int .i64 0)]))]) (by kernel_rfl) ?_
            refine gv_store (t := 29) (b := b13) (off := 0) (v := (.agg #[(.int .i64 0), (.int .i64 0)])) (t' := 29) (cs := #[(.int .i64 0), (.int .i64 0)]) #[(.int .i64 0), (.int .i64 0)] (by decide) (by rfl) (by rfl) (by kernel_rfl) (by kernel_rfl) (by kernel_rfl) (by intro u hu; simp [Value.cells] at hu; rcases hu with rfl | rfl <;> rfl) (show 0 + 2 ≤ 2 by decide) (by rfl) hb149 ?_
            intro w168 hg169 hb170 hz171
            refine ⟨(fun e => by cases e), ?_⟩
            clear hz171 hc162 hc156 hc150 hb149 hb148 hb147 hlo45 hlo41 hbe17 hbe11 hb10 hg9 hb4
            refine gv_sub [4, 5] (σ' := [(4, (.int .i64 r94.1)), (5, (.pointer (some ⟨b13, 0, none⟩)))]) (by kernel_rfl) ?_
            refine gv_nil ?_
            refine gv_cret ?_
            have e := Option.some.inj h0; subst e
            refine gv_ret (gv_done [(.int .i64 r94.1), (.agg #[(.int .i64 0), (.int .i64 0)])] rfl ⟨rfl, ⟨_, rfl, run_loadVar_row w168 b13 _ 29 _ _ _ hb170 Try.underlying29 rfl (by kernel_rfl)⟩, trivial⟩ ?_)
            have hB172 := below_grown hB145 hg169 hB145.size (rowlo hlo49)
            exact ⟨grown_of_below hB172, rfl⟩

end Go.Proofs.Ytenjigdaaeiklaa
