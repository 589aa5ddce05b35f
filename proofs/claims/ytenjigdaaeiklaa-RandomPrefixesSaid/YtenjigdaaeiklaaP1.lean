import Derived.Test.YtenjigdaaeiklaaP0
set_option linter.all false
/- Own work, printed by a program of mine: the walk of each function: a call returns what the plain function says. -/
namespace Go.Proofs.Ytenjigdaaeiklaa
open Go.Gv Go.Gv.D Go.RowKit
set_option maxHeartbeats 4000000 in
set_option maxRecDepth 100000 in
theorem natural_Sub_ok (fuel : Nat) (pa0_0 : Option Addr) (pc0_0 : Nat) (a_0 : (List Int)) (pa1_0 : Option Addr) (pc1_0 : Nat) (b_1 : (List Int)) (w0 : World) (X0 : Nat → Prop) (hX0 : ∀ k, X0 k → k < w0.heap.size) (hpa0_0 : Rd (iE .u32) w0 X0 pa0_0 pc0_0 a_0) (hpa1_0 : Rd (iE .u32) w0 X0 pa1_0 pc1_0 b_1) (r0 : ((List Int) × (Int × Int))) (h0 : natural_Sub fuel a_0 b_1 = some r0) :
    Calls Try.prog 74 ([(.slice pa0_0 (List.length a_0) pc0_0), (.slice pa1_0 (List.length b_1) pc1_0)] : List Value).toArray w0 (Ret fun v w' => w0.grownBy w' none ∧ ∃ (a0_0r : Option Addr) (c0_0r : Nat), ∃ (X0_0r : Nat → Prop), v = tup [(.slice a0_0r (List.length r0.1) c0_0r), (.agg #[(.int .i64 r0.2.1), (.int .i64 r0.2.2)])] ∧ Rd (iE .u32) w' X0_0r a0_0r c0_0r r0.1 ∧ (∀ k, X0_0r k → k < w'.heap.size ∧ (X0 k ∨ w0.heap.size ≤ k))) := by
  have hB0 : Below w0.heap.size w0 w0 := Below.refl _ _
  unfold natural_Sub at h0
  refine calls_run Try.func74 rfl Try.ntmps74 (by kernel_rfl) ?_
  refine gv_sub [0, 1] (σ' := [(0, (.slice pa0_0 (List.length a_0) pc0_0)), (1, (.slice pa1_0 (List.length b_1) pc1_0))]) (by kernel_rfl) ?_
  refine gv_seq ?_
  refine gv_region ?_
  refine gv_pure 1 [0, 1] (σ' := [(0, (.slice pa0_0 (List.length a_0) pc0_0)), (1, (.slice pa1_0 (List.length b_1) pc1_0))]) (by kernel_rfl) ?_
  refine gv_new (fun b => .pointer (some ⟨b, 0, none⟩)) #[(.int .i64 0), (.int .i64 0)] 29 (by decide) (by rfl) (by rfl) (by kernel_rfl) (by kernel_rfl) ?_
  intro b1 w2 hg3 hb4 hbe5 hz6
  refine ⟨(fun e => by cases e), ?_⟩
  refine gv_sub [0, 1, 5] (σ' := [(0, (.slice pa0_0 (List.length a_0) pc0_0)), (1, (.slice pa1_0 (List.length b_1) pc1_0)), (5, (.pointer (some ⟨b1, 0, none⟩)))]) (by kernel_rfl) ?_
  refine gv_nil ?_
  refine gv_seq ?_
  refine gv_seq ?_
  refine gv_region ?_
  refine gv_pure 2 [0, 1, 5, 7, 8] (σ' := [(0, (.slice pa0_0 (List.length a_0) pc0_0)), (1, (.slice pa1_0 (List.length b_1) pc1_0)), (5, (.pointer (some ⟨b1, 0, none⟩))), (7, (.slice pa0_0 (List.length a_0) pc0_0)), (8, (.slice pa1_0 (List.length b_1) pc1_0))]) (by kernel_rfl) ?_
  refine bindE h0 ?_; clear h0; intro r7 hr8 h0
  have hB9 := below_grown hB0 hg3 hB0.size nb
  refine gv_call (f := 70) (vs := [(.slice pa0_0 (List.length a_0) pc0_0), (.slice pa1_0 (List.length b_1) pc1_0)]) (cap := []) _ (by decide) (by rfl) (by rfl) rfl (by rfl) (by rfl) enters70 (natural_check_ok fuel pa0_0 pc0_0 a_0 pa1_0 pc1_0 b_1 w2 (fun k => X0 k ∨ X0 k) (fun k hk => (hk).elim (fun h => (fun k (hk : X0 k) => Nat.lt_of_lt_of_le (hX0 k hk) hB9.size) k h) (fun h => (fun k (hk : X0 k) => Nat.lt_of_lt_of_le (hX0 k hk) hB9.size) k h)) ((hpa0_0.below hB9 hX0).wide (fun k hk => (.inl hk))) ((hpa1_0.below hB9 hX0).wide (fun k hk => (.inr hk))) r7 hr8) ?_
  rintro v12 w10 ⟨hg11, rfl⟩
  refine ⟨(fun e => by cases e), ?_⟩
  refine gv_sub [0, 1, 5, 9] (σ' := [(0, (.slice pa0_0 (List.length a_0) pc0_0)), (1, (.slice pa1_0 (List.length b_1) pc1_0)), (5, (.pointer (some ⟨b1, 0, none⟩))), (9, (.agg #[(.int .i64 r7.1), (.int .i64 r7.2)]))]) (by kernel_rfl) ?_
  refine gv_new (fun b => .pointer (some ⟨b, 0, none⟩)) #[(.int .i64 0), (.int .i64 0)] 29 (by decide) (by rfl) (by rfl) (by kernel_rfl) (by kernel_rfl) ?_
  intro b13 w14 hg15 hb16 hbe17 hz18
  refine ⟨(fun e => by cases e), ?_⟩
  refine gv_sub [0, 1, 5, 6, 9] (σ' := [(0, (.slice pa0_0 (List.length a_0) pc0_0)), (1, (.slice pa1_0 (List.length b_1) pc1_0)), (5, (.pointer (some ⟨b1, 0, none⟩))), (6, (.pointer (some ⟨b13, 0, none⟩))), (9, (.agg #[(.int .i64 r7.1), (.int .i64 r7.2)]))]) (by kernel_rfl) ?_
  refine gv_store (t := 29) (b := b13) (off := 0) (v := (.agg #[(.int .i64 r7.1), (.int .i64 r7.2)])) (t' := 29) (cs := #[(.int .i64 0), (.int .i64 0)]) #[(.int .i64 r7.1), (.int .i64 r7.2)] (by decide) (by rfl) (by rfl) (by kernel_rfl) (by kernel_rfl) (by kernel_rfl) (by intro u hu; simp [Value.cells] at hu; rcases hu with rfl | rfl <;> rfl) (show 0 + 2 ≤ 2 by decide) (by rfl) hb16 ?_
  intro w19 hg20 hb21 hz22
  refine ⟨(fun e => by cases e), ?_⟩
  refine gv_sub [0, 1, 5, 6] (σ' := [(0, (.slice pa0_0 (List.length a_0) pc0_0)), (1, (.slice pa1_0 (List.length b_1) pc1_0)), (5, (.pointer (some ⟨b1, 0, none⟩))), (6, (.pointer (some ⟨b13, 0, none⟩)))]) (by kernel_rfl) ?_
  refine gv_nil ?_
  refine gv_seq ?_
  refine gv_region ?_
  refine gv_pure 1 [0, 1, 5, 6, 10] (σ' := [(0, (.slice pa0_0 (List.length a_0) pc0_0)), (1, (.slice pa1_0 (List.length b_1) pc1_0)), (5, (.pointer (some ⟨b1, 0, none⟩))), (6, (.pointer (some ⟨b13, 0, none⟩))), (10, (.pointer (some ⟨b13, 0, none⟩)))]) (by kernel_rfl) ?_
  refine gv_load (t := 3) (A := ⟨b13, 0, none⟩) (.int .i64 r7.1) [0, 1, 5, 6, 11] (σ' := [(0, (.slice pa0_0 (List.length a_0) pc0_0)), (1, (.slice pa1_0 (List.length b_1) pc1_0)), (5, (.pointer (some ⟨b1, 0, none⟩))), (6, (.pointer (some ⟨b13, 0, none⟩))), (11, (.int .i64 r7.1))]) (fun e => by cases e) (by rfl) (by rfl) (by rfl) (by kernel_rfl) (by kernel_rfl) (by kernel_rfl) (inw0 (hb21.cell 0 rfl)) (by kernel_rfl) ?_
  refine gv_pure 1 [0, 1, 5, 6, 12] (σ' := [(0, (.slice pa0_0 (List.length a_0) pc0_0)), (1, (.slice pa1_0 (List.length b_1) pc1_0)), (5, (.pointer (some ⟨b1, 0, none⟩))), (6, (.pointer (some ⟨b13, 0, none⟩))), (12, (.bool (r7.1 != 0)))]) (by kernel_rfl) ?_
  refine gv_nil ?_
  refine gv_cond (b := (r7.1 != 0)) (by rfl) (fun hc23 => ?_) (fun hc23 => ?_)
  · replace h0 := ite_t hc23 h0
    refine gv_seq ?_
    refine gv_drawA (by kernel_rfl) ?_
    intro w24 hg25
    refine gv_pre [1] #[false, true, false] 2 (by kernel_rfl) (by rfl) ?_
    refine gv_pure 1 [4, 5, 6] (σ' := [(4, (.slice none (List.length ([] : List Int)) 0)), (5, (.pointer (some ⟨b1, 0, none⟩))), (6, (.pointer (some ⟨b13, 0, none⟩)))]) (by kernel_rfl) ?_
    refine gv_nil ?_
    refine gv_goal fun a hd hs hok => ?_
    refine (?_ : RunA Try.prog _ 23 _ _ 2 #[false, true, false] [(4, (.slice none (List.length ([] : List Int)) 0)), (5, (.pointer (some ⟨b1, 0, none⟩))), (6, (.pointer (some ⟨b13, 0, none⟩)))] w24) a hd hs hok
    clear hd hs hok
    refine gv_stage (Cls w24 []) [0, 1] [(0, some true)] #[true, true, false] 1 (by kernel_rfl) (by rfl) (Cls.refl _ _) ?_
    have hC26 := Cls.refl w24 []
    have hk27 := hb21.grown hg25 nb
    refine gv_loadBox (t := 29) (b := b13) (t' := 29) (fr := (0, 0)) #[(.int .i64 r7.1), (.int .i64 r7.2)] [4, 5, 13] (σ' := [(4, (.slice none (List.length ([] : List Int)) 0)), (5, (.pointer (some ⟨b1, 0, none⟩))), (13, (.agg #[(.int .i64 r7.1), (.int .i64 r7.2)]))]) (fun e => by cases e) (by rfl) (by rfl) (by rfl) (by kernel_rfl) (by kernel_rfl) (by kernel_rfl) (by kernel_rfl) (inw1 fun w' hC' => (hC'.box hk27 nm_nil)) (by kernel_rfl) ?_
    refine gv_nil ?_
    refine gv_goal fun a hd hs hok => ?_
    refine (?_ : RunA Try.prog _ 23 _ _ 1 #[true, true, false] [(4, (.slice none (List.length ([] : List Int)) 0)), (5, (.pointer (some ⟨b1, 0, none⟩))), (13, (.agg #[(.int .i64 r7.1), (.int .i64 r7.2)]))] w24) a hd hs hok
    clear hd hs hok
    refine gv_stage (fun _ => True) [0, 1, 2] [(2, some false)] #[true, true, true] 0 (by kernel_rfl) (by rfl) trivial ?_
    have hg32 := (grown_trans hg11 hg15)
    have hk33 := hb4.grown hg11 nb
    have ap34 : ¬ (· = b1) b13 := fun hx => Nat.not_lt_of_le ((lowb hbe17) _ rfl) ((fun k (hk : k = b1) => Nat.lt_of_le_of_lt (Nat.le_of_eq hk) hk33.lt) _ hx)
    have hk35 := ((hb4.grown hg32 nb).grown hg20 (rowne ap34)).grown hg25 nb
    refine gv_store (t := 29) (b := b1) (off := 0) (v := (.agg #[(.int .i64 r7.1), (.int .i64 r7.2)])) (t' := 29) (cs := #[(.int .i64 0), (.int .i64 0)]) #[(.int .i64 r7.1), (.int .i64 r7.2)] (by decide) (by rfl) (by rfl) (by kernel_rfl) (by kernel_rfl) (by kernel_rfl) (by intro u hu; simp [Value.cells] at hu; rcases hu with rfl | rfl <;> rfl) (show 0 + 2 ≤ 2 by decide) (by rfl) hk35 ?_
    intro w28 hg29 hb30 hz31
    refine ⟨(fun _ => trivial), ?_⟩
    refine gv_sub [4, 5] (σ' := [(4, (.slice none (List.length ([] : List Int)) 0)), (5, (.pointer (some ⟨b1, 0, none⟩)))]) (by kernel_rfl) ?_
    refine gv_nil ?_
    refine gv_goal fun a hd hs hok => ?_
    refine (?_ : RunA Try.prog _ 23 _ _ 0 #[true, true, true] [(4, (.slice none (List.length ([] : List Int)) 0)), (5, (.pointer (some ⟨b1, 0, none⟩)))] w28) a hd hs hok
    clear hd hs hok
    refine gv_stageE (by kernel_rfl) ?_
    refine gv_cret ?_
    have e := Option.some.inj h0; subst e
    refine gv_ret (gv_done [(.slice none (List.length ([] : List Int)) 0), (.agg #[(.int .i64 r7.1), (.int .i64 r7.2)])] rfl ⟨rfl, ⟨_, rfl, run_loadVar_row w28 b1 _ 29 _ _ _ hb30 Try.underlying29 rfl (by kernel_rfl)⟩, trivial⟩ ?_)
    have hB36 := below_grown hB9 hg32 hB9.size nb
    have hB37 := below_grown hB9 hg11 hB9.size nb
    have hlo38 : w0.heap.size ≤ b13 := lob hbe17 hB37.size
    have hB39 := below_grown hB36 hg20 hB36.size (rowlo hlo38)
    have hB40 := below_grown hB39 hg25 hB39.size nb
    have hlo41 : w0.heap.size ≤ b1 := lob hbe5 hB0.size
    have hB42 := below_grown hB40 hg29 hB40.size (rowlo hlo41)
    exact ⟨grown_of_below hB42, none, 0, (fun _ => False), rfl, (Rd.nil (iE .u32) w28 (fun _ => False) none 0), (fun k hk => ⟨(fun _ h => h.elim) k hk, (fun _ h => h.elim) k hk⟩)⟩
  · replace h0 := ite_f hc23 h0
    refine gv_skip ?_
    refine gv_seq ?_
    refine gv_seq ?_
    refine gv_region ?_
    refine gv_pure 2 [0, 1, 5, 14, 15] (σ' := [(0, (.slice pa0_0 (List.length a_0) pc0_0)), (1, (.slice pa1_0 (List.length b_1) pc1_0)), (5, (.pointer (some ⟨b1, 0, none⟩))), (14, (.slice pa0_0 (List.length a_0) pc0_0)), (15, (.slice pa1_0 (List.length b_1) pc1_0))]) (by kernel_rfl) ?_
    refine bindE h0 ?_; clear h0; intro r43 hr44 h0
    have hg45 := (grown_trans hg11 hg15)
    have hB46 := below_grown hB9 hg45 hB9.size nb
    have hB47 := below_grown hB9 hg11 hB9.size nb
    have hlo48 : w0.heap.size ≤ b13 := lob hbe17 hB47.size
    have hB49 := below_grown hB46 hg20 hB46.size (rowlo hlo48)
    refine gv_call (f := 71) (vs := [(.slice pa0_0 (List.length a_0) pc0_0), (.slice pa1_0 (List.length b_1) pc1_0)]) (cap := []) _ (by decide) (by rfl) (by rfl) rfl (by rfl) (by rfl) enters71 (natural_compare_ok fuel pa0_0 pc0_0 a_0 pa1_0 pc1_0 b_1 w19 (fun k => X0 k ∨ X0 k) (fun k hk => (hk).elim (fun h => (fun k (hk : X0 k) => Nat.lt_of_lt_of_le (hX0 k hk) hB49.size) k h) (fun h => (fun k (hk : X0 k) => Nat.lt_of_lt_of_le (hX0 k hk) hB49.size) k h)) ((hpa0_0.below hB49 hX0).wide (fun k hk => (.inl hk))) ((hpa1_0.below hB49 hX0).wide (fun k hk => (.inr hk))) r43 hr44) ?_
    rintro v52 w50 ⟨hg51, rfl⟩
    refine ⟨(fun e => by cases e), ?_⟩
    refine gv_pure 1 [0, 1, 5, 17] (σ' := [(0, (.slice pa0_0 (List.length a_0) pc0_0)), (1, (.slice pa1_0 (List.length b_1) pc1_0)), (5, (.pointer (some ⟨b1, 0, none⟩))), (17, (.bool (decide (r43 < 0))))]) (by kernel_rfl) ?_
    refine gv_nil ?_
    refine gv_cond (b := (decide (r43 < 0))) (by rfl) (fun hc53 => ?_) (fun hc53 => ?_)
    · replace h0 := ite_t hc53 h0
      refine gv_seq ?_
      refine gv_region ?_
      refine bindE h0 ?_; clear h0; intro r54 hr55 h0
      refine gv_call (f := 76) (vs := [(.int .i64 4), (.int .i64 (-2))]) (cap := []) _ (by decide) (by rfl) (by rfl) rfl (by rfl) (by rfl) enters76 (natural_at_ok fuel 4 (-2) w50  r54 hr55) ?_
      rintro v58 w56 ⟨hg57, rfl⟩
      refine ⟨(fun e => by cases e), ?_⟩
      clear hr55 hc53 hlo48 hB47 hB46 hg45 hr44 hc23 hz22 hb21 hz18 hb16 hB9 hr8 hz6 hg3
      refine gv_pure 1 [4, 5, 18] (σ' := [(4, (.slice none (List.length ([] : List Int)) 0)), (5, (.pointer (some ⟨b1, 0, none⟩))), (18, (.agg #[(.int .i64 r54.1), (.int .i64 r54.2)]))]) (by kernel_rfl) ?_
      have hg63 := (grown_trans hg11 hg15)
      have hk64 := hb4.grown hg11 nb
      have ap65 : ¬ (· = b1) b13 := fun hx => Nat.not_lt_of_le ((lowb hbe17) _ rfl) ((fun k (hk : k = b1) => Nat.lt_of_le_of_lt (Nat.le_of_eq hk) hk64.lt) _ hx)
      have hg66 := (grown_trans hg51 hg57)
      have hk67 := ((hb4.grown hg63 nb).grown hg20 (rowne ap65)).grown hg66 nb
      refine gv_store (t := 29) (b := b1) (off := 0) (v := (.agg #[(.int .i64 r54.1), (.int .i64 r54.2)])) (t' := 29) (cs := #[(.int .i64 0), (.int .i64 0)]) #[(.int .i64 r54.1), (.int .i64 r54.2)] (by decide) (by rfl) (by rfl) (by kernel_rfl) (by kernel_rfl) (by kernel_rfl) (by intro u hu; simp [Value.cells] at hu; rcases hu with rfl | rfl <;> rfl) (show 0 + 2 ≤ 2 by decide) (by rfl) hk67 ?_
      intro w59 hg60 hb61 hz62
      refine ⟨(fun e => by cases e), ?_⟩
      refine gv_sub [4, 5] (σ' := [(4, (.slice none (List.length ([] : List Int)) 0)), (5, (.pointer (some ⟨b1, 0, none⟩)))]) (by kernel_rfl) ?_
      refine gv_nil ?_
      refine gv_cret ?_
      have e := Option.some.inj h0; subst e
      refine gv_ret (gv_done [(.slice none (List.length ([] : List Int)) 0), (.agg #[(.int .i64 r54.1), (.int .i64 r54.2)])] rfl ⟨rfl, ⟨_, rfl, run_loadVar_row w59 b1 _ 29 _ _ _ hb61 Try.underlying29 rfl (by kernel_rfl)⟩, trivial⟩ ?_)
      have hB68 := below_grown hB49 hg66 hB49.size nb
      have hlo69 : w0.heap.size ≤ b1 := lob hbe5 hB0.size
      have hB70 := below_grown hB68 hg60 hB68.size (rowlo hlo69)
      exact ⟨grown_of_below hB70, none, 0, (fun _ => False), rfl, (Rd.nil (iE .u32) w59 (fun _ => False) none 0), (fun k hk => ⟨(fun _ h => h.elim) k hk, (fun _ h => h.elim) k hk⟩)⟩
    · replace h0 := ite_f hc53 h0
      refine gv_skip ?_
      refine gv_seq ?_
      refine gv_region ?_
      refine gv_pure 2 [5, 19, 20] (σ' := [(5, (.pointer (some ⟨b1, 0, none⟩))), (19, (.slice pa0_0 (List.length a_0) pc0_0)), (20, (.slice pa1_0 (List.length b_1) pc1_0))]) (by kernel_rfl) ?_
      refine bindE h0 ?_; clear h0; intro r71 hr72 h0
      have hB73 := below_grown hB49 hg51 hB49.size nb
      refine gv_call (f := 80) (vs := [(.slice pa0_0 (List.length a_0) pc0_0), (.slice pa1_0 (List.length b_1) pc1_0)]) (cap := []) _ (by decide) (by rfl) (by rfl) rfl (by rfl) (by rfl) enters80 (natural_sub_ok fuel pa0_0 pc0_0 a_0 pa1_0 pc1_0 b_1 w50 (fun k => X0 k ∨ X0 k) (fun k hk => (hk).elim (fun h => (fun k (hk : X0 k) => Nat.lt_of_lt_of_le (hX0 k hk) hB73.size) k h) (fun h => (fun k (hk : X0 k) => Nat.lt_of_lt_of_le (hX0 k hk) hB73.size) k h)) ((hpa0_0.below hB73 hX0).wide (fun k hk => (.inl hk))) ((hpa1_0.below hB73 hX0).wide (fun k hk => (.inr hk))) r71 hr72) ?_
      rintro v76 w74 ⟨hg75, a77, c78, X80, rfl, ho79, hx81⟩
      refine ⟨(fun e => by cases e), ?_⟩
      have hx82 : ∀ k, X80 k → k < w74.heap.size := fun k hk => (hx81 k hk).1
      have hx83 : ∀ k, X80 k → X0 k ∨ w0.heap.size ≤ k := fun k hk => (hx81 k hk).2.elim (fun h => (h).elim (fun h => (fun k (hk : X0 k) => Or.inl hk) k h) (fun h => (fun k (hk : X0 k) => Or.inl hk) k h)) (fun h => .inr (Nat.le_trans hB73.size h))
      refine gv_pure 2 [4, 5, 22] (σ' := [(4, (.slice a77 (List.length r71) c78)), (5, (.pointer (some ⟨b1, 0, none⟩))), (22, (.agg #[(.int .i64 0), (.int .i64 0)]))]) (by kernel_rfl) ?_
      have hk88 := hb4.grown hg11 nb
      have ap89 : ¬ (· = b1) b13 := fun hx => Nat.not_lt_of_le ((lowb hbe17) _ rfl) ((fun k (hk : k = b1) => Nat.lt_of_le_of_lt (Nat.le_of_eq hk) hk88.lt) _ hx)
      have hg90 := (grown_trans hg51 hg75)
      have hk91 := ((hb4.grown hg45 nb).grown hg20 (rowne ap89)).grown hg90 nb
      refine gv_store (t := 29) (b := b1) (off := 0) (v := (.agg #[(.int .i64 0), (.int .i64 0)])) (t' := 29) (cs := #[(.int .i64 0), (.int .i64 0)]) #[(.int .i64 0), (.int .i64 0)] (by decide) (by rfl) (by rfl) (by kernel_rfl) (by kernel_rfl) (by kernel_rfl) (by intro u hu; simp [Value.cells] at hu; rcases hu with rfl | rfl <;> rfl) (show 0 + 2 ≤ 2 by decide) (by rfl) hk91 ?_
      intro w84 hg85 hb86 hz87
      refine ⟨(fun e => by cases e), ?_⟩
      refine gv_sub [4, 5] (σ' := [(4, (.slice a77 (List.length r71) c78)), (5, (.pointer (some ⟨b1, 0, none⟩)))]) (by kernel_rfl) ?_
      refine gv_nil ?_
      refine gv_cret ?_
      have e := Option.some.inj h0; subst e
      refine gv_ret (gv_done [(.slice a77 (List.length r71) c78), (.agg #[(.int .i64 0), (.int .i64 0)])] rfl ⟨rfl, ⟨_, rfl, run_loadVar_row w84 b1 _ 29 _ _ _ hb86 Try.underlying29 rfl (by kernel_rfl)⟩, trivial⟩ ?_)
      have hB92 := below_grown hB73 hg75 hB73.size nb
      have hlo93 : w0.heap.size ≤ b1 := lob hbe5 hB0.size
      have hB94 := below_grown hB92 hg85 hB92.size (rowlo hlo93)
      have hk95 := ((hk88.grown hg15 nb).grown hg20 (rowne ap89)).grown hg51 nb
      have ap96 : ¬ X80 b1 := fun h => ((hx81 _ h).2.elim (fun h => (h).elim (fun h => ((fun (hx : X0 b1) => Nat.not_lt_of_le hlo93 (hX0 _ hx)))  h) (fun h => ((fun (hx : X0 b1) => Nat.not_lt_of_le hlo93 (hX0 _ hx)))  h)) (fun h => Nat.not_lt_of_le h (hk95.lt)))
      have hk97 := ho79.grown hg85 hx82 (rowne ap96)
      have hx98 := ltx hx82 hg85.size
      exact ⟨grown_of_below hB94, a77, c78, X80, rfl, hk97, (fun k hk => ⟨hx98 k hk, hx83 k hk⟩)⟩

set_option maxHeartbeats 4000000 in
set_option maxRecDepth 100000 in
theorem integer_plus_ok (fuel : Nat) (pa0_0 : Option Addr) (pc0_0 : Nat) (a_0 : (Bool × (List Int))) (pa1_0 : Option Addr) (pc1_0 : Nat) (b_1 : (Bool × (List Int))) (w0 : World) (X0 : Nat → Prop) (hX0 : ∀ k, X0 k → k < w0.heap.size) (hpa0_0 : Rd (iE .u32) w0 X0 pa0_0 pc0_0 a_0.2) (hpa1_0 : Rd (iE .u32) w0 X0 pa1_0 pc1_0 b_1.2) (r0 : ((Bool × (List Int)) × (Int × Int))) (h0 : integer_plus fuel a_0 b_1 = some r0) :
    Calls Try.prog 64 ([(.agg #[(.bool a_0.1), (.slice pa0_0 (List.length a_0.2) pc0_0)]), (.agg #[(.bool b_1.1), (.slice pa1_0 (List.length b_1.2) pc1_0)])] : List Value).toArray w0 (Ret fun v w' => w0.grownBy w' none ∧ ∃ (a0_0r : Option Addr) (c0_0r : Nat), ∃ (X0_0r : Nat → Prop), v = tup [(.agg #[(.bool r0.1.1), (.slice a0_0r (List.length r0.1.2) c0_0r)]), (.agg #[(.int .i64 r0.2.1), (.int .i64 r0.2.2)])] ∧ Rd (iE .u32) w' X0_0r a0_0r c0_0r r0.1.2 ∧ (∀ k, X0_0r k → k < w'.heap.size ∧ (X0 k ∨ w0.heap.size ≤ k))) := by
  have hB0 : Below w0.heap.size w0 w0 := Below.refl _ _
  unfold integer_plus at h0
  refine calls_run Try.func64 rfl Try.ntmps64 (by kernel_rfl) ?_
  refine gv_sub [0, 1] (σ' := [(0, (.agg #[(.bool a_0.1), (.slice pa0_0 (List.length a_0.2) pc0_0)])), (1, (.agg #[(.bool b_1.1), (.slice pa1_0 (List.length b_1.2) pc1_0)]))]) (by kernel_rfl) ?_
  refine gv_seq ?_
  refine gv_region ?_
  refine gv_new (fun b => .pointer (some ⟨b, 0, none⟩)) #[(.bool a_0.1), (.slice pa0_0 (List.length a_0.2) pc0_0)] 24 (by decide) (by rfl) (by rfl) (by kernel_rfl) (by kernel_rfl) ?_
  intro b1 w2 hg3 hb4 hbe5 hz6
  refine ⟨(fun e => by cases e), ?_⟩
  refine gv_sub [1, 2] (σ' := [(1, (.agg #[(.bool b_1.1), (.slice pa1_0 (List.length b_1.2) pc1_0)])), (2, (.pointer (some ⟨b1, 0, none⟩)))]) (by kernel_rfl) ?_
  refine gv_new (fun b => .pointer (some ⟨b, 0, none⟩)) #[(.bool b_1.1), (.slice pa1_0 (List.length b_1.2) pc1_0)] 24 (by decide) (by rfl) (by rfl) (by kernel_rfl) (by kernel_rfl) ?_
  intro b7 w8 hg9 hb10 hbe11 hz12
  refine ⟨(fun e => by cases e), ?_⟩
  refine gv_sub [2, 3] (σ' := [(2, (.pointer (some ⟨b1, 0, none⟩))), (3, (.pointer (some ⟨b7, 0, none⟩)))]) (by kernel_rfl) ?_
  refine gv_new (fun b => .pointer (some ⟨b, 0, none⟩)) #[(.bool false), (.slice none (List.length ([] : List Int)) 0)] 24 (by decide) (by rfl) (by rfl) (by kernel_rfl) (by kernel_rfl) ?_
  intro b13 w14 hg15 hb16 hbe17 hz18
  refine ⟨(fun e => by cases e), ?_⟩
  refine gv_sub [2, 3, 4] (σ' := [(2, (.pointer (some ⟨b1, 0, none⟩))), (3, (.pointer (some ⟨b7, 0, none⟩))), (4, (.pointer (some ⟨b13, 0, none⟩)))]) (by kernel_rfl) ?_
  refine gv_new (fun b => .pointer (some ⟨b, 0, none⟩)) #[(.int .i64 0), (.int .i64 0)] 29 (by decide) (by rfl) (by rfl) (by kernel_rfl) (by kernel_rfl) ?_
  intro b19 w20 hg21 hb22 hbe23 hz24
  refine ⟨(fun e => by cases e), ?_⟩
  refine gv_sub [2, 3, 4, 5] (σ' := [(2, (.pointer (some ⟨b1, 0, none⟩))), (3, (.pointer (some ⟨b7, 0, none⟩))), (4, (.pointer (some ⟨b13, 0, none⟩))), (5, (.pointer (some ⟨b19, 0, none⟩)))]) (by kernel_rfl) ?_
  refine gv_nil ?_
  refine gv_seq ?_
  refine gv_seq ?_
  refine gv_region ?_
  refine gv_pure 1 [2, 3, 4, 5, 12] (σ' := [(2, (.pointer (some ⟨b1, 0, none⟩))), (3, (.pointer (some ⟨b7, 0, none⟩))), (4, (.pointer (some ⟨b13, 0, none⟩))), (5, (.pointer (some ⟨b19, 0, none⟩))), (12, (.pointer (some ⟨b1, 0, none⟩)))]) (by kernel_rfl) ?_
  have hg25 := (grown_trans (grown_trans hg9 hg15) hg21)
  have hk26 := hb4.grown hg25 nb
  refine gv_load (t := 4) (A := ⟨b1, 0, none⟩) (.bool a_0.1) [2, 3, 4, 5, 13] (σ' := [(2, (.pointer (some ⟨b1, 0, none⟩))), (3, (.pointer (some ⟨b7, 0, none⟩))), (4, (.pointer (some ⟨b13, 0, none⟩))), (5, (.pointer (some ⟨b19, 0, none⟩))), (13, (.bool a_0.1))]) (fun e => by cases e) (by rfl) (by rfl) (by rfl) (by kernel_rfl) (by kernel_rfl) (by kernel_rfl) (inw0 (hk26.cell 0 rfl)) (by kernel_rfl) ?_
  refine gv_pure 1 [2, 3, 4, 5, 13, 14] (σ' := [(2, (.pointer (some ⟨b1, 0, none⟩))), (3, (.pointer (some ⟨b7, 0, none⟩))), (4, (.pointer (some ⟨b13, 0, none⟩))), (5, (.pointer (some ⟨b19, 0, none⟩))), (13, (.bool a_0.1)), (14, (.pointer (some ⟨b7, 0, none⟩)))]) (by kernel_rfl) ?_
  have hg27 := (grown_trans hg15 hg21)
  have hk28 := hb10.grown hg27 nb
  refine gv_load (t := 4) (A := ⟨b7, 0, none⟩) (.bool b_1.1) [2, 3, 4, 5, 13, 15] (σ' := [(2, (.pointer (some ⟨b1, 0, none⟩))), (3, (.pointer (some ⟨b7, 0, none⟩))), (4, (.pointer (some ⟨b13, 0, none⟩))), (5, (.pointer (some ⟨b19, 0, none⟩))), (13, (.bool a_0.1)), (15, (.bool b_1.1))]) (fun e => by cases e) (by rfl) (by rfl) (by rfl) (by kernel_rfl) (by kernel_rfl) (by kernel_rfl) (inw0 (hk28.cell 0 rfl)) (by kernel_rfl) ?_
  refine gv_pure 1 [2, 3, 4, 5, 16] (σ' := [(2, (.pointer (some ⟨b1, 0, none⟩))), (3, (.pointer (some ⟨b7, 0, none⟩))), (4, (.pointer (some ⟨b13, 0, none⟩))), (5, (.pointer (some ⟨b19, 0, none⟩))), (16, (.bool (a_0.1 == b_1.1)))]) (by kernel_rfl) ?_
  refine gv_nil ?_
  refine gv_cond (b := (a_0.1 == b_1.1)) (by rfl) (fun hc29 => ?_) (fun hc29 => ?_)
  · replace h0 := ite_t hc29 h0
    refine gv_seq ?_
    refine gv_region ?_
    refine gv_pure 1 [2, 3, 4, 5, 18] (σ' := [(2, (.pointer (some ⟨b1, 0, none⟩))), (3, (.pointer (some ⟨b7, 0, none⟩))), (4, (.pointer (some ⟨b13, 0, none⟩))), (5, (.pointer (some ⟨b19, 0, none⟩))), (18, (.pointer (some ⟨b1, 1, none⟩)))]) (by kernel_rfl) ?_
    refine gv_load (t := 22) (A := ⟨b1, 1, none⟩) (.slice pa0_0 (List.length a_0.2) pc0_0) [2, 3, 4, 5, 19] (σ' := [(2, (.pointer (some ⟨b1, 0, none⟩))), (3, (.pointer (some ⟨b7, 0, none⟩))), (4, (.pointer (some ⟨b13, 0, none⟩))), (5, (.pointer (some ⟨b19, 0, none⟩))), (19, (.slice pa0_0 (List.length a_0.2) pc0_0))]) (fun e => by cases e) (by rfl) (by rfl) (by rfl) (by kernel_rfl) (by kernel_rfl) (by kernel_rfl) (inw0 (hk26.cell 1 rfl)) (by kernel_rfl) ?_
    refine gv_pure 1 [2, 4, 5, 19, 20] (σ' := [(2, (.pointer (some ⟨b1, 0, none⟩))), (4, (.pointer (some ⟨b13, 0, none⟩))), (5, (.pointer (some ⟨b19, 0, none⟩))), (19, (.slice pa0_0 (List.length a_0.2) pc0_0)), (20, (.pointer (some ⟨b7, 1, none⟩)))]) (by kernel_rfl) ?_
    refine gv_load (t := 22) (A := ⟨b7, 1, none⟩) (.slice pa1_0 (List.length b_1.2) pc1_0) [2, 4, 5, 19, 21] (σ' := [(2, (.pointer (some ⟨b1, 0, none⟩))), (4, (.pointer (some ⟨b13, 0, none⟩))), (5, (.pointer (some ⟨b19, 0, none⟩))), (19, (.slice pa0_0 (List.length a_0.2) pc0_0)), (21, (.slice pa1_0 (List.length b_1.2) pc1_0))]) (fun e => by cases e) (by rfl) (by rfl) (by rfl) (by kernel_rfl) (by kernel_rfl) (by kernel_rfl) (inw0 (hk28.cell 1 rfl)) (by kernel_rfl) ?_
    refine bindE h0 ?_; clear h0; intro r30 hr31 h0
    have hg32 := (grown_trans hg3 hg25)
    have hB33 := below_grown hB0 hg32 hB0.size nb
    refine gv_call (f := 72) (vs := [(.slice pa0_0 (List.length a_0.2) pc0_0), (.slice pa1_0 (List.length b_1.2) pc1_0)]) (cap := []) _ (by decide) (by rfl) (by rfl) rfl (by rfl) (by rfl) enters72 (natural_Add_ok fuel pa0_0 pc0_0 a_0.2 pa1_0 pc1_0 b_1.2 w20 (fun k => X0 k ∨ X0 k) (fun k hk => (hk).elim (fun h => (fun k (hk : X0 k) => Nat.lt_of_lt_of_le (hX0 k hk) hB33.size) k h) (fun h => (fun k (hk : X0 k) => Nat.lt_of_lt_of_le (hX0 k hk) hB33.size) k h)) ((hpa0_0.below hB33 hX0).wide (fun k hk => (.inl hk))) ((hpa1_0.below hB33 hX0).wide (fun k hk => (.inr hk))) r30 hr31) ?_
    rintro v36 w34 ⟨hg35, a37, c38, X40, rfl, ho39, hx41⟩
    refine ⟨(fun e => by cases e), ?_⟩
    have hx42 : ∀ k, X40 k → k < w34.heap.size := fun k hk => (hx41 k hk).1
    have hx43 : ∀ k, X40 k → X0 k ∨ w0.heap.size ≤ k := fun k hk => (hx41 k hk).2.elim (fun h => (h).elim (fun h => (fun k (hk : X0 k) => Or.inl hk) k h) (fun h => (fun k (hk : X0 k) => Or.inl hk) k h)) (fun h => .inr (Nat.le_trans hB33.size h))
    refine gv_pure 3 [2, 4, 5, 23, 24] (σ' := [(2, (.pointer (some ⟨b1, 0, none⟩))), (4, (.pointer (some ⟨b13, 0, none⟩))), (5, (.pointer (some ⟨b19, 0, none⟩))), (23, (.slice a37 (List.length r30.1) c38)), (24, (.agg #[(.int .i64 r30.2.1), (.int .i64 r30.2.2)]))]) (by kernel_rfl) ?_
    refine gv_new (fun b => .pointer (some ⟨b, 0, none⟩)) #[(.int .i64 0), (.int .i64 0)] 29 (by decide) (by rfl) (by rfl) (by kernel_rfl) (by kernel_rfl) ?_
    intro b44 w45 hg46 hb47 hbe48 hz49
    refine ⟨(fun e => by cases e), ?_⟩
    refine gv_pure 1 [2, 4, 5, 6, 7, 24] (σ' := [(2, (.pointer (some ⟨b1, 0, none⟩))), (4, (.pointer (some ⟨b13, 0, none⟩))), (5, (.pointer (some ⟨b19, 0, none⟩))), (6, (.slice a37 (List.length r30.1) c38)), (7, (.pointer (some ⟨b44, 0, none⟩))), (24, (.agg #[(.int .i64 r30.2.1), (.int .i64 r30.2.2)]))]) (by kernel_rfl) ?_
    refine gv_store (t := 29) (b := b44) (off := 0) (v := (.agg #[(.int .i64 r30.2.1), (.int .i64 r30.2.2)])) (t' := 29) (cs := #[(.int .i64 0), (.int .i64 0)]) #[(.int .i64 r30.2.1), (.int .i64 r30.2.2)] (by decide) (by rfl) (by rfl) (by kernel_rfl) (by kernel_rfl) (by kernel_rfl) (by intro u hu; simp [Value.cells] at hu; rcases hu with rfl | rfl <;> rfl) (show 0 + 2 ≤ 2 by decide) (by rfl) hb47 ?_
    intro w50 hg51 hb52 hz53
    refine ⟨(fun e => by cases e), ?_⟩
    refine gv_sub [2, 4, 5, 6] (σ' := [(2, (.pointer (some ⟨b1, 0, none⟩))), (4, (.pointer (some ⟨b13, 0, none⟩))), (5, (.pointer (some ⟨b19, 0, none⟩))), (6, (.slice a37 (List.length r30.1) c38))]) (by kernel_rfl) ?_
    refine gv_nil ?_
    refine gv_seq ?_
    refine gv_region ?_
    refine gv_pure 1 [4, 5, 6, 25] (σ' := [(4, (.pointer (some ⟨b13, 0, none⟩))), (5, (.pointer (some ⟨b19, 0, none⟩))), (6, (.slice a37 (List.length r30.1) c38)), (25, (.pointer (some ⟨b1, 0, none⟩)))]) (by kernel_rfl) ?_
    have hg54 := (grown_trans hg35 hg46)
    have hk55 := hk26.grown hg35 nb
    have ap56 : ¬ (· = b1) b44 := fun hx => Nat.not_lt_of_le ((lowb hbe48) _ rfl) ((fun k (hk : k = b1) => Nat.lt_of_le_of_lt (Nat.le_of_eq hk) hk55.lt) _ hx)
    have hk57 := (hk26.grown hg54 nb).grown hg51 (rowne ap56)
    refine gv_load (t := 4) (A := ⟨b1, 0, none⟩) (.bool a_0.1) [4, 5, 6, 26] (σ' := [(4, (.pointer (some ⟨b13, 0, none⟩))), (5, (.pointer (some ⟨b19, 0, none⟩))), (6, (.slice a37 (List.length r30.1) c38)), (26, (.bool a_0.1))]) (fun e => by cases e) (by rfl) (by rfl) (by rfl) (by kernel_rfl) (by kernel_rfl) (by kernel_rfl) (inw0 (hk57.cell 0 rfl)) (by kernel_rfl) ?_
    refine gv_pure 1 [4, 5, 26, 27] (σ' := [(4, (.pointer (some ⟨b13, 0, none⟩))), (5, (.pointer (some ⟨b19, 0, none⟩))), (26, (.bool a_0.1)), (27, (.slice a37 (List.length r30.1) c38))]) (by kernel_rfl) ?_
    refine bindE h0 ?_; clear h0; intro r58 hr59 h0
    have hx60 := ltx (ltx hx42 hg46.size) hg51.size
    have ap61 : ¬ X40 b44 := fun hx => Nat.not_lt_of_le ((lowb hbe48) _ rfl) (hx42 _ hx)
    have hx62 := ltx hx42 hg46.size
    have hk63 := (ho39.grown hg46 hx42 nb).grown hg51 hx62 (rowne ap61)
    refine gv_call (f := 73) (vs := [(.bool a_0.1), (.slice a37 (List.length r30.1) c38)]) (cap := []) _ (by decide) (by rfl) (by rfl) rfl (by rfl) (by rfl) enters73 (integer_signed_ok fuel a_0.1 a37 c38 r30.1 w50 (fun k => X40 k) (fun k hk => hx60 k hk) (hk63.wide (fun k hk => hk)) r58 hr59) ?_
    rintro v66 w64 ⟨hg65, a67, c68, X70, rfl, ho69, hx71⟩
    refine ⟨(fun e => by cases e), ?_⟩
    have hx72 : ∀ k, X70 k → k < w64.heap.size := fun k hk => (hx71 k hk).1
    have hB74 := below_grown hB33 hg54 hB33.size nb
    have hB75 := below_grown hB33 hg35 hB33.size nb
    have hlo76 : w0.heap.size ≤ b44 := lob hbe48 hB75.size
    have hB77 := below_grown hB74 hg51 hB74.size (rowlo hlo76)
    have hx73 : ∀ k, X70 k → X0 k ∨ w0.heap.size ≤ k := fun k hk => (hx71 k hk).2.elim (fun h => hx43 k h) (fun h => .inr (Nat.le_trans hB77.size h))
    clear hlo76 hB75 hB74 hk63 hx62 ap61 hx60 hr59 hk57 ap56 hk55 hg54 hz53 hb52 hz49 hb47 hx43 hx42 ho39 hB33 hg32 hr31 hc29 hk28 hg27 hk26 hg25 hz24 hz18 hz12 hbe11 hb10 hz6 hbe5 hb4
    refine gv_pure 2 [4, 5, 29, 30] (σ' := [(4, (.pointer (some ⟨b13, 0, none⟩))), (5, (.pointer (some ⟨b19, 0, none⟩))), (29, (.agg #[(.bool r58.1.1), (.slice a67 (List.length r58.1.2) c68)])), (30, (.agg #[(.int .i64 r58.2.1), (.int .i64 r58.2.2)]))]) (by kernel_rfl) ?_
    have hg82 := (grown_trans (grown_trans hg21 hg35) hg46)
    have hg83 := (grown_trans hg21 hg35)
    have hk84 := hb16.grown hg83 nb
    have ap85 : ¬ (· = b13) b44 := fun hx => Nat.not_lt_of_le ((lowb hbe48) _ rfl) ((fun k (hk : k = b13) => Nat.lt_of_le_of_lt (Nat.le_of_eq hk) hk84.lt) _ hx)
    have hk86 := ((hb16.grown hg82 nb).grown hg51 (rowne ap85)).grown hg65 nb
    refine gv_store (t := 24) (b := b13) (off := 0) (v := (.agg #[(.bool r58.1.1), (.slice a67 (List.length r58.1.2) c68)])) (t' := 24) (cs := #[(.bool false), (.slice none (List.length ([] : List Int)) 0)]) #[(.bool r58.1.1), (.slice a67 (List.length r58.1.2) c68)] (by decide) (by rfl) (by rfl) (by kernel_rfl) (by kernel_rfl) (by kernel_rfl) (by intro u hu; simp [Value.cells] at hu; rcases hu with rfl | rfl <;> rfl) (show 0 + 2 ≤ 2 by decide) (by rfl) hk86 ?_
    intro w78 hg79 hb80 hz81
    refine ⟨(fun e => by cases e), ?_⟩
    have hg91 := (grown_trans hg35 hg46)
    have hk92 := hb22.grown hg35 nb
    have ap93 : ¬ (· = b19) b44 := fun hx => Nat.not_lt_of_le ((lowb hbe48) _ rfl) ((fun k (hk : k = b19) => Nat.lt_of_le_of_lt (Nat.le_of_eq hk) hk92.lt) _ hx)
    have ap94 : ¬ (· = b19) b13 := fun hx => Nat.not_lt_of_le ((lowb hbe23) _ hx) ((fun k (hk : k = b13) => Nat.lt_of_le_of_lt (Nat.le_of_eq hk) hb16.lt) _ rfl)
    have hk95 := (((hb22.grown hg91 nb).grown hg51 (rowne ap93)).grown hg65 nb).grown hg79 (rowne ap94)
    refine gv_sub [4, 5, 30] (σ' := [(4, (.pointer (some ⟨b13, 0, none⟩))), (5, (.pointer (some ⟨b19, 0, none⟩))), (30, (.agg #[(.int .i64 r58.2.1), (.int .i64 r58.2.2)]))]) (by kernel_rfl) ?_
    refine gv_store (t := 29) (b := b19) (off := 0) (v := (.agg #[(.int .i64 r58.2.1), (.int .i64 r58.2.2)])) (t' := 29) (cs := #[(.int .i64 0), (.int .i64 0)]) #[(.int .i64 r58.2.1), (.int .i64 r58.2.2)] (by decide) (by rfl) (by rfl) (by kernel_rfl) (by kernel_rfl) (by kernel_rfl) (by intro u hu; simp [Value.cells] at hu; rcases hu with rfl | rfl <;> rfl) (show 0 + 2 ≤ 2 by decide) (by rfl) hk95 ?_
    intro w87 hg88 hb89 hz90
    refine ⟨(fun e => by cases e), ?_⟩
    refine gv_sub [4, 5] (σ' := [(4, (.pointer (some ⟨b13, 0, none⟩))), (5, (.pointer (some ⟨b19, 0, none⟩)))]) (by kernel_rfl) ?_
    refine gv_nil ?_
    refine gv_cret ?_
    have e := Option.some.inj h0; subst e
    have ap96 : ¬ (· = b13) b19 := fun hx => Nat.not_lt_of_le ((lowb hbe23) _ rfl) ((fun k (hk : k = b13) => Nat.lt_of_le_of_lt (Nat.le_of_eq hk) hb16.lt) _ hx)
    have hk97 := hb80.grown hg88 (rowne ap96)
    refine gv_ret (gv_done [(.agg #[(.bool r58.1.1), (.slice a67 (List.length r58.1.2) c68)]), (.agg #[(.int .i64 r58.2.1), (.int .i64 r58.2.2)])] rfl ⟨⟨_, rfl, run_loadVar_row w87 b13 _ 24 _ _ _ hk97 Try.underlying24 rfl (by kernel_rfl)⟩, ⟨_, rfl, run_loadVar_row w87 b19 _ 29 _ _ _ hb89 Try.underlying29 rfl (by kernel_rfl)⟩, trivial⟩ ?_)
    have hB98 := below_grown hB77 hg65 hB77.size nb
    have hg99 := (grown_trans hg3 hg9)
    have hB100 := below_grown hB0 hg99 hB0.size nb
    have hlo101 : w0.heap.size ≤ b13 := lob hbe17 hB100.size
    have hB102 := below_grown hB98 hg79 hB98.size (rowlo hlo101)
    have hB103 := below_grown hB100 hg15 hB100.size nb
    have hlo104 : w0.heap.size ≤ b19 := lob hbe23 hB103.size
    have hB105 := below_grown hB102 hg88 hB102.size (rowlo hlo104)
    have hk106 := hb16.grown hg21 nb
    have ap107 : ¬ X40 b13 := fun h => ((hx41 _ h).2.elim (fun h => (h).elim (fun h => ((fun (hx : X0 b13) => Nat.not_lt_of_le hlo101 (hX0 _ hx)))  h) (fun h => ((fun (hx : X0 b13) => Nat.not_lt_of_le hlo101 (hX0 _ hx)))  h)) (fun h => Nat.not_lt_of_le h (hk106.lt)))
    have hk108 := (hk84.grown hg46 nb).grown hg51 (rowne ap85)
    have ap109 : ¬ X70 b13 := fun h => ((hx71 _ h).2.elim (fun h => (ap107)  h) (fun h => Nat.not_lt_of_le h (hk108.lt)))
    have ap110 : ¬ X40 b19 := fun h => ((hx41 _ h).2.elim (fun h => (h).elim (fun h => ((fun (hx : X0 b19) => Nat.not_lt_of_le hlo104 (hX0 _ hx)))  h) (fun h => ((fun (hx : X0 b19) => Nat.not_lt_of_le hlo104 (hX0 _ hx)))  h)) (fun h => Nat.not_lt_of_le h (hb22.lt)))
    have hk111 := (hk92.grown hg46 nb).grown hg51 (rowne ap93)
    have ap112 : ¬ X70 b19 := fun h => ((hx71 _ h).2.elim (fun h => (ap110)  h) (fun h => Nat.not_lt_of_le h (hk111.lt)))
    have hx113 := ltx hx72 hg79.size
    have hk114 := (ho69.grown hg79 hx72 (rowne ap109)).grown hg88 hx113 (rowne ap112)
    have hx115 := ltx hx113 hg88.size
    exact ⟨grown_of_below hB105, a67, c68, X70, rfl, hk114, (fun k hk => ⟨hx115 k hk, hx73 k hk⟩)⟩
  · replace h0 := ite_f hc29 h0
    refine gv_skip ?_
    refine gv_seq ?_
    refine gv_seq ?_
    refine gv_region ?_
    refine gv_pure 1 [2, 3, 4, 5, 32] (σ' := [(2, (.pointer (some ⟨b1, 0, none⟩))), (3, (.pointer (some ⟨b7, 0, none⟩))), (4, (.pointer (some ⟨b13, 0, none⟩))), (5, (.pointer (some ⟨b19, 0, none⟩))), (32, (.pointer (some ⟨b1, 1, none⟩)))]) (by kernel_rfl) ?_
    refine gv_load (t := 22) (A := ⟨b1, 1, none⟩) (.slice pa0_0 (List.length a_0.2) pc0_0) [2, 3, 4, 5, 33] (σ' := [(2, (.pointer (some ⟨b1, 0, none⟩))), (3, (.pointer (some ⟨b7, 0, none⟩))), (4, (.pointer (some ⟨b13, 0, none⟩))), (5, (.pointer (some ⟨b19, 0, none⟩))), (33, (.slice pa0_0 (List.length a_0.2) pc0_0))]) (fun e => by cases e) (by rfl) (by rfl) (by rfl) (by kernel_rfl) (by kernel_rfl) (by kernel_rfl) (inw0 (hk26.cell 1 rfl)) (by kernel_rfl) ?_
    refine gv_pure 1 [2, 3, 4, 5, 33, 34] (σ' := [(2, (.pointer (some ⟨b1, 0, none⟩))), (3, (.pointer (some ⟨b7, 0, none⟩))), (4, (.pointer (some ⟨b13, 0, none⟩))), (5, (.pointer (some ⟨b19, 0, none⟩))), (33, (.slice pa0_0 (List.length a_0.2) pc0_0)), (34, (.pointer (some ⟨b7, 1, none⟩)))]) (by kernel_rfl) ?_
    refine gv_load (t := 22) (A := ⟨b7, 1, none⟩) (.slice pa1_0 (List.length b_1.2) pc1_0) [2, 3, 4, 5, 33, 35] (σ' := [(2, (.pointer (some ⟨b1, 0, none⟩))), (3, (.pointer (some ⟨b7, 0, none⟩))), (4, (.pointer (some ⟨b13, 0, none⟩))), (5, (.pointer (some ⟨b19, 0, none⟩))), (33, (.slice pa0_0 (List.length a_0.2) pc0_0)), (35, (.slice pa1_0 (List.length b_1.2) pc1_0))]) (fun e => by cases e) (by rfl) (by rfl) (by rfl) (by kernel_rfl) (by kernel_rfl) (by kernel_rfl) (inw0 (hk28.cell 1 rfl)) (by kernel_rfl) ?_
    refine bindE h0 ?_; clear h0; intro r116 hr117 h0
    have hg118 := (grown_trans hg3 hg25)
    have hB119 := below_grown hB0 hg118 hB0.size nb
    refine gv_call (f := 63) (vs := [(.slice pa0_0 (List.length a_0.2) pc0_0), (.slice pa1_0 (List.length b_1.2) pc1_0)]) (cap := []) _ (by decide) (by rfl) (by rfl) rfl (by rfl) (by rfl) enters63 (natural_Cmp_ok fuel pa0_0 pc0_0 a_0.2 pa1_0 pc1_0 b_1.2 w20 (fun k => X0 k ∨ X0 k) (fun k hk => (hk).elim (fun h => (fun k (hk : X0 k) => Nat.lt_of_lt_of_le (hX0 k hk) hB119.size) k h) (fun h => (fun k (hk : X0 k) => Nat.lt_of_lt_of_le (hX0 k hk) hB119.size) k h)) ((hpa0_0.below hB119 hX0).wide (fun k hk => (.inl hk))) ((hpa1_0.below hB119 hX0).wide (fun k hk => (.inr hk))) r116 hr117) ?_
    rintro v122 w120 ⟨hg121, rfl⟩
    refine ⟨(fun e => by cases e), ?_⟩
    refine gv_pure 3 [2, 3, 4, 5, 37, 38] (σ' := [(2, (.pointer (some ⟨b1, 0, none⟩))), (3, (.pointer (some ⟨b7, 0, none⟩))), (4, (.pointer (some ⟨b13, 0, none⟩))), (5, (.pointer (some ⟨b19, 0, none⟩))), (37, (.int .i64 r116.1)), (38, (.agg #[(.int .i64 r116.2.1), (.int .i64 r116.2.2)]))]) (by kernel_rfl) ?_
    refine gv_new (fun b => .pointer (some ⟨b, 0, none⟩)) #[(.int .i64 0), (.int .i64 0)] 29 (by decide) (by rfl) (by rfl) (by kernel_rfl) (by kernel_rfl) ?_
    intro b123 w124 hg125 hb126 hbe127 hz128
    refine ⟨(fun e => by cases e), ?_⟩
    refine gv_pure 1 [2, 3, 4, 5, 8, 9, 38] (σ' := [(2, (.pointer (some ⟨b1, 0, none⟩))), (3, (.pointer (some ⟨b7, 0, none⟩))), (4, (.pointer (some ⟨b13, 0, none⟩))), (5, (.pointer (some ⟨b19, 0, none⟩))), (8, (.int .i64 r116.1)), (9, (.pointer (some ⟨b123, 0, none⟩))), (38, (.agg #[(.int .i64 r116.2.1), (.int .i64 r116.2.2)]))]) (by kernel_rfl) ?_
    refine gv_store (t := 29) (b := b123) (off := 0) (v := (.agg #[(.int .i64 r116.2.1), (.int .i64 r116.2.2)])) (t' := 29) (cs := #[(.int .i64 0), (.int .i64 0)]) #[(.int .i64 r116.2.1), (.int .i64 r116.2.2)] (by decide) (by rfl) (by rfl) (by kernel_rfl) (by kernel_rfl) (by kernel_rfl) (by intro u hu; simp [Value.cells] at hu; rcases hu with rfl | rfl <;> rfl) (show 0 + 2 ≤ 2 by decide) (by rfl) hb126 ?_
    intro w129 hg130 hb131 hz132
    refine ⟨(fun e => by cases e), ?_⟩
    refine gv_sub [2, 3, 4, 5, 8] (σ' := [(2, (.pointer (some ⟨b1, 0, none⟩))), (3, (.pointer (some ⟨b7, 0, none⟩))), (4, (.pointer (some ⟨b13, 0, none⟩))), (5, (.pointer (some ⟨b19, 0, none⟩))), (8, (.int .i64 r116.1))]) (by kernel_rfl) ?_
    refine gv_nil ?_
    refine gv_seq ?_
    refine gv_region ?_
    refine gv_pure 2 [2, 3, 4, 5, 40] (σ' := [(2, (.pointer (some ⟨b1, 0, none⟩))), (3, (.pointer (some ⟨b7, 0, none⟩))), (4, (.pointer (some ⟨b13, 0, none⟩))), (5, (.pointer (some ⟨b19, 0, none⟩))), (40, (.bool (decide (r116.1 < 0))))]) (by kernel_rfl) ?_
    refine gv_nil ?_
    refine bindE h0 ?_; clear h0; intro j133 h1 h0
    refine gv_cut_code (J := fun a w134 => ∃ (abb1_0j : Option Addr) (cbb1_0j : Nat), ∃ (abb7_0j : Option Addr) (cbb7_0j : Nat), Below w0.heap.size w0 w134 ∧ w129.heap.size ≤ w134.heap.size ∧ Rd (iE .u32) w0 X0 abb1_0j cbb1_0j j133.1.2 ∧ Rd (iE .u32) w0 X0 abb7_0j cbb7_0j j133.2.2 ∧ Box w134 b1 24 #[(.bool j133.1.1), (.slice abb1_0j (List.length j133.1.2) cbb1_0j)] ∧ Box w134 b7 24 #[(.bool j133.2.1), (.slice abb7_0j (List.length j133.2.2) cbb7_0j)] ∧ Box w134 b13 24 #[(.bool false), (.slice none (List.length ([] : List Int)) 0)] ∧ Box w134 b19 29 #[(.int .i64 0), (.int .i64 0)] ∧ a.defers = [] ∧ a.tmps.size = 57 ∧ Ok [(2, (.pointer (some ⟨b1, 0, none⟩))), (3, (.pointer (some ⟨b7, 0, none⟩))), (4, (.pointer (some ⟨b13, 0, none⟩))), (5, (.pointer (some ⟨b19, 0, none⟩)))] a.tmps) ?_ ?_
    · skip
      refine gv_cond (b := (decide (r116.1 < 0))) (by rfl) (fun hc135 => ?_) (fun hc135 => ?_)
      · replace h1 := ite_t hc135 h1
        refine gv_region ?_
        have hg136 := (grown_trans hg121 hg125)
        have hk137 := hk28.grown hg121 nb
        have ap138 : ¬ (· = b7) b123 := fun hx => Nat.not_lt_of_le ((lowb hbe127) _ rfl) ((fun k (hk : k = b7) => Nat.lt_of_le_of_lt (Nat.le_of_eq hk) hk137.lt) _ hx)
        have hk139 := (hk28.grown hg136 nb).grown hg130 (rowne ap138)
        refine gv_loadBox (t := 24) (b := b7) (t' := 24) (fr := (0, 0)) #[(.bool b_1.1), (.slice pa1_0 (List.length b_1.2) pc1_0)] [2, 3, 4, 5, 41] (σ' := [(2, (.pointer (some ⟨b1, 0, none⟩))), (3, (.pointer (some ⟨b7, 0, none⟩))), (4, (.pointer (some ⟨b13, 0, none⟩))), (5, (.pointer (some ⟨b19, 0, none⟩))), (41, (.agg #[(.bool b_1.1), (.slice pa1_0 (List.length b_1.2) pc1_0)]))]) (fun e => by cases e) (by rfl) (by rfl) (by rfl) (by kernel_rfl) (by kernel_rfl) (by kernel_rfl) (by kernel_rfl) (inw0 hk139) (by kernel_rfl) ?_
        have hk140 := hk26.grown hg121 nb
        have ap141 : ¬ (· = b1) b123 := fun hx => Nat.not_lt_of_le ((lowb hbe127) _ rfl) ((fun k (hk : k = b1) => Nat.lt_of_le_of_lt (Nat.le_of_eq hk) hk140.lt) _ hx)
        have hk142 := (hk26.grown hg136 nb).grown hg130 (rowne ap141)
        refine gv_loadBox (t := 24) (b := b1) (t' := 24) (fr := (0, 0)) #[(.bool a_0.1), (.slice pa0_0 (List.length a_0.2) pc0_0)] [2, 3, 4, 5, 41, 42] (σ' := [(2, (.pointer (some ⟨b1, 0, none⟩))), (3, (.pointer (some ⟨b7, 0, none⟩))), (4, (.pointer (some ⟨b13, 0, none⟩))), (5, (.pointer (some ⟨b19, 0, none⟩))), (41, (.agg #[(.bool b_1.1), (.slice pa1_0 (List.length b_1.2) pc1_0)])), (42, (.agg #[(.bool a_0.1), (.slice pa0_0 (List.length a_0.2) pc0_0)]))]) (fun e => by cases e) (by rfl) (by rfl) (by rfl) (by kernel_rfl) (by kernel_rfl) (by kernel_rfl) (by kernel_rfl) (inw0 hk142) (by kernel_rfl) ?_
        refine gv_store (t := 24) (b := b1) (off := 0) (v := (.agg #[(.bool b_1.1), (.slice pa1_0 (List.length b_1.2) pc1_0)])) (t' := 24) (cs := #[(.bool a_0.1), (.slice pa0_0 (List.length a_0.2) pc0_0)]) #[(.bool b_1.1), (.slice pa1_0 (List.length b_1.2) pc1_0)] (by decide) (by rfl) (by rfl) (by kernel_rfl) (by kernel_rfl) (by kernel_rfl) (by intro u hu; simp [Value.cells] at hu; rcases hu with rfl | rfl <;> rfl) (show 0 + 2 ≤ 2 by decide) (by rfl) hk142 ?_
        intro w143 hg144 hb145 hz146
        refine ⟨(fun e => by cases e), ?_⟩
        have ap151 : ¬ (· = b7) b1 := fun hx => Nat.not_lt_of_le ((lowb hbe11) _ hx) ((fun k (hk : k = b1) => Nat.lt_of_le_of_lt (Nat.le_of_eq hk) hb4.lt) _ rfl)
        have hk152 := hk139.grown hg144 (rowne ap151)
        refine gv_sub [2, 3, 4, 5, 42] (σ' := [(2, (.pointer (some ⟨b1, 0, none⟩))), (3, (.pointer (some ⟨b7, 0, none⟩))), (4, (.pointer (some ⟨b13, 0, none⟩))), (5, (.pointer (some ⟨b19, 0, none⟩))), (42, (.agg #[(.bool a_0.1), (.slice pa0_0 (List.length a_0.2) pc0_0)]))]) (by kernel_rfl) ?_
        refine gv_store (t := 24) (b := b7) (off := 0) (v := (.agg #[(.bool a_0.1), (.slice pa0_0 (List.length a_0.2) pc0_0)])) (t' := 24) (cs := #[(.bool b_1.1), (.slice pa1_0 (List.length b_1.2) pc1_0)]) #[(.bool a_0.1), (.slice pa0_0 (List.length a_0.2) pc0_0)] (by decide) (by rfl) (by rfl) (by kernel_rfl) (by kernel_rfl) (by kernel_rfl) (by intro u hu; simp [Value.cells] at hu; rcases hu with rfl | rfl <;> rfl) (show 0 + 2 ≤ 2 by decide) (by rfl) hk152 ?_
        intro w147 hg148 hb149 hz150
        refine ⟨(fun e => by cases e), ?_⟩
        refine gv_sub [2, 3, 4, 5] (σ' := [(2, (.pointer (some ⟨b1, 0, none⟩))), (3, (.pointer (some ⟨b7, 0, none⟩))), (4, (.pointer (some ⟨b13, 0, none⟩))), (5, (.pointer (some ⟨b19, 0, none⟩)))]) (by kernel_rfl) ?_
        refine gv_nil ?_
        have e := Option.some.inj h1; subst e
        refine gv_goal fun a hd hs hok => ?_
        obtain ⟨q2, q3, q4, q5, _⟩ := hok
        have hB153 := below_grown hB119 hg136 hB119.size nb
        have hB154 := below_grown hB119 hg121 hB119.size nb
        have hlo155 : w0.heap.size ≤ b123 := lob hbe127 hB154.size
        have hB156 := below_grown hB153 hg130 hB153.size (rowlo hlo155)
        have hlo157 : w0.heap.size ≤ b1 := lob hbe5 hB0.size
        have hB158 := below_grown hB156 hg144 hB156.size (rowlo hlo157)
        have hB159 := below_grown hB0 hg3 hB0.size nb
        have hlo160 : w0.heap.size ≤ b7 := lob hbe11 hB159.size
        have hB161 := below_grown hB158 hg148 hB158.size (rowlo hlo160)
        have hz162 : w129.heap.size ≤ w147.heap.size := (Nat.le_trans hg144.size hg148.size)
        have ap163 : ¬ (· = b1) b7 := fun hx => Nat.not_lt_of_le ((lowb hbe11) _ rfl) ((fun k (hk : k = b1) => Nat.lt_of_le_of_lt (Nat.le_of_eq hk) hb4.lt) _ hx)
        have hk164 := hb145.grown hg148 (rowne ap163)
        have hg165 := (grown_trans hg21 hg136)
        have hg166 := (grown_trans hg21 hg121)
        have hk167 := hb16.grown hg166 nb
        have ap168 : ¬ (· = b13) b123 := fun hx => Nat.not_lt_of_le ((lowb hbe127) _ rfl) ((fun k (hk : k = b13) => Nat.lt_of_le_of_lt (Nat.le_of_eq hk) hk167.lt) _ hx)
        have hk169 := hb4.grown hg9 nb
        have ap170 : ¬ (· = b13) b1 := fun hx => Nat.not_lt_of_le ((lowb hbe17) _ hx) ((fun k (hk : k = b1) => Nat.lt_of_le_of_lt (Nat.le_of_eq hk) hk169.lt) _ rfl)
        have ap171 : ¬ (· = b13) b7 := fun hx => Nat.not_lt_of_le ((lowb hbe17) _ hx) ((fun k (hk : k = b7) => Nat.lt_of_le_of_lt (Nat.le_of_eq hk) hb10.lt) _ rfl)
        have hk172 := (((hb16.grown hg165 nb).grown hg130 (rowne ap168)).grown hg144 (rowne ap170)).grown hg148 (rowne ap171)
        have hk173 := hb22.grown hg121 nb
        have ap174 : ¬ (· = b19) b123 := fun hx => Nat.not_lt_of_le ((lowb hbe127) _ rfl) ((fun k (hk : k = b19) => Nat.lt_of_le_of_lt (Nat.le_of_eq hk) hk173.lt) _ hx)
        have hk175 := hk169.grown hg15 nb
        have ap176 : ¬ (· = b19) b1 := fun hx => Nat.not_lt_of_le ((lowb hbe23) _ hx) ((fun k (hk : k = b1) => Nat.lt_of_le_of_lt (Nat.le_of_eq hk) hk175.lt) _ rfl)
        have hk177 := hb10.grown hg15 nb
        have ap178 : ¬ (· = b19) b7 := fun hx => Nat.not_lt_of_le ((lowb hbe23) _ hx) ((fun k (hk : k = b7) => Nat.lt_of_le_of_lt (Nat.le_of_eq hk) hk177.lt) _ rfl)
        have hk179 := (((hb22.grown hg136 nb).grown hg130 (rowne ap174)).grown hg144 (rowne ap176)).grown hg148 (rowne ap178)
        exact ⟨pa1_0, pc1_0, pa0_0, pc0_0, hB161, hz162, hpa1_0, hpa0_0, hk164, hb149, hk172, hk179, hd, hs, ⟨q2, q3, q4, q5, trivial⟩⟩
      · replace h1 := ite_f hc135 h1
        refine gv_skip ?_
        have e := Option.some.inj h1; subst e
        refine gv_goal fun a hd hs hok => ?_
        obtain ⟨q2, q3, q4, q5, q40, _⟩ := hok
        have hg180 := (grown_trans hg121 hg125)
        have hB181 := below_grown hB119 hg180 hB119.size nb
        have hB182 := below_grown hB119 hg121 hB119.size nb
        have hlo183 : w0.heap.size ≤ b123 := lob hbe127 hB182.size
        have hB184 := below_grown hB181 hg130 hB181.size (rowlo hlo183)
        have hk185 := hk26.grown hg121 nb
        have ap186 : ¬ (· = b1) b123 := fun hx => Nat.not_lt_of_le ((lowb hbe127) _ rfl) ((fun k (hk : k = b1) => Nat.lt_of_le_of_lt (Nat.le_of_eq hk) hk185.lt) _ hx)
        have hk187 := (hk26.grown hg180 nb).grown hg130 (rowne ap186)
        have hk188 := hk28.grown hg121 nb
        have ap189 : ¬ (· = b7) b123 := fun hx => Nat.not_lt_of_le ((lowb hbe127) _ rfl) ((fun k (hk : k = b7) => Nat.lt_of_le_of_lt (Nat.le_of_eq hk) hk188.lt) _ hx)
        have hk190 := (hk28.grown hg180 nb).grown hg130 (rowne ap189)
        have hg191 := (grown_trans hg21 hg180)
        have hg192 := (grown_trans hg21 hg121)
        have hk193 := hb16.grown hg192 nb
        have ap194 : ¬ (· = b13) b123 := fun hx => Nat.not_lt_of_le ((lowb hbe127) _ rfl) ((fun k (hk : k = b13) => Nat.lt_of_le_of_lt (Nat.le_of_eq hk) hk193.lt) _ hx)
        have hk195 := (hb16.grown hg191 nb).grown hg130 (rowne ap194)
        have hk196 := hb22.grown hg121 nb
        have ap197 : ¬ (· = b19) b123 := fun hx => Nat.not_lt_of_le ((lowb hbe127) _ rfl) ((fun k (hk : k = b19) => Nat.lt_of_le_of_lt (Nat.le_of_eq hk) hk196.lt) _ hx)
        have hk198 := (hb22.grown hg180 nb).grown hg130 (rowne ap197)
        exact ⟨pa0_0, pc0_0, pa1_0, pc1_0, hB184, (Nat.le_refl _), hpa0_0, hpa1_0, hk187, hk190, hk195, hk198, hd, hs, ⟨q2, q3, q4, q5, trivial⟩⟩
    · rintro a w134 ⟨a201, c202, a203, c204, hB199, hz200, hp205, hp206, hb207, hb208, hb209, hb210, hd, hs, hok⟩
      refine (?_ : Run Try.prog _ 57 _ .normal [(2, (.pointer (some ⟨b1, 0, none⟩))), (3, (.pointer (some ⟨b7, 0, none⟩))), (4, (.pointer (some ⟨b13, 0, none⟩))), (5, (.pointer (some ⟨b19, 0, none⟩)))] w134) a hd hs hok
      clear hd hs hok
      clear hz200 hz132 hb131 hg130 hz128 hbe127 hb126 hg125 hg121 hB119 hg118 hr117 hc29 hk28 hg27 hk26 hg25 hz24 hb22 hg21 hz18 hz12 hz6
      refine gv_seq ?_
      refine gv_region ?_
      refine gv_pure 1 [2, 3, 4, 5, 44] (σ' := [(2, (.pointer (some ⟨b1, 0, none⟩))), (3, (.pointer (some ⟨b7, 0, none⟩))), (4, (.pointer (some ⟨b13, 0, none⟩))), (5, (.pointer (some ⟨b19, 0, none⟩))), (44, (.pointer (some ⟨b1, 1, none⟩)))]) (by kernel_rfl) ?_
      refine gv_load (t := 22) (A := ⟨b1, 1, none⟩) (.slice a201 (List.length j133.1.2) c202) [2, 3, 4, 5, 45] (σ' := [(2, (.pointer (some ⟨b1, 0, none⟩))), (3, (.pointer (some ⟨b7, 0, none⟩))), (4, (.pointer (some ⟨b13, 0, none⟩))), (5, (.pointer (some ⟨b19, 0, none⟩))), (45, (.slice a201 (List.length j133.1.2) c202))]) (fun e => by cases e) (by rfl) (by rfl) (by rfl) (by kernel_rfl) (by kernel_rfl) (by kernel_rfl) (inw0 (hb207.cell 1 rfl)) (by kernel_rfl) ?_
      refine gv_pure 1 [2, 4, 5, 45, 46] (σ' := [(2, (.pointer (some ⟨b1, 0, none⟩))), (4, (.pointer (some ⟨b13, 0, none⟩))), (5, (.pointer (some ⟨b19, 0, none⟩))), (45, (.slice a201 (List.length j133.1.2) c202)), (46, (.pointer (some ⟨b7, 1, none⟩)))]) (by kernel_rfl) ?_
      refine gv_load (t := 22) (A := ⟨b7, 1, none⟩) (.slice a203 (List.length j133.2.2) c204) [2, 4, 5, 45, 47] (σ' := [(2, (.pointer (some ⟨b1, 0, none⟩))), (4, (.pointer (some ⟨b13, 0, none⟩))), (5, (.pointer (some ⟨b19, 0, none⟩))), (45, (.slice a201 (List.length j133.1.2) c202)), (47, (.slice a203 (List.length j133.2.2) c204))]) (fun e => by cases e) (by rfl) (by rfl) (by rfl) (by kernel_rfl) (by kernel_rfl) (by kernel_rfl) (inw0 (hb208.cell 1 rfl)) (by kernel_rfl) ?_
      refine bindE h0 ?_; clear h0; intro r211 hr212 h0
      refine gv_call (f := 74) (vs := [(.slice a201 (List.length j133.1.2) c202), (.slice a203 (List.length j133.2.2) c204)]) (cap := []) _ (by decide) (by rfl) (by rfl) rfl (by rfl) (by rfl) enters74 (natural_Sub_ok fuel a201 c202 j133.1.2 a203 c204 j133.2.2 w134 (fun k => X0 k ∨ X0 k) (fun k hk => (hk).elim (fun h => (fun k (hk : X0 k) => Nat.lt_of_lt_of_le (hX0 k hk) hB199.size) k h) (fun h => (fun k (hk : X0 k) => Nat.lt_of_lt_of_le (hX0 k hk) hB199.size) k h)) ((hp205.below hB199 hX0).wide (fun k hk => (.inl hk))) ((hp206.below hB199 hX0).wide (fun k hk => (.inr hk))) r211 hr212) ?_
      rintro v215 w213 ⟨hg214, a216, c217, X219, rfl, ho218, hx220⟩
      refine ⟨(fun e => by cases e), ?_⟩
      have hx221 : ∀ k, X219 k → k < w213.heap.size := fun k hk => (hx220 k hk).1
      have hx222 : ∀ k, X219 k → X0 k ∨ w0.heap.size ≤ k := fun k hk => (hx220 k hk).2.elim (fun h => (h).elim (fun h => (fun k (hk : X0 k) => Or.inl hk) k h) (fun h => (fun k (hk : X0 k) => Or.inl hk) k h)) (fun h => .inr (Nat.le_trans hB199.size h))
      clear hr212 hb208 hbe11 hb10
      refine gv_pure 3 [2, 4, 5, 49, 50] (σ' := [(2, (.pointer (some ⟨b1, 0, none⟩))), (4, (.pointer (some ⟨b13, 0, none⟩))), (5, (.pointer (some ⟨b19, 0, none⟩))), (49, (.slice a216 (List.length r211.1) c217)), (50, (.agg #[(.int .i64 r211.2.1), (.int .i64 r211.2.2)]))]) (by kernel_rfl) ?_
      refine gv_new (fun b => .pointer (some ⟨b, 0, none⟩)) #[(.int .i64 0), (.int .i64 0)] 29 (by decide) (by rfl) (by rfl) (by kernel_rfl) (by kernel_rfl) ?_
      intro b223 w224 hg225 hb226 hbe227 hz228
      refine ⟨(fun e => by cases e), ?_⟩
      refine gv_pure 1 [2, 4, 5, 10, 11, 50] (σ' := [(2, (.pointer (some ⟨b1, 0, none⟩))), (4, (.pointer (some ⟨b13, 0, none⟩))), (5, (.pointer (some ⟨b19, 0, none⟩))), (10, (.slice a216 (List.length r211.1) c217)), (11, (.pointer (some ⟨b223, 0, none⟩))), (50, (.agg #[(.int .i64 r211.2.1), (.int .i64 r211.2.2)]))]) (by kernel_rfl) ?_
      refine gv_store (t := 29) (b := b223) (off := 0) (v := (.agg #[(.int .i64 r211.2.1), (.int .i64 r211.2.2)])) (t' := 29) (cs := #[(.int .i64 0), (.int .i64 0)]) #[(.int .i64 r211.2.1), (.int .i64 r211.2.2)] (by decide) (by rfl) (by rfl) (by kernel_rfl) (by kernel_rfl) (by kernel_rfl) (by intro u hu; simp [Value.cells] at hu; rcases hu with rfl | rfl <;> rfl) (show 0 + 2 ≤ 2 by decide) (by rfl) hb226 ?_
      intro w229 hg230 hb231 hz232
      refine ⟨(fun e => by cases e), ?_⟩
      refine gv_sub [2, 4, 5, 10] (σ' := [(2, (.pointer (some ⟨b1, 0, none⟩))), (4, (.pointer (some ⟨b13, 0, none⟩))), (5, (.pointer (some ⟨b19, 0, none⟩))), (10, (.slice a216 (List.length r211.1) c217))]) (by kernel_rfl) ?_
      refine gv_nil ?_
      refine gv_seq ?_
      refine gv_region ?_
      refine gv_pure 1 [4, 5, 10, 51] (σ' := [(4, (.pointer (some ⟨b13, 0, none⟩))), (5, (.pointer (some ⟨b19, 0, none⟩))), (10, (.slice a216 (List.length r211.1) c217)), (51, (.pointer (some ⟨b1, 0, none⟩)))]) (by kernel_rfl) ?_
      have hg233 := (grown_trans hg214 hg225)
      have hk234 := hb207.grown hg214 nb
      have ap235 : ¬ (· = b1) b223 := fun hx => Nat.not_lt_of_le ((lowb hbe227) _ rfl) ((fun k (hk : k = b1) => Nat.lt_of_le_of_lt (Nat.le_of_eq hk) hk234.lt) _ hx)
      have hk236 := (hb207.grown hg233 nb).grown hg230 (rowne ap235)
      refine gv_load (t := 4) (A := ⟨b1, 0, none⟩) (.bool j133.1.1) [4, 5, 10, 52] (σ' := [(4, (.pointer (some ⟨b13, 0, none⟩))), (5, (.pointer (some ⟨b19, 0, none⟩))), (10, (.slice a216 (List.length r211.1) c217)), (52, (.bool j133.1.1))]) (fun e => by cases e) (by rfl) (by rfl) (by rfl) (by kernel_rfl) (by kernel_rfl) (by kernel_rfl) (inw0 (hk236.cell 0 rfl)) (by kernel_rfl) ?_
      refine gv_pure 1 [4, 5, 52, 53] (σ' := [(4, (.pointer (some ⟨b13, 0, none⟩))), (5, (.pointer (some ⟨b19, 0, none⟩))), (52, (.bool j133.1.1)), (53, (.slice a216 (List.length r211.1) c217))]) (by kernel_rfl) ?_
      refine bindE h0 ?_; clear h0; intro r237 hr238 h0
      have hx239 := ltx (ltx hx221 hg225.size) hg230.size
      have ap240 : ¬ X219 b223 := fun hx => Nat.not_lt_of_le ((lowb hbe227) _ rfl) (hx221 _ hx)
      have hx241 := ltx hx221 hg225.size
      have hk242 := (ho218.grown hg225 hx221 nb).grown hg230 hx241 (rowne ap240)
      refine gv_call (f := 73) (vs := [(.bool j133.1.1), (.slice a216 (List.length r211.1) c217)]) (cap := []) _ (by decide) (by rfl) (by rfl) rfl (by rfl) (by rfl) enters73 (integer_signed_ok fuel j133.1.1 a216 c217 r211.1 w229 (fun k => X219 k) (fun k hk => hx239 k hk) (hk242.wide (fun k hk => hk)) r237 hr238) ?_
      rintro v245 w243 ⟨hg244, a246, c247, X249, rfl, ho248, hx250⟩
      refine ⟨(fun e => by cases e), ?_⟩
      have hx251 : ∀ k, X249 k → k < w243.heap.size := fun k hk => (hx250 k hk).1
      have hB253 := below_grown hB199 hg233 hB199.size nb
      have hB254 := below_grown hB199 hg214 hB199.size nb
      have hlo255 : w0.heap.size ≤ b223 := lob hbe227 hB254.size
      have hB256 := below_grown hB253 hg230 hB253.size (rowlo hlo255)
      have hx252 : ∀ k, X249 k → X0 k ∨ w0.heap.size ≤ k := fun k hk => (hx250 k hk).2.elim (fun h => hx222 k h) (fun h => .inr (Nat.le_trans hB256.size h))
      refine gv_pure 2 [4, 5, 55, 56] (σ' := [(4, (.pointer (some ⟨b13, 0, none⟩))), (5, (.pointer (some ⟨b19, 0, none⟩))), (55, (.agg #[(.bool r237.1.1), (.slice a246 (List.length r237.1.2) c247)])), (56, (.agg #[(.int .i64 r237.2.1), (.int .i64 r237.2.2)]))]) (by kernel_rfl) ?_
      have hk261 := hb209.grown hg214 nb
      have ap262 : ¬ (· = b13) b223 := fun hx => Nat.not_lt_of_le ((lowb hbe227) _ rfl) ((fun k (hk : k = b13) => Nat.lt_of_le_of_lt (Nat.le_of_eq hk) hk261.lt) _ hx)
      have hk263 := ((hb209.grown hg233 nb).grown hg230 (rowne ap262)).grown hg244 nb
      refine gv_store (t := 24) (b := b13) (off := 0) (v := (.agg #[(.bool r237.1.1), (.slice a246 (List.length r237.1.2) c247)])) (t' := 24) (cs := #[(.bool false), (.slice none (List.length ([] : List Int)) 0)]) #[(.bool r237.1.1), (.slice a246 (List.length r237.1.2) c247)] (by decide) (by rfl) (by rfl) (by kernel_rfl) (by kernel_rfl) (by kernel_rfl) (by intro u hu; simp [Value.cells] at hu; rcases hu with rfl | rfl <;> rfl) (show 0 + 2 ≤ 2 by decide) (by rfl) hk263 ?_
      intro w257 hg258 hb259 hz260
      refine ⟨(fun e => by cases e), ?_⟩
      have hk268 := hb210.grown hg214 nb
      have ap269 : ¬ (· = b19) b223 := fun hx => Nat.not_lt_of_le ((lowb hbe227) _ rfl) ((fun k (hk : k = b19) => Nat.lt_of_le_of_lt (Nat.le_of_eq hk) hk268.lt) _ hx)
      have ap270 : ¬ (· = b19) b13 := fun hx => Nat.not_lt_of_le ((lowb hbe23) _ hx) ((fun k (hk : k = b13) => Nat.lt_of_le_of_lt (Nat.le_of_eq hk) hb16.lt) _ rfl)
      have hk271 := (((hb210.grown hg233 nb).grown hg230 (rowne ap269)).grown hg244 nb).grown hg258 (rowne ap270)
      refine gv_sub [4, 5, 56] (σ' := [(4, (.pointer (some ⟨b13, 0, none⟩))), (5, (.pointer (some ⟨b19, 0, none⟩))), (56, (.agg #[(.int .i64 r237.2.1), (.int .i64 r237.2.2)]))]) (by kernel_rfl) ?_
      refine gv_store (t := 29) (b := b19) (off := 0) (v := (.agg #[(.int .i64 r237.2.1), (.int .i64 r237.2.2)])) (t' := 29) (cs := #[(.int .i64 0), (.int .i64 0)]) #[(.int .i64 r237.2.1), (.int .i64 r237.2.2)] (by decide) (by rfl) (by rfl) (by kernel_rfl) (by kernel_rfl) (by kernel_rfl) (by intro u hu; simp [Value.cells] at hu; rcases hu with rfl | rfl <;> rfl) (show 0 + 2 ≤ 2 by decide) (by rfl) hk271 ?_
      intro w264 hg265 hb266 hz267
      refine ⟨(fun e => by cases e), ?_⟩
      refine gv_sub [4, 5] (σ' := [(4, (.pointer (some ⟨b13, 0, none⟩))), (5, (.pointer (some ⟨b19, 0, none⟩)))]) (by kernel_rfl) ?_
      refine gv_nil ?_
      refine gv_cret ?_
      have e := Option.some.inj h0; subst e
      have ap272 : ¬ (· = b13) b19 := fun hx => Nat.not_lt_of_le ((lowb hbe23) _ rfl) ((fun k (hk : k = b13) => Nat.lt_of_le_of_lt (Nat.le_of_eq hk) hb16.lt) _ hx)
      have hk273 := hb259.grown hg265 (rowne ap272)
      refine gv_ret (gv_done [(.agg #[(.bool r237.1.1), (.slice a246 (List.length r237.1.2) c247)]), (.agg #[(.int .i64 r237.2.1), (.int .i64 r237.2.2)])] rfl ⟨⟨_, rfl, run_loadVar_row w264 b13 _ 24 _ _ _ hk273 Try.underlying24 rfl (by kernel_rfl)⟩, ⟨_, rfl, run_loadVar_row w264 b19 _ 29 _ _ _ hb266 Try.underlying29 rfl (by kernel_rfl)⟩, trivial⟩ ?_)
      have hB274 := below_grown hB256 hg244 hB256.size nb
      have hg275 := (grown_trans hg3 hg9)
      have hB276 := below_grown hB0 hg275 hB0.size nb
      have hlo277 : w0.heap.size ≤ b13 := lob hbe17 hB276.size
      have hB278 := below_grown hB274 hg258 hB274.size (rowlo hlo277)
      have hB279 := below_grown hB276 hg15 hB276.size nb
      have hlo280 : w0.heap.size ≤ b19 := lob hbe23 hB279.size
      have hB281 := below_grown hB278 hg265 hB278.size (rowlo hlo280)
      have ap282 : ¬ X219 b13 := fun h => ((hx220 _ h).2.elim (fun h => (h).elim (fun h => ((fun (hx : X0 b13) => Nat.not_lt_of_le hlo277 (hX0 _ hx)))  h) (fun h => ((fun (hx : X0 b13) => Nat.not_lt_of_le hlo277 (hX0 _ hx)))  h)) (fun h => Nat.not_lt_of_le h (hb209.lt)))
      have hk283 := (hk261.grown hg225 nb).grown hg230 (rowne ap262)
      have ap284 : ¬ X249 b13 := fun h => ((hx250 _ h).2.elim (fun h => (ap282)  h) (fun h => Nat.not_lt_of_le h (hk283.lt)))
      have ap285 : ¬ X219 b19 := fun h => ((hx220 _ h).2.elim (fun h => (h).elim (fun h => ((fun (hx : X0 b19) => Nat.not_lt_of_le hlo280 (hX0 _ hx)))  h) (fun h => ((fun (hx : X0 b19) => Nat.not_lt_of_le hlo280 (hX0 _ hx)))  h)) (fun h => Nat.not_lt_of_le h (hb210.lt)))
      have hk286 := (hk268.grown hg225 nb).grown hg230 (rowne ap269)
      have ap287 : ¬ X249 b19 := fun h => ((hx250 _ h).2.elim (fun h => (ap285)  h) (fun h => Nat.not_lt_of_le h (hk286.lt)))
      have hx288 := ltx hx251 hg258.size
      have hk289 := (ho248.grown hg258 hx251 (rowne ap284)).grown hg265 hx288 (rowne ap287)
      have hx290 := ltx hx288 hg265.size
      exact ⟨grown_of_below hB281, a246, c247, X249, rfl, hk289, (fun k hk => ⟨hx290 k hk, hx252 k hk⟩)⟩

set_option maxHeartbeats 4000000 in
set_option maxRecDepth 100000 in
theorem integer_Sub_ok (fuel : Nat) (pa0_0 : Option Addr) (pc0_0 : Nat) (a_0 : (Bool × (List Int))) (pa1_0 : Option Addr) (pc1_0 : Nat) (b_1 : (Bool × (List Int))) (w0 : World) (X0 : Nat → Prop) (hX0 : ∀ k, X0 k → k < w0.heap.size) (hpa0_0 : Rd (iE .u32) w0 X0 pa0_0 pc0_0 a_0.2) (hpa1_0 : Rd (iE .u32) w0 X0 pa1_0 pc1_0 b_1.2) (r0 : ((Bool × (List Int)) × (Int × Int))) (h0 : integer_Sub fuel a_0 b_1 = some r0) :
    Calls Try.prog 45 ([(.agg #[(.bool a_0.1), (.slice pa0_0 (List.length a_0.2) pc0_0)]), (.agg #[(.bool b_1.1), (.slice pa1_0 (List.length b_1.2) pc1_0)])] : List Value).toArray w0 (Ret fun v w' => w0.grownBy w' none ∧ ∃ (a0_0r : Option Addr) (c0_0r : Nat), ∃ (X0_0r : Nat → Prop), v = tup [(.agg #[(.bool r0.1.1), (.slice a0_0r (List.length r0.1.2) c0_0r)]), (.agg #[(.int .i64 r0.2.1), (.int .i64 r0.2.2)])] ∧ Rd (iE .u32) w' X0_0r a0_0r c0_0r r0.1.2 ∧ (∀ k, X0_0r k → k < w'.heap.size ∧ (X0 k ∨ w0.heap.size ≤ k))) := by
  have hB0 : Below w0.heap.size w0 w0 := Below.refl _ _
  unfold integer_Sub at h0
  refine calls_run Try.func45 rfl Try.ntmps45 (by kernel_rfl) ?_
  refine gv_sub [0, 1] (σ' := [(0, (.agg #[(.bool a_0.1), (.slice pa0_0 (List.length a_0.2) pc0_0)])), (1, (.agg #[(.bool b_1.1), (.slice pa1_0 (List.length b_1.2) pc1_0)]))]) (by kernel_rfl) ?_
  refine gv_seq ?_
  refine gv_region ?_
  refine gv_new (fun b => .pointer (some ⟨b, 0, none⟩)) #[(.bool a_0.1), (.slice pa0_0 (List.length a_0.2) pc0_0)] 24 (by decide) (by rfl) (by rfl) (by kernel_rfl) (by kernel_rfl) ?_
  intro b1 w2 hg3 hb4 hbe5 hz6
  refine ⟨(fun e => by cases e), ?_⟩
  refine gv_sub [1, 2] (σ' := [(1, (.agg #[(.bool b_1.1), (.slice pa1_0 (List.length b_1.2) pc1_0)])), (2, (.pointer (some ⟨b1, 0, none⟩)))]) (by kernel_rfl) ?_
  refine gv_new (fun b => .pointer (some ⟨b, 0, none⟩)) #[(.bool b_1.1), (.slice pa1_0 (List.length b_1.2) pc1_0)] 24 (by decide) (by rfl) (by rfl) (by kernel_rfl) (by kernel_rfl) ?_
  intro b7 w8 hg9 hb10 hbe11 hz12
  refine ⟨(fun e => by cases e), ?_⟩
  refine gv_sub [2, 3] (σ' := [(2, (.pointer (some ⟨b1, 0, none⟩))), (3, (.pointer (some ⟨b7, 0, none⟩)))]) (by kernel_rfl) ?_
  refine gv_new (fun b => .pointer (some ⟨b, 0, none⟩)) #[(.bool false), (.slice none (List.length ([] : List Int)) 0)] 24 (by decide) (by rfl) (by rfl) (by kernel_rfl) (by kernel_rfl) ?_
  intro b13 w14 hg15 hb16 hbe17 hz18
  refine ⟨(fun e => by cases e), ?_⟩
  refine gv_sub [2, 3, 4] (σ' := [(2, (.pointer (some ⟨b1, 0, none⟩))), (3, (.pointer (some ⟨b7, 0, none⟩))), (4, (.pointer (some ⟨b13, 0, none⟩)))]) (by kernel_rfl) ?_
  refine gv_new (fun b => .pointer (some ⟨b, 0, none⟩)) #[(.int .i64 0), (.int .i64 0)] 29 (by decide) (by rfl) (by rfl) (by kernel_rfl) (by kernel_rfl) ?_
  intro b19 w20 hg21 hb22 hbe23 hz24
  refine ⟨(fun e => by cases e), ?_⟩
  refine gv_sub [2, 3, 4, 5] (σ' := [(2, (.pointer (some ⟨b1, 0, none⟩))), (3, (.pointer (some ⟨b7, 0, none⟩))), (4, (.pointer (some ⟨b13, 0, none⟩))), (5, (.pointer (some ⟨b19, 0, none⟩)))]) (by kernel_rfl) ?_
  refine gv_nil ?_
  refine gv_seq ?_
  refine gv_seq ?_
  refine gv_region ?_
  have hg25 := (grown_trans (grown_trans hg9 hg15) hg21)
  have hk26 := hb4.grown hg25 nb
  refine gv_loadBox (t := 24) (b := b1) (t' := 24) (fr := (0, 0)) #[(.bool a_0.1), (.slice pa0_0 (List.length a_0.2) pc0_0)] [2, 3, 4, 5, 7] (σ' := [(2, (.pointer (some ⟨b1, 0, none⟩))), (3, (.pointer (some ⟨b7, 0, none⟩))), (4, (.pointer (some ⟨b13, 0, none⟩))), (5, (.pointer (some ⟨b19, 0, none⟩))), (7, (.agg #[(.bool a_0.1), (.slice pa0_0 (List.length a_0.2) pc0_0)]))]) (fun e => by cases e) (by rfl) (by rfl) (by rfl) (by kernel_rfl) (by kernel_rfl) (by kernel_rfl) (by kernel_rfl) (inw0 hk26) (by kernel_rfl) ?_
  have hg27 := (grown_trans hg15 hg21)
  have hk28 := hb10.grown hg27 nb
  refine gv_loadBox (t := 24) (b := b7) (t' := 24) (fr := (0, 0)) #[(.bool b_1.1), (.slice pa1_0 (List.length b_1.2) pc1_0)] [2, 3, 4, 5, 7, 8] (σ' := [(2, (.pointer (some ⟨b1, 0, none⟩))), (3, (.pointer (some ⟨b7, 0, none⟩))), (4, (.pointer (some ⟨b13, 0, none⟩))), (5, (.pointer (some ⟨b19, 0, none⟩))), (7, (.agg #[(.bool a_0.1), (.slice pa0_0 (List.length a_0.2) pc0_0)])), (8, (.agg #[(.bool b_1.1), (.slice pa1_0 (List.length b_1.2) pc1_0)]))]) (fun e => by cases e) (by rfl) (by rfl) (by rfl) (by kernel_rfl) (by kernel_rfl) (by kernel_rfl) (by kernel_rfl) (inw0 hk28) (by kernel_rfl) ?_
  refine gv_new (fun b => .slice (some ⟨b, 0, none⟩) 2 2) #[(.bool a_0.1), (.slice pa0_0 (List.length a_0.2) pc0_0), (.bool b_1.1), (.slice pa1_0 (List.length b_1.2) pc1_0)] 24 (by decide) (by rfl) (by rfl) (by kernel_rfl) (by kernel_rfl) ?_
  intro b29 w30 hg31 hb32 hbe33 hz34
  refine ⟨(fun e => by cases e), ?_⟩
  obtain ⟨X40, e⟩ : ∃ X : Nat → Prop, X = (fun k => X0 k) := ⟨_, rfl⟩
  have hg41 := (grown_trans hg3 hg25)
  have hB42 := below_grown hB0 hg41 hB0.size nb
  have hx38 : ∀ k, X40 k → k < w20.heap.size := fun k h => by rw [e] at h; exact (fun k (hk : X0 k) => Nat.lt_of_lt_of_le (hX0 k hk) hB42.size) k h
  have hz43 : w20.heap.size ≤ w30.heap.size := hg31.size
  have hx37 : ∀ k, X40 k → k < w30.heap.size := fun k h => Nat.lt_of_lt_of_le (hx38 k h) hz43
  have hx39 : ∀ k, X40 k → X0 k ∨ w0.heap.size ≤ k := fun k h => by rw [e] at h; exact (fun k (hk : X0 k) => Or.inl hk) k h
  have hB44 := below_grown hB42 hg31 hB42.size nb
  have ho35 : Own (prE tE (slE (iE .u32))) 24 w30 X40 (some ⟨b29, 0, none⟩) 2 ([(a_0.1, a_0.2), (b_1.1, b_1.2)] : List (Bool × (List Int))) := Box.ownE hb32 (by rw [e]; exact ⟨[(.bool a_0.1), (.slice pa0_0 (List.length a_0.2) pc0_0)], [(.bool b_1.1), (.slice pa1_0 (List.length b_1.2) pc1_0)], rfl, ⟨[(.bool a_0.1)], [(.slice pa0_0 (List.length a_0.2) pc0_0)], rfl, rfl, ⟨pa0_0, pc0_0, rfl, ((hpa0_0.below hB44 hX0).wide (fun _ h => h))⟩⟩, ⟨[(.bool b_1.1), (.slice pa1_0 (List.length b_1.2) pc1_0)], [], rfl, ⟨[(.bool b_1.1)], [(.slice pa1_0 (List.length b_1.2) pc1_0)], rfl, rfl, ⟨pa1_0, pc1_0, rfl, ((hpa1_0.below hB44 hX0).wide (fun _ h => h))⟩⟩, rfl⟩⟩) (show 2 ≤ maxLen by decide) (fun h => noteq hbe33 (hx38 _ h))
  have hx45 : ∀ k, X40 k → (fun k => X0 k) k := fun k h => by rw [e] at h; exact h
  clear e
  have hl36 : ∀ g, blk (some ⟨b29, 0, none⟩) = some g → w0.heap.size ≤ g := loo hbe33 hB42.size
  have ap46 : ∀ g, blk (some ⟨b29, 0, none⟩) = some g → ¬ (· = b1) g := fun g e hx => Nat.not_lt_of_le (lowo hbe33 g e) ((fun k (hk : k = b1) => Nat.lt_of_le_of_lt (Nat.le_of_eq hk) hk26.lt) _ hx)
  have hlo48 : w0.heap.size ≤ b1 := lob hbe5 hB0.size
  have ap47 : ¬ (fun k => blk (some ⟨b29, 0, none⟩) = some k ∨ X40 k) b1 := fun h => h.elim (fun h => Nat.not_lt_of_le (lowo hbe33 _ h) ((fun k (hk : k = b1) => Nat.lt_of_le_of_lt (Nat.le_of_eq hk) hk26.lt) _ rfl)) (fun h => ((fun (hx : X0 b1) => Nat.not_lt_of_le hlo48 (hX0 _ hx)))  (hx45 _ h))
  have ap49 : ∀ g, blk (some ⟨b29, 0, none⟩) = some g → ¬ (· = b7) g := fun g e hx => Nat.not_lt_of_le (lowo hbe33 g e) ((fun k (hk : k = b7) => Nat.lt_of_le_of_lt (Nat.le_of_eq hk) hk28.lt) _ hx)
  have hB51 := below_grown hB0 hg3 hB0.size nb
  have hlo52 : w0.heap.size ≤ b7 := lob hbe11 hB51.size
  have ap50 : ¬ (fun k => blk (some ⟨b29, 0, none⟩) = some k ∨ X40 k) b7 := fun h => h.elim (fun h => Nat.not_lt_of_le (lowo hbe33 _ h) ((fun k (hk : k = b7) => Nat.lt_of_le_of_lt (Nat.le_of_eq hk) hk28.lt) _ rfl)) (fun h => ((fun (hx : X0 b7) => Nat.not_lt_of_le hlo52 (hX0 _ hx)))  (hx45 _ h))
  have hk54 := hb16.grown hg21 nb
  have ap53 : ∀ g, blk (some ⟨b29, 0, none⟩) = some g → ¬ (· = b13) g := fun g e hx => Nat.not_lt_of_le (lowo hbe33 g e) ((fun k (hk : k = b13) => Nat.lt_of_le_of_lt (Nat.le_of_eq hk) hk54.lt) _ hx)
  have hB56 := below_grown hB51 hg9 hB51.size nb
  have hlo57 : w0.heap.size ≤ b13 := lob hbe17 hB56.size
  have ap55 : ¬ (fun k => blk (some ⟨b29, 0, none⟩) = some k ∨ X40 k) b13 := fun h => h.elim (fun h => Nat.not_lt_of_le (lowo hbe33 _ h) ((fun k (hk : k = b13) => Nat.lt_of_le_of_lt (Nat.le_of_eq hk) hk54.lt) _ rfl)) (fun h => ((fun (hx : X0 b13) => Nat.not_lt_of_le hlo57 (hX0 _ hx)))  (hx45 _ h))
  have ap58 : ∀ g, blk (some ⟨b29, 0, none⟩) = some g → ¬ (· = b19) g := fun g e hx => Nat.not_lt_of_le (lowo hbe33 g e) ((fun k (hk : k = b19) => Nat.lt_of_le_of_lt (Nat.le_of_eq hk) hb22.lt) _ hx)
  have hB60 := below_grown hB56 hg15 hB56.size nb
  have hlo61 : w0.heap.size ≤ b19 := lob hbe23 hB60.size
  have ap59 : ¬ (fun k => blk (some ⟨b29, 0, none⟩) = some k ∨ X40 k) b19 := fun h => h.elim (fun h => Nat.not_lt_of_le (lowo hbe33 _ h) ((fun k (hk : k = b19) => Nat.lt_of_le_of_lt (Nat.le_of_eq hk) hb22.lt) _ rfl)) (fun h => ((fun (hx : X0 b19) => Nat.not_lt_of_le hlo61 (hX0 _ hx)))  (hx45 _ h))
  refine gv_sub [2, 3, 4, 5, 9] (σ' := [(2, (.pointer (some ⟨b1, 0, none⟩))), (3, (.pointer (some ⟨b7, 0, none⟩))), (4, (.pointer (some ⟨b13, 0, none⟩))), (5, (.pointer (some ⟨b19, 0, none⟩))), (9, (.slice (some ⟨b29, 0, none⟩) (List.length ([(a_0.1, a_0.2), (b_1.1, b_1.2)] : List (Bool × (List Int)))) 2))]) (by kernel_rfl) ?_
  refine bindE h0 ?_; clear h0; intro r62 hr63 h0
  refine gv_call (f := 62) (vs := [(.slice (some ⟨b29, 0, none⟩) (List.length ([(a_0.1, a_0.2), (b_1.1, b_1.2)] : List (Bool × (List Int)))) 2)]) (cap := []) _ (by decide) (by rfl) (by rfl) rfl (by rfl) (by rfl) enters62 (integer_check_ok fuel (some ⟨b29, 0, none⟩) 2 ([(a_0.1, a_0.2), (b_1.1, b_1.2)] : List (Bool × (List Int))) w30 (fun k => (fun k => blk (some ⟨b29, 0, none⟩) = some k ∨ X40 k) k) (fun k hk => (fun k (hk : blk (some ⟨b29, 0, none⟩) = some k ∨ X40 k) => hk.elim (fun h => ho35.lt k h) (fun h => hx37 k h)) k hk) ((ho35.rd (Y := fun k => blk (some ⟨b29, 0, none⟩) = some k ∨ X40 k) (fun _ h => .inr h) (fun g e => .inl e)).wide (fun k hk => hk)) r62 hr63) ?_
  rintro v66 w64 ⟨hg65, rfl⟩
  refine ⟨(fun e => by cases e), ?_⟩
  refine gv_sub [2, 3, 4, 5, 10] (σ' := [(2, (.pointer (some ⟨b1, 0, none⟩))), (3, (.pointer (some ⟨b7, 0, none⟩))), (4, (.pointer (some ⟨b13, 0, none⟩))), (5, (.pointer (some ⟨b19, 0, none⟩))), (10, (.agg #[(.int .i64 r62.1), (.int .i64 r62.2)]))]) (by kernel_rfl) ?_
  refine gv_new (fun b => .pointer (some ⟨b, 0, none⟩)) #[(.int .i64 0), (.int .i64 0)] 29 (by decide) (by rfl) (by rfl) (by kernel_rfl) (by kernel_rfl) ?_
  intro b67 w68 hg69 hb70 hbe71 hz72
  refine ⟨(fun e => by cases e), ?_⟩
  refine gv_sub [2, 3, 4, 5, 6, 10] (σ' := [(2, (.pointer (some ⟨b1, 0, none⟩))), (3, (.pointer (some ⟨b7, 0, none⟩))), (4, (.pointer (some ⟨b13, 0, none⟩))), (5, (.pointer (some ⟨b19, 0, none⟩))), (6, (.pointer (some ⟨b67, 0, none⟩))), (10, (.agg #[(.int .i64 r62.1), (.int .i64 r62.2)]))]) (by kernel_rfl) ?_
  refine gv_store (t := 29) (b := b67) (off := 0) (v := (.agg #[(.int .i64 r62.1), (.int .i64 r62.2)])) (t' := 29) (cs := #[(.int .i64 0), (.int .i64 0)]) #[(.int .i64 r62.1), (.int .i64 r62.2)] (by decide) (by rfl) (by rfl) (by kernel_rfl) (by kernel_rfl) (by kernel_rfl) (by intro u hu; simp [Value.cells] at hu; rcases hu with rfl | rfl <;> rfl) (show 0 + 2 ≤ 2 by decide) (by rfl) hb70 ?_
  intro w73 hg74 hb75 hz76
  refine ⟨(fun e => by cases e), ?_⟩
  clear hz76 hz72 hb70 hr63 ap59 hB60 ap58 ap55 hB56 ap53 ap50 hB51 ap49 ap47 ap46 hl36 hx45 ho35 hx39 hx37 hz43 hx38 hB42 hg41 hz34 hbe33 hb32 hg27 hg25 hz24 hg21 hz18 hz12 hz6 hbe5 hg3
  refine gv_sub [2, 3, 4, 5, 6] (σ' := [(2, (.pointer (some ⟨b1, 0, none⟩))), (3, (.pointer (some ⟨b7, 0, none⟩))), (4, (.pointer (some ⟨b13, 0, none⟩))), (5, (.pointer (some ⟨b19, 0, none⟩))), (6, (.pointer (some ⟨b67, 0, none⟩)))]) (by kernel_rfl) ?_
  refine gv_nil ?_
  refine gv_seq ?_
  refine gv_region ?_
  refine gv_pure 1 [2, 3, 4, 5, 6, 11] (σ' := [(2, (.pointer (some ⟨b1, 0, none⟩))), (3, (.pointer (some ⟨b7, 0, none⟩))), (4, (.pointer (some ⟨b13, 0, none⟩))), (5, (.pointer (some ⟨b19, 0, none⟩))), (6, (.pointer (some ⟨b67, 0, none⟩))), (11, (.pointer (some ⟨b67, 0, none⟩)))]) (by kernel_rfl) ?_
  refine gv_load (t := 3) (A := ⟨b67, 0, none⟩) (.int .i64 r62.1) [2, 3, 4, 5, 6, 12] (σ' := [(2, (.pointer (some ⟨b1, 0, none⟩))), (3, (.pointer (some ⟨b7, 0, none⟩))), (4, (.pointer (some ⟨b13, 0, none⟩))), (5, (.pointer (some ⟨b19, 0, none⟩))), (6, (.pointer (some ⟨b67, 0, none⟩))), (12, (.int .i64 r62.1))]) (fun e => by cases e) (by rfl) (by rfl) (by rfl) (by kernel_rfl) (by kernel_rfl) (by kernel_rfl) (inw0 (hb75.cell 0 rfl)) (by kernel_rfl) ?_
  refine gv_pure 1 [2, 3, 4, 5, 6, 13] (σ' := [(2, (.pointer (some ⟨b1, 0, none⟩))), (3, (.pointer (some ⟨b7, 0, none⟩))), (4, (.pointer (some ⟨b13, 0, none⟩))), (5, (.pointer (some ⟨b19, 0, none⟩))), (6, (.pointer (some ⟨b67, 0, none⟩))), (13, (.bool (r62.1 != 0)))]) (by kernel_rfl) ?_
  refine gv_nil ?_
  refine gv_cond (b := (r62.1 != 0)) (by rfl) (fun hc77 => ?_) (fun hc77 => ?_)
  · replace h0 := ite_t hc77 h0
    refine gv_seq ?_
    refine gv_drawA (by kernel_rfl) ?_
    intro w78 hg79
    refine gv_pre [0] #[true, false, false, false] 3 (by kernel_rfl) (by rfl) ?_
    refine gv_pure 1 [4, 5, 6, 14] (σ' := [(4, (.pointer (some ⟨b13, 0, none⟩))), (5, (.pointer (some ⟨b19, 0, none⟩))), (6, (.pointer (some ⟨b67, 0, none⟩))), (14, (.agg #[(.bool false), (.slice none (List.length ([] : List Int)) 0)]))]) (by kernel_rfl) ?_
    refine gv_nil ?_
    refine gv_goal fun a hd hs hok => ?_
    refine (?_ : RunA Try.prog _ 26 _ _ 3 #[true, false, false, false] [(4, (.pointer (some ⟨b13, 0, none⟩))), (5, (.pointer (some ⟨b19, 0, none⟩))), (6, (.pointer (some ⟨b67, 0, none⟩))), (14, (.agg #[(.bool false), (.slice none (List.length ([] : List Int)) 0)]))] w78) a hd hs hok
    clear hd hs hok
    refine gv_stage (Cls w78 [b13]) [0, 1, 2] [(1, some true), (2, some false)] #[true, true, true, false] 1 (by kernel_rfl) (by rfl) (Cls.refl _ _) ?_
    have hC80 := Cls.refl w78 [b13]
    have hk81 := hb75.grown hg79 nb
    have hg82 := (grown_trans hg31 hg65)
    have hk83 := hk54.grown hg82 nb
    have ap84 : ¬ (· = b13) b67 := fun hx => Nat.not_lt_of_le ((lowb hbe71) _ rfl) ((fun k (hk : k = b13) => Nat.lt_of_le_of_lt (Nat.le_of_eq hk) hk83.lt) _ hx)
    refine gv_loadBox (t := 29) (b := b67) (t' := 29) (fr := (0, 0)) #[(.int .i64 r62.1), (.int .i64 r62.2)] [4, 5, 14, 15] (σ' := [(4, (.pointer (some ⟨b13, 0, none⟩))), (5, (.pointer (some ⟨b19, 0, none⟩))), (14, (.agg #[(.bool false), (.slice none (List.length ([] : List Int)) 0)])), (15, (.agg #[(.int .i64 r62.1), (.int .i64 r62.2)]))]) (fun e => by cases e) (by rfl) (by rfl) (by rfl) (by kernel_rfl) (by kernel_rfl) (by kernel_rfl) (by kernel_rfl) (inw1 fun w' hC' => (hC'.box hk81 (nm_cons ap84 nm_nil))) (by kernel_rfl) ?_
    have hk89 := ((hk83.grown hg69 nb).grown hg74 (rowne ap84)).grown hg79 nb
    refine gv_store (t := 24) (b := b13) (off := 0) (v := (.agg #[(.bool false), (.slice none (List.length ([] : List Int)) 0)])) (t' := 24) (cs := #[(.bool false), (.slice none (List.length ([] : List Int)) 0)]) #[(.bool false), (.slice none (List.length ([] : List Int)) 0)] (by decide) (by rfl) (by rfl) (by kernel_rfl) (by kernel_rfl) (by kernel_rfl) (by intro u hu; simp [Value.cells] at hu; rcases hu with rfl | rfl <;> rfl) (show 0 + 2 ≤ 2 by decide) (by rfl) hk89 ?_
    intro w85 hg86 hb87 hz88
    refine ⟨(fun _ => hC80.grown hg86 (rowm (List.Mem.head _))), ?_⟩
    refine gv_sub [4, 5, 15] (σ' := [(4, (.pointer (some ⟨b13, 0, none⟩))), (5, (.pointer (some ⟨b19, 0, none⟩))), (15, (.agg #[(.int .i64 r62.1), (.int .i64 r62.2)]))]) (by kernel_rfl) ?_
    refine gv_nil ?_
    refine gv_goal fun a hd hs hok => ?_
    refine (?_ : RunA Try.prog _ 26 _ _ 1 #[true, true, true, false] [(4, (.pointer (some ⟨b13, 0, none⟩))), (5, (.pointer (some ⟨b19, 0, none⟩))), (15, (.agg #[(.int .i64 r62.1), (.int .i64 r62.2)]))] w85) a hd hs hok
    clear hd hs hok
    refine gv_stage (fun _ => True) [0, 1, 2, 3] [(3, some false)] #[true, true, true, true] 0 (by kernel_rfl) (by rfl) trivial ?_
    have hg94 := (grown_trans hg82 hg69)
    have hk95 := hb22.grown hg82 nb
    have ap96 : ¬ (· = b19) b67 := fun hx => Nat.not_lt_of_le ((lowb hbe71) _ rfl) ((fun k (hk : k = b19) => Nat.lt_of_le_of_lt (Nat.le_of_eq hk) hk95.lt) _ hx)
    have ap97 : ¬ (· = b19) b13 := fun hx => Nat.not_lt_of_le ((lowb hbe23) _ hx) ((fun k (hk : k = b13) => Nat.lt_of_le_of_lt (Nat.le_of_eq hk) hb16.lt) _ rfl)
    have hk98 := (((hb22.grown hg94 nb).grown hg74 (rowne ap96)).grown hg79 nb).grown hg86 (rowne ap97)
    refine gv_store (t := 29) (b := b19) (off := 0) (v := (.agg #[(.int .i64 r62.1), (.int .i64 r62.2)])) (t' := 29) (cs := #[(.int .i64 0), (.int .i64 0)]) #[(.int .i64 r62.1), (.int .i64 r62.2)] (by decide) (by rfl) (by rfl) (by kernel_rfl) (by kernel_rfl) (by kernel_rfl) (by intro u hu; simp [Value.cells] at hu; rcases hu with rfl | rfl <;> rfl) (show 0 + 2 ≤ 2 by decide) (by rfl) hk98 ?_
    intro w90 hg91 hb92 hz93
    refine ⟨(fun _ => trivial), ?_⟩
    refine gv_sub [4, 5] (σ' := [(4, (.pointer (some ⟨b13, 0, none⟩))), (5, (.pointer (some ⟨b19, 0, none⟩)))]) (by kernel_rfl) ?_
    refine gv_nil ?_
    refine gv_goal fun a hd hs hok => ?_
    refine (?_ : RunA Try.prog _ 26 _ _ 0 #[true, true, true, true] [(4, (.pointer (some ⟨b13, 0, none⟩))), (5, (.pointer (some ⟨b19, 0, none⟩)))] w90) a hd hs hok
    clear hd hs hok
    refine gv_stageE (by kernel_rfl) ?_
    refine gv_cret ?_
    have e := Option.some.inj h0; subst e
    have ap99 : ¬ (· = b13) b19 := fun hx => Nat.not_lt_of_le ((lowb hbe23) _ rfl) ((fun k (hk : k = b13) => Nat.lt_of_le_of_lt (Nat.le_of_eq hk) hb16.lt) _ hx)
    have hk100 := hb87.grown hg91 (rowne ap99)
    refine gv_ret (gv_done [(.agg #[(.bool false), (.slice none (List.length ([] : List Int)) 0)]), (.agg #[(.int .i64 r62.1), (.int .i64 r62.2)])] rfl ⟨⟨_, rfl, run_loadVar_row w90 b13 _ 24 _ _ _ hk100 Try.underlying24 rfl (by kernel_rfl)⟩, ⟨_, rfl, run_loadVar_row w90 b19 _ 29 _ _ _ hb92 Try.underlying29 rfl (by kernel_rfl)⟩, trivial⟩ ?_)
    have hg101 := (grown_trans hg65 hg69)
    have hB102 := below_grown hB44 hg101 hB44.size nb
    have hB103 := below_grown hB44 hg65 hB44.size nb
    have hlo104 : w0.heap.size ≤ b67 := lob hbe71 hB103.size
    have hB105 := below_grown hB102 hg74 hB102.size (rowlo hlo104)
    have hB106 := below_grown hB105 hg79 hB105.size nb
    have hB107 := below_grown hB106 hg86 hB106.size (rowlo hlo57)
    have hB108 := below_grown hB107 hg91 hB107.size (rowlo hlo61)
    exact ⟨grown_of_below hB108, none, 0, (fun _ => False), rfl, (Rd.nil (iE .u32) w90 (fun _ => False) none 0), (fun k hk => ⟨(fun _ h => h.elim) k hk, (fun _ h => h.elim) k hk⟩)⟩
  · replace h0 := ite_f hc77 h0
    refine gv_skip ?_
    refine gv_seq ?_
    refine gv_region ?_
    have hg109 := (grown_trans (grown_trans hg31 hg65) hg69)
    have hg110 := (grown_trans hg31 hg65)
    have hk111 := hk26.grown hg110 nb
    have ap112 : ¬ (· = b1) b67 := fun hx => Nat.not_lt_of_le ((lowb hbe71) _ rfl) ((fun k (hk : k = b1) => Nat.lt_of_le_of_lt (Nat.le_of_eq hk) hk111.lt) _ hx)
    have hk113 := (hk26.grown hg109 nb).grown hg74 (rowne ap112)
    refine gv_loadBox (t := 24) (b := b1) (t' := 24) (fr := (0, 0)) #[(.bool a_0.1), (.slice pa0_0 (List.length a_0.2) pc0_0)] [3, 4, 5, 16] (σ' := [(3, (.pointer (some ⟨b7, 0, none⟩))), (4, (.pointer (some ⟨b13, 0, none⟩))), (5, (.pointer (some ⟨b19, 0, none⟩))), (16, (.agg #[(.bool a_0.1), (.slice pa0_0 (List.length a_0.2) pc0_0)]))]) (fun e => by cases e) (by rfl) (by rfl) (by rfl) (by kernel_rfl) (by kernel_rfl) (by kernel_rfl) (by kernel_rfl) (inw0 hk113) (by kernel_rfl) ?_
    refine gv_pure 1 [3, 4, 5, 16, 17] (σ' := [(3, (.pointer (some ⟨b7, 0, none⟩))), (4, (.pointer (some ⟨b13, 0, none⟩))), (5, (.pointer (some ⟨b19, 0, none⟩))), (16, (.agg #[(.bool a_0.1), (.slice pa0_0 (List.length a_0.2) pc0_0)])), (17, (.pointer (some ⟨b7, 0, none⟩)))]) (by kernel_rfl) ?_
    have hk114 := hk28.grown hg110 nb
    have ap115 : ¬ (· = b7) b67 := fun hx => Nat.not_lt_of_le ((lowb hbe71) _ rfl) ((fun k (hk : k = b7) => Nat.lt_of_le_of_lt (Nat.le_of_eq hk) hk114.lt) _ hx)
    have hk116 := (hk28.grown hg109 nb).grown hg74 (rowne ap115)
    refine gv_load (t := 4) (A := ⟨b7, 0, none⟩) (.bool b_1.1) [3, 4, 5, 16, 18] (σ' := [(3, (.pointer (some ⟨b7, 0, none⟩))), (4, (.pointer (some ⟨b13, 0, none⟩))), (5, (.pointer (some ⟨b19, 0, none⟩))), (16, (.agg #[(.bool a_0.1), (.slice pa0_0 (List.length a_0.2) pc0_0)])), (18, (.bool b_1.1))]) (fun e => by cases e) (by rfl) (by rfl) (by rfl) (by kernel_rfl) (by kernel_rfl) (by kernel_rfl) (inw0 (hk116.cell 0 rfl)) (by kernel_rfl) ?_
    refine gv_pure 2 [4, 5, 16, 19, 20] (σ' := [(4, (.pointer (some ⟨b13, 0, none⟩))), (5, (.pointer (some ⟨b19, 0, none⟩))), (16, (.agg #[(.bool a_0.1), (.slice pa0_0 (List.length a_0.2) pc0_0)])), (19, (.bool (!b_1.1))), (20, (.pointer (some ⟨b7, 1, none⟩)))]) (by kernel_rfl) ?_
    refine gv_load (t := 22) (A := ⟨b7, 1, none⟩) (.slice pa1_0 (List.length b_1.2) pc1_0) [4, 5, 16, 19, 21] (σ' := [(4, (.pointer (some ⟨b13, 0, none⟩))), (5, (.pointer (some ⟨b19, 0, none⟩))), (16, (.agg #[(.bool a_0.1), (.slice pa0_0 (List.length a_0.2) pc0_0)])), (19, (.bool (!b_1.1))), (21, (.slice pa1_0 (List.length b_1.2) pc1_0))]) (fun e => by cases e) (by rfl) (by rfl) (by rfl) (by kernel_rfl) (by kernel_rfl) (by kernel_rfl) (inw0 (hk116.cell 1 rfl)) (by kernel_rfl) ?_
    refine gv_pure 1 [4, 5, 16, 22] (σ' := [(4, (.pointer (some ⟨b13, 0, none⟩))), (5, (.pointer (some ⟨b19, 0, none⟩))), (16, (.agg #[(.bool a_0.1), (.slice pa0_0 (List.length a_0.2) pc0_0)])), (22, (.agg #[(.bool (!b_1.1)), (.slice pa1_0 (List.length b_1.2) pc1_0)]))]) (by kernel_rfl) ?_
    refine bindE h0 ?_; clear h0; intro r117 hr118 h0
    have hg119 := (grown_trans hg65 hg69)
    have hB120 := below_grown hB44 hg119 hB44.size nb
    have hB121 := below_grown hB44 hg65 hB44.size nb
    have hlo122 : w0.heap.size ≤ b67 := lob hbe71 hB121.size
    have hB123 := below_grown hB120 hg74 hB120.size (rowlo hlo122)
    refine gv_call (f := 64) (vs := [(.agg #[(.bool a_0.1), (.slice pa0_0 (List.length a_0.2) pc0_0)]), (.agg #[(.bool (!b_1.1)), (.slice pa1_0 (List.length b_1.2) pc1_0)])]) (cap := []) _ (by decide) (by rfl) (by rfl) rfl (by rfl) (by rfl) enters64 (integer_plus_ok fuel pa0_0 pc0_0 (a_0.1, a_0.2) pa1_0 pc1_0 ((!b_1.1), b_1.2) w73 (fun k => X0 k ∨ X0 k) (fun k hk => (hk).elim (fun h => (fun k (hk : X0 k) => Nat.lt_of_lt_of_le (hX0 k hk) hB123.size) k h) (fun h => (fun k (hk : X0 k) => Nat.lt_of_lt_of_le (hX0 k hk) hB123.size) k h)) ((hpa0_0.below hB123 hX0).wide (fun k hk => (.inl hk))) ((hpa1_0.below hB123 hX0).wide (fun k hk => (.inr hk))) r117 hr118) ?_
    rintro v126 w124 ⟨hg125, a127, c128, X130, rfl, ho129, hx131⟩
    refine ⟨(fun e => by cases e), ?_⟩
    have hx132 : ∀ k, X130 k → k < w124.heap.size := fun k hk => (hx131 k hk).1
    have hx133 : ∀ k, X130 k → X0 k ∨ w0.heap.size ≤ k := fun k hk => (hx131 k hk).2.elim (fun h => (h).elim (fun h => (fun k (hk : X0 k) => Or.inl hk) k h) (fun h => (fun k (hk : X0 k) => Or.inl hk) k h)) (fun h => .inr (Nat.le_trans hB123.size h))
    refine gv_pure 2 [4, 5, 24, 25] (σ' := [(4, (.pointer (some ⟨b13, 0, none⟩))), (5, (.pointer (some ⟨b19, 0, none⟩))), (24, (.agg #[(.bool r117.1.1), (.slice a127 (List.length r117.1.2) c128)])), (25, (.agg #[(.int .i64 r117.2.1), (.int .i64 r117.2.2)]))]) (by kernel_rfl) ?_
    have hk138 := hk54.grown hg110 nb
    have ap139 : ¬ (· = b13) b67 := fun hx => Nat.not_lt_of_le ((lowb hbe71) _ rfl) ((fun k (hk : k = b13) => Nat.lt_of_le_of_lt (Nat.le_of_eq hk) hk138.lt) _ hx)
    have hk140 := ((hk54.grown hg109 nb).grown hg74 (rowne ap139)).grown hg125 nb
    refine gv_store (t := 24) (b := b13) (off := 0) (v := (.agg #[(.bool r117.1.1), (.slice a127 (List.length r117.1.2) c128)])) (t' := 24) (cs := #[(.bool false), (.slice none (List.length ([] : List Int)) 0)]) #[(.bool r117.1.1), (.slice a127 (List.length r117.1.2) c128)] (by decide) (by rfl) (by rfl) (by kernel_rfl) (by kernel_rfl) (by kernel_rfl) (by intro u hu; simp [Value.cells] at hu; rcases hu with rfl | rfl <;> rfl) (show 0 + 2 ≤ 2 by decide) (by rfl) hk140 ?_
    intro w134 hg135 hb136 hz137
    refine ⟨(fun e => by cases e), ?_⟩
    have hk145 := hb22.grown hg110 nb
    have ap146 : ¬ (· = b19) b67 := fun hx => Nat.not_lt_of_le ((lowb hbe71) _ rfl) ((fun k (hk : k = b19) => Nat.lt_of_le_of_lt (Nat.le_of_eq hk) hk145.lt) _ hx)
    have ap147 : ¬ (· = b19) b13 := fun hx => Nat.not_lt_of_le ((lowb hbe23) _ hx) ((fun k (hk : k = b13) => Nat.lt_of_le_of_lt (Nat.le_of_eq hk) hb16.lt) _ rfl)
    have hk148 := (((hb22.grown hg109 nb).grown hg74 (rowne ap146)).grown hg125 nb).grown hg135 (rowne ap147)
    refine gv_sub [4, 5, 25] (σ' := [(4, (.pointer (some ⟨b13, 0, none⟩))), (5, (.pointer (some ⟨b19, 0, none⟩))), (25, (.agg #[(.int .i64 r117.2.1), (.int .i64 r117.2.2)]))]) (by kernel_rfl) ?_
    refine gv_store (t := 29) (b := b19) (off := 0) (v := (.agg #[(.int .i64 r117.2.1), (.int .i64 r117.2.2)])) (t' := 29) (cs := #[(.int .i64 0), (.int .i64 0)]) #[(.int .i64 r117.2.1), (.int .i64 r117.2.2)] (by decide) (by rfl) (by rfl) (by kernel_rfl) (by kernel_rfl) (by kernel_rfl) (by intro u hu; simp [Value.cells] at hu; rcases hu with rfl | rfl <;> rfl) (show 0 + 2 ≤ 2 by decide) (by rfl) hk148 ?_
    intro w141 hg142 hb143 hz144
    refine ⟨(fun e => by cases e), ?_⟩
    refine gv_sub [4, 5] (σ' := [(4, (.pointer (some ⟨b13, 0, none⟩))), (5, (.pointer (some ⟨b19, 0, none⟩)))]) (by kernel_rfl) ?_
    refine gv_nil ?_
    refine gv_cret ?_
    have e := Option.some.inj h0; subst e
    have ap149 : ¬ (· = b13) b19 := fun hx => Nat.not_lt_of_le ((lowb hbe23) _ rfl) ((fun k (hk : k = b13) => Nat.lt_of_le_of_lt (Nat.le_of_eq hk) hb16.lt) _ hx)
    have hk150 := hb136.grown hg142 (rowne ap149)
    refine gv_ret (gv_done [(.agg #[(.bool r117.1.1), (.slice a127 (List.length r117.1.2) c128)]), (.agg #[(.int .i64 r117.2.1), (.int .i64 r117.2.2)])] rfl ⟨⟨_, rfl, run_loadVar_row w141 b13 _ 24 _ _ _ hk150 Try.underlying24 rfl (by kernel_rfl)⟩, ⟨_, rfl, run_loadVar_row w141 b19 _ 29 _ _ _ hb143 Try.underlying29 rfl (by kernel_rfl)⟩, trivial⟩ ?_)
    have hB151 := below_grown hB123 hg125 hB123.size nb
    have hB152 := below_grown hB151 hg135 hB151.size (rowlo hlo57)
    have hB153 := below_grown hB152 hg142 hB152.size (rowlo hlo61)
    have hk154 := (hk138.grown hg69 nb).grown hg74 (rowne ap139)
    have ap155 : ¬ X130 b13 := fun h => ((hx131 _ h).2.elim (fun h => (h).elim (fun h => ((fun (hx : X0 b13) => Nat.not_lt_of_le hlo57 (hX0 _ hx)))  h) (fun h => ((fun (hx : X0 b13) => Nat.not_lt_of_le hlo57 (hX0 _ hx)))  h)) (fun h => Nat.not_lt_of_le h (hk154.lt)))
    have hk156 := (hk145.grown hg69 nb).grown hg74 (rowne ap146)
    have ap157 : ¬ X130 b19 := fun h => ((hx131 _ h).2.elim (fun h => (h).elim (fun h => ((fun (hx : X0 b19) => Nat.not_lt_of_le hlo61 (hX0 _ hx)))  h) (fun h => ((fun (hx : X0 b19) => Nat.not_lt_of_le hlo61 (hX0 _ hx)))  h)) (fun h => Nat.not_lt_of_le h (hk156.lt)))
    have hx158 := ltx hx132 hg135.size
    have hk159 := (ho129.grown hg135 hx132 (rowne ap155)).grown hg142 hx158 (rowne ap157)
    have hx160 := ltx hx158 hg142.size
    exact ⟨grown_of_below hB153, a127, c128, X130, rfl, hk159, (fun k hk => ⟨hx160 k hk, hx133 k hk⟩)⟩

set_option maxHeartbeats 4000000 in
set_option maxRecDepth 100000 in
theorem bits_Len32_ok (fuel : Nat) (x_0 : Int) (w0 : World)  (r0 : Int) (h0 : bits_Len32 fuel x_0 = some r0) :
    Calls Try.prog 77 ([(.int .u32 x_0)] : List Value).toArray w0 (Ret fun v w' => w0.grownBy w' none ∧ v = tup [(.int .i64 r0)]) := by
  have hB0 : Below w0.heap.size w0 w0 := Below.refl _ _
  unfold bits_Len32 at h0
  refine calls_run Try.func77 rfl Try.ntmps77 (by kernel_rfl) ?_
  refine gv_sub [0] (σ' := [(0, (.int .u32 x_0))]) (by kernel_rfl) ?_
  refine gv_seq ?_
  refine gv_region ?_
  refine gv_pure 1 [0, 2] (σ' := [(0, (.int .u32 x_0)), (2, (.int .i64 0))]) (by kernel_rfl) ?_
  refine gv_nil ?_
  refine gv_seq ?_
  refine gv_seq ?_
  refine gv_region ?_
  refine gv_pure 2 [0, 2, 4] (σ' := [(0, (.int .u32 x_0)), (2, (.int .i64 0)), (4, (.bool (decide (x_0 ≥ 65536))))]) (by kernel_rfl) ?_
  refine gv_nil ?_
  refine bindE h0 ?_; clear h0; intro j1 h1 h0
  refine gv_cut_code (J := fun a w2 => Below w0.heap.size w0 w2 ∧ w0.heap.size ≤ w2.heap.size ∧ a.defers = [] ∧ a.tmps.size = 19 ∧ Ok [(0, (.int .u32 j1.1)), (2, (.int .i64 j1.2))] a.tmps) ?_ ?_
  · skip
    refine gv_cond (b := (decide (x_0 ≥ 65536))) (by rfl) (fun hc3 => ?_) (fun hc3 => ?_)
    · replace h1 := ite_t hc3 h1
      refine gv_seq ?_
      refine gv_region ?_
      refine gv_pure 3 [0] (σ' := [(0, (.int .u32 ((x_0).fdiv (2 ^ 16))))]) (by kernel_rfl) ?_
      refine gv_nil ?_
      refine gv_region ?_
      refine gv_pure 1 [0, 2] (σ' := [(0, (.int .u32 ((x_0).fdiv (2 ^ 16)))), (2, (.int .i64 16))]) (by kernel_rfl) ?_
      refine gv_nil ?_
      have e := Option.some.inj h1; subst e
      refine gv_goal fun a hd hs hok => ?_
      obtain ⟨q0, q2, _⟩ := hok
      exact ⟨hB0, (Nat.le_refl _), hd, hs, ⟨q0, q2, trivial⟩⟩
    · replace h1 := ite_f hc3 h1
      refine gv_skip ?_
      have e := Option.some.inj h1; subst e
      refine gv_goal fun a hd hs hok => ?_
      obtain ⟨q0, q2, q4, _⟩ := hok
      exact ⟨hB0, (Nat.le_refl _), hd, hs, ⟨q0, q2, trivial⟩⟩
  · rintro a w2 ⟨hB4, hz5, hd, hs, hok⟩
    refine (?_ : Run Try.prog _ 19 _ .normal [(0, (.int .u32 j1.1)), (2, (.int .i64 j1.2))] w2) a hd hs hok
    clear hd hs hok
    refine gv_seq ?_
    refine gv_seq ?_
    refine gv_region ?_
    refine gv_pure 2 [0, 2, 8] (σ' := [(0, (.int .u32 j1.1)), (2, (.int .i64 j1.2)), (8, (.bool (decide (j1.1 ≥ 256))))]) (by kernel_rfl) ?_
    refine gv_nil ?_
    refine bindE h0 ?_; clear h0; intro j6 h1 h0
    refine gv_cut_code (J := fun a w7 => Below w0.heap.size w0 w7 ∧ w2.heap.size ≤ w7.heap.size ∧ a.defers = [] ∧ a.tmps.size = 19 ∧ Ok [(0, (.int .u32 j6.1)), (2, (.int .i64 j6.2))] a.tmps) ?_ ?_
    · skip
      refine gv_cond (b := (decide (j1.1 ≥ 256))) (by rfl) (fun hc8 => ?_) (fun hc8 => ?_)
      · replace h1 := ite_t hc8 h1
        refine gv_seq ?_
        refine gv_region ?_
        refine gv_pure 3 [0, 2] (σ' := [(0, (.int .u32 ((j1.1).fdiv (2 ^ 8)))), (2, (.int .i64 j1.2))]) (by kernel_rfl) ?_
        refine gv_nil ?_
        refine gv_region ?_
        refine gv_pure 3 [0, 2] (σ' := [(0, (.int .u32 ((j1.1).fdiv (2 ^ 8)))), (2, (.int .i64 (IntKind.i64.wrap (j1.2 + 8))))]) (by kernel_rfl) ?_
        refine gv_nil ?_
        have e := Option.some.inj h1; subst e
        refine gv_goal fun a hd hs hok => ?_
        obtain ⟨q0, q2, _⟩ := hok
        exact ⟨hB4, (Nat.le_refl _), hd, hs, ⟨q0, q2, trivial⟩⟩
      · replace h1 := ite_f hc8 h1
        refine gv_skip ?_
        have e := Option.some.inj h1; subst e
        refine gv_goal fun a hd hs hok => ?_
        obtain ⟨q0, q2, q8, _⟩ := hok
        exact ⟨hB4, (Nat.le_refl _), hd, hs, ⟨q0, q2, trivial⟩⟩
    · rintro a w7 ⟨hB9, hz10, hd, hs, hok⟩
      refine (?_ : Run Try.prog _ 19 _ .normal [(0, (.int .u32 j6.1)), (2, (.int .i64 j6.2))] w7) a hd hs hok
      clear hd hs hok
      refine gv_seq ?_
      refine gv_region ?_
      refine gv_pure 3 [13, 15] (σ' := [(13, (.int .i64 j6.2)), (15, (.int .u8 (IntKind.u8.wrap (j6.1))))]) (by kernel_rfl) ?_
      refine bindE h0 ?_; clear h0; intro x11 hx12 h0
      refine gv_sindex (t := 9) (s := (strOf [0, 1, 2, 2, 3, 3, 3, 3, 4, 4, 4, 4, 4, 4, 4, 4, 5, 5, 5, 5, 5, 5, 5, 5, 5, 5, 5, 5, 5, 5, 5, 5, 6, 6, 6, 6, 6, 6, 6, 6, 6, 6, 6, 6, 6, 6, 6, 6, 6, 6, 6, 6, 6, 6, 6, 6, 6, 6, 6, 6, 6, 6, 6, 6, 7, 7, 7, 7, 7, 7, 7, 7, 7, 7, 7, 7, 7, 7, 7, 7, 7, 7, 7, 7, 7, 7, 7, 7, 7, 7, 7, 7, 7, 7, 7, 7, 7, 7, 7, 7, 7, 7, 7, 7, 7, 7, 7, 7, 7, 7, 7, 7, 7, 7, 7, 7, 7, 7, 7, 7, 7, 7, 7, 7, 7, 7, 7, 7, 8, 8, 8, 8, 8, 8, 8, 8, 8, 8, 8, 8, 8, 8, 8, 8, 8, 8, 8, 8, 8, 8, 8, 8, 8, 8, 8, 8, 8, 8, 8, 8, 8, 8, 8, 8, 8, 8, 8, 8, 8, 8, 8, 8, 8, 8, 8, 8, 8, 8, 8, 8, 8, 8, 8, 8, 8, 8, 8, 8, 8, 8, 8, 8, 8, 8, 8, 8, 8, 8, 8, 8, 8, 8, 8, 8, 8, 8, 8, 8, 8, 8, 8, 8, 8, 8, 8, 8, 8, 8, 8, 8, 8, 8, 8, 8, 8, 8, 8, 8, 8, 8, 8, 8, 8, 8, 8, 8, 8, 8, 8, 8, 8, 8, 8, 8, 8, 8, 8, 8, 8, 8, 8, 8, 8, 8, 8, 8])) (kk := .u8) (i := (IntKind.u8.wrap (j6.1))) x11 [13, 16] (σ' := [(13, (.int .i64 j6.2)), (16, (.int .u8 x11))]) (fun e => by cases e) (by rfl) (by rfl) (by rfl) (by kernel_rfl) (by kernel_rfl) Try.underlying9 hx12 (by kernel_rfl) ?_
      refine gv_pure 3 [2] (σ' := [(2, (.int .i64 (IntKind.i64.wrap (j6.2 + (IntKind.i64.wrap (x11))))))]) (by kernel_rfl) ?_
      refine bindE h0 ?_; clear h0; intro n13 hn14 h0
      refine gv_name (s := 2) (v := (.int .i64 (IntKind.i64.wrap (j6.2 + (IntKind.i64.wrap (x11)))))) (v' := (.int .i64 n13)) (by rfl) (congrArg (Value.int .i64) (Option.some.inj hn14)) ?_
      refine gv_sub [2] (σ' := [(2, (.int .i64 n13))]) (by kernel_rfl) ?_
      refine gv_nil ?_
      refine gv_cret ?_
      have e := Option.some.inj h0; subst e
      refine gv_ret (gv_done [(.int .i64 n13)] rfl ⟨rfl, trivial⟩ ?_)
      exact ⟨grown_of_below hB9, rfl⟩

set_option maxHeartbeats 4000000 in
set_option maxRecDepth 100000 in
theorem natural_Bits_ok (fuel : Nat) (pa0_0 : Option Addr) (pc0_0 : Nat) (a_0 : (List Int)) (w0 : World) (X0 : Nat → Prop) (hX0 : ∀ k, X0 k → k < w0.heap.size) (hpa0_0 : Rd (iE .u32) w0 X0 pa0_0 pc0_0 a_0) (r0 : (Int × (Int × Int))) (h0 : natural_Bits fuel a_0 = some r0) :
    Calls Try.prog 68 ([(.slice pa0_0 (List.length a_0) pc0_0)] : List Value).toArray w0 (Ret fun v w' => w0.grownBy w' none ∧ v = tup [(.int .i64 r0.1), (.agg #[(.int .i64 r0.2.1), (.int .i64 r0.2.2)])]) := by
  have hB0 : Below w0.heap.size w0 w0 := Below.refl _ _
  unfold natural_Bits at h0
  refine calls_run Try.func68 rfl Try.ntmps68 (by kernel_rfl) ?_
  refine gv_sub [0] (σ' := [(0, (.slice pa0_0 (List.length a_0) pc0_0))]) (by kernel_rfl) ?_
  refine gv_seq ?_
  refine gv_region ?_
  refine gv_pure 1 [0] (σ' := [(0, (.slice pa0_0 (List.length a_0) pc0_0))]) (by kernel_rfl) ?_
  refine gv_new (fun b => .pointer (some ⟨b, 0, none⟩)) #[(.int .i64 0), (.int .i64 0)] 29 (by decide) (by rfl) (by rfl) (by kernel_rfl) (by kernel_rfl) ?_
  intro b1 w2 hg3 hb4 hbe5 hz6
  refine ⟨(fun e => by cases e), ?_⟩
  refine gv_sub [0, 3] (σ' := [(0, (.slice pa0_0 (List.length a_0) pc0_0)), (3, (.pointer (some ⟨b1, 0, none⟩)))]) (by kernel_rfl) ?_
  refine gv_nil ?_
  refine gv_seq ?_
  refine gv_seq ?_
  refine gv_region ?_
  refine gv_pure 1 [0, 3, 4] (σ' := [(0, (.slice pa0_0 (List.length a_0) pc0_0)), (3, (.pointer (some ⟨b1, 0, none⟩))), (4, (.slice pa0_0 (List.length a_0) pc0_0))]) (by kernel_rfl) ?_
  refine bindE h0 ?_; clear h0; intro r7 hr8 h0
  have hB9 := below_grown hB0 hg3 hB0.size nb
  refine gv_call (f := 75) (vs := [(.slice pa0_0 (List.length a_0) pc0_0)]) (cap := []) _ (by decide) (by rfl) (by rfl) rfl (by rfl) (by rfl) enters75 (natural_Valid_ok fuel pa0_0 pc0_0 a_0 w2 (fun k => X0 k) (fun k hk => (fun k (hk : X0 k) => Nat.lt_of_lt_of_le (hX0 k hk) hB9.size) k hk) ((hpa0_0.below hB9 hX0).wide (fun k hk => hk)) r7 hr8) ?_
  rintro v12 w10 ⟨hg11, rfl⟩
  refine ⟨(fun e => by cases e), ?_⟩
  refine gv_pure 1 [0, 3, 6] (σ' := [(0, (.slice pa0_0 (List.length a_0) pc0_0)), (3, (.pointer (some ⟨b1, 0, none⟩))), (6, (.bool (!r7)))]) (by kernel_rfl) ?_
  refine gv_nil ?_
  refine gv_cond (b := (!r7)) (by rfl) (fun hc13 => ?_) (fun hc13 => ?_)
  · replace h0 := ite_t hc13 h0
    refine gv_seq ?_
    refine gv_region ?_
    refine bindE h0 ?_; clear h0; intro r14 hr15 h0
    refine gv_call (f := 76) (vs := [(.int .i64 6), (.int .i64 (-1))]) (cap := []) _ (by decide) (by rfl) (by rfl) rfl (by rfl) (by rfl) enters76 (natural_at_ok fuel 6 (-1) w10  r14 hr15) ?_
    rintro v18 w16 ⟨hg17, rfl⟩
    refine ⟨(fun e => by cases e), ?_⟩
    refine gv_pure 1 [2, 3, 7] (σ' := [(2, (.int .i64 0)), (3, (.pointer (some ⟨b1, 0, none⟩))), (7, (.agg #[(.int .i64 r14.1), (.int .i64 r14.2)]))]) (by kernel_rfl) ?_
    have hg23 := (grown_trans hg11 hg17)
    have hk24 := hb4.grown hg23 nb
    refine gv_store (t := 29) (b := b1) (off := 0) (v := (.agg #[(.int .i64 r14.1), (.int .i64 r14.2)])) (t' := 29) (cs := #[(.int .i64 0), (.int .i64 0)]) #[(.int .i64 r14.1), (.int .i64 r14.2)] (by decide) (by rfl) (by rfl) (by kernel_rfl) (by kernel_rfl) (by kernel_rfl) (by intro u hu; simp [Value.cells] at hu; rcases hu with rfl | rfl <;> rfl) (show 0 + 2 ≤ 2 by decide) (by rfl) hk24 ?_
    intro w19 hg20 hb21 hz22
    refine ⟨(fun e => by cases e), ?_⟩
    refine gv_sub [2, 3] (σ' := [(2, (.int .i64 0)), (3, (.pointer (some ⟨b1, 0, none⟩)))]) (by kernel_rfl) ?_
    refine gv_nil ?_
    refine gv_cret ?_
    have e := Option.some.inj h0; subst e
    refine gv_ret (gv_done [(.int .i64 0), (.agg #[(.int .i64 r14.1), (.int .i64 r14.2)])] rfl ⟨rfl, ⟨_, rfl, run_loadVar_row w19 b1 _ 29 _ _ _ hb21 Try.underlying29 rfl (by kernel_rfl)⟩, trivial⟩ ?_)
    have hB25 := below_grown hB9 hg23 hB9.size nb
    have hlo26 : w0.heap.size ≤ b1 := lob hbe5 hB0.size
    have hB27 := below_grown hB25 hg20 hB25.size (rowlo hlo26)
    exact ⟨grown_of_below hB27, rfl⟩
  · replace h0 := ite_f hc13 h0
    refine gv_skip ?_
    refine gv_seq ?_
    refine gv_seq ?_
    refine gv_region ?_
    refine gv_pure 3 [0, 3, 10] (σ' := [(0, (.slice pa0_0 (List.length a_0) pc0_0)), (3, (.pointer (some ⟨b1, 0, none⟩))), (10, (.bool (((List.length a_0 : Nat) : Int) == 0)))]) (by kernel_rfl) ?_
    refine gv_nil ?_
    refine gv_cond (b := (((List.length a_0 : Nat) : Int) == 0)) (by rfl) (fun hc28 => ?_) (fun hc28 => ?_)
    · replace h0 := ite_t hc28 h0
      refine gv_seq ?_
      refine gv_region ?_
      refine gv_pure 2 [2, 3, 11] (σ' := [(2, (.int .i64 0)), (3, (.pointer (some ⟨b1, 0, none⟩))), (11, (.agg #[(.int .i64 0), (.int .i64 0)]))]) (by kernel_rfl) ?_
      have hk33 := hb4.grown hg11 nb
      refine gv_store (t := 29) (b := b1) (off := 0) (v := (.agg #[(.int .i64 0), (.int .i64 0)])) (t' := 29) (cs := #[(.int .i64 0), (.int .i64 0)]) #[(.int .i64 0), (.int .i64 0)] (by decide) (by rfl) (by rfl) (by kernel_rfl) (by kernel_rfl) (by kernel_rfl) (by intro u hu; simp [Value.cells] at hu; rcases hu with rfl | rfl <;> rfl) (show 0 + 2 ≤ 2 by decide) (by rfl) hk33 ?_
      intro w29 hg30 hb31 hz32
      refine ⟨(fun e => by cases e), ?_⟩
      refine gv_sub [2, 3] (σ' := [(2, (.int .i64 0)), (3, (.pointer (some ⟨b1, 0, none⟩)))]) (by kernel_rfl) ?_
      refine gv_nil ?_
      refine gv_cret ?_
      have e := Option.some.inj h0; subst e
      refine gv_ret (gv_done [(.int .i64 0), (.agg #[(.int .i64 0), (.int .i64 0)])] rfl ⟨rfl, ⟨_, rfl, run_loadVar_row w29 b1 _ 29 _ _ _ hb31 Try.underlying29 rfl (by kernel_rfl)⟩, trivial⟩ ?_)
      have hB34 := below_grown hB9 hg11 hB9.size nb
      have hlo35 : w0.heap.size ≤ b1 := lob hbe5 hB0.size
      have hB36 := below_grown hB34 hg30 hB34.size (rowlo hlo35)
      exact ⟨grown_of_below hB36, rfl⟩
    · replace h0 := ite_f hc28 h0
      refine gv_skip ?_
      refine gv_seq ?_
      refine gv_region ?_
      refine gv_pure 8 [3, 15, 16, 19] (σ' := [(3, (.pointer (some ⟨b1, 0, none⟩))), (15, (.int .i64 (IntKind.i64.wrap (32 * (IntKind.i64.wrap (((List.length a_0 : Nat) : Int) - 1)))))), (16, (.slice pa0_0 (List.length a_0) pc0_0)), (19, (.int .i64 (IntKind.i64.wrap (((List.length a_0 : Nat) : Int) - 1))))]) (by kernel_rfl) ?_
      refine bindE h0 ?_; clear h0; intro x37 hx38 h0
      have hB39 := below_grown hB9 hg11 hB9.size nb
      refine gv_idxaddr (t := 22) (e := 76) (a := pa0_0) (len := List.length a_0) (cap := pc0_0) (kk := .i64) (i := (IntKind.i64.wrap (((List.length a_0 : Nat) : Int) - 1))) (sz := 1) [3, 15, 20] (σ' := [(3, (.pointer (some ⟨b1, 0, none⟩))), (15, (.int .i64 (IntKind.i64.wrap (32 * (IntKind.i64.wrap (((List.length a_0 : Nat) : Int) - 1)))))), (20, (.pointer (some (elemAddr pa0_0 (((IntKind.i64.wrap (((List.length a_0 : Nat) : Int) - 1))).toNat * 1)))))]) (fun e => by cases e) (by rfl) (by rfl) (by rfl) (by kernel_rfl) (by kernel_rfl) Try.underlying22 (by kernel_rfl) ((hpa0_0.below hB39 hX0).has hx38) (idx_spec hx38).1 (idx_spec hx38).2.1 (by kernel_rfl) ?_
      refine gv_load (t := 76) (A := (elemAddr pa0_0 (((IntKind.i64.wrap (((List.length a_0 : Nat) : Int) - 1))).toNat * 1))) (.int .u32 x37) [3, 15, 21] (σ' := [(3, (.pointer (some ⟨b1, 0, none⟩))), (15, (.int .i64 (IntKind.i64.wrap (32 * (IntKind.i64.wrap (((List.length a_0 : Nat) : Int) - 1)))))), (21, (.int .u32 x37))]) (fun e => by cases e) (by rfl) (by rfl) (by rfl) (by kernel_rfl) (by kernel_rfl) (by kernel_rfl) (inw0 ((hpa0_0.below hB39 hX0).cell hx38)) (by kernel_rfl) ?_
      refine bindE h0 ?_; clear h0; intro r40 hr41 h0
      refine gv_call (f := 77) (vs := [(.int .u32 x37)]) (cap := []) _ (by decide) (by rfl) (by rfl) rfl (by rfl) (by rfl) enters77 (bits_Len32_ok fuel x37 w10  r40 hr41) ?_
      rintro v44 w42 ⟨hg43, rfl⟩
      refine ⟨(fun e => by cases e), ?_⟩
      refine gv_pure 3 [2, 3, 24] (σ' := [(2, (.int .i64 (IntKind.i64.wrap ((IntKind.i64.wrap (32 * (IntKind.i64.wrap (((List.length a_0 : Nat) : Int) - 1)))) + r40)))), (3, (.pointer (some ⟨b1, 0, none⟩))), (24, (.agg #[(.int .i64 0), (.int .i64 0)]))]) (by kernel_rfl) ?_
      have hg49 := (grown_trans hg11 hg43)
      have hk50 := hb4.grown hg49 nb
      refine gv_store (t := 29) (b := b1) (off := 0) (v := (.agg #[(.int .i64 0), (.int .i64 0)])) (t' := 29) (cs := #[(.int .i64 0), (.int .i64 0)]) #[(.int .i64 0), (.int .i64 0)] (by decide) (by rfl) (by rfl) (by kernel_rfl) (by kernel_rfl) (by kernel_rfl) (by intro u hu; simp [Value.cells] at hu; rcases hu with rfl | rfl <;> rfl) (show 0 + 2 ≤ 2 by decide) (by rfl) hk50 ?_
      intro w45 hg46 hb47 hz48
      refine ⟨(fun e => by cases e), ?_⟩
      refine gv_sub [2, 3] (σ' := [(2, (.int .i64 (IntKind.i64.wrap ((IntKind.i64.wrap (32 * (IntKind.i64.wrap (((List.length a_0 : Nat) : Int) - 1)))) + r40)))), (3, (.pointer (some ⟨b1, 0, none⟩)))]) (by kernel_rfl) ?_
      refine bindE h0 ?_; clear h0; intro n51 hn52 h0
      refine gv_name (s := 2) (v := (.int .i64 (IntKind.i64.wrap ((IntKind.i64.wrap (32 * (IntKind.i64.wrap (((List.length a_0 : Nat) : Int) - 1)))) + r40)))) (v' := (.int .i64 n51)) (by rfl) (congrArg (Value.int .i64) (Option.some.inj hn52)) ?_
      refine gv_sub [2, 3] (σ' := [(2, (.int .i64 n51)), (3, (.pointer (some ⟨b1, 0, none⟩)))]) (by kernel_rfl) ?_
      refine gv_nil ?_
      refine gv_cret ?_
      have e := Option.some.inj h0; subst e
      refine gv_ret (gv_done [(.int .i64 n51), (.agg #[(.int .i64 0), (.int .i64 0)])] rfl ⟨rfl, ⟨_, rfl, run_loadVar_row w45 b1 _ 29 _ _ _ hb47 Try.underlying29 rfl (by kernel_rfl)⟩, trivial⟩ ?_)
      have hB53 := below_grown hB39 hg43 hB39.size nb
      have hlo54 : w0.heap.size ≤ b1 := lob hbe5 hB0.size
      have hB55 := below_grown hB53 hg46 hB53.size (rowlo hlo54)
      exact ⟨grown_of_below hB55, rfl⟩

set_option maxHeartbeats 4000000 in
set_option maxRecDepth 100000 in
theorem integer_Bits_ok (fuel : Nat) (pa0_0 : Option Addr) (pc0_0 : Nat) (a_0 : (Bool × (List Int))) (w0 : World) (X0 : Nat → Prop) (hX0 : ∀ k, X0 k → k < w0.heap.size) (hpa0_0 : Rd (iE .u32) w0 X0 pa0_0 pc0_0 a_0.2) (r0 : (Int × (Int × Int))) (h0 : integer_Bits fuel a_0 = some r0) :
    Calls Try.prog 60 ([(.agg #[(.bool a_0.1), (.slice pa0_0 (List.length a_0.2) pc0_0)])] : List Value).toArray w0 (Ret fun v w' => w0.grownBy w' none ∧ v = tup [(.int .i64 r0.1), (.agg #[(.int .i64 r0.2.1), (.int .i64 r0.2.2)])]) := by
  have hB0 : Below w0.heap.size w0 w0 := Below.refl _ _
  unfold integer_Bits at h0
  refine calls_run Try.func60 rfl Try.ntmps60 (by kernel_rfl) ?_
  refine gv_sub [0] (σ' := [(0, (.agg #[(.bool a_0.1), (.slice pa0_0 (List.length a_0.2) pc0_0)]))]) (by kernel_rfl) ?_
  refine gv_seq ?_
  refine gv_region ?_
  refine gv_new (fun b => .pointer (some ⟨b, 0, none⟩)) #[(.bool a_0.1), (.slice pa0_0 (List.length a_0.2) pc0_0)] 24 (by decide) (by rfl) (by rfl) (by kernel_rfl) (by kernel_rfl) ?_
  intro b1 w2 hg3 hb4 hbe5 hz6
  refine ⟨(fun e => by cases e), ?_⟩
  refine gv_pure 1 [1] (σ' := [(1, (.pointer (some ⟨b1, 0, none⟩)))]) (by kernel_rfl) ?_
  refine gv_new (fun b => .pointer (some ⟨b, 0, none⟩)) #[(.int .i64 0), (.int .i64 0)] 29 (by decide) (by rfl) (by rfl) (by kernel_rfl) (by kernel_rfl) ?_
  intro b7 w8 hg9 hb10 hbe11 hz12
  refine ⟨(fun e => by cases e), ?_⟩
  refine gv_sub [1, 3] (σ' := [(1, (.pointer (some ⟨b1, 0, none⟩))), (3, (.pointer (some ⟨b7, 0, none⟩)))]) (by kernel_rfl) ?_
  refine gv_nil ?_
  refine gv_seq ?_
  refine gv_seq ?_
  refine gv_region ?_
  have hk13 := hb4.grown hg9 nb
  refine gv_loadBox (t := 24) (b := b1) (t' := 24) (fr := (0, 0)) #[(.bool a_0.1), (.slice pa0_0 (List.length a_0.2) pc0_0)] [1, 3, 5] (σ' := [(1, (.pointer (some ⟨b1, 0, none⟩))), (3, (.pointer (some ⟨b7, 0, none⟩))), (5, (.agg #[(.bool a_0.1), (.slice pa0_0 (List.length a_0.2) pc0_0)]))]) (fun e => by cases e) (by rfl) (by rfl) (by rfl) (by kernel_rfl) (by kernel_rfl) (by kernel_rfl) (by kernel_rfl) (inw0 hk13) (by kernel_rfl) ?_
  refine gv_new (fun b => .slice (some ⟨b, 0, none⟩) 1 1) #[(.bool a_0.1), (.slice pa0_0 (List.length a_0.2) pc0_0)] 24 (by decide) (by rfl) (by rfl) (by kernel_rfl) (by kernel_rfl) ?_
  intro b14 w15 hg16 hb17 hbe18 hz19
  refine ⟨(fun e => by cases e), ?_⟩
  obtain ⟨X25, e⟩ : ∃ X : Nat → Prop, X = (fun k => X0 k) := ⟨_, rfl⟩
  have hg26 := (grown_trans hg3 hg9)
  have hB27 := below_grown hB0 hg26 hB0.size nb
  have hx23 : ∀ k, X25 k → k < w8.heap.size := fun k h => by rw [e] at h; exact (fun k (hk : X0 k) => Nat.lt_of_lt_of_le (hX0 k hk) hB27.size) k h
  have hz28 : w8.heap.size ≤ w15.heap.size := hg16.size
  have hx22 : ∀ k, X25 k → k < w15.heap.size := fun k h => Nat.lt_of_lt_of_le (hx23 k h) hz28
  have hx24 : ∀ k, X25 k → X0 k ∨ w0.heap.size ≤ k := fun k h => by rw [e] at h; exact (fun k (hk : X0 k) => Or.inl hk) k h
  have hB29 := below_grown hB27 hg16 hB27.size nb
  have ho20 : Own (prE tE (slE (iE .u32))) 24 w15 X25 (some ⟨b14, 0, none⟩) 1 ([(a_0.1, a_0.2)] : List (Bool × (List Int))) := Box.ownE hb17 (by rw [e]; exact ⟨[(.bool a_0.1), (.slice pa0_0 (List.length a_0.2) pc0_0)], [], rfl, ⟨[(.bool a_0.1)], [(.slice pa0_0 (List.length a_0.2) pc0_0)], rfl, rfl, ⟨pa0_0, pc0_0, rfl, ((hpa0_0.below hB29 hX0).wide (fun _ h => h))⟩⟩, rfl⟩) (show 1 ≤ maxLen by decide) (fun h => noteq hbe18 (hx23 _ h))
  have hx30 : ∀ k, X25 k → (fun k => X0 k) k := fun k h => by rw [e] at h; exact h
  clear e
  have hl21 : ∀ g, blk (some ⟨b14, 0, none⟩) = some g → w0.heap.size ≤ g := loo hbe18 hB27.size
  have ap31 : ∀ g, blk (some ⟨b14, 0, none⟩) = some g → ¬ (· = b1) g := fun g e hx => Nat.not_lt_of_le (lowo hbe18 g e) ((fun k (hk : k = b1) => Nat.lt_of_le_of_lt (Nat.le_of_eq hk) hk13.lt) _ hx)
  have hlo33 : w0.heap.size ≤ b1 := lob hbe5 hB0.size
  have ap32 : ¬ (fun k => blk (some ⟨b14, 0, none⟩) = some k ∨ X25 k) b1 := fun h => h.elim (fun h => Nat.not_lt_of_le (lowo hbe18 _ h) ((fun k (hk : k = b1) => Nat.lt_of_le_of_lt (Nat.le_of_eq hk) hk13.lt) _ rfl)) (fun h => ((fun (hx : X0 b1) => Nat.not_lt_of_le hlo33 (hX0 _ hx)))  (hx30 _ h))
  have ap34 : ∀ g, blk (some ⟨b14, 0, none⟩) = some g → ¬ (· = b7) g := fun g e hx => Nat.not_lt_of_le (lowo hbe18 g e) ((fun k (hk : k = b7) => Nat.lt_of_le_of_lt (Nat.le_of_eq hk) hb10.lt) _ hx)
  have hB36 := below_grown hB0 hg3 hB0.size nb
  have hlo37 : w0.heap.size ≤ b7 := lob hbe11 hB36.size
  have ap35 : ¬ (fun k => blk (some ⟨b14, 0, none⟩) = some k ∨ X25 k) b7 := fun h => h.elim (fun h => Nat.not_lt_of_le (lowo hbe18 _ h) ((fun k (hk : k = b7) => Nat.lt_of_le_of_lt (Nat.le_of_eq hk) hb10.lt) _ rfl)) (fun h => ((fun (hx : X0 b7) => Nat.not_lt_of_le hlo37 (hX0 _ hx)))  (hx30 _ h))
  refine gv_sub [1, 3, 6] (σ' := [(1, (.pointer (some ⟨b1, 0, none⟩))), (3, (.pointer (some ⟨b7, 0, none⟩))), (6, (.slice (some ⟨b14, 0, none⟩) (List.length ([(a_0.1, a_0.2)] : List (Bool × (List Int)))) 1))]) (by kernel_rfl) ?_
  refine bindE h0 ?_; clear h0; intro r38 hr39 h0
  refine gv_call (f := 62) (vs := [(.slice (some ⟨b14, 0, none⟩) (List.length ([(a_0.1, a_0.2)] : List (Bool × (List Int)))) 1)]) (cap := []) _ (by decide) (by rfl) (by rfl) rfl (by rfl) (by rfl) enters62 (integer_check_ok fuel (some ⟨b14, 0, none⟩) 1 ([(a_0.1, a_0.2)] : List (Bool × (List Int))) w15 (fun k => (fun k => blk (some ⟨b14, 0, none⟩) = some k ∨ X25 k) k) (fun k hk => (fun k (hk : blk (some ⟨b14, 0, none⟩) = some k ∨ X25 k) => hk.elim (fun h => ho20.lt k h) (fun h => hx22 k h)) k hk) ((ho20.rd (Y := fun k => blk (some ⟨b14, 0, none⟩) = some k ∨ X25 k) (fun _ h => .inr h) (fun g e => .inl e)).wide (fun k hk => hk)) r38 hr39) ?_
  rintro v42 w40 ⟨hg41, rfl⟩
  refine ⟨(fun e => by cases e), ?_⟩
  refine gv_sub [1, 3, 7] (σ' := [(1, (.pointer (some ⟨b1, 0, none⟩))), (3, (.pointer (some ⟨b7, 0, none⟩))), (7, (.agg #[(.int .i64 r38.1), (.int .i64 r38.2)]))]) (by kernel_rfl) ?_
  refine gv_new (fun b => .pointer (some ⟨b, 0, none⟩)) #[(.int .i64 0), (.int .i64 0)] 29 (by decide) (by rfl) (by rfl) (by kernel_rfl) (by kernel_rfl) ?_
  intro b43 w44 hg45 hb46 hbe47 hz48
  refine ⟨(fun e => by cases e), ?_⟩
  refine gv_sub [1, 3, 4, 7] (σ' := [(1, (.pointer (some ⟨b1, 0, none⟩))), (3, (.pointer (some ⟨b7, 0, none⟩))), (4, (.pointer (some ⟨b43, 0, none⟩))), (7, (.agg #[(.int .i64 r38.1), (.int .i64 r38.2)]))]) (by kernel_rfl) ?_
  refine gv_store (t := 29) (b := b43) (off := 0) (v := (.agg #[(.int .i64 r38.1), (.int .i64 r38.2)])) (t' := 29) (cs := #[(.int .i64 0), (.int .i64 0)]) #[(.int .i64 r38.1), (.int .i64 r38.2)] (by decide) (by rfl) (by rfl) (by kernel_rfl) (by kernel_rfl) (by kernel_rfl) (by intro u hu; simp [Value.cells] at hu; rcases hu with rfl | rfl <;> rfl) (show 0 + 2 ≤ 2 by decide) (by rfl) hb46 ?_
  intro w49 hg50 hb51 hz52
  refine ⟨(fun e => by cases e), ?_⟩
  refine gv_sub [1, 3, 4] (σ' := [(1, (.pointer (some ⟨b1, 0, none⟩))), (3, (.pointer (some ⟨b7, 0, none⟩))), (4, (.pointer (some ⟨b43, 0, none⟩)))]) (by kernel_rfl) ?_
  refine gv_nil ?_
  refine gv_seq ?_
  refine gv_region ?_
  refine gv_pure 1 [1, 3, 4, 8] (σ' := [(1, (.pointer (some ⟨b1, 0, none⟩))), (3, (.pointer (some ⟨b7, 0, none⟩))), (4, (.pointer (some ⟨b43, 0, none⟩))), (8, (.pointer (some ⟨b43, 0, none⟩)))]) (by kernel_rfl) ?_
  refine gv_load (t := 3) (A := ⟨b43, 0, none⟩) (.int .i64 r38.1) [1, 3, 4, 9] (σ' := [(1, (.pointer (some ⟨b1, 0, none⟩))), (3, (.pointer (some ⟨b7, 0, none⟩))), (4, (.pointer (some ⟨b43, 0, none⟩))), (9, (.int .i64 r38.1))]) (fun e => by cases e) (by rfl) (by rfl) (by rfl) (by kernel_rfl) (by kernel_rfl) (by kernel_rfl) (inw0 (hb51.cell 0 rfl)) (by kernel_rfl) ?_
  refine gv_pure 1 [1, 3, 4, 10] (σ' := [(1, (.pointer (some ⟨b1, 0, none⟩))), (3, (.pointer (some ⟨b7, 0, none⟩))), (4, (.pointer (some ⟨b43, 0, none⟩))), (10, (.bool (r38.1 != 0)))]) (by kernel_rfl) ?_
  refine gv_nil ?_
  refine gv_cond (b := (r38.1 != 0)) (by rfl) (fun hc53 => ?_) (fun hc53 => ?_)
  · replace h0 := ite_t hc53 h0
    refine gv_seq ?_
    refine gv_drawA (by kernel_rfl) ?_
    intro w54 hg55
    refine gv_pre [1] #[false, true, false] 2 (by kernel_rfl) (by rfl) ?_
    refine gv_pure 1 [2, 3, 4] (σ' := [(2, (.int .i64 0)), (3, (.pointer (some ⟨b7, 0, none⟩))), (4, (.pointer (some ⟨b43, 0, none⟩)))]) (by kernel_rfl) ?_
    refine gv_nil ?_
    refine gv_goal fun a hd hs hok => ?_
    refine (?_ : RunA Try.prog _ 17 _ _ 2 #[false, true, false] [(2, (.int .i64 0)), (3, (.pointer (some ⟨b7, 0, none⟩))), (4, (.pointer (some ⟨b43, 0, none⟩)))] w54) a hd hs hok
    clear hd hs hok
    refine gv_stage (Cls w54 []) [0, 1] [(0, some true)] #[true, true, false] 1 (by kernel_rfl) (by rfl) (Cls.refl _ _) ?_
    have hC56 := Cls.refl w54 []
    have hk57 := hb51.grown hg55 nb
    refine gv_loadBox (t := 29) (b := b43) (t' := 29) (fr := (0, 0)) #[(.int .i64 r38.1), (.int .i64 r38.2)] [2, 3, 11] (σ' := [(2, (.int .i64 0)), (3, (.pointer (some ⟨b7, 0, none⟩))), (11, (.agg #[(.int .i64 r38.1), (.int .i64 r38.2)]))]) (fun e => by cases e) (by rfl) (by rfl) (by rfl) (by kernel_rfl) (by kernel_rfl) (by kernel_rfl) (by kernel_rfl) (inw1 fun w' hC' => (hC'.box hk57 nm_nil)) (by kernel_rfl) ?_
    refine gv_nil ?_
    refine gv_goal fun a hd hs hok => ?_
    refine (?_ : RunA Try.prog _ 17 _ _ 1 #[true, true, false] [(2, (.int .i64 0)), (3, (.pointer (some ⟨b7, 0, none⟩))), (11, (.agg #[(.int .i64 r38.1), (.int .i64 r38.2)]))] w54) a hd hs hok
    clear hd hs hok
    refine gv_stage (fun _ => True) [0, 1, 2] [(2, some false)] #[true, true, true] 0 (by kernel_rfl) (by rfl) trivial ?_
    have hg62 := (grown_trans (grown_trans hg16 hg41) hg45)
    have hg63 := (grown_trans hg16 hg41)
    have hk64 := hb10.grown hg63 nb
    have ap65 : ¬ (· = b7) b43 := fun hx => Nat.not_lt_of_le ((lowb hbe47) _ rfl) ((fun k (hk : k = b7) => Nat.lt_of_le_of_lt (Nat.le_of_eq hk) hk64.lt) _ hx)
    have hk66 := ((hb10.grown hg62 nb).grown hg50 (rowne ap65)).grown hg55 nb
    refine gv_store (t := 29) (b := b7) (off := 0) (v := (.agg #[(.int .i64 r38.1), (.int .i64 r38.2)])) (t' := 29) (cs := #[(.int .i64 0), (.int .i64 0)]) #[(.int .i64 r38.1), (.int .i64 r38.2)] (by decide) (by rfl) (by rfl) (by kernel_rfl) (by kernel_rfl) (by kernel_rfl) (by intro u hu; simp [Value.cells] at hu; rcases hu with rfl | rfl <;> rfl) (show 0 + 2 ≤ 2 by decide) (by rfl) hk66 ?_
    intro w58 hg59 hb60 hz61
    refine ⟨(fun _ => trivial), ?_⟩
    clear hz61 ap65 hk64 hg63 hg62 hC56 hc53 hz52 hb51 hz48 hb46 hr39 ap35 hB36 ap34 ap32 ap31 hx30 hz28 hx23 hB27 hg26 hz19 hbe18 hb17 hz12 hbe11 hb10 hg9 hz6 hbe5 hb4 hg3
    refine gv_sub [2, 3] (σ' := [(2, (.int .i64 0)), (3, (.pointer (some ⟨b7, 0, none⟩)))]) (by kernel_rfl) ?_
    refine gv_nil ?_
    refine gv_goal fun a hd hs hok => ?_
    refine (?_ : RunA Try.prog _ 17 _ _ 0 #[true, true, true] [(2, (.int .i64 0)), (3, (.pointer (some ⟨b7, 0, none⟩)))] w58) a hd hs hok
    clear hd hs hok
    refine gv_stageE (by kernel_rfl) ?_
    refine gv_cret ?_
    have e := Option.some.inj h0; subst e
    refine gv_ret (gv_done [(.int .i64 0), (.agg #[(.int .i64 r38.1), (.int .i64 r38.2)])] rfl ⟨rfl, ⟨_, rfl, run_loadVar_row w58 b7 _ 29 _ _ _ hb60 Try.underlying29 rfl (by kernel_rfl)⟩, trivial⟩ ?_)
    have hg67 := (grown_trans hg41 hg45)
    have hB68 := below_grown hB29 hg67 hB29.size nb
    have hB69 := below_grown hB29 hg41 hB29.size nb
    have hlo70 : w0.heap.size ≤ b43 := lob hbe47 hB69.size
    have hB71 := below_grown hB68 hg50 hB68.size (rowlo hlo70)
    have hB72 := below_grown hB71 hg55 hB71.size nb
    have hB73 := below_grown hB72 hg59 hB72.size (rowlo hlo37)
    exact ⟨grown_of_below hB73, rfl⟩
  · replace h0 := ite_f hc53 h0
    refine gv_skip ?_
    refine gv_seq ?_
    refine gv_region ?_
    refine gv_pure 1 [3, 12] (σ' := [(3, (.pointer (some ⟨b7, 0, none⟩))), (12, (.pointer (some ⟨b1, 1, none⟩)))]) (by kernel_rfl) ?_
    have hg74 := (grown_trans (grown_trans hg16 hg41) hg45)
    have hg75 := (grown_trans hg16 hg41)
    have hk76 := hk13.grown hg75 nb
    have ap77 : ¬ (· = b1) b43 := fun hx => Nat.not_lt_of_le ((lowb hbe47) _ rfl) ((fun k (hk : k = b1) => Nat.lt_of_le_of_lt (Nat.le_of_eq hk) hk76.lt) _ hx)
    have hk78 := (hk13.grown hg74 nb).grown hg50 (rowne ap77)
    refine gv_load (t := 22) (A := ⟨b1, 1, none⟩) (.slice pa0_0 (List.length a_0.2) pc0_0) [3, 13] (σ' := [(3, (.pointer (some ⟨b7, 0, none⟩))), (13, (.slice pa0_0 (List.length a_0.2) pc0_0))]) (fun e => by cases e) (by rfl) (by rfl) (by rfl) (by kernel_rfl) (by kernel_rfl) (by kernel_rfl) (inw0 (hk78.cell 1 rfl)) (by kernel_rfl) ?_
    refine bindE h0 ?_; clear h0; intro r79 hr80 h0
    have hg81 := (grown_trans hg41 hg45)
    have hB82 := below_grown hB29 hg81 hB29.size nb
    have hB83 := below_grown hB29 hg41 hB29.size nb
    have hlo84 : w0.heap.size ≤ b43 := lob hbe47 hB83.size
    have hB85 := below_grown hB82 hg50 hB82.size (rowlo hlo84)
    refine gv_call (f := 68) (vs := [(.slice pa0_0 (List.length a_0.2) pc0_0)]) (cap := []) _ (by decide) (by rfl) (by rfl) rfl (by rfl) (by rfl) enters68 (natural_Bits_ok fuel pa0_0 pc0_0 a_0.2 w49 (fun k => X0 k) (fun k hk => (fun k (hk : X0 k) => Nat.lt_of_lt_of_le (hX0 k hk) hB85.size) k hk) ((hpa0_0.below hB85 hX0).wide (fun k hk => hk)) r79 hr80) ?_
    rintro v88 w86 ⟨hg87, rfl⟩
    refine ⟨(fun e => by cases e), ?_⟩
    refine gv_pure 3 [2, 3, 16] (σ' := [(2, (.int .i64 r79.1)), (3, (.pointer (some ⟨b7, 0, none⟩))), (16, (.agg #[(.int .i64 r79.2.1), (.int .i64 r79.2.2)]))]) (by kernel_rfl) ?_
    have hk93 := hb10.grown hg75 nb
    have ap94 : ¬ (· = b7) b43 := fun hx => Nat.not_lt_of_le ((lowb hbe47) _ rfl) ((fun k (hk : k = b7) => Nat.lt_of_le_of_lt (Nat.le_of_eq hk) hk93.lt) _ hx)
    have hk95 := ((hb10.grown hg74 nb).grown hg50 (rowne ap94)).grown hg87 nb
    refine gv_store (t := 29) (b := b7) (off := 0) (v := (.agg #[(.int .i64 r79.2.1), (.int .i64 r79.2.2)])) (t' := 29) (cs := #[(.int .i64 0), (.int .i64 0)]) #[(.int .i64 r79.2.1), (.int .i64 r79.2.2)] (by decide) (by rfl) (by rfl) (by kernel_rfl) (by kernel_rfl) (by kernel_rfl) (by intro u hu; simp [Value.cells] at hu; rcases hu with rfl | rfl <;> rfl) (show 0 + 2 ≤ 2 by decide) (by rfl) hk95 ?_
    intro w89 hg90 hb91 hz92
    refine ⟨(fun e => by cases e), ?_⟩
    refine gv_sub [2, 3] (σ' := [(2, (.int .i64 r79.1)), (3, (.pointer (some ⟨b7, 0, none⟩)))]) (by kernel_rfl) ?_
    refine gv_nil ?_
    refine gv_cret ?_
    have e := Option.some.inj h0; subst e
    refine gv_ret (gv_done [(.int .i64 r79.1), (.agg #[(.int .i64 r79.2.1), (.int .i64 r79.2.2)])] rfl ⟨rfl, ⟨_, rfl, run_loadVar_row w89 b7 _ 29 _ _ _ hb91 Try.underlying29 rfl (by kernel_rfl)⟩, trivial⟩ ?_)
    have hB96 := below_grown hB85 hg87 hB85.size nb
    have hB97 := below_grown hB96 hg90 hB96.size (rowlo hlo37)
    exact ⟨grown_of_below hB97, rfl⟩

set_option maxHeartbeats 4000000 in
set_option maxRecDepth 100000 in
theorem random_source_bits_ok (fuel : Nat) (pb0 : Nat) (s_0 : ((Int × Int))) (n_1 : Int) (w0 : World) (hp0 : Box w0 pb0 81 #[(.int .u64 s_0.1), (.int .u64 s_0.2)]) (r0 : ((Bool × (List Int)) × ((Int × Int)))) (h0 : random_source_bits fuel s_0 n_1 = some r0) :
    Calls Try.prog 61 ([(.pointer (some ⟨pb0, 0, none⟩)), (.int .i64 n_1)] : List Value).toArray w0 (Ret fun v w' => w0.grownBy w' (some pb0) ∧ ∃ (a0_0r : Option Addr) (c0_0r : Nat), v = tup [(.agg #[(.bool r0.1.1), (.slice a0_0r (List.length r0.1.2) c0_0r)])] ∧ Own (iE .u32) 76 w' (fun _ => False) a0_0r c0_0r r0.1.2 ∧ (∀ g, blk a0_0r = some g → w0.heap.size ≤ g) ∧ Box w' pb0 81 #[(.int .u64 r0.2.1), (.int .u64 r0.2.2)]) := by
  have hB0 : w0.grownBy w0 (some pb0) := grown_refl _ _
  unfold random_source_bits at h0
  refine calls_run Try.func61 rfl Try.ntmps61 (by kernel_rfl) ?_
  refine gv_sub [0, 1] (σ' := [(0, (.pointer (some ⟨pb0, 0, none⟩))), (1, (.int .i64 n_1))]) (by kernel_rfl) ?_
  have hpl0 := hp0.lt
  refine gv_seq ?_
  refine gv_region ?_
  refine gv_new (fun b => .pointer (some ⟨b, 0, none⟩)) #[(.bool false), (.slice none (List.length ([] : List Int)) 0)] 24 (by decide) (by rfl) (by rfl) (by kernel_rfl) (by kernel_rfl) ?_
  intro b1 w2 hg3 hb4 hbe5 hz6
  refine ⟨(fun e => by cases e), ?_⟩
  refine gv_sub [0, 1, 4] (σ' := [(0, (.pointer (some ⟨pb0, 0, none⟩))), (1, (.int .i64 n_1)), (4, (.pointer (some ⟨b1, 0, none⟩)))]) (by kernel_rfl) ?_
  refine gv_nil ?_
  refine gv_seq ?_
  refine gv_region ?_
  refine gv_pure 1 [0, 1, 4, 5] (σ' := [(0, (.pointer (some ⟨pb0, 0, none⟩))), (1, (.int .i64 n_1)), (4, (.pointer (some ⟨b1, 0, none⟩))), (5, (.slice none (List.length ([] : List Int)) 0))]) (by kernel_rfl) ?_
  refine gv_nil ?_
  refine gv_seq ?_
  refine bindE h0 ?_; clear h0; intro j7 h1 h0
  refine gv_cut_code (J := fun a w8 => ∃ (a5_0j : Option Addr) (c5_0j : Nat), w0.grownBy w8 (some pb0) ∧ w2.heap.size ≤ w8.heap.size ∧ Own (iE .u32) 76 w8 (fun _ => False) a5_0j c5_0j j7.1 ∧ (∀ g, blk a5_0j = some g → w0.heap.size ≤ g) ∧ (∀ g, blk a5_0j = some g → ¬ (· = b1) g) ∧ ¬ (fun k => blk a5_0j = some k) b1 ∧ Box w8 pb0 81 #[(.int .u64 j7.2.1), (.int .u64 j7.2.2)] ∧ Box w8 b1 24 #[(.bool false), (.slice none (List.length ([] : List Int)) 0)] ∧ a.defers = [] ∧ a.tmps.size = 44 ∧ Ok [(4, (.pointer (some ⟨b1, 0, none⟩))), (5, (.slice a5_0j (List.length j7.1) c5_0j))] a.tmps) ?_ ?_
  · skip
    refine gv_block ?_
    refine gv_loop (A := fun (s9 : (Int × (List Int) × ((Int × Int)))) a w10 => ∃ (a5_0j : Option Addr) (c5_0j : Nat), w0.grownBy w10 (some pb0) ∧ w2.heap.size ≤ w10.heap.size ∧ Own (iE .u32) 76 w10 (fun _ => False) a5_0j c5_0j s9.2.1 ∧ (∀ g, blk a5_0j = some g → w0.heap.size ≤ g) ∧ (∀ g, blk a5_0j = some g → ¬ (· = b1) g) ∧ ¬ (fun k => blk a5_0j = some k) b1 ∧ Box w10 pb0 81 #[(.int .u64 s9.2.2.1), (.int .u64 s9.2.2.2)] ∧ Box w10 b1 24 #[(.bool false), (.slice none (List.length ([] : List Int)) 0)] ∧ a.defers = [] ∧ a.tmps.size = 44 ∧ Ok [(0, (.pointer (some ⟨pb0, 0, none⟩))), (1, (.int .i64 s9.1)), (4, (.pointer (some ⟨b1, 0, none⟩))), (5, (.slice a5_0j (List.length s9.2.1) c5_0j))] a.tmps) h1 ?_ ?_
    · intro a hd hs hok
      obtain ⟨q0, q1, q4, q5, _⟩ := hok
      have hB11 := grown_step hB0 hg3  nb
      have hk12 := hp0.grown hg3 nb
      exact ⟨none, 0, hB11, (Nat.le_refl _), (Own.nil (iE .u32) 76 w2 (fun _ => False)), (fun _ h => by cases h), (fun _ h => by cases h), (fun h => by cases h), hk12, hb4, hd, hs, ⟨q0, q1, q4, q5, trivial⟩⟩
    · rintro s9 r2 h2 hR2 a w10 ⟨a15, c16, hB13, hz14, ho17, hl18, ap19, ap20, hb21, hb22, hd, hs, hok⟩
      refine (?_ : Run Try.prog _ 44 _ .normal [(0, (.pointer (some ⟨pb0, 0, none⟩))), (1, (.int .i64 s9.1)), (4, (.pointer (some ⟨b1, 0, none⟩))), (5, (.slice a15 (List.length s9.2.1) c16))] w10) a hd hs hok
      clear hd hs hok
      refine gv_seq ?_
      refine gv_seq ?_
      refine gv_region ?_
      refine gv_pure 2 [0, 1, 4, 5, 8] (σ' := [(0, (.pointer (some ⟨pb0, 0, none⟩))), (1, (.int .i64 s9.1)), (4, (.pointer (some ⟨b1, 0, none⟩))), (5, (.slice a15 (List.length s9.2.1) c16)), (8, (.bool (decide (s9.1 > 0))))]) (by kernel_rfl) ?_
      refine gv_nil ?_
      refine gv_cond (b := (decide (s9.1 > 0))) (by rfl) (fun hc23 => ?_) (fun hc23 => ?_)
      · replace h2 := ite_t hc23 h2
        refine gv_skip ?_
        refine gv_seq ?_
        refine gv_block ?_
        refine gv_seq ?_
        refine gv_region ?_
        refine gv_pure 1 [0, 1, 4, 5, 11] (σ' := [(0, (.pointer (some ⟨pb0, 0, none⟩))), (1, (.int .i64 s9.1)), (4, (.pointer (some ⟨b1, 0, none⟩))), (5, (.slice a15 (List.length s9.2.1) c16)), (11, (.pointer (some ⟨pb0, 0, none⟩)))]) (by kernel_rfl) ?_
        refine bindE h2 ?_; clear h2; intro r24 hr25 h2
        refine gv_call (f := 40) (vs := [(.pointer (some ⟨pb0, 0, none⟩))]) (cap := []) _ (by decide) (by rfl) (by rfl) rfl (by rfl) (by rfl) enters40 (random_source_next_ok fuel pb0 (s9.2.2.1, s9.2.2.2) w10 hb21 r24 hr25) ?_
        rintro v28 w26 ⟨hg27, rfl, hb29⟩
        refine ⟨(fun e => by cases e), ?_⟩
        refine gv_pure 3 [0, 1, 4, 5, 6] (σ' := [(0, (.pointer (some ⟨pb0, 0, none⟩))), (1, (.int .i64 s9.1)), (4, (.pointer (some ⟨b1, 0, none⟩))), (5, (.slice a15 (List.length s9.2.1) c16)), (6, (.int .u32 (IntKind.u32.wrap (((r24.1).fdiv (2 ^ 32))))))]) (by kernel_rfl) ?_
        refine bindE h2 ?_; clear h2; intro n30 hn31 h2
        refine gv_name (s := 6) (v := (.int .u32 (IntKind.u32.wrap (((r24.1).fdiv (2 ^ 32)))))) (v' := (.int .u32 n30)) (by rfl) (congrArg (Value.int .u32) (Option.some.inj hn31)) ?_
        refine gv_sub [0, 1, 4, 5, 6] (σ' := [(0, (.pointer (some ⟨pb0, 0, none⟩))), (1, (.int .i64 s9.1)), (4, (.pointer (some ⟨b1, 0, none⟩))), (5, (.slice a15 (List.length s9.2.1) c16)), (6, (.int .u32 n30))]) (by kernel_rfl) ?_
        refine gv_nil ?_
        refine gv_seq ?_
        refine gv_seq ?_
        refine gv_region ?_
        refine gv_pure 2 [0, 1, 4, 5, 6, 16] (σ' := [(0, (.pointer (some ⟨pb0, 0, none⟩))), (1, (.int .i64 s9.1)), (4, (.pointer (some ⟨b1, 0, none⟩))), (5, (.slice a15 (List.length s9.2.1) c16)), (6, (.int .u32 n30)), (16, (.bool (decide (s9.1 < 32))))]) (by kernel_rfl) ?_
        refine gv_nil ?_
        refine bindE h2 ?_; clear h2; intro j32 h3 h2
        refine gv_cut_code (J := fun a w33 => w0.grownBy w33 (some pb0) ∧ w26.heap.size ≤ w33.heap.size ∧ Box w33 pb0 81 #[(.int .u64 r24.2.1), (.int .u64 r24.2.2)] ∧ Box w33 b1 24 #[(.bool false), (.slice none (List.length ([] : List Int)) 0)] ∧ Own (iE .u32) 76 w33 (fun _ => False) a15 c16 s9.2.1 ∧ a.defers = [] ∧ a.tmps.size = 44 ∧ Ok [(0, (.pointer (some ⟨pb0, 0, none⟩))), (1, (.int .i64 s9.1)), (4, (.pointer (some ⟨b1, 0, none⟩))), (5, (.slice a15 (List.length s9.2.1) c16)), (6, (.int .u32 j32))] a.tmps) ?_ ?_
        · skip
          refine gv_cond (b := (decide (s9.1 < 32))) (by rfl) (fun hc34 => ?_) (fun hc34 => ?_)
          · replace h3 := ite_t hc34 h3
            refine gv_region ?_
            refine gv_pure 3 [0, 1, 4, 5, 17, 19] (σ' := [(0, (.pointer (some ⟨pb0, 0, none⟩))), (1, (.int .i64 s9.1)), (4, (.pointer (some ⟨b1, 0, none⟩))), (5, (.slice a15 (List.length s9.2.1) c16)), (17, (.int .u32 n30)), (19, (.int .i64 (IntKind.i64.wrap (32 - s9.1))))]) (by kernel_rfl) ?_
            refine bindE h3 ?_; clear h3; intro _ hx35 h3
            refine gv_shift .shr (t := 76) (kk := .u32) (ky := .i64) (x := n30) (y := (IntKind.i64.wrap (32 - s9.1))) (shrI .u32 n30 (IntKind.i64.wrap (32 - s9.1))) [0, 1, 4, 5, 20] (σ' := [(0, (.pointer (some ⟨pb0, 0, none⟩))), (1, (.int .i64 s9.1)), (4, (.pointer (some ⟨b1, 0, none⟩))), (5, (.slice a15 (List.length s9.2.1) c16)), (20, (.int .u32 (shrI .u32 n30 (IntKind.i64.wrap (32 - s9.1)))))]) (fun e => by cases e) (by rfl) (by rfl) (by rfl) (by kernel_rfl) (by kernel_rfl) (nn_spec hx35) (.inr ⟨rfl, rfl⟩) (by kernel_rfl) ?_
            refine gv_pure 1 [0, 1, 4, 5, 6] (σ' := [(0, (.pointer (some ⟨pb0, 0, none⟩))), (1, (.int .i64 s9.1)), (4, (.pointer (some ⟨b1, 0, none⟩))), (5, (.slice a15 (List.length s9.2.1) c16)), (6, (.int .u32 (shrI .u32 n30 (IntKind.i64.wrap (32 - s9.1)))))]) (by kernel_rfl) ?_
            refine bindE h3 ?_; clear h3; intro n36 hn37 h3
            refine gv_name (s := 6) (v := (.int .u32 (shrI .u32 n30 (IntKind.i64.wrap (32 - s9.1))))) (v' := (.int .u32 n36)) (by rfl) (congrArg (Value.int .u32) (Option.some.inj hn37)) ?_
            refine gv_sub [0, 1, 4, 5, 6] (σ' := [(0, (.pointer (some ⟨pb0, 0, none⟩))), (1, (.int .i64 s9.1)), (4, (.pointer (some ⟨b1, 0, none⟩))), (5, (.slice a15 (List.length s9.2.1) c16)), (6, (.int .u32 n36))]) (by kernel_rfl) ?_
            refine gv_nil ?_
            have e := Option.some.inj h3; subst e
            refine gv_goal fun a hd hs hok => ?_
            obtain ⟨q0, q1, q4, q5, q6, _⟩ := hok
            have hB38 := grown_step hB13 hg27  rowpp
            have ap39 : ¬ (· = b1) pb0 := fun hx => Nat.not_lt_of_le ((lowb hbe5) _ hx) ((fun k (hk : k = pb0) => Nat.lt_of_le_of_lt (Nat.le_of_eq hk) hp0.lt) _ rfl)
            have hk40 := hb22.grown hg27 (rowne ap39)
            have hk41 := ho17.grown hg27 (fun _ h => h.elim) (rdnn (rowne (fun (h : blk a15 = some pb0) => Nat.not_lt_of_le (hl18 _ h) hpl0)))
            exact ⟨hB38, (Nat.le_refl _), hb29, hk40, hk41, hd, hs, ⟨q0, q1, q4, q5, q6, trivial⟩⟩
          · replace h3 := ite_f hc34 h3
            refine gv_skip ?_
            have e := Option.some.inj h3; subst e
            refine gv_goal fun a hd hs hok => ?_
            obtain ⟨q0, q1, q4, q5, q6, q16, _⟩ := hok
            have hB42 := grown_step hB13 hg27  rowpp
            have ap43 : ¬ (· = b1) pb0 := fun hx => Nat.not_lt_of_le ((lowb hbe5) _ hx) ((fun k (hk : k = pb0) => Nat.lt_of_le_of_lt (Nat.le_of_eq hk) hp0.lt) _ rfl)
            have hk44 := hb22.grown hg27 (rowne ap43)
            have hk45 := ho17.grown hg27 (fun _ h => h.elim) (rdnn (rowne (fun (h : blk a15 = some pb0) => Nat.not_lt_of_le (hl18 _ h) hpl0)))
            exact ⟨hB42, (Nat.le_refl _), hb29, hk44, hk45, hd, hs, ⟨q0, q1, q4, q5, q6, trivial⟩⟩
        · rintro a w33 ⟨hB46, hz47, hb48, hb49, hk50, hd, hs, hok⟩
          refine (?_ : Run Try.prog _ 44 _ .normal [(0, (.pointer (some ⟨pb0, 0, none⟩))), (1, (.int .i64 s9.1)), (4, (.pointer (some ⟨b1, 0, none⟩))), (5, (.slice a15 (List.length s9.2.1) c16)), (6, (.int .u32 j32))] w33) a hd hs hok
          clear hd hs hok
          have hz51 : w2.heap.size ≤ w33.heap.size := (Nat.le_trans (Nat.le_trans hz14 hg27.size) hz47)
          clear hz47 hn31 hb29 hg27 hr25 hc23 hb22 hb21 ho17 hz14 hB13 hz6 hb4 hg3
          refine gv_region ?_
          refine gv_pure 2 [0, 1, 4, 21, 22] (σ' := [(0, (.pointer (some ⟨pb0, 0, none⟩))), (1, (.int .i64 s9.1)), (4, (.pointer (some ⟨b1, 0, none⟩))), (21, (.slice a15 (List.length s9.2.1) c16)), (22, (.int .u32 j32))]) (by kernel_rfl) ?_
          refine gv_new (fun b => .slice (some ⟨b, 0, none⟩) 1 1) #[(.int .u32 j32)] 76 (by decide) (by rfl) (by rfl) (by kernel_rfl) (by kernel_rfl) ?_
          intro b52 w53 hg54 hb55 hbe56 hz57
          refine ⟨(fun e => by cases e), ?_⟩
          have ho58 : Own (iE .u32) 76 w53 (fun _ => False) (some ⟨b52, 0, none⟩) 1 ([j32] : List Int) := Box.ownE hb55 ⟨[(.int .u32 j32)], [], rfl, rfl, rfl⟩ (show 1 ≤ maxLen by decide) (fun h => h)
          have hl59 : ∀ g, blk (some ⟨b52, 0, none⟩) = some g → w0.heap.size ≤ g := loo hbe56 hB46.size
          refine gv_sub [0, 1, 4, 21, 23] (σ' := [(0, (.pointer (some ⟨pb0, 0, none⟩))), (1, (.int .i64 s9.1)), (4, (.pointer (some ⟨b1, 0, none⟩))), (21, (.slice a15 (List.length s9.2.1) c16)), (23, (.slice (some ⟨b52, 0, none⟩) (List.length ([j32] : List Int)) 1))]) (by kernel_rfl) ?_
          refine bindE h2 ?_; clear h2; intro l63 hx64 h2
          have hk71 := hk50.grown hg54 (fun _ h => h.elim) nb
          refine gv_append (iE .u32) (t := 22) (ty := 22) (e := 76) (a := a15) (ax := (some ⟨b52, 0, none⟩)) (cap := c16) (cx := 1) (xs := s9.2.1) (ys := ([j32] : List Int)) l63 (X := (fun _ => False)) (Y := (fun k => blk (some ⟨b52, 0, none⟩) = some k)) (by decide) (by rfl) (by rfl) (by kernel_rfl) (by kernel_rfl) Try.underlying22 info76 hk71 (ho58.rd (Y := fun k => blk (some ⟨b52, 0, none⟩) = some k) (fun _ h => h.elim) (fun g e => e)) hx64 (.inr fun _ _ _ _ _ h => h) (fun _ h => h.elim) ?_
          intro a65 c66 w67 hg68 ho69 hk70
          refine ⟨(fun e => by cases e), ?_⟩
          have hB73 := grown_step hB46 hg54  nb
          have hl72 : ∀ g, blk a65 = some g → w0.heap.size ≤ g := blk_step hk70 hl18 hB73.size
          have hk75 := hb49.grown hg54 nb
          have ap74 : ∀ g, blk a65 = some g → ¬ (· = b1) g := blk_neX hk70 ap19 (fun k (hk : k = b1) => Nat.lt_of_le_of_lt (Nat.le_of_eq hk) hk75.lt)
          have ap76 : ¬ (fun k => blk a65 = some k) b1 := fun h => blk_rev hk70 (fun h => (ap20) h) (hk75.lt) h
          have ap78 : ∀ g, blk a15 = some g → ¬ (fun k => blk (some ⟨b52, 0, none⟩) = some k) g := fun g e hx => Nat.not_lt_of_le ((lowo hbe56) _ hx) ((fun k (hk : blk a15 = some k) => hk50.lt k hk) g e)
          have ap77 : ∀ g, blk a65 = some g → ¬ (fun k => blk (some ⟨b52, 0, none⟩) = some k) g := blk_neX hk70 ap78 (fun k (hk : blk (some ⟨b52, 0, none⟩) = some k) => ho58.lt k hk)
          have ap80 : ∀ g, blk (some ⟨b52, 0, none⟩) = some g → ¬ (fun k => blk a15 = some k) g := fun g e hx => Nat.not_lt_of_le ((lowo hbe56) g e) ((fun k (hk : blk a15 = some k) => hk50.lt k hk) _ hx)
          have ap79 : ∀ g, blk (some ⟨b52, 0, none⟩) = some g → ¬ (fun k => blk a65 = some k) g := fun g e h => blk_rev hk70 (fun h => ((ap80) g e) h) (ho58.lt g e) h
          refine gv_pure 1 [0, 1, 4, 5] (σ' := [(0, (.pointer (some ⟨pb0, 0, none⟩))), (1, (.int .i64 s9.1)), (4, (.pointer (some ⟨b1, 0, none⟩))), (5, (.slice a65 (List.length l63) c66))]) (by kernel_rfl) ?_
          refine gv_nil ?_
          refine gv_blk ?_
          refine gv_region ?_
          refine gv_pure 3 [0, 1, 4, 5] (σ' := [(0, (.pointer (some ⟨pb0, 0, none⟩))), (1, (.int .i64 (IntKind.i64.wrap (s9.1 - 32)))), (4, (.pointer (some ⟨b1, 0, none⟩))), (5, (.slice a65 (List.length l63) c66))]) (by kernel_rfl) ?_
          refine gv_nil ?_
          have e := Option.some.inj h2; subst e
          refine gv_goal fun a hd hs hok => ?_
          obtain ⟨q0, q1, q4, q5, _⟩ := hok
          have hB81 := grown_step hB73 hg68  (fun g e => .inr (hl18 g e))
          have hz82 : w2.heap.size ≤ w67.heap.size := (Nat.le_trans (Nat.le_trans hz51 hg54.size) hg68.size)
          have hk83 := (hb48.grown hg54 nb).grown hg68 (fun g (e : blk a15 = some g) (h : g = pb0) => negt hpl0 (hl18 g e) h)
          have hk84 := hk75.grown hg68 ap19
          exact ⟨((IntKind.i64.wrap (s9.1 - 32)), l63, (r24.2.1, r24.2.2)), rfl, a65, c66, hB81, hz82, ho69, hl72, ap74, ap76, hk83, hk84, hd, hs, ⟨q0, q1, q4, q5, trivial⟩⟩
      · replace h2 := ite_f hc23 h2
        refine gv_cexit ?_
        refine gv_exit rfl ?_
        have e := Option.some.inj h2; subst e
        replace h1 := congrArg some (hR2 _ rfl)
        have e := Option.some.inj h1; subst e
        refine gv_goal fun a hd hs hok => ?_
        obtain ⟨q0, q1, q4, q5, q8, _⟩ := hok
        have hz85 : w2.heap.size ≤ w10.heap.size := hz14
        exact ⟨a15, c16, hB13, hz85, ho17, hl18, ap19, ap20, hb21, hb22, hd, hs, ⟨q4, q5, trivial⟩⟩
  · rintro a w8 ⟨a88, c89, hB86, hz87, ho90, hl91, ap92, ap93, hb94, hb95, hd, hs, hok⟩
    refine (?_ : Run Try.prog _ 44 _ .normal [(4, (.pointer (some ⟨b1, 0, none⟩))), (5, (.slice a88 (List.length j7.1) c89))] w8) a hd hs hok
    clear hd hs hok
    clear hz87 hz6 hb4 hg3
    refine gv_seq ?_
    refine bindE h0 ?_; clear h0; intro j96 h1 h0
    refine gv_cut_code (J := fun a w97 => ∃ (a5_0j : Option Addr) (c5_0j : Nat), w0.grownBy w97 (some pb0) ∧ w8.heap.size ≤ w97.heap.size ∧ Own (iE .u32) 76 w97 (fun _ => False) a5_0j c5_0j j96 ∧ (∀ g, blk a5_0j = some g → w0.heap.size ≤ g) ∧ (∀ g, blk a5_0j = some g → ¬ (· = b1) g) ∧ ¬ (fun k => blk a5_0j = some k) b1 ∧ Box w97 pb0 81 #[(.int .u64 j7.2.1), (.int .u64 j7.2.2)] ∧ Box w97 b1 24 #[(.bool false), (.slice none (List.length ([] : List Int)) 0)] ∧ a.defers = [] ∧ a.tmps.size = 44 ∧ Ok [(4, (.pointer (some ⟨b1, 0, none⟩))), (5, (.slice a5_0j (List.length j96) c5_0j))] a.tmps) ?_ ?_
    · skip
      refine gv_block ?_
      refine gv_loop (A := fun (s98 : (List Int)) a w99 => ∃ (a5_0j : Option Addr) (c5_0j : Nat), w0.grownBy w99 (some pb0) ∧ w8.heap.size ≤ w99.heap.size ∧ Own (iE .u32) 76 w99 (fun _ => False) a5_0j c5_0j s98 ∧ (∀ g, blk a5_0j = some g → w0.heap.size ≤ g) ∧ (∀ g, blk a5_0j = some g → ¬ (· = b1) g) ∧ ¬ (fun k => blk a5_0j = some k) b1 ∧ Box w99 pb0 81 #[(.int .u64 j7.2.1), (.int .u64 j7.2.2)] ∧ Box w99 b1 24 #[(.bool false), (.slice none (List.length ([] : List Int)) 0)] ∧ a.defers = [] ∧ a.tmps.size = 44 ∧ Ok [(4, (.pointer (some ⟨b1, 0, none⟩))), (5, (.slice a5_0j (List.length s98) c5_0j))] a.tmps) h1 ?_ ?_
      · intro a hd hs hok
        obtain ⟨q4, q5, _⟩ := hok
        exact ⟨a88, c89, hB86, (Nat.le_refl _), ho90, hl91, ap92, ap93, hb94, hb95, hd, hs, ⟨q4, q5, trivial⟩⟩
      · rintro s98 r2 h2 hR2 a w99 ⟨a102, c103, hB100, hz101, ho104, hl105, ap106, ap107, hb108, hb109, hd, hs, hok⟩
        refine (?_ : Run Try.prog _ 44 _ .normal [(4, (.pointer (some ⟨b1, 0, none⟩))), (5, (.slice a102 (List.length s98) c103))] w99) a hd hs hok
        clear hd hs hok
        clear hb95 hb94 ap93 ap92 hl91 ho90 hB86
        refine gv_seq ?_
        refine gv_seq ?_
        refine gv_region ?_
        refine bindE h2 ?_; clear h2; intro j110 h3 h2
        refine gv_cut_ops (J := fun a w111 => w0.grownBy w111 (some pb0) ∧ w99.heap.size ≤ w111.heap.size ∧ Box w111 pb0 81 #[(.int .u64 j7.2.1), (.int .u64 j7.2.2)] ∧ Box w111 b1 24 #[(.bool false), (.slice none (List.length ([] : List Int)) 0)] ∧ Own (iE .u32) 76 w111 (fun _ => False) a102 c103 s98 ∧ a.defers = [] ∧ a.tmps.size = 44 ∧ Ok [(4, (.pointer (some ⟨b1, 0, none⟩))), (5, (.slice a102 (List.length s98) c103)), (36, (.bool j110))] a.tmps) ?_ ?_
        · skip
          refine gv_pure 4 [4, 5, 28] (σ' := [(4, (.pointer (some ⟨b1, 0, none⟩))), (5, (.slice a102 (List.length s98) c103)), (28, (.bool (decide (((List.length s98 : Nat) : Int) > 0))))]) (by kernel_rfl) ?_
          refine gv_split (s := 28) (g := (decide (((List.length s98 : Nat) : Int) > 0))) (by rfl) (fun hc112 => ?_) (fun hc112 => ?_)
          · skip
            replace h3 := ite_t hc112 h3
            refine gv_pure 4 [4, 5, 28, 29, 32] (σ' := [(4, (.pointer (some ⟨b1, 0, none⟩))), (5, (.slice a102 (List.length s98) c103)), (28, (.bool true)), (29, (.slice a102 (List.length s98) c103)), (32, (.int .i64 (IntKind.i64.wrap (((List.length s98 : Nat) : Int) - 1))))]) (by kernel_rfl) ?_
            refine bindE h3 ?_; clear h3; intro x113 hx114 h3
            refine gv_idxaddr (t := 22) (e := 76) (a := a102) (len := List.length s98) (cap := c103) (kk := .i64) (i := (IntKind.i64.wrap (((List.length s98 : Nat) : Int) - 1))) (sz := 1) [4, 5, 28, 33] (σ' := [(4, (.pointer (some ⟨b1, 0, none⟩))), (5, (.slice a102 (List.length s98) c103)), (28, (.bool true)), (33, (.pointer (some (elemAddr a102 (((IntKind.i64.wrap (((List.length s98 : Nat) : Int) - 1))).toNat * 1)))))]) (fun e => by cases e) (by rfl) (by rfl) (by rfl) (by kernel_rfl) (by kernel_rfl) Try.underlying22 (by kernel_rfl) ((ho104.rd (Y := fun k => blk a102 = some k) (fun _ h => h.elim) (fun g e => e)).has hx114) (idx_spec hx114).1 (idx_spec hx114).2.1 (by kernel_rfl) ?_
            refine gv_load (t := 76) (A := (elemAddr a102 (((IntKind.i64.wrap (((List.length s98 : Nat) : Int) - 1))).toNat * 1))) (.int .u32 x113) [4, 5, 28, 34] (σ' := [(4, (.pointer (some ⟨b1, 0, none⟩))), (5, (.slice a102 (List.length s98) c103)), (28, (.bool true)), (34, (.int .u32 x113))]) (fun e => by cases e) (by rfl) (by rfl) (by rfl) (by kernel_rfl) (by kernel_rfl) (by kernel_rfl) (inw0 ((ho104.rd (Y := fun k => blk a102 = some k) (fun _ h => h.elim) (fun g e => e)).cell hx114)) (by kernel_rfl) ?_
            refine gv_pure 2 [4, 5, 36] (σ' := [(4, (.pointer (some ⟨b1, 0, none⟩))), (5, (.slice a102 (List.length s98) c103)), (36, (.bool (x113 == 0)))]) (by kernel_rfl) ?_
            refine gv_nil ?_
            have e := Option.some.inj h3; subst e
            refine gv_goal fun a hd hs hok => ?_
            obtain ⟨q4, q5, q36, _⟩ := hok
            exact ⟨hB100, (Nat.le_refl _), hb108, hb109, ho104, hd, hs, ⟨q4, q5, q36, trivial⟩⟩
          · skip
            replace h3 := ite_f hc112 h3
            refine gv_pure 8 [4, 5, 36] (σ' := [(4, (.pointer (some ⟨b1, 0, none⟩))), (5, (.slice a102 (List.length s98) c103)), (36, (.bool false))]) (by kernel_rfl) ?_
            refine gv_nil ?_
            have e := Option.some.inj h3; subst e
            refine gv_goal fun a hd hs hok => ?_
            obtain ⟨q4, q5, q36, _⟩ := hok
            exact ⟨hB100, (Nat.le_refl _), hb108, hb109, ho104, hd, hs, ⟨q4, q5, q36, trivial⟩⟩
        · rintro a w111 ⟨hB115, hz116, hb117, hb118, hk119, hd, hs, hok⟩
          refine (?_ : Run Try.prog _ 44 _ .normal [(4, (.pointer (some ⟨b1, 0, none⟩))), (5, (.slice a102 (List.length s98) c103)), (36, (.bool j110))] w111) a hd hs hok
          clear hd hs hok
          have hz120 : w8.heap.size ≤ w111.heap.size := (Nat.le_trans hz101 hz116)
          clear hz116 hb109 hb108 ho104 hz101 hB100
          refine gv_cond (b := j110) (by rfl) (fun hc121 => ?_) (fun hc121 => ?_)
          · replace h2 := ite_t hc121 h2
            refine gv_skip ?_
            refine gv_block ?_
            refine gv_region ?_
            refine gv_pure 4 [4, 37, 40] (σ' := [(4, (.pointer (some ⟨b1, 0, none⟩))), (37, (.slice a102 (List.length s98) c103)), (40, (.int .i64 (IntKind.i64.wrap (((List.length s98 : Nat) : Int) - 1))))]) (by kernel_rfl) ?_
            refine bindE h2 ?_; clear h2; intro x122 hx123 h2
            refine gv_pop (iE .u32) (t := 22) (e := 76) (xs := s98) (a := a102) (cap := c103) (lo := none) (hi := (some (.int .i64 (IntKind.i64.wrap (((List.length s98 : Nat) : Int) - 1))))) (IntKind.i64.wrap (((List.length s98 : Nat) : Int) - 1)) x122 (fun e => by cases e) (by rfl) (by rfl) (by rfl) (by kernel_rfl) (by kernel_rfl) Try.underlying22 (by kernel_rfl) (.inl ⟨rfl, rfl⟩) (.inr ⟨_, rfl⟩) hx123 (hk119.rd (Y := fun k => blk a102 = some k) (fun _ h => h.elim) (fun g e => e)).1 ?_
            have ho124 := hk119.pop hx123
            refine gv_pure 1 [4, 5] (σ' := [(4, (.pointer (some ⟨b1, 0, none⟩))), (5, (.slice a102 (List.length x122) c103))]) (by kernel_rfl) ?_
            refine gv_nil ?_
            refine gv_blk ?_
            have e := Option.some.inj h2; subst e
            refine gv_goal fun a hd hs hok => ?_
            obtain ⟨q4, q5, _⟩ := hok
            have hz125 : w8.heap.size ≤ w111.heap.size := hz120
            exact ⟨x122, rfl, a102, c103, hB115, hz125, ho124, hl105, ap106, ap107, hb117, hb118, hd, hs, ⟨q4, q5, trivial⟩⟩
          · replace h2 := ite_f hc121 h2
            refine gv_cexit ?_
            refine gv_exit rfl ?_
            have e := Option.some.inj h2; subst e
            replace h1 := congrArg some (hR2 _ rfl)
            have e := Option.some.inj h1; subst e
            refine gv_goal fun a hd hs hok => ?_
            obtain ⟨q4, q5, q36, _⟩ := hok
            have hz126 : w8.heap.size ≤ w111.heap.size := hz120
            exact ⟨a102, c103, hB115, hz126, hk119, hl105, ap106, ap107, hb117, hb118, hd, hs, ⟨q4, q5, trivial⟩⟩
    · rintro a w97 ⟨a129, c130, hB127, hz128, ho131, hl132, ap133, ap134, hb135, hb136, hd, hs, hok⟩
      refine (?_ : Run Try.prog _ 44 _ .normal [(4, (.pointer (some ⟨b1, 0, none⟩))), (5, (.slice a129 (List.length j96) c130))] w97) a hd hs hok
      clear hd hs hok
      clear hz128 hb95 hb94 ap93 ap92 hl91 ho90 hB86
      refine gv_seq ?_
      refine gv_region ?_
      refine gv_pure 2 [4, 43] (σ' := [(4, (.pointer (some ⟨b1, 0, none⟩))), (43, (.agg #[(.bool false), (.slice a129 (List.length j96) c130)]))]) (by kernel_rfl) ?_
      refine gv_store (t := 24) (b := b1) (off := 0) (v := (.agg #[(.bool false), (.slice a129 (List.length j96) c130)])) (t' := 24) (cs := #[(.bool false), (.slice none (List.length ([] : List Int)) 0)]) #[(.bool false), (.slice a129 (List.length j96) c130)] (by decide) (by rfl) (by rfl) (by kernel_rfl) (by kernel_rfl) (by kernel_rfl) (by intro u hu; simp [Value.cells] at hu; rcases hu with rfl | rfl <;> rfl) (show 0 + 2 ≤ 2 by decide) (by rfl) hb136 ?_
      intro w137 hg138 hb139 hz140
      refine ⟨(fun e => by cases e), ?_⟩
      refine gv_sub [4] (σ' := [(4, (.pointer (some ⟨b1, 0, none⟩)))]) (by kernel_rfl) ?_
      refine gv_nil ?_
      refine gv_cret ?_
      have e := Option.some.inj h0; subst e
      refine gv_ret (gv_done [(.agg #[(.bool false), (.slice a129 (List.length j96) c130)])] rfl ⟨⟨_, rfl, run_loadVar_row w137 b1 _ 24 _ _ _ hb139 Try.underlying24 rfl (by kernel_rfl)⟩, trivial⟩ ?_)
      have hlo141 : w0.heap.size ≤ b1 := lob hbe5 hB0.size
      have hB142 := grown_step hB127 hg138  (rowppr hlo141)
      have hk143 := ho131.grown hg138 (fun _ h => h.elim) (rdnn (rowne ap134))
      have ap144 : ¬ (· = pb0) b1 := fun hx => Nat.not_lt_of_le ((lowb hbe5) _ rfl) ((fun k (hk : k = pb0) => Nat.lt_of_le_of_lt (Nat.le_of_eq hk) hp0.lt) _ hx)
      have hk145 := hb135.grown hg138 (rowne ap144)
      exact ⟨hB142, a129, c130, rfl, hk143, hl132, hk145⟩

set_option maxHeartbeats 4000000 in
set_option maxRecDepth 100000 in
theorem integer_Cmp_ok (fuel : Nat) (pa0_0 : Option Addr) (pc0_0 : Nat) (a_0 : (Bool × (List Int))) (pa1_0 : Option Addr) (pc1_0 : Nat) (b_1 : (Bool × (List Int))) (w0 : World) (X0 : Nat → Prop) (hX0 : ∀ k, X0 k → k < w0.heap.size) (hpa0_0 : Rd (iE .u32) w0 X0 pa0_0 pc0_0 a_0.2) (hpa1_0 : Rd (iE .u32) w0 X0 pa1_0 pc1_0 b_1.2) (r0 : (Int × (Int × Int))) (h0 : integer_Cmp fuel a_0 b_1 = some r0) :
    Calls Try.prog 44 ([(.agg #[(.bool a_0.1), (.slice pa0_0 (List.length a_0.2) pc0_0)]), (.agg #[(.bool b_1.1), (.slice pa1_0 (List.length b_1.2) pc1_0)])] : List Value).toArray w0 (Ret fun v w' => w0.grownBy w' none ∧ v = tup [(.int .i64 r0.1), (.agg #[(.int .i64 r0.2.1), (.int .i64 r0.2.2)])]) := by
  have hB0 : Below w0.heap.size w0 w0 := Below.refl _ _
  unfold integer_Cmp at h0
  refine calls_run Try.func44 rfl Try.ntmps44 (by kernel_rfl) ?_
  refine gv_sub [0, 1] (σ' := [(0, (.agg #[(.bool a_0.1), (.slice pa0_0 (List.length a_0.2) pc0_0)])), (1, (.agg #[(.bool b_1.1), (.slice pa1_0 (List.length b_1.2) pc1_0)]))]) (by kernel_rfl) ?_
  refine gv_seq ?_
  refine gv_region ?_
  refine gv_new (fun b => .pointer (some ⟨b, 0, none⟩)) #[(.bool a_0.1), (.slice pa0_0 (List.length a_0.2) pc0_0)] 24 (by decide) (by rfl) (by rfl) (by kernel_rfl) (by kernel_rfl) ?_
  intro b1 w2 hg3 hb4 hbe5 hz6
  refine ⟨(fun e => by cases e), ?_⟩
  refine gv_sub [1, 2] (σ' := [(1, (.agg #[(.bool b_1.1), (.slice pa1_0 (List.length b_1.2) pc1_0)])), (2, (.pointer (some ⟨b1, 0, none⟩)))]) (by kernel_rfl) ?_
  refine gv_new (fun b => .pointer (some ⟨b, 0, none⟩)) #[(.bool b_1.1), (.slice pa1_0 (List.length b_1.2) pc1_0)] 24 (by decide) (by rfl) (by rfl) (by kernel_rfl) (by kernel_rfl) ?_
  intro b7 w8 hg9 hb10 hbe11 hz12
  refine ⟨(fun e => by cases e), ?_⟩
  refine gv_pure 1 [2, 3] (σ' := [(2, (.pointer (some ⟨b1, 0, none⟩))), (3, (.pointer (some ⟨b7, 0, none⟩)))]) (by kernel_rfl) ?_
  refine gv_new (fun b => .pointer (some ⟨b, 0, none⟩)) #[(.int .i64 0), (.int .i64 0)] 29 (by decide) (by rfl) (by rfl) (by kernel_rfl) (by kernel_rfl) ?_
  intro b13 w14 hg15 hb16 hbe17 hz18
  refine ⟨(fun e => by cases e), ?_⟩
  refine gv_sub [2, 3, 5] (σ' := [(2, (.pointer (some ⟨b1, 0, none⟩))), (3, (.pointer (some ⟨b7, 0, none⟩))), (5, (.pointer (some ⟨b13, 0, none⟩)))]) (by kernel_rfl) ?_
  refine gv_nil ?_
  refine gv_seq ?_
  refine gv_seq ?_
  refine gv_region ?_
  have hg19 := (grown_trans hg9 hg15)
  have hk20 := hb4.grown hg19 nb
  refine gv_loadBox (t := 24) (b := b1) (t' := 24) (fr := (0, 0)) #[(.bool a_0.1), (.slice pa0_0 (List.length a_0.2) pc0_0)] [2, 3, 5, 9] (σ' := [(2, (.pointer (some ⟨b1, 0, none⟩))), (3, (.pointer (some ⟨b7, 0, none⟩))), (5, (.pointer (some ⟨b13, 0, none⟩))), (9, (.agg #[(.bool a_0.1), (.slice pa0_0 (List.length a_0.2) pc0_0)]))]) (fun e => by cases e) (by rfl) (by rfl) (by rfl) (by kernel_rfl) (by kernel_rfl) (by kernel_rfl) (by kernel_rfl) (inw0 hk20) (by kernel_rfl) ?_
  have hk21 := hb10.grown hg15 nb
  refine gv_loadBox (t := 24) (b := b7) (t' := 24) (fr := (0, 0)) #[(.bool b_1.1), (.slice pa1_0 (List.length b_1.2) pc1_0)] [2, 3, 5, 9, 10] (σ' := [(2, (.pointer (some ⟨b1, 0, none⟩))), (3, (.pointer (some ⟨b7, 0, none⟩))), (5, (.pointer (some ⟨b13, 0, none⟩))), (9, (.agg #[(.bool a_0.1), (.slice pa0_0 (List.length a_0.2) pc0_0)])), (10, (.agg #[(.bool b_1.1), (.slice pa1_0 (List.length b_1.2) pc1_0)]))]) (fun e => by cases e) (by rfl) (by rfl) (by rfl) (by kernel_rfl) (by kernel_rfl) (by kernel_rfl) (by kernel_rfl) (inw0 hk21) (by kernel_rfl) ?_
  refine gv_new (fun b => .slice (some ⟨b, 0, none⟩) 2 2) #[(.bool a_0.1), (.slice pa0_0 (List.length a_0.2) pc0_0), (.bool b_1.1), (.slice pa1_0 (List.length b_1.2) pc1_0)] 24 (by decide) (by rfl) (by rfl) (by kernel_rfl) (by kernel_rfl) ?_
  intro b22 w23 hg24 hb25 hbe26 hz27
  refine ⟨(fun e => by cases e), ?_⟩
  obtain ⟨X33, e⟩ : ∃ X : Nat → Prop, X = (fun k => X0 k) := ⟨_, rfl⟩
  have hg34 := (grown_trans hg3 hg19)
  have hB35 := below_grown hB0 hg34 hB0.size nb
  have hx31 : ∀ k, X33 k → k < w14.heap.size := fun k h => by rw [e] at h; exact (fun k (hk : X0 k) => Nat.lt_of_lt_of_le (hX0 k hk) hB35.size) k h
  have hz36 : w14.heap.size ≤ w23.heap.size := hg24.size
  have hx30 : ∀ k, X33 k → k < w23.heap.size := fun k h => Nat.lt_of_lt_of_le (hx31 k h) hz36
  have hx32 : ∀ k, X33 k → X0 k ∨ w0.heap.size ≤ k := fun k h => by rw [e] at h; exact (fun k (hk : X0 k) => Or.inl hk) k h
  have hB37 := below_grown hB35 hg24 hB35.size nb
  have ho28 : Own (prE tE (slE (iE .u32))) 24 w23 X33 (some ⟨b22, 0, none⟩) 2 ([(a_0.1, a_0.2), (b_1.1, b_1.2)] : List (Bool × (List Int))) := Box.ownE hb25 (by rw [e]; exact ⟨[(.bool a_0.1), (.slice pa0_0 (List.length a_0.2) pc0_0)], [(.bool b_1.1), (.slice pa1_0 (List.length b_1.2) pc1_0)], rfl, ⟨[(.bool a_0.1)], [(.slice pa0_0 (List.length a_0.2) pc0_0)], rfl, rfl, ⟨pa0_0, pc0_0, rfl, ((hpa0_0.below hB37 hX0).wide (fun _ h => h))⟩⟩, ⟨[(.bool b_1.1), (.slice pa1_0 (List.length b_1.2) pc1_0)], [], rfl, ⟨[(.bool b_1.1)], [(.slice pa1_0 (List.length b_1.2) pc1_0)], rfl, rfl, ⟨pa1_0, pc1_0, rfl, ((hpa1_0.below hB37 hX0).wide (fun _ h => h))⟩⟩, rfl⟩⟩) (show 2 ≤ maxLen by decide) (fun h => noteq hbe26 (hx31 _ h))
  have hx38 : ∀ k, X33 k → (fun k => X0 k) k := fun k h => by rw [e] at h; exact h
  clear e
  have hl29 : ∀ g, blk (some ⟨b22, 0, none⟩) = some g → w0.heap.size ≤ g := loo hbe26 hB35.size
  have ap39 : ∀ g, blk (some ⟨b22, 0, none⟩) = some g → ¬ (· = b1) g := fun g e hx => Nat.not_lt_of_le (lowo hbe26 g e) ((fun k (hk : k = b1) => Nat.lt_of_le_of_lt (Nat.le_of_eq hk) hk20.lt) _ hx)
  have hlo41 : w0.heap.size ≤ b1 := lob hbe5 hB0.size
  have ap40 : ¬ (fun k => blk (some ⟨b22, 0, none⟩) = some k ∨ X33 k) b1 := fun h => h.elim (fun h => Nat.not_lt_of_le (lowo hbe26 _ h) ((fun k (hk : k = b1) => Nat.lt_of_le_of_lt (Nat.le_of_eq hk) hk20.lt) _ rfl)) (fun h => ((fun (hx : X0 b1) => Nat.not_lt_of_le hlo41 (hX0 _ hx)))  (hx38 _ h))
  have ap42 : ∀ g, blk (some ⟨b22, 0, none⟩) = some g → ¬ (· = b7) g := fun g e hx => Nat.not_lt_of_le (lowo hbe26 g e) ((fun k (hk : k = b7) => Nat.lt_of_le_of_lt (Nat.le_of_eq hk) hk21.lt) _ hx)
  have hB44 := below_grown hB0 hg3 hB0.size nb
  have hlo45 : w0.heap.size ≤ b7 := lob hbe11 hB44.size
  have ap43 : ¬ (fun k => blk (some ⟨b22, 0, none⟩) = some k ∨ X33 k) b7 := fun h => h.elim (fun h => Nat.not_lt_of_le (lowo hbe26 _ h) ((fun k (hk : k = b7) => Nat.lt_of_le_of_lt (Nat.le_of_eq hk) hk21.lt) _ rfl)) (fun h => ((fun (hx : X0 b7) => Nat.not_lt_of_le hlo45 (hX0 _ hx)))  (hx38 _ h))
  have ap46 : ∀ g, blk (some ⟨b22, 0, none⟩) = some g → ¬ (· = b13) g := fun g e hx => Nat.not_lt_of_le (lowo hbe26 g e) ((fun k (hk : k = b13) => Nat.lt_of_le_of_lt (Nat.le_of_eq hk) hb16.lt) _ hx)
  have hB48 := below_grown hB44 hg9 hB44.size nb
  have hlo49 : w0.heap.size ≤ b13 := lob hbe17 hB48.size
  have ap47 : ¬ (fun k => blk (some ⟨b22, 0, none⟩) = some k ∨ X33 k) b13 := fun h => h.elim (fun h => Nat.not_lt_of_le (lowo hbe26 _ h) ((fun k (hk : k = b13) => Nat.lt_of_le_of_lt (Nat.le_of_eq hk) hb16.lt) _ rfl)) (fun h => ((fun (hx : X0 b13) => Nat.not_lt_of_le hlo49 (hX0 _ hx)))  (hx38 _ h))
  refine gv_sub [2, 3, 5, 11] (σ' := [(2, (.pointer (some ⟨b1, 0, none⟩))), (3, (.pointer (some ⟨b7, 0, none⟩))), (5, (.pointer (some ⟨b13, 0, none⟩))), (11, (.slice (some ⟨b22, 0, none⟩) (List.length ([(a_0.1, a_0.2), (b_1.1, b_1.2)] : List (Bool × (List Int)))) 2))]) (by kernel_rfl) ?_
  refine bindE h0 ?_; clear h0; intro r50 hr51 h0
  refine gv_call (f := 62) (vs := [(.slice (some ⟨b22, 0, none⟩) (List.length ([(a_0.1, a_0.2), (b_1.1, b_1.2)] : List (Bool × (List Int)))) 2)]) (cap := []) _ (by decide) (by rfl) (by rfl) rfl (by rfl) (by rfl) enters62 (integer_check_ok fuel (some ⟨b22, 0, none⟩) 2 ([(a_0.1, a_0.2), (b_1.1, b_1.2)] : List (Bool × (List Int))) w23 (fun k => (fun k => blk (some ⟨b22, 0, none⟩) = some k ∨ X33 k) k) (fun k hk => (fun k (hk : blk (some ⟨b22, 0, none⟩) = some k ∨ X33 k) => hk.elim (fun h => ho28.lt k h) (fun h => hx30 k h)) k hk) ((ho28.rd (Y := fun k => blk (some ⟨b22, 0, none⟩) = some k ∨ X33 k) (fun _ h => .inr h) (fun g e => .inl e)).wide (fun k hk => hk)) r50 hr51) ?_
  rintro v54 w52 ⟨hg53, rfl⟩
  refine ⟨(fun e => by cases e), ?_⟩
  refine gv_sub [2, 3, 5, 12] (σ' := [(2, (.pointer (some ⟨b1, 0, none⟩))), (3, (.pointer (some ⟨b7, 0, none⟩))), (5, (.pointer (some ⟨b13, 0, none⟩))), (12, (.agg #[(.int .i64 r50.1), (.int .i64 r50.2)]))]) (by kernel_rfl) ?_
  refine gv_new (fun b => .pointer (some ⟨b, 0, none⟩)) #[(.int .i64 0), (.int .i64 0)] 29 (by decide) (by rfl) (by rfl) (by kernel_rfl) (by kernel_rfl) ?_
  intro b55 w56 hg57 hb58 hbe59 hz60
  refine ⟨(fun e => by cases e), ?_⟩
  refine gv_sub [2, 3, 5, 6, 12] (σ' := [(2, (.pointer (some ⟨b1, 0, none⟩))), (3, (.pointer (some ⟨b7, 0, none⟩))), (5, (.pointer (some ⟨b13, 0, none⟩))), (6, (.pointer (some ⟨b55, 0, none⟩))), (12, (.agg #[(.int .i64 r50.1), (.int .i64 r50.2)]))]) (by kernel_rfl) ?_
  refine gv_store (t := 29) (b := b55) (off := 0) (v := (.agg #[(.int .i64 r50.1), (.int .i64 r50.2)])) (t' := 29) (cs := #[(.int .i64 0), (.int .i64 0)]) #[(.int .i64 r50.1), (.int .i64 r50.2)] (by decide) (by rfl) (by rfl) (by kernel_rfl) (by kernel_rfl) (by kernel_rfl) (by intro u hu; simp [Value.cells] at hu; rcases hu with rfl | rfl <;> rfl) (show 0 + 2 ≤ 2 by decide) (by rfl) hb58 ?_
  intro w61 hg62 hb63 hz64
  refine ⟨(fun e => by cases e), ?_⟩
  refine gv_sub [2, 3, 5, 6] (σ' := [(2, (.pointer (some ⟨b1, 0, none⟩))), (3, (.pointer (some ⟨b7, 0, none⟩))), (5, (.pointer (some ⟨b13, 0, none⟩))), (6, (.pointer (some ⟨b55, 0, none⟩)))]) (by kernel_rfl) ?_
  refine gv_nil ?_
  refine gv_seq ?_
  refine gv_region ?_
  refine gv_pure 1 [2, 3, 5, 6, 13] (σ' := [(2, (.pointer (some ⟨b1, 0, none⟩))), (3, (.pointer (some ⟨b7, 0, none⟩))), (5, (.pointer (some ⟨b13, 0, none⟩))), (6, (.pointer (some ⟨b55, 0, none⟩))), (13, (.pointer (some ⟨b55, 0, none⟩)))]) (by kernel_rfl) ?_
  refine gv_load (t := 3) (A := ⟨b55, 0, none⟩) (.int .i64 r50.1) [2, 3, 5, 6, 14] (σ' := [(2, (.pointer (some ⟨b1, 0, none⟩))), (3, (.pointer (some ⟨b7, 0, none⟩))), (5, (.pointer (some ⟨b13, 0, none⟩))), (6, (.pointer (some ⟨b55, 0, none⟩))), (14, (.int .i64 r50.1))]) (fun e => by cases e) (by rfl) (by rfl) (by rfl) (by kernel_rfl) (by kernel_rfl) (by kernel_rfl) (inw0 (hb63.cell 0 rfl)) (by kernel_rfl) ?_
  refine gv_pure 1 [2, 3, 5, 6, 15] (σ' := [(2, (.pointer (some ⟨b1, 0, none⟩))), (3, (.pointer (some ⟨b7, 0, none⟩))), (5, (.pointer (some ⟨b13, 0, none⟩))), (6, (.pointer (some ⟨b55, 0, none⟩))), (15, (.bool (r50.1 != 0)))]) (by kernel_rfl) ?_
  refine gv_nil ?_
  refine gv_cond (b := (r50.1 != 0)) (by rfl) (fun hc65 => ?_) (fun hc65 => ?_)
  · replace h0 := ite_t hc65 h0
    refine gv_seq ?_
    refine gv_drawA (by kernel_rfl) ?_
    intro w66 hg67
    refine gv_pre [1] #[false, true, false] 2 (by kernel_rfl) (by rfl) ?_
    clear hc65 hz64 hz60 hb58 hr51 ap47 hB48 ap46 ap43 hB44 ap42 ap40 ap39 hx38 hz36 hx31 hB35 hg34 hz27 hbe26 hb25 hg19 hz18 hg15 hz12 hz6 hbe5 hg3
    refine gv_pure 1 [4, 5, 6] (σ' := [(4, (.int .i64 0)), (5, (.pointer (some ⟨b13, 0, none⟩))), (6, (.pointer (some ⟨b55, 0, none⟩)))]) (by kernel_rfl) ?_
    refine gv_nil ?_
    refine gv_goal fun a hd hs hok => ?_
    refine (?_ : RunA Try.prog _ 45 _ _ 2 #[false, true, false] [(4, (.int .i64 0)), (5, (.pointer (some ⟨b13, 0, none⟩))), (6, (.pointer (some ⟨b55, 0, none⟩)))] w66) a hd hs hok
    clear hd hs hok
    refine gv_stage (Cls w66 []) [0, 1] [(0, some true)] #[true, true, false] 1 (by kernel_rfl) (by rfl) (Cls.refl _ _) ?_
    have hC68 := Cls.refl w66 []
    have hk69 := hb63.grown hg67 nb
    refine gv_loadBox (t := 29) (b := b55) (t' := 29) (fr := (0, 0)) #[(.int .i64 r50.1), (.int .i64 r50.2)] [4, 5, 16] (σ' := [(4, (.int .i64 0)), (5, (.pointer (some ⟨b13, 0, none⟩))), (16, (.agg #[(.int .i64 r50.1), (.int .i64 r50.2)]))]) (fun e => by cases e) (by rfl) (by rfl) (by rfl) (by kernel_rfl) (by kernel_rfl) (by kernel_rfl) (by kernel_rfl) (inw1 fun w' hC' => (hC'.box hk69 nm_nil)) (by kernel_rfl) ?_
    refine gv_nil ?_
    refine gv_goal fun a hd hs hok => ?_
    refine (?_ : RunA Try.prog _ 45 _ _ 1 #[true, true, false] [(4, (.int .i64 0)), (5, (.pointer (some ⟨b13, 0, none⟩))), (16, (.agg #[(.int .i64 r50.1), (.int .i64 r50.2)]))] w66) a hd hs hok
    clear hd hs hok
    refine gv_stage (fun _ => True) [0, 1, 2] [(2, some false)] #[true, true, true] 0 (by kernel_rfl) (by rfl) trivial ?_
    have hg74 := (grown_trans (grown_trans hg24 hg53) hg57)
    have hg75 := (grown_trans hg24 hg53)
    have hk76 := hb16.grown hg75 nb
    have ap77 : ¬ (· = b13) b55 := fun hx => Nat.not_lt_of_le ((lowb hbe59) _ rfl) ((fun k (hk : k = b13) => Nat.lt_of_le_of_lt (Nat.le_of_eq hk) hk76.lt) _ hx)
    have hk78 := ((hb16.grown hg74 nb).grown hg62 (rowne ap77)).grown hg67 nb
    refine gv_store (t := 29) (b := b13) (off := 0) (v := (.agg #[(.int .i64 r50.1), (.int .i64 r50.2)])) (t' := 29) (cs := #[(.int .i64 0), (.int .i64 0)]) #[(.int .i64 r50.1), (.int .i64 r50.2)] (by decide) (by rfl) (by rfl) (by kernel_rfl) (by kernel_rfl) (by kernel_rfl) (by intro u hu; simp [Value.cells] at hu; rcases hu with rfl | rfl <;> rfl) (show 0 + 2 ≤ 2 by decide) (by rfl) hk78 ?_
    intro w70 hg71 hb72 hz73
    refine ⟨(fun _ => trivial), ?_⟩
    refine gv_sub [4, 5] (σ' := [(4, (.int .i64 0)), (5, (.pointer (some ⟨b13, 0, none⟩)))]) (by kernel_rfl) ?_
    refine gv_nil ?_
    refine gv_goal fun a hd hs hok => ?_
    refine (?_ : RunA Try.prog _ 45 _ _ 0 #[true, true, true] [(4, (.int .i64 0)), (5, (.pointer (some ⟨b13, 0, none⟩)))] w70) a hd hs hok
    clear hd hs hok
    refine gv_stageE (by kernel_rfl) ?_
    refine gv_cret ?_
    have e := Option.some.inj h0; subst e
    refine gv_ret (gv_done [(.int .i64 0), (.agg #[(.int .i64 r50.1), (.int .i64 r50.2)])] rfl ⟨rfl, ⟨_, rfl, run_loadVar_row w70 b13 _ 29 _ _ _ hb72 Try.underlying29 rfl (by kernel_rfl)⟩, trivial⟩ ?_)
    have hg79 := (grown_trans hg53 hg57)
    have hB80 := below_grown hB37 hg79 hB37.size nb
    have hB81 := below_grown hB37 hg53 hB37.size nb
    have hlo82 : w0.heap.size ≤ b55 := lob hbe59 hB81.size
    have hB83 := below_grown hB80 hg62 hB80.size (rowlo hlo82)
    have hB84 := below_grown hB83 hg67 hB83.size nb
    have hB85 := below_grown hB84 hg71 hB84.size (rowlo hlo49)
    exact ⟨grown_of_below hB85, rfl⟩
  · replace h0 := ite_f hc65 h0
    refine gv_skip ?_
    refine gv_seq ?_
    refine gv_region ?_
    refine gv_pure 1 [2, 3, 5, 18] (σ' := [(2, (.pointer (some ⟨b1, 0, none⟩))), (3, (.pointer (some ⟨b7, 0, none⟩))), (5, (.pointer (some ⟨b13, 0, none⟩))), (18, (.pointer (some ⟨b1, 1, none⟩)))]) (by kernel_rfl) ?_
    have hg86 := (grown_trans (grown_trans hg24 hg53) hg57)
    have hg87 := (grown_trans hg24 hg53)
    have hk88 := hk20.grown hg87 nb
    have ap89 : ¬ (· = b1) b55 := fun hx => Nat.not_lt_of_le ((lowb hbe59) _ rfl) ((fun k (hk : k = b1) => Nat.lt_of_le_of_lt (Nat.le_of_eq hk) hk88.lt) _ hx)
    have hk90 := (hk20.grown hg86 nb).grown hg62 (rowne ap89)
    refine gv_load (t := 22) (A := ⟨b1, 1, none⟩) (.slice pa0_0 (List.length a_0.2) pc0_0) [2, 3, 5, 19] (σ' := [(2, (.pointer (some ⟨b1, 0, none⟩))), (3, (.pointer (some ⟨b7, 0, none⟩))), (5, (.pointer (some ⟨b13, 0, none⟩))), (19, (.slice pa0_0 (List.length a_0.2) pc0_0))]) (fun e => by cases e) (by rfl) (by rfl) (by rfl) (by kernel_rfl) (by kernel_rfl) (by kernel_rfl) (inw0 (hk90.cell 1 rfl)) (by kernel_rfl) ?_
    refine gv_pure 1 [2, 3, 5, 19, 20] (σ' := [(2, (.pointer (some ⟨b1, 0, none⟩))), (3, (.pointer (some ⟨b7, 0, none⟩))), (5, (.pointer (some ⟨b13, 0, none⟩))), (19, (.slice pa0_0 (List.length a_0.2) pc0_0)), (20, (.pointer (some ⟨b7, 1, none⟩)))]) (by kernel_rfl) ?_
    have hk91 := hk21.grown hg87 nb
    have ap92 : ¬ (· = b7) b55 := fun hx => Nat.not_lt_of_le ((lowb hbe59) _ rfl) ((fun k (hk : k = b7) => Nat.lt_of_le_of_lt (Nat.le_of_eq hk) hk91.lt) _ hx)
    have hk93 := (hk21.grown hg86 nb).grown hg62 (rowne ap92)
    refine gv_load (t := 22) (A := ⟨b7, 1, none⟩) (.slice pa1_0 (List.length b_1.2) pc1_0) [2, 3, 5, 19, 21] (σ' := [(2, (.pointer (some ⟨b1, 0, none⟩))), (3, (.pointer (some ⟨b7, 0, none⟩))), (5, (.pointer (some ⟨b13, 0, none⟩))), (19, (.slice pa0_0 (List.length a_0.2) pc0_0)), (21, (.slice pa1_0 (List.length b_1.2) pc1_0))]) (fun e => by cases e) (by rfl) (by rfl) (by rfl) (by kernel_rfl) (by kernel_rfl) (by kernel_rfl) (inw0 (hk93.cell 1 rfl)) (by kernel_rfl) ?_
    refine bindE h0 ?_; clear h0; intro r94 hr95 h0
    have hg96 := (grown_trans hg53 hg57)
    have hB97 := below_grown hB37 hg96 hB37.size nb
    have hB98 := below_grown hB37 hg53 hB37.size nb
    have hlo99 : w0.heap.size ≤ b55 := lob hbe59 hB98.size
    have hB100 := below_grown hB97 hg62 hB97.size (rowlo hlo99)
    refine gv_call (f := 63) (vs := [(.slice pa0_0 (List.length a_0.2) pc0_0), (.slice pa1_0 (List.length b_1.2) pc1_0)]) (cap := []) _ (by decide) (by rfl) (by rfl) rfl (by rfl) (by rfl) enters63 (natural_Cmp_ok fuel pa0_0 pc0_0 a_0.2 pa1_0 pc1_0 b_1.2 w61 (fun k => X0 k ∨ X0 k) (fun k hk => (hk).elim (fun h => (fun k (hk : X0 k) => Nat.lt_of_lt_of_le (hX0 k hk) hB100.size) k h) (fun h => (fun k (hk : X0 k) => Nat.lt_of_lt_of_le (hX0 k hk) hB100.size) k h)) ((hpa0_0.below hB100 hX0).wide (fun k hk => (.inl hk))) ((hpa1_0.below hB100 hX0).wide (fun k hk => (.inr hk))) r94 hr95) ?_
    rintro v103 w101 ⟨hg102, rfl⟩
    refine ⟨(fun e => by cases e), ?_⟩
    refine gv_pure 3 [2, 3, 5, 23, 24] (σ' := [(2, (.pointer (some ⟨b1, 0, none⟩))), (3, (.pointer (some ⟨b7, 0, none⟩))), (5, (.pointer (some ⟨b13, 0, none⟩))), (23, (.int .i64 r94.1)), (24, (.agg #[(.int .i64 r94.2.1), (.int .i64 r94.2.2)]))]) (by kernel_rfl) ?_
    refine gv_new (fun b => .pointer (some ⟨b, 0, none⟩)) #[(.int .i64 0), (.int .i64 0)] 29 (by decide) (by rfl) (by rfl) (by kernel_rfl) (by kernel_rfl) ?_
    intro b104 w105 hg106 hb107 hbe108 hz109
    refine ⟨(fun e => by cases e), ?_⟩
    refine gv_pure 1 [2, 3, 5, 7, 8, 24] (σ' := [(2, (.pointer (some ⟨b1, 0, none⟩))), (3, (.pointer (some ⟨b7, 0, none⟩))), (5, (.pointer (some ⟨b13, 0, none⟩))), (7, (.int .i64 r94.1)), (8, (.pointer (some ⟨b104, 0, none⟩))), (24, (.agg #[(.int .i64 r94.2.1), (.int .i64 r94.2.2)]))]) (by kernel_rfl) ?_
    refine gv_store (t := 29) (b := b104) (off := 0) (v := (.agg #[(.int .i64 r94.2.1), (.int .i64 r94.2.2)])) (t' := 29) (cs := #[(.int .i64 0), (.int .i64 0)]) #[(.int .i64 r94.2.1), (.int .i64 r94.2.2)] (by decide) (by rfl) (by rfl) (by kernel_rfl) (by kernel_rfl) (by kernel_rfl) (by intro u hu; simp [Value.cells] at hu; rcases hu with rfl | rfl <;> rfl) (show 0 + 2 ≤ 2 by decide) (by rfl) hb107 ?_
    intro w110 hg111 hb112 hz113
    refine ⟨(fun e => by cases e), ?_⟩
    refine gv_sub [2, 3, 5, 7] (σ' := [(2, (.pointer (some ⟨b1, 0, none⟩))), (3, (.pointer (some ⟨b7, 0, none⟩))), (5, (.pointer (some ⟨b13, 0, none⟩))), (7, (.int .i64 r94.1))]) (by kernel_rfl) ?_
    refine gv_nil ?_
    refine gv_seq ?_
    refine gv_block ?_
    refine gv_seq ?_
    refine gv_region ?_
    refine bindE h0 ?_; clear h0; intro j114 h1 h0
    refine gv_cut_ops (J := fun a w115 => Below w0.heap.size w0 w115 ∧ w110.heap.size ≤ w115.heap.size ∧ Box w115 b1 24 #[(.bool a_0.1), (.slice pa0_0 (List.length a_0.2) pc0_0)] ∧ Box w115 b7 24 #[(.bool b_1.1), (.slice pa1_0 (List.length b_1.2) pc1_0)] ∧ Box w115 b13 29 #[(.int .i64 0), (.int .i64 0)] ∧ a.defers = [] ∧ a.tmps.size = 45 ∧ Ok [(2, (.pointer (some ⟨b1, 0, none⟩))), (3, (.pointer (some ⟨b7, 0, none⟩))), (5, (.pointer (some ⟨b13, 0, none⟩))), (7, (.int .i64 r94.1)), (25, (.bool j114))] a.tmps) ?_ ?_
    · skip
      refine gv_pure 1 [2, 3, 5, 7, 26] (σ' := [(2, (.pointer (some ⟨b1, 0, none⟩))), (3, (.pointer (some ⟨b7, 0, none⟩))), (5, (.pointer (some ⟨b13, 0, none⟩))), (7, (.int .i64 r94.1)), (26, (.pointer (some ⟨b1, 0, none⟩)))]) (by kernel_rfl) ?_
      have hg116 := (grown_trans hg102 hg106)
      have hk117 := hk90.grown hg102 nb
      have ap118 : ¬ (· = b1) b104 := fun hx => Nat.not_lt_of_le ((lowb hbe108) _ rfl) ((fun k (hk : k = b1) => Nat.lt_of_le_of_lt (Nat.le_of_eq hk) hk117.lt) _ hx)
      have hk119 := (hk90.grown hg116 nb).grown hg111 (rowne ap118)
      refine gv_load (t := 4) (A := ⟨b1, 0, none⟩) (.bool a_0.1) [2, 3, 5, 7, 27] (σ' := [(2, (.pointer (some ⟨b1, 0, none⟩))), (3, (.pointer (some ⟨b7, 0, none⟩))), (5, (.pointer (some ⟨b13, 0, none⟩))), (7, (.int .i64 r94.1)), (27, (.bool a_0.1))]) (fun e => by cases e) (by rfl) (by rfl) (by rfl) (by kernel_rfl) (by kernel_rfl) (by kernel_rfl) (inw0 (hk119.cell 0 rfl)) (by kernel_rfl) ?_
      refine gv_pure 1 [2, 3, 5, 7, 28] (σ' := [(2, (.pointer (some ⟨b1, 0, none⟩))), (3, (.pointer (some ⟨b7, 0, none⟩))), (5, (.pointer (some ⟨b13, 0, none⟩))), (7, (.int .i64 r94.1)), (28, (.bool a_0.1))]) (by kernel_rfl) ?_
      refine gv_split (s := 28) (g := a_0.1) (by rfl) (fun hc120 => ?_) (fun hc120 => ?_)
      · skip
        replace h1 := ite_t hc120 h1
        refine gv_pure 1 [2, 3, 5, 7, 28, 29] (σ' := [(2, (.pointer (some ⟨b1, 0, none⟩))), (3, (.pointer (some ⟨b7, 0, none⟩))), (5, (.pointer (some ⟨b13, 0, none⟩))), (7, (.int .i64 r94.1)), (28, (.bool true)), (29, (.pointer (some ⟨b7, 0, none⟩)))]) (by kernel_rfl) ?_
        have hk121 := hk93.grown hg102 nb
        have ap122 : ¬ (· = b7) b104 := fun hx => Nat.not_lt_of_le ((lowb hbe108) _ rfl) ((fun k (hk : k = b7) => Nat.lt_of_le_of_lt (Nat.le_of_eq hk) hk121.lt) _ hx)
        have hk123 := (hk93.grown hg116 nb).grown hg111 (rowne ap122)
        refine gv_load (t := 4) (A := ⟨b7, 0, none⟩) (.bool b_1.1) [2, 3, 5, 7, 28, 30] (σ' := [(2, (.pointer (some ⟨b1, 0, none⟩))), (3, (.pointer (some ⟨b7, 0, none⟩))), (5, (.pointer (some ⟨b13, 0, none⟩))), (7, (.int .i64 r94.1)), (28, (.bool true)), (30, (.bool b_1.1))]) (fun e => by cases e) (by rfl) (by rfl) (by rfl) (by kernel_rfl) (by kernel_rfl) (by kernel_rfl) (inw0 (hk123.cell 0 rfl)) (by kernel_rfl) ?_
        refine gv_pure 2 [2, 3, 5, 7, 25] (σ' := [(2, (.pointer (some ⟨b1, 0, none⟩))), (3, (.pointer (some ⟨b7, 0, none⟩))), (5, (.pointer (some ⟨b13, 0, none⟩))), (7, (.int .i64 r94.1)), (25, (.bool b_1.1))]) (by kernel_rfl) ?_
        refine gv_nil ?_
        have e := Option.some.inj h1; subst e
        refine gv_goal fun a hd hs hok => ?_
        obtain ⟨q2, q3, q5, q7, q25, _⟩ := hok
        have hB124 := below_grown hB100 hg116 hB100.size nb
        have hB125 := below_grown hB100 hg102 hB100.size nb
        have hlo126 : w0.heap.size ≤ b104 := lob hbe108 hB125.size
        have hB127 := below_grown hB124 hg111 hB124.size (rowlo hlo126)
        have hk128 := hb16.grown hg87 nb
        have ap129 : ¬ (· = b13) b55 := fun hx => Nat.not_lt_of_le ((lowb hbe59) _ rfl) ((fun k (hk : k = b13) => Nat.lt_of_le_of_lt (Nat.le_of_eq hk) hk128.lt) _ hx)
        have hk130 := ((hk128.grown hg57 nb).grown hg62 (rowne ap129)).grown hg102 nb
        have ap131 : ¬ (· = b13) b104 := fun hx => Nat.not_lt_of_le ((lowb hbe108) _ rfl) ((fun k (hk : k = b13) => Nat.lt_of_le_of_lt (Nat.le_of_eq hk) hk130.lt) _ hx)
        have hk132 := (((hb16.grown hg86 nb).grown hg62 (rowne ap129)).grown hg116 nb).grown hg111 (rowne ap131)
        exact ⟨hB127, (Nat.le_refl _), hk119, hk123, hk132, hd, hs, ⟨q2, q3, q5, q7, q25, trivial⟩⟩
      · skip
        replace h1 := ite_f hc120 h1
        refine gv_pure 4 [2, 3, 5, 7, 25] (σ' := [(2, (.pointer (some ⟨b1, 0, none⟩))), (3, (.pointer (some ⟨b7, 0, none⟩))), (5, (.pointer (some ⟨b13, 0, none⟩))), (7, (.int .i64 r94.1)), (25, (.bool false))]) (by kernel_rfl) ?_
        refine gv_nil ?_
        have e := Option.some.inj h1; subst e
        refine gv_goal fun a hd hs hok => ?_
        obtain ⟨q2, q3, q5, q7, q25, _⟩ := hok
        have hB133 := below_grown hB100 hg116 hB100.size nb
        have hB134 := below_grown hB100 hg102 hB100.size nb
        have hlo135 : w0.heap.size ≤ b104 := lob hbe108 hB134.size
        have hB136 := below_grown hB133 hg111 hB133.size (rowlo hlo135)
        have hk137 := hk93.grown hg102 nb
        have ap138 : ¬ (· = b7) b104 := fun hx => Nat.not_lt_of_le ((lowb hbe108) _ rfl) ((fun k (hk : k = b7) => Nat.lt_of_le_of_lt (Nat.le_of_eq hk) hk137.lt) _ hx)
        have hk139 := (hk93.grown hg116 nb).grown hg111 (rowne ap138)
        have hk140 := hb16.grown hg87 nb
        have ap141 : ¬ (· = b13) b55 := fun hx => Nat.not_lt_of_le ((lowb hbe59) _ rfl) ((fun k (hk : k = b13) => Nat.lt_of_le_of_lt (Nat.le_of_eq hk) hk140.lt) _ hx)
        have hk142 := ((hk140.grown hg57 nb).grown hg62 (rowne ap141)).grown hg102 nb
        have ap143 : ¬ (· = b13) b104 := fun hx => Nat.not_lt_of_le ((lowb hbe108) _ rfl) ((fun k (hk : k = b13) => Nat.lt_of_le_of_lt (Nat.le_of_eq hk) hk142.lt) _ hx)
        have hk144 := (((hb16.grown hg86 nb).grown hg62 (rowne ap141)).grown hg116 nb).grown hg111 (rowne ap143)
        exact ⟨hB136, (Nat.le_refl _), hk119, hk139, hk144, hd, hs, ⟨q2, q3, q5, q7, q25, trivial⟩⟩
    · rintro a w115 ⟨hB145, hz146, hb147, hb148, hb149, hd, hs, hok⟩
      refine (?_ : Run Try.prog _ 45 _ .normal [(2, (.pointer (some ⟨b1, 0, none⟩))), (3, (.pointer (some ⟨b7, 0, none⟩))), (5, (.pointer (some ⟨b13, 0, none⟩))), (7, (.int .i64 r94.1)), (25, (.bool j114))] w115) a hd hs hok
      clear hd hs hok
      clear hz146 hz113 hb112 hg111 hz109 hbe108 hb107 hg106 hg102 hB100 hlo99 hB98 hB97 hg96 hr95 hk93 ap92 hk91 hk90 ap89 hk88 hg87 hg86 hc65 hz64 hb63 hg62 hz60 hbe59 hb58 hg57 hg53 hr51 ap47 hB48 ap46 ap43 hB44 ap42 ap40 ap39 hl29 hx38 ho28 hB37 hx32 hx30 hz36 hx31 hB35 hg34 hz27 hbe26 hb25 hg24 hk21 hk20 hg19 hz18 hb16 hg15 hz12 hz6 hbe5 hg3
      refine gv_cond (b := j114) (by rfl) (fun hc150 => ?_) (fun hc150 => ?_)
      · replace h0 := ite_t hc150 h0
        refine gv_seq ?_
        refine gv_region ?_
        refine gv_pure 4 [4, 5, 34] (σ' := [(4, (.int .i64 (IntKind.i64.wrap (0 - r94.1)))), (5, (.pointer (some ⟨b13, 0, none⟩))), (34, (.agg #[(.int .i64 0), (.int .i64 0)]))]) (by kernel_rfl) ?_
        refine gv_store (t := 29) (b := b13) (off := 0) (v := (.agg #[(.int .i64 0), (.int .i64 0)])) (t' := 29) (cs := #[(.int .i64 0), (.int .i64 0)]) #[(.int .i64 0), (.int .i64 0)] (by decide) (by rfl) (by rfl) (by kernel_rfl) (by kernel_rfl) (by kernel_rfl) (by intro u hu; simp [Value.cells] at hu; rcases hu with rfl | rfl <;> rfl) (show 0 + 2 ≤ 2 by decide) (by rfl) hb149 ?_
        intro w151 hg152 hb153 hz154
        refine ⟨(fun e => by cases e), ?_⟩
        refine gv_sub [4, 5] (σ' := [(4, (.int .i64 (IntKind.i64.wrap (0 - r94.1)))), (5, (.pointer (some ⟨b13, 0, none⟩)))]) (by kernel_rfl) ?_
        refine gv_nil ?_
        refine gv_cret ?_
        have e := Option.some.inj h0; subst e
        refine gv_ret (gv_done [(.int .i64 (IntKind.i64.wrap (0 - r94.1))), (.agg #[(.int .i64 0), (.int .i64 0)])] rfl ⟨rfl, ⟨_, rfl, run_loadVar_row w151 b13 _ 29 _ _ _ hb153 Try.underlying29 rfl (by kernel_rfl)⟩, trivial⟩ ?_)
        have hB155 := below_grown hB145 hg152 hB145.size (rowlo hlo49)
        exact ⟨grown_of_below hB155, rfl⟩
      · replace h0 := ite_f hc150 h0
        refine gv_seq ?_
        refine gv_region ?_
        refine gv_pure 1 [3, 5, 7, 36] (σ' := [(3, (.pointer (some ⟨b7, 0, none⟩))), (5, (.pointer (some ⟨b13, 0, none⟩))), (7, (.int .i64 r94.1)), (36, (.pointer (some ⟨b1, 0, none⟩)))]) (by kernel_rfl) ?_
        refine gv_load (t := 4) (A := ⟨b1, 0, none⟩) (.bool a_0.1) [3, 5, 7, 37] (σ' := [(3, (.pointer (some ⟨b7, 0, none⟩))), (5, (.pointer (some ⟨b13, 0, none⟩))), (7, (.int .i64 r94.1)), (37, (.bool a_0.1))]) (fun e => by cases e) (by rfl) (by rfl) (by rfl) (by kernel_rfl) (by kernel_rfl) (by kernel_rfl) (inw0 (hb147.cell 0 rfl)) (by kernel_rfl) ?_
        refine gv_pure 1 [3, 5, 7, 35] (σ' := [(3, (.pointer (some ⟨b7, 0, none⟩))), (5, (.pointer (some ⟨b13, 0, none⟩))), (7, (.int .i64 r94.1)), (35, (.bool a_0.1))]) (by kernel_rfl) ?_
        refine gv_nil ?_
        refine gv_cond (b := a_0.1) (by rfl) (fun hc156 => ?_) (fun hc156 => ?_)
        · replace h0 := ite_t hc156 h0
          refine gv_seq ?_
          refine gv_region ?_
          refine gv_pure 2 [4, 5, 38] (σ' := [(4, (.int .i64 (-1))), (5, (.pointer (some ⟨b13, 0, none⟩))), (38, (.agg #[(.int .i64 0), (.int .i64 0)]))]) (by kernel_rfl) ?_
          refine gv_store (t := 29) (b := b13) (off := 0) (v := (.agg #[(.int .i64 0), (.int .i64 0)])) (t' := 29) (cs := #[(.int .i64 0), (.int .i64 0)]) #[(.int .i64 0), (.int .i64 0)] (by decide) (by rfl) (by rfl) (by kernel_rfl) (by kernel_rfl) (by kernel_rfl) (by intro u hu; simp [Value.cells] at hu; rcases hu with rfl | rfl <;> rfl) (show 0 + 2 ≤ 2 by decide) (by rfl) hb149 ?_
          intro w157 hg158 hb159 hz160
          refine ⟨(fun e => by cases e), ?_⟩
          refine gv_sub [4, 5] (σ' := [(4, (.int .i64 (-1))), (5, (.pointer (some ⟨b13, 0, none⟩)))]) (by kernel_rfl) ?_
          refine gv_nil ?_
          refine gv_cret ?_
          have e := Option.some.inj h0; subst e
          refine gv_ret (gv_done [(.int .i64 (-1)), (.agg #[(.int .i64 0), (.int .i64 0)])] rfl ⟨rfl, ⟨_, rfl, run_loadVar_row w157 b13 _ 29 _ _ _ hb159 Try.underlying29 rfl (by kernel_rfl)⟩, trivial⟩ ?_)
          have hB161 := below_grown hB145 hg158 hB145.size (rowlo hlo49)
          exact ⟨grown_of_below hB161, rfl⟩
        · replace h0 := ite_f hc156 h0
          refine gv_seq ?_
          refine gv_region ?_
          refine gv_pure 1 [5, 7, 40] (σ' := [(5, (.pointer (some ⟨b13, 0, none⟩))), (7, (.int .i64 r94.1)), (40, (.pointer (some ⟨b7, 0, none⟩)))]) (by kernel_rfl) ?_
          refine gv_load (t := 4) (A := ⟨b7, 0, none⟩) (.bool b_1.1) [5, 7, 41] (σ' := [(5, (.pointer (some ⟨b13, 0, none⟩))), (7, (.int .i64 r94.1)), (41, (.bool b_1.1))]) (fun e => by cases e) (by rfl) (by rfl) (by rfl) (by kernel_rfl) (by kernel_rfl) (by kernel_rfl) (inw0 (hb148.cell 0 rfl)) (by kernel_rfl) ?_
          refine gv_pure 1 [5, 7, 39] (σ' := [(5, (.pointer (some ⟨b13, 0, none⟩))), (7, (.int .i64 r94.1)), (39, (.bool b_1.1))]) (by kernel_rfl) ?_
          refine gv_nil ?_
          refine gv_cond (b := b_1.1) (by rfl) (fun hc162 => ?_) (fun hc162 => ?_)
          · replace h0 := ite_t hc162 h0
            refine gv_seq ?_
            refine gv_region ?_
            refine gv_pure 2 [4, 5, 42] (σ' := [(4, (.int .i64 1)), (5, (.pointer (some ⟨b13, 0, none⟩))), (42, (.agg #[(.int .i64 0), (.int .i64 0)]))]) (by kernel_rfl) ?_
            refine gv_store (t := 29) (b := b13) (off := 0) (v := (.agg #[(.int .i64 0), (.int .i64 0)])) (t' := 29) (cs := #[(.int .i64 0), (.int .i64 0)]) #[(.int .i64 0), (.int .i64 0)] (by decide) (by rfl) (by rfl) (by kernel_rfl) (by kernel_rfl) (by kernel_rfl) (by intro u hu; simp [Value.cells] at hu; rcases hu with rfl | rfl <;> rfl) (show 0 + 2 ≤ 2 by decide) (by rfl) hb149 ?_
            intro w163 hg164 hb165 hz166
            refine ⟨(fun e => by cases e), ?_⟩
            refine gv_sub [4, 5] (σ' := [(4, (.int .i64 1)), (5, (.pointer (some ⟨b13, 0, none⟩)))]) (by kernel_rfl) ?_
            refine gv_nil ?_
            refine gv_cret ?_
            have e := Option.some.inj h0; subst e
            refine gv_ret (gv_done [(.int .i64 1), (.agg #[(.int .i64 0), (.int .i64 0)])] rfl ⟨rfl, ⟨_, rfl, run_loadVar_row w163 b13 _ 29 _ _ _ hb165 Try.underlying29 rfl (by kernel_rfl)⟩, trivial⟩ ?_)
            have hB167 := below_grown hB145 hg164 hB145.size (rowlo hlo49)
            exact ⟨grown_of_below hB167, rfl⟩
          · replace h0 := ite_f hc162 h0
            refine gv_skip ?_
            refine gv_blk ?_
            refine gv_seq ?_
            refine gv_region ?_
            refine gv_pure 3 [4, 5, 44] (σ' := [(4, (.int .i64 r94.1)), (5, (.pointer (some ⟨b13, 0, none⟩))), (44, (.agg #[(.int .i64 0), (.int .i64 0)]))]) (by kernel_rfl) ?_
            refine gv_store (t := 29) (b := b13) (off := 0) (v := (.agg #[(.int .i64 0), (.int .i64 0)])) (t' := 29) (cs := #[(.int .i64 0), (.int .i64 0)]) #[(.int .i64 0), (.int .i64 0)] (by decide) (by rfl) (by rfl) (by kernel_rfl) (by kernel_rfl) (by kernel_rfl) (by intro u hu; simp [Value.cells] at hu; rcases hu with rfl | rfl <;> rfl) (show 0 + 2 ≤ 2 by decide) (by rfl) hb149 ?_
            intro w168 hg169 hb170 hz171
            refine ⟨(fun e => by cases e), ?_⟩
            clear hz171 hc162 hc156 hc150 hb149 hb148 hb147 hlo45 hlo41 hbe17 hbe11 hb10 hg9 hb4
            refine gv_sub [4, 5] (σ' := [(4, (.int .i64 r94.1)), (5, (.pointer (some ⟨b13, 0, none⟩)))]) (by kernel_rfl) ?_
            refine gv_nil ?_
            refine gv_cret ?_
            have e := Option.some.inj h0; subst e
            refine gv_ret (gv_done [(.int .i64 r94.1), (.agg #[(.int .i64 0), (.int .i64 0)])] rfl ⟨rfl, ⟨_, rfl, run_loadVar_row w168 b13 _ 29 _ _ _ hb170 Try.underlying29 rfl (by kernel_rfl)⟩, trivial⟩ ?_)
            have hB172 := below_grown hB145 hg169 hB145.size (rowlo hlo49)
            exact ⟨grown_of_below hB172, rfl⟩

set_option maxHeartbeats 4000000 in
set_option maxRecDepth 100000 in
theorem random_source_below_ok (fuel : Nat) (pb0 : Nat) (s_0 : ((Int × Int))) (pa1_0 : Option Addr) (pc1_0 : Nat) (n_1 : (Bool × (List Int))) (w0 : World) (X0 : Nat → Prop) (hX0 : ∀ k, X0 k → k < w0.heap.size ∧ k ≠ pb0) (hp0 : Box w0 pb0 81 #[(.int .u64 s_0.1), (.int .u64 s_0.2)]) (hpa1_0 : Rd (iE .u32) w0 X0 pa1_0 pc1_0 n_1.2) (r0 : ((Bool × (List Int)) × ((Int × Int)))) (h0 : random_source_below fuel s_0 n_1 = some r0) :
    Calls Try.prog 43 ([(.pointer (some ⟨pb0, 0, none⟩)), (.agg #[(.bool n_1.1), (.slice pa1_0 (List.length n_1.2) pc1_0)])] : List Value).toArray w0 (Ret fun v w' => w0.grownBy w' (some pb0) ∧ ∃ (a0_0r : Option Addr) (c0_0r : Nat), v = tup [(.agg #[(.bool r0.1.1), (.slice a0_0r (List.length r0.1.2) c0_0r)])] ∧ Own (iE .u32) 76 w' (fun _ => False) a0_0r c0_0r r0.1.2 ∧ (∀ g, blk a0_0r = some g → w0.heap.size ≤ g) ∧ Box w' pb0 81 #[(.int .u64 r0.2.1), (.int .u64 r0.2.2)]) := by
  have hB0 : w0.grownBy w0 (some pb0) := grown_refl _ _
  unfold random_source_below at h0
  refine calls_run Try.func43 rfl Try.ntmps43 (by kernel_rfl) ?_
  refine gv_sub [0, 1] (σ' := [(0, (.pointer (some ⟨pb0, 0, none⟩))), (1, (.agg #[(.bool n_1.1), (.slice pa1_0 (List.length n_1.2) pc1_0)]))]) (by kernel_rfl) ?_
  have hpl0 := hp0.lt
  refine gv_seq ?_
  refine gv_region ?_
  refine gv_new (fun b => .pointer (some ⟨b, 0, none⟩)) #[(.bool n_1.1), (.slice pa1_0 (List.length n_1.2) pc1_0)] 24 (by decide) (by rfl) (by rfl) (by kernel_rfl) (by kernel_rfl) ?_
  intro b1 w2 hg3 hb4 hbe5 hz6
  refine ⟨(fun e => by cases e), ?_⟩
  refine gv_sub [0, 3] (σ' := [(0, (.pointer (some ⟨pb0, 0, none⟩))), (3, (.pointer (some ⟨b1, 0, none⟩)))]) (by kernel_rfl) ?_
  refine gv_new (fun b => .pointer (some ⟨b, 0, none⟩)) #[(.bool false), (.slice none (List.length ([] : List Int)) 0)] 24 (by decide) (by rfl) (by rfl) (by kernel_rfl) (by kernel_rfl) ?_
  intro b7 w8 hg9 hb10 hbe11 hz12
  refine ⟨(fun e => by cases e), ?_⟩
  refine gv_sub [0, 3, 4] (σ' := [(0, (.pointer (some ⟨pb0, 0, none⟩))), (3, (.pointer (some ⟨b1, 0, none⟩))), (4, (.pointer (some ⟨b7, 0, none⟩)))]) (by kernel_rfl) ?_
  refine gv_nil ?_
  refine gv_seq ?_
  refine gv_anyM [] (by kernel_rfl) (List.range 10) [] (by kernel_rfl) ?_
  intro w13 hg14
  have hg16 := (grown_trans (grown_trans hg3 hg9) hg14)
  have hk17 := hp0.grown hg16 nb
  have hM15 : ∀ k, (· = pb0) k → k < w13.heap.size := (fun k (hk : k = pb0) => Nat.lt_of_le_of_lt (Nat.le_of_eq hk) hk17.lt)
  have hg19 := (grown_trans hg9 hg14)
  have hk20 := hb4.grown hg19 nb
  have hM18 : ∀ k, (· = b1) k → k < w13.heap.size := (fun k (hk : k = b1) => Nat.lt_of_le_of_lt (Nat.le_of_eq hk) hk20.lt)
  have hk22 := hb10.grown hg14 nb
  have hM21 : ∀ k, (· = b7) k → k < w13.heap.size := (fun k (hk : k = b7) => Nat.lt_of_le_of_lt (Nat.le_of_eq hk) hk22.lt)
  refine bindE h0 ?_; clear h0; intro r36 hr37 h0
  refine bindE h0 ?_; clear h0; intro r77 hr78 h0
  refine gv_thrs [0] [(1, []), (2, [3, 4, 5])] [⟨6, 5, 24, #[(.bool false), (.slice none (List.length ([] : List Int)) 0)], some (8, 16)⟩, ⟨7, 6, 29, #[(.int .i64 0), (.int .i64 0)], some (9, 17)⟩] (fun p => match p with | 0 => [0, 3, 4, 13] | 1 => [0, 3, 4, 13, 14] | _ => [0, 3, 4, 16, 17]) (fun p σ B w => match p with | 0 => (σ = [(0, (.pointer (some ⟨pb0, 0, none⟩))), (3, (.pointer (some ⟨b1, 0, none⟩))), (4, (.pointer (some ⟨b7, 0, none⟩))), (13, (.agg #[(.bool n_1.1), (.slice pa1_0 (List.length n_1.2) pc1_0)]))] ∧ w0.grownBy w (some pb0) ∧ w13.heap.size ≤ w.heap.size ∧ Box w pb0 81 #[(.int .u64 s_0.1), (.int .u64 s_0.2)] ∧ Box w b1 24 #[(.bool n_1.1), (.slice pa1_0 (List.length n_1.2) pc1_0)] ∧ Box w b7 24 #[(.bool false), (.slice none (List.length ([] : List Int)) 0)]) | 1 => (∃ (a41 : Option Addr), ∃ (c42 : Nat), σ = [(0, (.pointer (some ⟨pb0, 0, none⟩))), (3, (.pointer (some ⟨b1, 0, none⟩))), (4, (.pointer (some ⟨b7, 0, none⟩))), (13, (.agg #[(.bool n_1.1), (.slice pa1_0 (List.length n_1.2) pc1_0)])), (14, (.agg #[(.bool r36.1), (.slice a41 (List.length r36.2) c42)]))] ∧ w0.grownBy w (some pb0) ∧ w13.heap.size ≤ w.heap.size ∧ Box w pb0 81 #[(.int .u64 s_0.1), (.int .u64 s_0.2)] ∧ Box w b1 24 #[(.bool n_1.1), (.slice pa1_0 (List.length n_1.2) pc1_0)] ∧ Box w b7 24 #[(.bool false), (.slice none (List.length ([] : List Int)) 0)] ∧ Own (iE .u32) 76 w (fun _ => False) a41 c42 r36.2 ∧ (∀ g, blk a41 = some g → w0.heap.size ≤ g) ∧ (∀ k, (fun k => blk a41 = some k) k → B k → False) ∧ (∀ g, blk a41 = some g → ¬ (· = pb0) g) ∧ (¬ (fun k => blk a41 = some k) pb0) ∧ (∀ g, blk a41 = some g → ¬ (· = b1) g) ∧ (¬ (fun k => blk a41 = some k) b1) ∧ (∀ g, blk a41 = some g → ¬ (· = b7) g) ∧ (¬ (fun k => blk a41 = some k) b7)) | _ => (∃ (a82 : Option Addr), ∃ (c83 : Nat), ∃ (X85 : Nat → Prop), σ = [(0, (.pointer (some ⟨pb0, 0, none⟩))), (3, (.pointer (some ⟨b1, 0, none⟩))), (4, (.pointer (some ⟨b7, 0, none⟩))), (16, (.agg #[(.bool r77.1.1), (.slice a82 (List.length r77.1.2) c83)])), (17, (.agg #[(.int .i64 r77.2.1), (.int .i64 r77.2.2)]))] ∧ w0.grownBy w (some pb0) ∧ w13.heap.size ≤ w.heap.size ∧ Box w pb0 81 #[(.int .u64 s_0.1), (.int .u64 s_0.2)] ∧ Box w b1 24 #[(.bool n_1.1), (.slice pa1_0 (List.length n_1.2) pc1_0)] ∧ Box w b7 24 #[(.bool false), (.slice none (List.length ([] : List Int)) 0)] ∧ Rd (iE .u32) w X85 a82 c83 r77.1.2 ∧ (∀ k, X85 k → k < w.heap.size) ∧ (∀ k, X85 k → X0 k ∨ w0.heap.size ≤ k) ∧ (∀ k, X85 k → B k → False) ∧ (¬ X85 b1) ∧ (¬ X85 b7))) (by kernel_rfl) (by kernel_rfl) (by decide) ⟨⟨rfl, rfl, by decide, fun _ _ => by kernel_rfl⟩, ⟨rfl, rfl, by decide, fun _ _ => by kernel_rfl⟩, trivial⟩ ⟨(fun s x h => by cases h; exact ⟨rfl, rfl, by kernel_rfl, by kernel_rfl, fun b v => ⟨by kernel_rfl, by kernel_rfl⟩⟩), (fun s x h => by cases h; exact ⟨rfl, rfl, by kernel_rfl, by kernel_rfl, fun b v => ⟨by kernel_rfl, by kernel_rfl⟩⟩), trivial⟩ ?_ ?_ ?_ ?_ ?_ ?_
  · rintro σ B w ⟨a82, c83, X85, rfl, hB203, hz204, hk205, hk206, hk207, hk208, hhX209, hsX210, hnb211, hap212, hap213⟩
    exact ⟨(fun s x h => by cases h; exact ⟨(.agg #[(.bool r77.1.1), (.slice a82 (List.length r77.1.2) c83)]), rfl, rfl, by intro u hu; simp [Value.cells] at hu; rcases hu with rfl | rfl <;> rfl⟩), (fun s x h => by cases h; exact ⟨(.agg #[(.int .i64 r77.2.1), (.int .i64 r77.2.2)]), rfl, rfl, by intro u hu; simp [Value.cells] at hu; rcases hu with rfl | rfl <;> rfl⟩), trivial⟩
  · intro p
    rcases p with _ | _ | p
    · rintro σ B103 w101 w102 b105 ⟨rfl, hB109, hz110, hk111, hk112, hk113⟩ hBl104 hC hbe106 hg107 hz108
      have hB114 := grown_step hB109 hg107  nb
      have hz115 : w13.heap.size ≤ w102.heap.size := (Nat.le_trans hz110 hg107.size)
      have hk116 := hk111.grown hg107 nb
      have hk117 := hk112.grown hg107 nb
      have hk118 := hk113.grown hg107 nb
      exact ⟨rfl, hB114, hz115, hk116, hk117, hk118⟩
    · rintro σ B121 w119 w120 b123 ⟨a41, c42, rfl, hB127, hz128, hk129, hk130, hk131, hk132, hlo133, hnb134, hap135, hap136, hap137, hap138, hap139, hap140⟩ hBl122 hC hbe124 hg125 hz126
      have hB141 := grown_step hB127 hg125  nb
      have hz142 : w13.heap.size ≤ w120.heap.size := (Nat.le_trans hz128 hg125.size)
      have hk143 := hk129.grown hg125 nb
      have hk144 := hk130.grown hg125 nb
      have hk145 := hk131.grown hg125 nb
      have hk146 := hk132.grown hg125 (fun _ h => h.elim) nb
      exact ⟨a41, c42, rfl, hB141, hz142, hk143, hk144, hk145, hk146, hlo133, (fun k hk hb => hb.elim (fun hb => hnb134 k hk hb) (fun e => Nat.ne_of_lt ((fun k (hk : blk a41 = some k) => hk132.lt k hk) k hk) (e.trans hbe124))), hap135, hap136, hap137, hap138, hap139, hap140⟩
    · rintro σ B149 w147 w148 b151 ⟨a82, c83, X85, rfl, hB155, hz156, hk157, hk158, hk159, hk160, hhX161, hsX162, hnb163, hap164, hap165⟩ hBl150 hC hbe152 hg153 hz154
      have hB166 := grown_step hB155 hg153  nb
      have hz167 : w13.heap.size ≤ w148.heap.size := (Nat.le_trans hz156 hg153.size)
      have hk168 := hk157.grown hg153 nb
      have hk169 := hk158.grown hg153 nb
      have hk170 := hk159.grown hg153 nb
      have hk171 := hk160.grown hg153 hhX161 nb
      have hx172 := ltx hhX161 hg153.size
      exact ⟨a82, c83, X85, rfl, hB166, hz167, hk168, hk169, hk170, hk171, hx172, hsX162, (fun k hk hb => hb.elim (fun hb => hnb163 k hk hb) (fun e => Nat.ne_of_lt (hhX161 k hk) (e.trans hbe152))), hap164, hap165⟩
  · rintro σ B175 w173 w174 b177 ⟨a82, c83, X85, rfl, hB181, hz182, hk183, hk184, hk185, hk186, hhX187, hsX188, hnb189, hap190, hap191⟩ hBl176 hC hBb178 hg179 hz180
    have hB193 := grown_step hB0 hg16  nb
    have hB192 := grown_step hB181 hg179  (rowppr (Nat.le_trans hB193.size (hBl176 _ hBb178).1))
    have : w173.heap.size ≤ w174.heap.size := hg179.size
    have hr194 : ∀ g, some b177 = some g → ¬ (· = pb0) g := fun g e h => by cases e; exact (fun k (h : (· = pb0) k) (hb : B175 k) => Nat.not_lt_of_le (hBl176 k hb).1 (hM15 k h)) _ h hBb178
    have hk195 := hk183.grown hg179 hr194
    have hr196 : ∀ g, some b177 = some g → ¬ (· = b1) g := fun g e h => by cases e; exact (fun k (h : (· = b1) k) (hb : B175 k) => Nat.not_lt_of_le (hBl176 k hb).1 (hM18 k h)) _ h hBb178
    have hk197 := hk184.grown hg179 hr196
    have hr198 : ∀ g, some b177 = some g → ¬ (· = b7) g := fun g e h => by cases e; exact (fun k (h : (· = b7) k) (hb : B175 k) => Nat.not_lt_of_le (hBl176 k hb).1 (hM21 k h)) _ h hBb178
    have hk199 := hk185.grown hg179 hr198
    have hr200 : ∀ g, some b177 = some g → ¬ X85 g := fun g e h => by cases e; exact hnb189 _ h hBb178
    have hk201 := hk186.grown hg179 hhX187 hr200
    have hz202 : w13.heap.size ≤ w174.heap.size := (Nat.le_trans hz182 hg179.size)
    exact ⟨a82, c83, X85, rfl, hB192, hz202, hk195, hk197, hk199, hk201, (fun k hk => Nat.lt_of_lt_of_le (hhX187 k hk) hg179.size), hsX188, hnb189, hap190, hap191⟩
  · intro p m qs' hp
    rcases p with _ | _ | p
    · cases (show some ((1, []) : Nat × List Nat) = some (m, qs') from hp)
      rintro σ B27 w26 es28 ⟨rfl, hB31, hz32, hk33, hk34, hk35⟩ hBl29 hC30
      refine gv_sub [0, 3, 4, 5, 6, 13] (σ' := [(0, (.pointer (some ⟨pb0, 0, none⟩))), (3, (.pointer (some ⟨b1, 0, none⟩))), (4, (.pointer (some ⟨b7, 0, none⟩))), (5, (es28 0)), (6, (es28 1)), (13, (.agg #[(.bool n_1.1), (.slice pa1_0 (List.length n_1.2) pc1_0)]))]) (by kernel_rfl) ?_
      refine gv_call (f := 47) (vs := [(.int .i64 1)]) (cap := []) _ (by decide) (by rfl) (by rfl) rfl (by rfl) (by rfl) enters47 (integer_Of_ok fuel 1 w26  r36 hr37) ?_
      rintro v40 w38 ⟨hg39, a41, c42, rfl, ho43, hl44⟩
      refine ⟨(fun _ => hC30.grown hg39 nb), ?_⟩
      have hl45 : ∀ g, blk a41 = some g → w0.heap.size ≤ g := fun g e => Nat.le_trans hB31.size (hl44 g e)
      have nb46 : ∀ k, (fun k => blk a41 = some k) k → B27 k → False := fun k hk hb => (fun h => Nat.not_lt_of_le (hl44 k h) (hBl29 k hb).2) hk
      refine gv_sub [0, 3, 4, 5, 6, 13, 14] (σ' := [(0, (.pointer (some ⟨pb0, 0, none⟩))), (3, (.pointer (some ⟨b1, 0, none⟩))), (4, (.pointer (some ⟨b7, 0, none⟩))), (5, (es28 0)), (6, (es28 1)), (13, (.agg #[(.bool n_1.1), (.slice pa1_0 (List.length n_1.2) pc1_0)])), (14, (.agg #[(.bool r36.1), (.slice a41 (List.length r36.2) c42)]))]) (by kernel_rfl) ?_
      refine gv_nil ?_
      refine gv_goal fun a hd hs hok => ?_
      obtain ⟨q0, q3, q4, q5, q6, q13, q14, _⟩ := hok
      have hB47 := grown_step hB31 hg39  nb
      have hz48 : w13.heap.size ≤ w38.heap.size := (Nat.le_trans hz32 hg39.size)
      have hk49 := hk33.grown hg39 nb
      have hk50 := hk34.grown hg39 nb
      have hk51 := hk35.grown hg39 nb
      have ap52 : ∀ g, blk a41 = some g → ¬ (· = pb0) g := fun g e hx => Nat.not_lt_of_le ((show ∀ k, blk a41 = some k → w26.heap.size ≤ k from hl44) g e) ((fun k (hk : k = pb0) => Nat.lt_of_le_of_lt (Nat.le_of_eq hk) hk33.lt) _ hx)
      have ap53 : ¬ (fun k => blk a41 = some k) pb0 := fun hx => Nat.not_lt_of_le ((show ∀ k, blk a41 = some k → w26.heap.size ≤ k from hl44) _ hx) ((fun k (hk : k = pb0) => Nat.lt_of_le_of_lt (Nat.le_of_eq hk) hk33.lt) _ rfl)
      have ap54 : ∀ g, blk a41 = some g → ¬ (· = b1) g := fun g e hx => Nat.not_lt_of_le ((show ∀ k, blk a41 = some k → w26.heap.size ≤ k from hl44) g e) ((fun k (hk : k = b1) => Nat.lt_of_le_of_lt (Nat.le_of_eq hk) hk34.lt) _ hx)
      have ap55 : ¬ (fun k => blk a41 = some k) b1 := fun hx => Nat.not_lt_of_le ((show ∀ k, blk a41 = some k → w26.heap.size ≤ k from hl44) _ hx) ((fun k (hk : k = b1) => Nat.lt_of_le_of_lt (Nat.le_of_eq hk) hk34.lt) _ rfl)
      have ap56 : ∀ g, blk a41 = some g → ¬ (· = b7) g := fun g e hx => Nat.not_lt_of_le ((show ∀ k, blk a41 = some k → w26.heap.size ≤ k from hl44) g e) ((fun k (hk : k = b7) => Nat.lt_of_le_of_lt (Nat.le_of_eq hk) hk35.lt) _ hx)
      have ap57 : ¬ (fun k => blk a41 = some k) b7 := fun hx => Nat.not_lt_of_le ((show ∀ k, blk a41 = some k → w26.heap.size ≤ k from hl44) _ hx) ((fun k (hk : k = b7) => Nat.lt_of_le_of_lt (Nat.le_of_eq hk) hk35.lt) _ rfl)
      exact ⟨⟨_, hg39, fun _ e => by cases e⟩, hd, hs, [(0, (.pointer (some ⟨pb0, 0, none⟩))), (3, (.pointer (some ⟨b1, 0, none⟩))), (4, (.pointer (some ⟨b7, 0, none⟩))), (13, (.agg #[(.bool n_1.1), (.slice pa1_0 (List.length n_1.2) pc1_0)])), (14, (.agg #[(.bool r36.1), (.slice a41 (List.length r36.2) c42)]))], rfl, ⟨a41, c42, rfl, hB47, hz48, hk49, hk50, hk51, ho43, hl45, nb46, ap52, ap53, ap54, ap55, ap56, ap57⟩, ⟨q0, q3, q4, q13, q14, q5, q6, trivial⟩⟩
    · cases (show some ((2, [3, 4, 5]) : Nat × List Nat) = some (m, qs') from hp)
      rintro σ B59 w58 es60 ⟨a41, c42, rfl, hB63, hz64, hk65, hk66, hk67, hk68, hlo69, hnb70, hap71, hap72, hap73, hap74, hap75, hap76⟩ hBl61 hC62
      refine gv_sub [0, 3, 4, 5, 6, 13, 14] (σ' := [(0, (.pointer (some ⟨pb0, 0, none⟩))), (3, (.pointer (some ⟨b1, 0, none⟩))), (4, (.pointer (some ⟨b7, 0, none⟩))), (5, (es60 0)), (6, (es60 1)), (13, (.agg #[(.bool n_1.1), (.slice pa1_0 (List.length n_1.2) pc1_0)])), (14, (.agg #[(.bool r36.1), (.slice a41 (List.length r36.2) c42)]))]) (by kernel_rfl) ?_
      refine gv_call (f := 45) (vs := [(.agg #[(.bool n_1.1), (.slice pa1_0 (List.length n_1.2) pc1_0)]), (.agg #[(.bool r36.1), (.slice a41 (List.length r36.2) c42)])]) (cap := []) _ (by decide) (by rfl) (by rfl) rfl (by rfl) (by rfl) enters45 (integer_Sub_ok fuel pa1_0 pc1_0 (n_1.1, n_1.2) a41 c42 (r36.1, r36.2) w58 (fun k => X0 k ∨ (fun k => blk a41 = some k) k) (fun k hk => (hk).elim (fun h => (fun k (hk : X0 k) => Nat.lt_of_lt_of_le (hX0 k hk).1 hB63.size) k h) (fun h => (fun k (hk : blk a41 = some k) => hk68.lt k hk) k h)) ((hpa1_0.grown hB63 (fun k hk => (hX0 k hk).1) (fun g e hk => by cases e; exact (hX0 _ hk).2 rfl)).wide (fun k hk => (.inl hk))) ((hk68.rd (Y := fun k => blk a41 = some k) (fun _ h => h.elim) (fun g e => e)).wide (fun k hk => (.inr hk))) r77 hr78) ?_
      rintro v81 w79 ⟨hg80, a82, c83, X85, rfl, ho84, hx86⟩
      refine ⟨(fun _ => hC62.grown hg80 nb), ?_⟩
      have hx87 : ∀ k, X85 k → k < w79.heap.size := fun k hk => (hx86 k hk).1
      have hx88 : ∀ k, X85 k → X0 k ∨ w0.heap.size ≤ k := fun k hk => (hx86 k hk).2.elim (fun h => (h).elim (fun h => (fun k (hk : X0 k) => Or.inl hk) k h) (fun h => (fun k (hk : blk a41 = some k) => Or.inr (hlo69 k hk)) k h)) (fun h => .inr (Nat.le_trans hB63.size h))
      have hB90 := grown_step hB0 hg16  nb
      have nb89 : ∀ k, X85 k → B59 k → False := fun k hk hb => (fun h => (hx86 k h).2.elim (fun h => (h).elim (fun h => (fun k (h : X0 k) (hb : B59 k) => Nat.not_lt_of_le (hBl61 k hb).1 ((fun k (hk : X0 k) => Nat.lt_of_lt_of_le (hX0 k hk).1 hB90.size) k h)) k h hb) (fun h => hnb70 k h hb)) (fun h => Nat.not_lt_of_le h (hBl61 k hb).2)) hk
      refine gv_pure 3 [0, 3, 4, 5, 6, 16, 17] (σ' := [(0, (.pointer (some ⟨pb0, 0, none⟩))), (3, (.pointer (some ⟨b1, 0, none⟩))), (4, (.pointer (some ⟨b7, 0, none⟩))), (5, (es60 0)), (6, (es60 1)), (16, (.agg #[(.bool r77.1.1), (.slice a82 (List.length r77.1.2) c83)])), (17, (.agg #[(.int .i64 r77.2.1), (.int .i64 r77.2.2)]))]) (by kernel_rfl) ?_
      refine gv_nil ?_
      refine gv_goal fun a hd hs hok => ?_
      obtain ⟨q0, q3, q4, q5, q6, q16, q17, _⟩ := hok
      have hB91 := grown_step hB63 hg80  nb
      have hz92 : w13.heap.size ≤ w79.heap.size := (Nat.le_trans hz64 hg80.size)
      have hk93 := hk65.grown hg80 nb
      have hk94 := hk66.grown hg80 nb
      have hk95 := hk67.grown hg80 nb
      have hlo96 : w0.heap.size ≤ b1 := lob hbe5 hB0.size
      have ap97 : ¬ X85 b1 := fun h => ((hx86 _ h).2.elim (fun h => (h).elim (fun h => ((fun (hx : X0 b1) => Nat.not_lt_of_le hlo96 (hX0 _ hx).1))  h) (fun h => (hap74)  h)) (fun h => Nat.not_lt_of_le h (hk66.lt)))
      have hB98 := grown_step hB0 hg3  nb
      have hlo99 : w0.heap.size ≤ b7 := lob hbe11 hB98.size
      have ap100 : ¬ X85 b7 := fun h => ((hx86 _ h).2.elim (fun h => (h).elim (fun h => ((fun (hx : X0 b7) => Nat.not_lt_of_le hlo99 (hX0 _ hx).1))  h) (fun h => (hap76)  h)) (fun h => Nat.not_lt_of_le h (hk67.lt)))
      exact ⟨⟨_, hg80, fun _ e => by cases e⟩, hd, hs, [(0, (.pointer (some ⟨pb0, 0, none⟩))), (3, (.pointer (some ⟨b1, 0, none⟩))), (4, (.pointer (some ⟨b7, 0, none⟩))), (16, (.agg #[(.bool r77.1.1), (.slice a82 (List.length r77.1.2) c83)])), (17, (.agg #[(.int .i64 r77.2.1), (.int .i64 r77.2.2)]))], rfl, ⟨a82, c83, X85, rfl, hB91, hz92, hk93, hk94, hk95, ho84, hx87, hx88, nb89, ap97, ap100⟩, ⟨q0, q3, q4, q16, q17, q5, q6, trivial⟩⟩
    · simp at hp
  · skip
    have hC24 := Cls.refl w13 []
    refine gv_sub [0, 3, 4] (σ' := [(0, (.pointer (some ⟨pb0, 0, none⟩))), (3, (.pointer (some ⟨b1, 0, none⟩))), (4, (.pointer (some ⟨b7, 0, none⟩)))]) (by kernel_rfl) ?_
    refine gv_loadBox (t := 24) (b := b1) (t' := 24) (fr := (0, 0)) #[(.bool n_1.1), (.slice pa1_0 (List.length n_1.2) pc1_0)] [0, 3, 4, 13] (σ' := [(0, (.pointer (some ⟨pb0, 0, none⟩))), (3, (.pointer (some ⟨b1, 0, none⟩))), (4, (.pointer (some ⟨b7, 0, none⟩))), (13, (.agg #[(.bool n_1.1), (.slice pa1_0 (List.length n_1.2) pc1_0)]))]) (fun e => by cases e) (by rfl) (by rfl) (by rfl) (by kernel_rfl) (by kernel_rfl) (by kernel_rfl) (by kernel_rfl) (inw1 fun w' hC' => (hC'.box hk20 nm_nil)) (by kernel_rfl) ?_
    refine gv_nil ?_
    refine gv_goal fun a hd hs hok => ?_
    obtain ⟨q0, q3, q4, q13, _⟩ := hok
    have hB25 := grown_step hB0 hg16  nb
    exact ⟨rfl, hd, hs, [(0, (.pointer (some ⟨pb0, 0, none⟩))), (3, (.pointer (some ⟨b1, 0, none⟩))), (4, (.pointer (some ⟨b7, 0, none⟩))), (13, (.agg #[(.bool n_1.1), (.slice pa1_0 (List.length n_1.2) pc1_0)]))], rfl, ⟨rfl, hB25, (Nat.le_refl _), hk17, hk20, hk22⟩, ⟨q0, q3, q4, q13, trivial⟩⟩
  · rintro σ B215 w214 bf218 ⟨a82, c83, X85, rfl, hB221, hz222, hk223, hk224, hk225, hk226, hhX227, hsX228, hnb229, hap230, hap231⟩ hBl216 hC217 hb219 hne220
    obtain ⟨hBb232, hb233⟩ : B215 (bf218 0) ∧ Box w214 (bf218 0) 24 #[(.bool r77.1.1), (.slice a82 (List.length r77.1.2) c83)] := hb219 0 _ rfl
    have hlo234 := (hBl216 _ hBb232).1
    have ap235 : ¬ (· = pb0) (bf218 0) := fun h => (fun k (h : (· = pb0) k) (hb : B215 k) => Nat.not_lt_of_le (hBl216 k hb).1 (hM15 k h)) _ h hBb232
    have ap236 : ¬ (· = b1) (bf218 0) := fun h => (fun k (h : (· = b1) k) (hb : B215 k) => Nat.not_lt_of_le (hBl216 k hb).1 (hM18 k h)) _ h hBb232
    have ap237 : ¬ (· = b7) (bf218 0) := fun h => (fun k (h : (· = b7) k) (hb : B215 k) => Nat.not_lt_of_le (hBl216 k hb).1 (hM21 k h)) _ h hBb232
    have ap238 : ¬ X85 (bf218 0) := fun h => hnb229 _ h hBb232
    obtain ⟨hBb239, hb240⟩ : B215 (bf218 1) ∧ Box w214 (bf218 1) 29 #[(.int .i64 r77.2.1), (.int .i64 r77.2.2)] := hb219 1 _ rfl
    have hlo241 := (hBl216 _ hBb239).1
    have ap242 : (bf218 0) ≠ (bf218 1) := hne220 0 1 (by decide) (by decide) (by decide)
    have ap243 : ¬ (· = pb0) (bf218 1) := fun h => (fun k (h : (· = pb0) k) (hb : B215 k) => Nat.not_lt_of_le (hBl216 k hb).1 (hM15 k h)) _ h hBb239
    have ap244 : ¬ (· = b1) (bf218 1) := fun h => (fun k (h : (· = b1) k) (hb : B215 k) => Nat.not_lt_of_le (hBl216 k hb).1 (hM18 k h)) _ h hBb239
    have ap245 : ¬ (· = b7) (bf218 1) := fun h => (fun k (h : (· = b7) k) (hb : B215 k) => Nat.not_lt_of_le (hBl216 k hb).1 (hM21 k h)) _ h hBb239
    have ap246 : ¬ X85 (bf218 1) := fun h => hnb229 _ h hBb239
    have hB248 := grown_step hB0 hg16  nb
    have hz247 := hB248.size
    refine gv_sub [0, 3, 4, 5] (σ' := [(0, (.pointer (some ⟨pb0, 0, none⟩))), (3, (.pointer (some ⟨b1, 0, none⟩))), (4, (.pointer (some ⟨b7, 0, none⟩))), (5, (.pointer (some ⟨(bf218 0), 0, none⟩)))]) (by kernel_rfl) ?_
    refine gv_seq ?_
    refine gv_region ?_
    clear hz247 ap246 ap245 ap244 ap243 ap242 hlo241 hb240 hb219 hC217 hz222 hg19 hg16 hg14 hz12 hb10 hg9 hz6
    refine gv_loadBox (t := 24) (b := (bf218 0)) (t' := 24) (fr := (0, 0)) #[(.bool r77.1.1), (.slice a82 (List.length r77.1.2) c83)] [0, 3, 4, 19] (σ' := [(0, (.pointer (some ⟨pb0, 0, none⟩))), (3, (.pointer (some ⟨b1, 0, none⟩))), (4, (.pointer (some ⟨b7, 0, none⟩))), (19, (.agg #[(.bool r77.1.1), (.slice a82 (List.length r77.1.2) c83)]))]) (fun e => by cases e) (by rfl) (by rfl) (by rfl) (by kernel_rfl) (by kernel_rfl) (by kernel_rfl) (by kernel_rfl) (inw0 hb233) (by kernel_rfl) ?_
    refine bindE h0 ?_; clear h0; intro r249 hr250 h0
    refine gv_call (f := 60) (vs := [(.agg #[(.bool r77.1.1), (.slice a82 (List.length r77.1.2) c83)])]) (cap := []) _ (by decide) (by rfl) (by rfl) rfl (by rfl) (by rfl) enters60 (integer_Bits_ok fuel a82 c83 (r77.1.1, r77.1.2) w214 (fun k => X85 k) (fun k hk => hhX227 k hk) (hk226.wide (fun k hk => hk)) r249 hr250) ?_
    rintro v253 w251 ⟨hg252, rfl⟩
    refine ⟨(fun e => by cases e), ?_⟩
    refine gv_pure 3 [0, 3, 4, 21, 22] (σ' := [(0, (.pointer (some ⟨pb0, 0, none⟩))), (3, (.pointer (some ⟨b1, 0, none⟩))), (4, (.pointer (some ⟨b7, 0, none⟩))), (21, (.int .i64 r249.1)), (22, (.agg #[(.int .i64 r249.2.1), (.int .i64 r249.2.2)]))]) (by kernel_rfl) ?_
    refine gv_new (fun b => .pointer (some ⟨b, 0, none⟩)) #[(.int .i64 0), (.int .i64 0)] 29 (by decide) (by rfl) (by rfl) (by kernel_rfl) (by kernel_rfl) ?_
    intro b254 w255 hg256 hb257 hbe258 hz259
    refine ⟨(fun e => by cases e), ?_⟩
    refine gv_pure 1 [0, 3, 4, 7, 8, 22] (σ' := [(0, (.pointer (some ⟨pb0, 0, none⟩))), (3, (.pointer (some ⟨b1, 0, none⟩))), (4, (.pointer (some ⟨b7, 0, none⟩))), (7, (.int .i64 r249.1)), (8, (.pointer (some ⟨b254, 0, none⟩))), (22, (.agg #[(.int .i64 r249.2.1), (.int .i64 r249.2.2)]))]) (by kernel_rfl) ?_
    refine gv_store (t := 29) (b := b254) (off := 0) (v := (.agg #[(.int .i64 r249.2.1), (.int .i64 r249.2.2)])) (t' := 29) (cs := #[(.int .i64 0), (.int .i64 0)]) #[(.int .i64 r249.2.1), (.int .i64 r249.2.2)] (by decide) (by rfl) (by rfl) (by kernel_rfl) (by kernel_rfl) (by kernel_rfl) (by intro u hu; simp [Value.cells] at hu; rcases hu with rfl | rfl <;> rfl) (show 0 + 2 ≤ 2 by decide) (by rfl) hb257 ?_
    intro w260 hg261 hb262 hz263
    refine ⟨(fun e => by cases e), ?_⟩
    refine gv_sub [0, 3, 4, 7] (σ' := [(0, (.pointer (some ⟨pb0, 0, none⟩))), (3, (.pointer (some ⟨b1, 0, none⟩))), (4, (.pointer (some ⟨b7, 0, none⟩))), (7, (.int .i64 r249.1))]) (by kernel_rfl) ?_
    refine gv_nil ?_
    refine bindE h0 ?_; clear h0; intro j264 h1 h0
    refine gv_cut_code (J := fun a w266 => ∃ s265 : (((Int × Int)) × (Bool × (List Int))), j264 = .inl s265 ∧ ∃ (abb7_0j : Option Addr) (cbb7_0j : Nat), w0.grownBy w266 (some pb0) ∧ w260.heap.size ≤ w266.heap.size ∧ Own (iE .u32) 76 w266 (fun _ => False) abb7_0j cbb7_0j s265.2.2 ∧ (∀ g, blk abb7_0j = some g → w0.heap.size ≤ g) ∧ (∀ g, blk abb7_0j = some g → ¬ (· = b7) g) ∧ ¬ (fun k => blk abb7_0j = some k) b7 ∧ Box w266 pb0 81 #[(.int .u64 s265.1.1), (.int .u64 s265.1.2)] ∧ Box w266 b7 24 #[(.bool s265.2.1), (.slice abb7_0j (List.length s265.2.2) cbb7_0j)] ∧ a.defers = [] ∧ a.tmps.size = 35 ∧ Ok [(4, (.pointer (some ⟨b7, 0, none⟩)))] a.tmps) ?_ ?_
    · skip
      refine gv_block ?_
      refine gv_loop (A := fun (s267 : (((Int × Int)) × (Bool × (List Int)))) a w268 => ∃ (abb7_0j : Option Addr) (cbb7_0j : Nat), w0.grownBy w268 (some pb0) ∧ w260.heap.size ≤ w268.heap.size ∧ Own (iE .u32) 76 w268 (fun _ => False) abb7_0j cbb7_0j s267.2.2 ∧ (∀ g, blk abb7_0j = some g → w0.heap.size ≤ g) ∧ (∀ g, blk abb7_0j = some g → ¬ (· = b1) g) ∧ (∀ g, blk abb7_0j = some g → ¬ (· = b7) g) ∧ ¬ (fun k => blk abb7_0j = some k) b1 ∧ ¬ (fun k => blk abb7_0j = some k) b7 ∧ Box w268 pb0 81 #[(.int .u64 s267.1.1), (.int .u64 s267.1.2)] ∧ Box w268 b1 24 #[(.bool n_1.1), (.slice pa1_0 (List.length n_1.2) pc1_0)] ∧ Box w268 b7 24 #[(.bool s267.2.1), (.slice abb7_0j (List.length s267.2.2) cbb7_0j)] ∧ a.defers = [] ∧ a.tmps.size = 35 ∧ Ok [(0, (.pointer (some ⟨pb0, 0, none⟩))), (3, (.pointer (some ⟨b1, 0, none⟩))), (4, (.pointer (some ⟨b7, 0, none⟩))), (7, (.int .i64 r249.1))] a.tmps) h1 ?_ ?_
      · intro a hd hs hok
        obtain ⟨q0, q3, q4, q7, _⟩ := hok
        have hg269 := (grown_trans hg252 hg256)
        have hB270 := grown_step hB221 hg269  nb
        have hB271 := grown_step hB221 hg252  nb
        have hlo272 : w0.heap.size ≤ b254 := lob hbe258 hB271.size
        have hB273 := grown_step hB270 hg261  (rowppr hlo272)
        have hk274 := hk223.grown hg252 nb
        have ap275 : ¬ (· = pb0) b254 := fun hx => Nat.not_lt_of_le ((lowb hbe258) _ rfl) ((fun k (hk : k = pb0) => Nat.lt_of_le_of_lt (Nat.le_of_eq hk) hk274.lt) _ hx)
        have hk276 := (hk223.grown hg269 nb).grown hg261 (rowne ap275)
        have hk277 := hk224.grown hg252 nb
        have ap278 : ¬ (· = b1) b254 := fun hx => Nat.not_lt_of_le ((lowb hbe258) _ rfl) ((fun k (hk : k = b1) => Nat.lt_of_le_of_lt (Nat.le_of_eq hk) hk277.lt) _ hx)
        have hk279 := (hk224.grown hg269 nb).grown hg261 (rowne ap278)
        have hk280 := hk225.grown hg252 nb
        have ap281 : ¬ (· = b7) b254 := fun hx => Nat.not_lt_of_le ((lowb hbe258) _ rfl) ((fun k (hk : k = b7) => Nat.lt_of_le_of_lt (Nat.le_of_eq hk) hk280.lt) _ hx)
        have hk282 := (hk225.grown hg269 nb).grown hg261 (rowne ap281)
        exact ⟨none, 0, hB273, (Nat.le_refl _), (Own.nil (iE .u32) 76 w260 (fun _ => False)), (fun _ h => by cases h), (fun _ h => by cases h), (fun _ h => by cases h), (fun h => by cases h), (fun h => by cases h), hk276, hk279, hk282, hd, hs, ⟨q0, q3, q4, q7, trivial⟩⟩
      · rintro s267 r2 h2 hR2 a w268 ⟨a285, c286, hB283, hz284, ho287, hl288, ap289, ap290, ap291, ap292, hb293, hb294, hb295, hd, hs, hok⟩
        refine (?_ : Run Try.prog _ 35 _ .normal [(0, (.pointer (some ⟨pb0, 0, none⟩))), (3, (.pointer (some ⟨b1, 0, none⟩))), (4, (.pointer (some ⟨b7, 0, none⟩))), (7, (.int .i64 r249.1))] w268) a hd hs hok
        clear hd hs hok
        clear hz263 hb262 hg261 hz259 hbe258 hb257 hg256 hg252 hr250 ap238 ap237 ap236 ap235 hlo234 hb233 hk226 hk225 hk224 hk223 hB221
        refine gv_block ?_
        refine gv_seq ?_
        refine gv_region ?_
        refine gv_pure 2 [0, 3, 4, 7, 23, 24] (σ' := [(0, (.pointer (some ⟨pb0, 0, none⟩))), (3, (.pointer (some ⟨b1, 0, none⟩))), (4, (.pointer (some ⟨b7, 0, none⟩))), (7, (.int .i64 r249.1)), (23, (.pointer (some ⟨pb0, 0, none⟩))), (24, (.int .i64 r249.1))]) (by kernel_rfl) ?_
        refine bindE h2 ?_; clear h2; intro r296 hr297 h2
        refine gv_call (f := 61) (vs := [(.pointer (some ⟨pb0, 0, none⟩)), (.int .i64 r249.1)]) (cap := []) _ (by decide) (by rfl) (by rfl) rfl (by rfl) (by rfl) enters61 (random_source_bits_ok fuel pb0 (s267.1.1, s267.1.2) r249.1 w268 hb293 r296 hr297) ?_
        rintro v300 w298 ⟨hg299, a301, c302, rfl, ho303, hl304, hb305⟩
        refine ⟨(fun e => by cases e), ?_⟩
        have hl306 : ∀ g, blk a301 = some g → w0.heap.size ≤ g := fun g e => Nat.le_trans hB283.size (hl304 g e)
        refine gv_sub [0, 3, 4, 7, 25] (σ' := [(0, (.pointer (some ⟨pb0, 0, none⟩))), (3, (.pointer (some ⟨b1, 0, none⟩))), (4, (.pointer (some ⟨b7, 0, none⟩))), (7, (.int .i64 r249.1)), (25, (.agg #[(.bool r296.1.1), (.slice a301 (List.length r296.1.2) c302)]))]) (by kernel_rfl) ?_
        refine gv_new (fun b => .pointer (some ⟨b, 0, none⟩)) #[(.bool false), (.slice none (List.length ([] : List Int)) 0)] 24 (by decide) (by rfl) (by rfl) (by kernel_rfl) (by kernel_rfl) ?_
        intro b307 w308 hg309 hb310 hbe311 hz312
        refine ⟨(fun e => by cases e), ?_⟩
        refine gv_sub [0, 3, 4, 7, 9, 25] (σ' := [(0, (.pointer (some ⟨pb0, 0, none⟩))), (3, (.pointer (some ⟨b1, 0, none⟩))), (4, (.pointer (some ⟨b7, 0, none⟩))), (7, (.int .i64 r249.1)), (9, (.pointer (some ⟨b307, 0, none⟩))), (25, (.agg #[(.bool r296.1.1), (.slice a301 (List.length r296.1.2) c302)]))]) (by kernel_rfl) ?_
        refine gv_store (t := 24) (b := b307) (off := 0) (v := (.agg #[(.bool r296.1.1), (.slice a301 (List.length r296.1.2) c302)])) (t' := 24) (cs := #[(.bool false), (.slice none (List.length ([] : List Int)) 0)]) #[(.bool r296.1.1), (.slice a301 (List.length r296.1.2) c302)] (by decide) (by rfl) (by rfl) (by kernel_rfl) (by kernel_rfl) (by kernel_rfl) (by intro u hu; simp [Value.cells] at hu; rcases hu with rfl | rfl <;> rfl) (show 0 + 2 ≤ 2 by decide) (by rfl) hb310 ?_
        intro w313 hg314 hb315 hz316
        refine ⟨(fun e => by cases e), ?_⟩
        refine gv_sub [0, 3, 4, 7, 9] (σ' := [(0, (.pointer (some ⟨pb0, 0, none⟩))), (3, (.pointer (some ⟨b1, 0, none⟩))), (4, (.pointer (some ⟨b7, 0, none⟩))), (7, (.int .i64 r249.1)), (9, (.pointer (some ⟨b307, 0, none⟩)))]) (by kernel_rfl) ?_
        refine gv_nil ?_
        refine gv_seq ?_
        refine gv_region ?_
        refine gv_loadBox (t := 24) (b := b307) (t' := 24) (fr := (0, 0)) #[(.bool r296.1.1), (.slice a301 (List.length r296.1.2) c302)] [0, 3, 4, 7, 9, 27] (σ' := [(0, (.pointer (some ⟨pb0, 0, none⟩))), (3, (.pointer (some ⟨b1, 0, none⟩))), (4, (.pointer (some ⟨b7, 0, none⟩))), (7, (.int .i64 r249.1)), (9, (.pointer (some ⟨b307, 0, none⟩))), (27, (.agg #[(.bool r296.1.1), (.slice a301 (List.length r296.1.2) c302)]))]) (fun e => by cases e) (by rfl) (by rfl) (by rfl) (by kernel_rfl) (by kernel_rfl) (by kernel_rfl) (by kernel_rfl) (inw0 hb315) (by kernel_rfl) ?_
        have ap317 : ¬ (· = b1) pb0 := fun hx => Nat.not_lt_of_le ((lowb hbe5) _ hx) ((fun k (hk : k = pb0) => Nat.lt_of_le_of_lt (Nat.le_of_eq hk) hp0.lt) _ rfl)
        have hk318 := hb294.grown hg299 (rowne ap317)
        have ap319 : ¬ (· = b1) b307 := fun hx => Nat.not_lt_of_le ((lowb hbe311) _ rfl) ((fun k (hk : k = b1) => Nat.lt_of_le_of_lt (Nat.le_of_eq hk) hk318.lt) _ hx)
        have hk320 := ((hb294.grown hg299 (rowne ap317)).grown hg309 nb).grown hg314 (rowne ap319)
        refine gv_loadBox (t := 24) (b := b1) (t' := 24) (fr := (0, 0)) #[(.bool n_1.1), (.slice pa1_0 (List.length n_1.2) pc1_0)] [0, 3, 4, 7, 9, 27, 28] (σ' := [(0, (.pointer (some ⟨pb0, 0, none⟩))), (3, (.pointer (some ⟨b1, 0, none⟩))), (4, (.pointer (some ⟨b7, 0, none⟩))), (7, (.int .i64 r249.1)), (9, (.pointer (some ⟨b307, 0, none⟩))), (27, (.agg #[(.bool r296.1.1), (.slice a301 (List.length r296.1.2) c302)])), (28, (.agg #[(.bool n_1.1), (.slice pa1_0 (List.length n_1.2) pc1_0)]))]) (fun e => by cases e) (by rfl) (by rfl) (by rfl) (by kernel_rfl) (by kernel_rfl) (by kernel_rfl) (by kernel_rfl) (inw0 hk320) (by kernel_rfl) ?_
        refine bindE h2 ?_; clear h2; intro r321 hr322 h2
        have ap323 : ¬ (fun k => blk a301 = some k) b307 := fun hx => Nat.not_lt_of_le ((lowb hbe311) _ rfl) ((fun k (hk : blk a301 = some k) => ho303.lt k hk) _ hx)
        have hk324 := (ho303.grown hg309 (fun _ h => h.elim) nb).grown hg314 (fun _ h => h.elim) (rdnn (rowne ap323))
        have hB325 := grown_step hB283 hg299  rowpp
        have hB326 := grown_step hB325 hg309  nb
        have hB327 := grown_step hB283 hg299  rowpp
        have hlo328 : w0.heap.size ≤ b307 := lob hbe311 hB327.size
        have hB329 := grown_step hB326 hg314  (rowppr hlo328)
        refine gv_call (f := 44) (vs := [(.agg #[(.bool r296.1.1), (.slice a301 (List.length r296.1.2) c302)]), (.agg #[(.bool n_1.1), (.slice pa1_0 (List.length n_1.2) pc1_0)])]) (cap := []) _ (by decide) (by rfl) (by rfl) rfl (by rfl) (by rfl) enters44 (integer_Cmp_ok fuel a301 c302 (r296.1.1, r296.1.2) pa1_0 pc1_0 (n_1.1, n_1.2) w313 (fun k => (fun k => blk a301 = some k) k ∨ X0 k) (fun k hk => (hk).elim (fun h => (fun k (hk : blk a301 = some k) => hk324.lt k hk) k h) (fun h => (fun k (hk : X0 k) => Nat.lt_of_lt_of_le (hX0 k hk).1 hB329.size) k h)) ((hk324.rd (Y := fun k => blk a301 = some k) (fun _ h => h.elim) (fun g e => e)).wide (fun k hk => (.inl hk))) ((hpa1_0.grown hB329 (fun k hk => (hX0 k hk).1) (fun g e hk => by cases e; exact (hX0 _ hk).2 rfl)).wide (fun k hk => (.inr hk))) r321 hr322) ?_
        rintro v332 w330 ⟨hg331, rfl⟩
        refine ⟨(fun e => by cases e), ?_⟩
        refine gv_pure 3 [0, 3, 4, 7, 9, 30, 31] (σ' := [(0, (.pointer (some ⟨pb0, 0, none⟩))), (3, (.pointer (some ⟨b1, 0, none⟩))), (4, (.pointer (some ⟨b7, 0, none⟩))), (7, (.int .i64 r249.1)), (9, (.pointer (some ⟨b307, 0, none⟩))), (30, (.int .i64 r321.1)), (31, (.agg #[(.int .i64 r321.2.1), (.int .i64 r321.2.2)]))]) (by kernel_rfl) ?_
        refine gv_new (fun b => .pointer (some ⟨b, 0, none⟩)) #[(.int .i64 0), (.int .i64 0)] 29 (by decide) (by rfl) (by rfl) (by kernel_rfl) (by kernel_rfl) ?_
        intro b333 w334 hg335 hb336 hbe337 hz338
        refine ⟨(fun e => by cases e), ?_⟩
        have hz339 : w260.heap.size ≤ w334.heap.size := (Nat.le_trans (Nat.le_trans (Nat.le_trans (Nat.le_trans (Nat.le_trans hz284 hg299.size) hg309.size) hg314.size) hg331.size) hg335.size)
        clear hz338 hB327 hB326 hB325 hr322 hz316 hz312 hb310 hr297 hz284 hB283
        refine gv_pure 1 [0, 3, 4, 7, 9, 10, 11, 31] (σ' := [(0, (.pointer (some ⟨pb0, 0, none⟩))), (3, (.pointer (some ⟨b1, 0, none⟩))), (4, (.pointer (some ⟨b7, 0, none⟩))), (7, (.int .i64 r249.1)), (9, (.pointer (some ⟨b307, 0, none⟩))), (10, (.int .i64 r321.1)), (11, (.pointer (some ⟨b333, 0, none⟩))), (31, (.agg #[(.int .i64 r321.2.1), (.int .i64 r321.2.2)]))]) (by kernel_rfl) ?_
        refine gv_store (t := 29) (b := b333) (off := 0) (v := (.agg #[(.int .i64 r321.2.1), (.int .i64 r321.2.2)])) (t' := 29) (cs := #[(.int .i64 0), (.int .i64 0)]) #[(.int .i64 r321.2.1), (.int .i64 r321.2.2)] (by decide) (by rfl) (by rfl) (by kernel_rfl) (by kernel_rfl) (by kernel_rfl) (by intro u hu; simp [Value.cells] at hu; rcases hu with rfl | rfl <;> rfl) (show 0 + 2 ≤ 2 by decide) (by rfl) hb336 ?_
        intro w340 hg341 hb342 hz343
        refine ⟨(fun e => by cases e), ?_⟩
        refine gv_sub [0, 3, 4, 7, 9, 10] (σ' := [(0, (.pointer (some ⟨pb0, 0, none⟩))), (3, (.pointer (some ⟨b1, 0, none⟩))), (4, (.pointer (some ⟨b7, 0, none⟩))), (7, (.int .i64 r249.1)), (9, (.pointer (some ⟨b307, 0, none⟩))), (10, (.int .i64 r321.1))]) (by kernel_rfl) ?_
        refine gv_nil ?_
        refine gv_seq ?_
        refine gv_region ?_
        refine gv_pure 2 [0, 3, 4, 7, 9, 33] (σ' := [(0, (.pointer (some ⟨pb0, 0, none⟩))), (3, (.pointer (some ⟨b1, 0, none⟩))), (4, (.pointer (some ⟨b7, 0, none⟩))), (7, (.int .i64 r249.1)), (9, (.pointer (some ⟨b307, 0, none⟩))), (33, (.bool (decide (r321.1 < 0))))]) (by kernel_rfl) ?_
        refine gv_nil ?_
        refine gv_cond (b := (decide (r321.1 < 0))) (by rfl) (fun hc344 => ?_) (fun hc344 => ?_)
        · replace h2 := ite_t hc344 h2
          refine gv_seq ?_
          refine gv_region ?_
          have hg345 := (grown_trans hg331 hg335)
          have hk346 := hb315.grown hg331 nb
          have ap347 : ¬ (· = b307) b333 := fun hx => Nat.not_lt_of_le ((lowb hbe337) _ rfl) ((fun k (hk : k = b307) => Nat.lt_of_le_of_lt (Nat.le_of_eq hk) hk346.lt) _ hx)
          have hk348 := (hb315.grown hg345 nb).grown hg341 (rowne ap347)
          refine gv_loadBox (t := 24) (b := b307) (t' := 24) (fr := (0, 0)) #[(.bool r296.1.1), (.slice a301 (List.length r296.1.2) c302)] [4, 34] (σ' := [(4, (.pointer (some ⟨b7, 0, none⟩))), (34, (.agg #[(.bool r296.1.1), (.slice a301 (List.length r296.1.2) c302)]))]) (fun e => by cases e) (by rfl) (by rfl) (by rfl) (by kernel_rfl) (by kernel_rfl) (by kernel_rfl) (by kernel_rfl) (inw0 hk348) (by kernel_rfl) ?_
          have hk353 := hp0.grown hg3 nb
          have ap354 : ¬ (· = b7) pb0 := fun hx => Nat.not_lt_of_le ((lowb hbe11) _ hx) ((fun k (hk : k = pb0) => Nat.lt_of_le_of_lt (Nat.le_of_eq hk) hk353.lt) _ rfl)
          have hk355 := hb295.grown hg299 (rowne ap354)
          have ap356 : ¬ (· = b7) b307 := fun hx => Nat.not_lt_of_le ((lowb hbe311) _ rfl) ((fun k (hk : k = b7) => Nat.lt_of_le_of_lt (Nat.le_of_eq hk) hk355.lt) _ hx)
          have hk357 := ((hk355.grown hg309 nb).grown hg314 (rowne ap356)).grown hg331 nb
          have ap358 : ¬ (· = b7) b333 := fun hx => Nat.not_lt_of_le ((lowb hbe337) _ rfl) ((fun k (hk : k = b7) => Nat.lt_of_le_of_lt (Nat.le_of_eq hk) hk357.lt) _ hx)
          have hk359 := ((((hb295.grown hg299 (rowne ap354)).grown hg309 nb).grown hg314 (rowne ap356)).grown hg345 nb).grown hg341 (rowne ap358)
          refine gv_store (t := 24) (b := b7) (off := 0) (v := (.agg #[(.bool r296.1.1), (.slice a301 (List.length r296.1.2) c302)])) (t' := 24) (cs := #[(.bool s267.2.1), (.slice a285 (List.length s267.2.2) c286)]) #[(.bool r296.1.1), (.slice a301 (List.length r296.1.2) c302)] (by decide) (by rfl) (by rfl) (by kernel_rfl) (by kernel_rfl) (by kernel_rfl) (by intro u hu; simp [Value.cells] at hu; rcases hu with rfl | rfl <;> rfl) (show 0 + 2 ≤ 2 by decide) (by rfl) hk359 ?_
          intro w349 hg350 hb351 hz352
          refine ⟨(fun e => by cases e), ?_⟩
          refine gv_sub [4] (σ' := [(4, (.pointer (some ⟨b7, 0, none⟩)))]) (by kernel_rfl) ?_
          refine gv_nil ?_
          refine gv_cret ?_
          have e := Option.some.inj h2; subst e
          replace h1 := congrArg some (hR2 _ rfl)
          have e := Option.some.inj h1; subst e
          replace h0 := cont_inr h0
          have e := Option.some.inj h0; subst e
          refine gv_ret (gv_done [(.agg #[(.bool r296.1.1), (.slice a301 (List.length r296.1.2) c302)])] rfl ⟨⟨_, rfl, run_loadVar_row w349 b7 _ 24 _ _ _ hb351 Try.underlying24 rfl (by kernel_rfl)⟩, trivial⟩ ?_)
          have hB360 := grown_step hB329 hg345  nb
          have hB361 := grown_step hB329 hg331  nb
          have hlo362 : w0.heap.size ≤ b333 := lob hbe337 hB361.size
          have hB363 := grown_step hB360 hg341  (rowppr hlo362)
          have hB364 := grown_step hB0 hg3  nb
          have hlo365 : w0.heap.size ≤ b7 := lob hbe11 hB364.size
          have hB366 := grown_step hB363 hg350  (rowppr hlo365)
          have hk367 := hk324.grown hg331 (fun _ h => h.elim) nb
          have ap368 : ¬ (fun k => blk a301 = some k) b333 := fun hx => Nat.not_lt_of_le ((lowb hbe337) _ rfl) ((fun k (hk : blk a301 = some k) => hk367.lt k hk) _ hx)
          have ap369 : ¬ (fun k => blk a301 = some k) b7 := fun hx => Nat.not_lt_of_le ((show ∀ k, blk a301 = some k → w268.heap.size ≤ k from hl304) _ hx) ((fun k (hk : k = b7) => Nat.lt_of_le_of_lt (Nat.le_of_eq hk) hb295.lt) _ rfl)
          have hk370 := ((hk324.grown hg345 (fun _ h => h.elim) nb).grown hg341 (fun _ h => h.elim) (rdnn (rowne ap368))).grown hg350 (fun _ h => h.elim) (rdnn (rowne ap369))
          have ap371 : ¬ (· = pb0) b307 := fun hx => Nat.not_lt_of_le ((lowb hbe311) _ rfl) ((fun k (hk : k = pb0) => Nat.lt_of_le_of_lt (Nat.le_of_eq hk) hb305.lt) _ hx)
          have hk372 := ((hb305.grown hg309 nb).grown hg314 (rowne ap371)).grown hg331 nb
          have ap373 : ¬ (· = pb0) b333 := fun hx => Nat.not_lt_of_le ((lowb hbe337) _ rfl) ((fun k (hk : k = pb0) => Nat.lt_of_le_of_lt (Nat.le_of_eq hk) hk372.lt) _ hx)
          have ap374 : ¬ (· = pb0) b7 := fun hx => Nat.not_lt_of_le ((lowb hbe11) _ rfl) ((fun k (hk : k = pb0) => Nat.lt_of_le_of_lt (Nat.le_of_eq hk) hk353.lt) _ hx)
          have hk375 := ((((hb305.grown hg309 nb).grown hg314 (rowne ap371)).grown hg345 nb).grown hg341 (rowne ap373)).grown hg350 (rowne ap374)
          exact ⟨hB366, a301, c302, rfl, hk370, hl306, hk375⟩
        · replace h2 := ite_f hc344 h2
          refine gv_skip ?_
          refine gv_blk ?_
          have e := Option.some.inj h2; subst e
          refine gv_goal fun a hd hs hok => ?_
          obtain ⟨q0, q3, q4, q7, q9, q33, _⟩ := hok
          have hg376 := (grown_trans hg331 hg335)
          have hB377 := grown_step hB329 hg376  nb
          have hB378 := grown_step hB329 hg331  nb
          have hlo379 : w0.heap.size ≤ b333 := lob hbe337 hB378.size
          have hB380 := grown_step hB377 hg341  (rowppr hlo379)
          have hz381 : w260.heap.size ≤ w340.heap.size := (Nat.le_trans hz339 hg341.size)
          have hk382 := ho287.grown hg299 (fun _ h => h.elim) (rdnn (rowne (fun (h : blk a285 = some pb0) => Nat.not_lt_of_le (hl288 _ h) hpl0)))
          have ap383 : ¬ (fun k => blk a285 = some k) b307 := fun hx => Nat.not_lt_of_le ((lowb hbe311) _ rfl) ((fun k (hk : blk a285 = some k) => hk382.lt k hk) _ hx)
          have hk384 := ((hk382.grown hg309 (fun _ h => h.elim) nb).grown hg314 (fun _ h => h.elim) (rdnn (rowne ap383))).grown hg331 (fun _ h => h.elim) nb
          have ap385 : ¬ (fun k => blk a285 = some k) b333 := fun hx => Nat.not_lt_of_le ((lowb hbe337) _ rfl) ((fun k (hk : blk a285 = some k) => hk384.lt k hk) _ hx)
          have hk386 := ((((ho287.grown hg299 (fun _ h => h.elim) (rdnn (rowne (fun (h : blk a285 = some pb0) => Nat.not_lt_of_le (hl288 _ h) hpl0)))).grown hg309 (fun _ h => h.elim) nb).grown hg314 (fun _ h => h.elim) (rdnn (rowne ap383))).grown hg376 (fun _ h => h.elim) nb).grown hg341 (fun _ h => h.elim) (rdnn (rowne ap385))
          have ap387 : ¬ (· = pb0) b307 := fun hx => Nat.not_lt_of_le ((lowb hbe311) _ rfl) ((fun k (hk : k = pb0) => Nat.lt_of_le_of_lt (Nat.le_of_eq hk) hb305.lt) _ hx)
          have hk388 := ((hb305.grown hg309 nb).grown hg314 (rowne ap387)).grown hg331 nb
          have ap389 : ¬ (· = pb0) b333 := fun hx => Nat.not_lt_of_le ((lowb hbe337) _ rfl) ((fun k (hk : k = pb0) => Nat.lt_of_le_of_lt (Nat.le_of_eq hk) hk388.lt) _ hx)
          have hk390 := (((hb305.grown hg309 nb).grown hg314 (rowne ap387)).grown hg376 nb).grown hg341 (rowne ap389)
          have hk391 := hk320.grown hg331 nb
          have ap392 : ¬ (· = b1) b333 := fun hx => Nat.not_lt_of_le ((lowb hbe337) _ rfl) ((fun k (hk : k = b1) => Nat.lt_of_le_of_lt (Nat.le_of_eq hk) hk391.lt) _ hx)
          have hk393 := (hk320.grown hg376 nb).grown hg341 (rowne ap392)
          have hk394 := hp0.grown hg3 nb
          have ap395 : ¬ (· = b7) pb0 := fun hx => Nat.not_lt_of_le ((lowb hbe11) _ hx) ((fun k (hk : k = pb0) => Nat.lt_of_le_of_lt (Nat.le_of_eq hk) hk394.lt) _ rfl)
          have hk396 := hb295.grown hg299 (rowne ap395)
          have ap397 : ¬ (· = b7) b307 := fun hx => Nat.not_lt_of_le ((lowb hbe311) _ rfl) ((fun k (hk : k = b7) => Nat.lt_of_le_of_lt (Nat.le_of_eq hk) hk396.lt) _ hx)
          have hk398 := ((hk396.grown hg309 nb).grown hg314 (rowne ap397)).grown hg331 nb
          have ap399 : ¬ (· = b7) b333 := fun hx => Nat.not_lt_of_le ((lowb hbe337) _ rfl) ((fun k (hk : k = b7) => Nat.lt_of_le_of_lt (Nat.le_of_eq hk) hk398.lt) _ hx)
          have hk400 := ((((hb295.grown hg299 (rowne ap395)).grown hg309 nb).grown hg314 (rowne ap397)).grown hg376 nb).grown hg341 (rowne ap399)
          exact ⟨((r296.2.1, r296.2.2), (s267.2.1, s267.2.2)), rfl, a285, c286, hB380, hz381, hk386, hl288, ap289, ap290, ap291, ap292, hk390, hk393, hk400, hd, hs, ⟨q0, q3, q4, q7, trivial⟩⟩
    · rintro a w266 ⟨s265, e, a403, c404, hB401, hz402, ho405, hl406, ap407, ap408, hb409, hb410, hd, hs, hok⟩
      subst e
      refine (?_ : Run Try.prog _ 35 _ .normal [(4, (.pointer (some ⟨b7, 0, none⟩)))] w266) a hd hs hok
      clear hd hs hok
      replace h0 := cont_inl h0
      clear hz402 hz263 hb262 hg261 hz259 hbe258 hb257 hg256 hg252 hr250 ap238 ap237 ap236 ap235 hlo234 hb233 hk226 hk225 hk224 hk223 hB221 hb4
      have e := Option.some.inj h0; subst e
      refine gv_fall (gv_done [(.agg #[(.bool s265.2.1), (.slice a403 (List.length s265.2.2) c404)])] rfl ⟨⟨_, rfl, run_loadVar_row w266 b7 _ 24 _ _ _ hb410 Try.underlying24 rfl (by kernel_rfl)⟩, trivial⟩ ?_)
      exact ⟨hB401, a403, c404, rfl, ho405, hl406, hb409⟩

end Go.Proofs.Ytenjigdaaeiklaa
