import Derived.Test.YtenjigdaaeiklaaP2
set_option linter.all false
/- Own work, printed by a program of mine: the walk of each function: a call returns what the plain function says. -/
namespace Go.Proofs.Ytenjigdaaeiklaa
open Go.Gv Go.Gv.D Go.RowKit
set_option maxHeartbeats 4000000 in
set_option maxRecDepth 100000 in
theorem integer_Small_ok (fuel : Nat) (pa0_0 : Option Addr) (pc0_0 : Nat) (a_0 : (Bool × (List Int))) (w0 : World) (X0 : Nat → Prop) (hX0 : ∀ k, X0 k → k < w0.heap.size) (hpa0_0 : Rd (iE .u32) w0 X0 pa0_0 pc0_0 a_0.2) (r0 : (Int × (Int × Int))) (h0 : integer_Small fuel a_0 = some r0) :
    Calls Try.prog 67 ([(.agg #[(.bool a_0.1), (.slice pa0_0 (List.length a_0.2) pc0_0)])] : List Value).toArray w0 (Ret fun v w' => w0.grownBy w' none ∧ v = tup [(.int .i64 r0.1), (.agg #[(.int .i64 r0.2.1), (.int .i64 r0.2.2)])]) := by
  have hB0 : Below w0.heap.size w0 w0 := Below.refl _ _
  unfold integer_Small at h0
  refine calls_run Try.func67 rfl Try.ntmps67 (by kernel_rfl) ?_
  refine gv_sub [0] (σ' := [(0, (.agg #[(.bool a_0.1), (.slice pa0_0 (List.length a_0.2) pc0_0)]))]) (by kernel_rfl) ?_
  refine gv_seq ?_
  refine gv_region ?_
  refine gv_new (fun b => .pointer (some ⟨b, 0, none⟩)) #[(.bool a_0.1), (.slice pa0_0 (List.length a_0.2) pc0_0)] 24 (by decide) (by rfl) (by rfl) (by kernel_rfl) (by kernel_rfl) ?_
  intro b1 w2 hg3 hb4 hbe5 hz6
  refine ⟨(fun e => by cases e), ?_⟩
  refine gv_pure 1 [1] (σ' := [(1, (.pointer (some ⟨b1, 0, none⟩)))]) (by kernel_rfl) ?_
  refine gv_new (fun b => .pointer (some ⟨b, 0, none⟩)) #[(.int .i64 0), (.int .i64 0)] 29 (by decide) (by rfl) (by rfl) (by kernel_rfl) (by kernel_rfl) ?_
  intro b7 w8 hg9 hb10 hbe11 hz12
  refine ⟨(fun e => by cases e), ?_⟩
  refine gv_sub [1, 3] (σ' := [(1, (.pointer (some ⟨b1, 0, none⟩))), (3, (.pointer (some ⟨b7, 0, none⟩)))]) (by kernel_rfl) ?_
  refine gv_nil ?_
  refine gv_seq ?_
  refine gv_seq ?_
  refine gv_region ?_
  have hk13 := hb4.grown hg9 nb
  refine gv_loadBox (t := 24) (b := b1) (t' := 24) (fr := (0, 0)) #[(.bool a_0.1), (.slice pa0_0 (List.length a_0.2) pc0_0)] [1, 3, 9] (σ' := [(1, (.pointer (some ⟨b1, 0, none⟩))), (3, (.pointer (some ⟨b7, 0, none⟩))), (9, (.agg #[(.bool a_0.1), (.slice pa0_0 (List.length a_0.2) pc0_0)]))]) (fun e => by cases e) (by rfl) (by rfl) (by rfl) (by kernel_rfl) (by kernel_rfl) (by kernel_rfl) (by kernel_rfl) (inw0 hk13) (by kernel_rfl) ?_
  refine gv_new (fun b => .slice (some ⟨b, 0, none⟩) 1 1) #[(.bool a_0.1), (.slice pa0_0 (List.length a_0.2) pc0_0)] 24 (by decide) (by rfl) (by rfl) (by kernel_rfl) (by kernel_rfl) ?_
  intro b14 w15 hg16 hb17 hbe18 hz19
  refine ⟨(fun e => by cases e), ?_⟩
  obtain ⟨X25, e⟩ : ∃ X : Nat → Prop, X = (fun k => X0 k) := ⟨_, rfl⟩
  have hg26 := (grown_trans hg3 hg9)
  have hB27 := below_grown hB0 hg26 hB0.size nb
  have hx23 : ∀ k, X25 k → k < w8.heap.size := fun k h => by rw [e] at h; exact (fun k (hk : X0 k) => Nat.lt_of_lt_of_le (hX0 k hk) hB27.size) k h
  have hz28 : w8.heap.size ≤ w15.heap.size := hg16.size
  have hx22 : ∀ k, X25 k → k < w15.heap.size := fun k h => Nat.lt_of_lt_of_le (hx23 k h) hz28
  have hx24 : ∀ k, X25 k → X0 k ∨ w0.heap.size ≤ k := fun k h => by rw [e] at h; exact (fun k (hk : X0 k) => Or.inl hk) k h
  have hB29 := below_grown hB27 hg16 hB27.size nb
  have ho20 : Own (prE tE (slE (iE .u32))) 24 w15 X25 (some ⟨b14, 0, none⟩) 1 ([(a_0.1, a_0.2)] : List (Bool × (List Int))) := Box.ownE hb17 (by rw [e]; exact ⟨[(.bool a_0.1), (.slice pa0_0 (List.length a_0.2) pc0_0)], [], rfl, ⟨[(.bool a_0.1)], [(.slice pa0_0 (List.length a_0.2) pc0_0)], rfl, rfl, ⟨pa0_0, pc0_0, rfl, ((hpa0_0.below hB29 hX0).wide (fun _ h => h))⟩⟩, rfl⟩) (show 1 ≤ maxLen by decide) (fun h => noteq hbe18 (hx23 _ h))
  have hx30 : ∀ k, X25 k → (fun k => X0 k) k := fun k h => by rw [e] at h; exact h
  clear e
  have hl21 : ∀ g, blk (some ⟨b14, 0, none⟩) = some g → w0.heap.size ≤ g := loo hbe18 hB27.size
  have ap31 : ∀ g, blk (some ⟨b14, 0, none⟩) = some g → ¬ (· = b1) g := fun g e hx => Nat.not_lt_of_le (lowo hbe18 g e) ((fun k (hk : k = b1) => Nat.lt_of_le_of_lt (Nat.le_of_eq hk) hk13.lt) _ hx)
  have hlo33 : w0.heap.size ≤ b1 := lob hbe5 hB0.size
  have ap32 : ¬ (fun k => blk (some ⟨b14, 0, none⟩) = some k ∨ X25 k) b1 := fun h => h.elim (fun h => Nat.not_lt_of_le (lowo hbe18 _ h) ((fun k (hk : k = b1) => Nat.lt_of_le_of_lt (Nat.le_of_eq hk) hk13.lt) _ rfl)) (fun h => ((fun (hx : X0 b1) => Nat.not_lt_of_le hlo33 (hX0 _ hx)))  (hx30 _ h))
  have ap34 : ∀ g, blk (some ⟨b14, 0, none⟩) = some g → ¬ (· = b7) g := fun g e hx => Nat.not_lt_of_le (lowo hbe18 g e) ((fun k (hk : k = b7) => Nat.lt_of_le_of_lt (Nat.le_of_eq hk) hb10.lt) _ hx)
  have hB36 := below_grown hB0 hg3 hB0.size nb
  have hlo37 : w0.heap.size ≤ b7 := lob hbe11 hB36.size
  have ap35 : ¬ (fun k => blk (some ⟨b14, 0, none⟩) = some k ∨ X25 k) b7 := fun h => h.elim (fun h => Nat.not_lt_of_le (lowo hbe18 _ h) ((fun k (hk : k = b7) => Nat.lt_of_le_of_lt (Nat.le_of_eq hk) hb10.lt) _ rfl)) (fun h => ((fun (hx : X0 b7) => Nat.not_lt_of_le hlo37 (hX0 _ hx)))  (hx30 _ h))
  refine gv_sub [1, 3, 10] (σ' := [(1, (.pointer (some ⟨b1, 0, none⟩))), (3, (.pointer (some ⟨b7, 0, none⟩))), (10, (.slice (some ⟨b14, 0, none⟩) (List.length ([(a_0.1, a_0.2)] : List (Bool × (List Int)))) 1))]) (by kernel_rfl) ?_
  refine bindE h0 ?_; clear h0; intro r38 hr39 h0
  refine gv_call (f := 62) (vs := [(.slice (some ⟨b14, 0, none⟩) (List.length ([(a_0.1, a_0.2)] : List (Bool × (List Int)))) 1)]) (cap := []) _ (by decide) (by rfl) (by rfl) rfl (by rfl) (by rfl) enters62 (integer_check_ok fuel (some ⟨b14, 0, none⟩) 1 ([(a_0.1, a_0.2)] : List (Bool × (List Int))) w15 (fun k => (fun k => blk (some ⟨b14, 0, none⟩) = some k ∨ X25 k) k) (fun k hk => (fun k (hk : blk (some ⟨b14, 0, none⟩) = some k ∨ X25 k) => hk.elim (fun h => ho20.lt k h) (fun h => hx22 k h)) k hk) ((ho20.rd (Y := fun k => blk (some ⟨b14, 0, none⟩) = some k ∨ X25 k) (fun _ h => .inr h) (fun g e => .inl e)).wide (fun k hk => hk)) r38 hr39) ?_
  rintro v42 w40 ⟨hg41, rfl⟩
  refine ⟨(fun e => by cases e), ?_⟩
  refine gv_sub [1, 3, 11] (σ' := [(1, (.pointer (some ⟨b1, 0, none⟩))), (3, (.pointer (some ⟨b7, 0, none⟩))), (11, (.agg #[(.int .i64 r38.1), (.int .i64 r38.2)]))]) (by kernel_rfl) ?_
  refine gv_new (fun b => .pointer (some ⟨b, 0, none⟩)) #[(.int .i64 0), (.int .i64 0)] 29 (by decide) (by rfl) (by rfl) (by kernel_rfl) (by kernel_rfl) ?_
  intro b43 w44 hg45 hb46 hbe47 hz48
  refine ⟨(fun e => by cases e), ?_⟩
  refine gv_sub [1, 3, 4, 11] (σ' := [(1, (.pointer (some ⟨b1, 0, none⟩))), (3, (.pointer (some ⟨b7, 0, none⟩))), (4, (.pointer (some ⟨b43, 0, none⟩))), (11, (.agg #[(.int .i64 r38.1), (.int .i64 r38.2)]))]) (by kernel_rfl) ?_
  refine gv_store (t := 29) (b := b43) (off := 0) (v := (.agg #[(.int .i64 r38.1), (.int .i64 r38.2)])) (t' := 29) (cs := #[(.int .i64 0), (.int .i64 0)]) #[(.int .i64 r38.1), (.int .i64 r38.2)] (by decide) (by rfl) (by rfl) (by kernel_rfl) (by kernel_rfl) (by kernel_rfl) (by intro u hu; simp [Value.cells] at hu; rcases hu with rfl | rfl <;> rfl) (show 0 + 2 ≤ 2 by decide) (by rfl) hb46 ?_
  intro w49 hg50 hb51 hz52
  refine ⟨(fun e => by cases e), ?_⟩
  refine gv_sub [1, 3, 4] (σ' := [(1, (.pointer (some ⟨b1, 0, none⟩))), (3, (.pointer (some ⟨b7, 0, none⟩))), (4, (.pointer (some ⟨b43, 0, none⟩)))]) (by kernel_rfl) ?_
  refine gv_nil ?_
  refine gv_seq ?_
  refine gv_region ?_
  refine gv_pure 1 [1, 3, 4, 12] (σ' := [(1, (.pointer (some ⟨b1, 0, none⟩))), (3, (.pointer (some ⟨b7, 0, none⟩))), (4, (.pointer (some ⟨b43, 0, none⟩))), (12, (.pointer (some ⟨b43, 0, none⟩)))]) (by kernel_rfl) ?_
  refine gv_load (t := 3) (A := ⟨b43, 0, none⟩) (.int .i64 r38.1) [1, 3, 4, 13] (σ' := [(1, (.pointer (some ⟨b1, 0, none⟩))), (3, (.pointer (some ⟨b7, 0, none⟩))), (4, (.pointer (some ⟨b43, 0, none⟩))), (13, (.int .i64 r38.1))]) (fun e => by cases e) (by rfl) (by rfl) (by rfl) (by kernel_rfl) (by kernel_rfl) (by kernel_rfl) (inw0 (hb51.cell 0 rfl)) (by kernel_rfl) ?_
  refine gv_pure 1 [1, 3, 4, 14] (σ' := [(1, (.pointer (some ⟨b1, 0, none⟩))), (3, (.pointer (some ⟨b7, 0, none⟩))), (4, (.pointer (some ⟨b43, 0, none⟩))), (14, (.bool (r38.1 != 0)))]) (by kernel_rfl) ?_
  refine gv_nil ?_
  refine gv_cond (b := (r38.1 != 0)) (by rfl) (fun hc53 => ?_) (fun hc53 => ?_)
  · replace h0 := ite_t hc53 h0
    refine gv_seq ?_
    refine gv_drawA (by kernel_rfl) ?_
    intro w54 hg55
    refine gv_pre [1] #[false, true, false] 2 (by kernel_rfl) (by rfl) ?_
    refine gv_pure 1 [2, 3, 4] (σ' := [(2, (.int .i64 0)), (3, (.pointer (some ⟨b7, 0, none⟩))), (4, (.pointer (some ⟨b43, 0, none⟩)))]) (by kernel_rfl) ?_
    refine gv_nil ?_
    refine gv_goal fun a hd hs hok => ?_
    refine (?_ : RunA Try.prog _ 49 _ _ 2 #[false, true, false] [(2, (.int .i64 0)), (3, (.pointer (some ⟨b7, 0, none⟩))), (4, (.pointer (some ⟨b43, 0, none⟩)))] w54) a hd hs hok
    clear hd hs hok
    refine gv_stage (Cls w54 []) [0, 1] [(0, some true)] #[true, true, false] 1 (by kernel_rfl) (by rfl) (Cls.refl _ _) ?_
    have hC56 := Cls.refl w54 []
    have hk57 := hb51.grown hg55 nb
    refine gv_loadBox (t := 29) (b := b43) (t' := 29) (fr := (0, 0)) #[(.int .i64 r38.1), (.int .i64 r38.2)] [2, 3, 15] (σ' := [(2, (.int .i64 0)), (3, (.pointer (some ⟨b7, 0, none⟩))), (15, (.agg #[(.int .i64 r38.1), (.int .i64 r38.2)]))]) (fun e => by cases e) (by rfl) (by rfl) (by rfl) (by kernel_rfl) (by kernel_rfl) (by kernel_rfl) (by kernel_rfl) (inw1 fun w' hC' => (hC'.box hk57 nm_nil)) (by kernel_rfl) ?_
    refine gv_nil ?_
    refine gv_goal fun a hd hs hok => ?_
    refine (?_ : RunA Try.prog _ 49 _ _ 1 #[true, true, false] [(2, (.int .i64 0)), (3, (.pointer (some ⟨b7, 0, none⟩))), (15, (.agg #[(.int .i64 r38.1), (.int .i64 r38.2)]))] w54) a hd hs hok
    clear hd hs hok
    refine gv_stage (fun _ => True) [0, 1, 2] [(2, some false)] #[true, true, true] 0 (by kernel_rfl) (by rfl) trivial ?_
    have hg62 := (grown_trans (grown_trans hg16 hg41) hg45)
    have hg63 := (grown_trans hg16 hg41)
    have hk64 := hb10.grown hg63 nb
    have ap65 : ¬ (· = b7) b43 := fun hx => Nat.not_lt_of_le ((lowb hbe47) _ rfl) ((fun k (hk : k = b7) => Nat.lt_of_le_of_lt (Nat.le_of_eq hk) hk64.lt) _ hx)
    have hk66 := ((hb10.grown hg62 nb).grown hg50 (rowne ap65)).grown hg55 nb
    refine gv_store (t := 29) (b := b7) (off := 0) (v := (.agg #[(.int .i64 r38.1), (.int .i64 r38.2)])) (t' := 29) (cs := #[(.int .i64 0), (.int .i64 0)]) #[(.int .i64 r38.1), (.int .i64 r38.2)] (by decide) (by rfl) (by rfl) (by kernel_rfl) (by kernel_rfl) (by kernel_rfl) (by intro u hu; simp [Value.cells] at hu; rcases hu with rfl | rfl <;> rfl) (show 0 + 2 ≤ 2 by decide) (by rfl) hk66 ?_
    intro w58 hg59 hb60 hz61
    refine ⟨(fun _ => trivial), ?_⟩
    clear hz61 ap65 hk64 hg63 hg62 hC56 hc53 hz52 hb51 hz48 hb46 hr39 ap35 hB36 ap34 ap32 ap31 hx30 hz28 hx23 hB27 hg26 hz19 hbe18 hb17 hz12 hbe11 hb10 hg9 hz6 hbe5 hb4 hg3
    refine gv_sub [2, 3] (σ' := [(2, (.int .i64 0)), (3, (.pointer (some ⟨b7, 0, none⟩)))]) (by kernel_rfl) ?_
    refine gv_nil ?_
    refine gv_goal fun a hd hs hok => ?_
    refine (?_ : RunA Try.prog _ 49 _ _ 0 #[true, true, true] [(2, (.int .i64 0)), (3, (.pointer (some ⟨b7, 0, none⟩)))] w58) a hd hs hok
    clear hd hs hok
    refine gv_stageE (by kernel_rfl) ?_
    refine gv_cret ?_
    have e := Option.some.inj h0; subst e
    refine gv_ret (gv_done [(.int .i64 0), (.agg #[(.int .i64 r38.1), (.int .i64 r38.2)])] rfl ⟨rfl, ⟨_, rfl, run_loadVar_row w58 b7 _ 29 _ _ _ hb60 Try.underlying29 rfl (by kernel_rfl)⟩, trivial⟩ ?_)
    have hg67 := (grown_trans hg41 hg45)
    have hB68 := below_grown hB29 hg67 hB29.size nb
    have hB69 := below_grown hB29 hg41 hB29.size nb
    have hlo70 : w0.heap.size ≤ b43 := lob hbe47 hB69.size
    have hB71 := below_grown hB68 hg50 hB68.size (rowlo hlo70)
    have hB72 := below_grown hB71 hg55 hB71.size nb
    have hB73 := below_grown hB72 hg59 hB72.size (rowlo hlo37)
    exact ⟨grown_of_below hB73, rfl⟩
  · replace h0 := ite_f hc53 h0
    refine gv_skip ?_
    refine gv_seq ?_
    refine gv_region ?_
    refine gv_pure 1 [1, 3, 5] (σ' := [(1, (.pointer (some ⟨b1, 0, none⟩))), (3, (.pointer (some ⟨b7, 0, none⟩))), (5, (.int .u64 0))]) (by kernel_rfl) ?_
    refine gv_nil ?_
    refine gv_seq ?_
    refine gv_seq ?_
    refine gv_region ?_
    refine gv_pure 1 [1, 3, 5, 16] (σ' := [(1, (.pointer (some ⟨b1, 0, none⟩))), (3, (.pointer (some ⟨b7, 0, none⟩))), (5, (.int .u64 0)), (16, (.pointer (some ⟨b1, 1, none⟩)))]) (by kernel_rfl) ?_
    have hg74 := (grown_trans (grown_trans hg16 hg41) hg45)
    have hg75 := (grown_trans hg16 hg41)
    have hk76 := hk13.grown hg75 nb
    have ap77 : ¬ (· = b1) b43 := fun hx => Nat.not_lt_of_le ((lowb hbe47) _ rfl) ((fun k (hk : k = b1) => Nat.lt_of_le_of_lt (Nat.le_of_eq hk) hk76.lt) _ hx)
    have hk78 := (hk13.grown hg74 nb).grown hg50 (rowne ap77)
    refine gv_load (t := 22) (A := ⟨b1, 1, none⟩) (.slice pa0_0 (List.length a_0.2) pc0_0) [1, 3, 5, 17] (σ' := [(1, (.pointer (some ⟨b1, 0, none⟩))), (3, (.pointer (some ⟨b7, 0, none⟩))), (5, (.int .u64 0)), (17, (.slice pa0_0 (List.length a_0.2) pc0_0))]) (fun e => by cases e) (by rfl) (by rfl) (by rfl) (by kernel_rfl) (by kernel_rfl) (by kernel_rfl) (inw0 (hk78.cell 1 rfl)) (by kernel_rfl) ?_
    refine gv_pure 2 [1, 3, 5, 17, 18, 19] (σ' := [(1, (.pointer (some ⟨b1, 0, none⟩))), (3, (.pointer (some ⟨b7, 0, none⟩))), (5, (.int .u64 0)), (17, (.slice pa0_0 (List.length a_0.2) pc0_0)), (18, (.int .i64 ((List.length a_0.2 : Nat) : Int))), (19, (.int .i64 0))]) (by kernel_rfl) ?_
    refine gv_nil ?_
    refine bindE h0 ?_; clear h0; intro j79 h1 h0
    refine gv_cut_code (J := fun a w81 => ∃ s80 : (Int × (Int × Int)), j79 = .inl s80 ∧ Below w0.heap.size w0 w81 ∧ w49.heap.size ≤ w81.heap.size ∧ Box w81 b1 24 #[(.bool a_0.1), (.slice pa0_0 (List.length a_0.2) pc0_0)] ∧ Box w81 b7 29 #[(.int .i64 s80.2.1), (.int .i64 s80.2.2)] ∧ a.defers = [] ∧ a.tmps.size = 49 ∧ Ok [(1, (.pointer (some ⟨b1, 0, none⟩))), (3, (.pointer (some ⟨b7, 0, none⟩))), (5, (.int .u64 s80.1))] a.tmps) ?_ ?_
    · skip
      refine gv_block ?_
      refine gv_loop (A := fun (s82 : (Int × Int × (Int × Int))) a w83 => Below w0.heap.size w0 w83 ∧ w49.heap.size ≤ w83.heap.size ∧ Box w83 b1 24 #[(.bool a_0.1), (.slice pa0_0 (List.length a_0.2) pc0_0)] ∧ Box w83 b7 29 #[(.int .i64 s82.2.2.1), (.int .i64 s82.2.2.2)] ∧ a.defers = [] ∧ a.tmps.size = 49 ∧ Ok [(1, (.pointer (some ⟨b1, 0, none⟩))), (3, (.pointer (some ⟨b7, 0, none⟩))), (5, (.int .u64 s82.1)), (17, (.slice pa0_0 (List.length a_0.2) pc0_0)), (18, (.int .i64 ((List.length a_0.2 : Nat) : Int))), (19, (.int .i64 s82.2.1))] a.tmps) h1 ?_ ?_
      · intro a hd hs hok
        obtain ⟨q1, q3, q5, q17, q18, q19, _⟩ := hok
        have hg84 := (grown_trans hg41 hg45)
        have hB85 := below_grown hB29 hg84 hB29.size nb
        have hB86 := below_grown hB29 hg41 hB29.size nb
        have hlo87 : w0.heap.size ≤ b43 := lob hbe47 hB86.size
        have hB88 := below_grown hB85 hg50 hB85.size (rowlo hlo87)
        have hk89 := hb10.grown hg75 nb
        have ap90 : ¬ (· = b7) b43 := fun hx => Nat.not_lt_of_le ((lowb hbe47) _ rfl) ((fun k (hk : k = b7) => Nat.lt_of_le_of_lt (Nat.le_of_eq hk) hk89.lt) _ hx)
        have hk91 := (hb10.grown hg74 nb).grown hg50 (rowne ap90)
        exact ⟨hB88, (Nat.le_refl _), hk78, hk91, hd, hs, ⟨q1, q3, q5, q17, q18, q19, trivial⟩⟩
      · rintro s82 r2 h2 hR2 a w83 ⟨hB92, hz93, hb94, hb95, hd, hs, hok⟩
        refine (?_ : Run Try.prog _ 49 _ .normal [(1, (.pointer (some ⟨b1, 0, none⟩))), (3, (.pointer (some ⟨b7, 0, none⟩))), (5, (.int .u64 s82.1)), (17, (.slice pa0_0 (List.length a_0.2) pc0_0)), (18, (.int .i64 ((List.length a_0.2 : Nat) : Int))), (19, (.int .i64 s82.2.1))] w83) a hd hs hok
        clear hd hs hok
        clear hk78 ap77 hk76 hg75 hg74 hc53 hz52 hb51 hg50 hz48 hbe47 hb46 hg45 hg41 hr39 ap35 hB36 ap34 ap32 ap31 hl21 hx30 ho20 hB29 hx24 hx22 hz28 hx23 hB27 hg26 hz19 hbe18 hb17 hg16 hk13 hz12 hb10 hg9 hz6 hbe5 hg3
        refine gv_seq ?_
        refine gv_region ?_
        refine gv_pure 1 [1, 3, 5, 17, 18, 19, 20] (σ' := [(1, (.pointer (some ⟨b1, 0, none⟩))), (3, (.pointer (some ⟨b7, 0, none⟩))), (5, (.int .u64 s82.1)), (17, (.slice pa0_0 (List.length a_0.2) pc0_0)), (18, (.int .i64 ((List.length a_0.2 : Nat) : Int))), (19, (.int .i64 s82.2.1)), (20, (.bool (decide (s82.2.1 < ((List.length a_0.2 : Nat) : Int)))))]) (by kernel_rfl) ?_
        refine gv_nil ?_
        refine gv_seq ?_
        refine gv_cond (b := (decide (s82.2.1 < ((List.length a_0.2 : Nat) : Int)))) (by rfl) (fun hc96 => ?_) (fun hc96 => ?_)
        · replace h2 := ite_t hc96 h2
          refine gv_skip ?_
          refine gv_seq ?_
          refine gv_block ?_
          refine gv_seq ?_
          refine gv_region ?_
          refine gv_pure 1 [1, 3, 5, 17, 18, 19, 21] (σ' := [(1, (.pointer (some ⟨b1, 0, none⟩))), (3, (.pointer (some ⟨b7, 0, none⟩))), (5, (.int .u64 s82.1)), (17, (.slice pa0_0 (List.length a_0.2) pc0_0)), (18, (.int .i64 ((List.length a_0.2 : Nat) : Int))), (19, (.int .i64 s82.2.1)), (21, (.int .i64 s82.2.1))]) (by kernel_rfl) ?_
          refine bindE h2 ?_; clear h2; intro x97 hx98 h2
          refine gv_idxaddr (t := 22) (e := 76) (a := pa0_0) (len := List.length a_0.2) (cap := pc0_0) (kk := .i64) (i := s82.2.1) (sz := 1) [1, 3, 5, 17, 18, 19, 21, 22] (σ' := [(1, (.pointer (some ⟨b1, 0, none⟩))), (3, (.pointer (some ⟨b7, 0, none⟩))), (5, (.int .u64 s82.1)), (17, (.slice pa0_0 (List.length a_0.2) pc0_0)), (18, (.int .i64 ((List.length a_0.2 : Nat) : Int))), (19, (.int .i64 s82.2.1)), (21, (.int .i64 s82.2.1)), (22, (.pointer (some (elemAddr pa0_0 ((s82.2.1).toNat * 1)))))]) (fun e => by cases e) (by rfl) (by rfl) (by rfl) (by kernel_rfl) (by kernel_rfl) Try.underlying22 (by kernel_rfl) ((hpa0_0.below hB92 hX0).has hx98) (idx_spec hx98).1 (idx_spec hx98).2.1 (by kernel_rfl) ?_
          refine gv_load (t := 76) (A := (elemAddr pa0_0 ((s82.2.1).toNat * 1))) (.int .u32 x97) [1, 3, 5, 17, 18, 19, 21, 23] (σ' := [(1, (.pointer (some ⟨b1, 0, none⟩))), (3, (.pointer (some ⟨b7, 0, none⟩))), (5, (.int .u64 s82.1)), (17, (.slice pa0_0 (List.length a_0.2) pc0_0)), (18, (.int .i64 ((List.length a_0.2 : Nat) : Int))), (19, (.int .i64 s82.2.1)), (21, (.int .i64 s82.2.1)), (23, (.int .u32 x97))]) (fun e => by cases e) (by rfl) (by rfl) (by rfl) (by kernel_rfl) (by kernel_rfl) (by kernel_rfl) (inw0 ((hpa0_0.below hB92 hX0).cell hx98)) (by kernel_rfl) ?_
          refine gv_pure 2 [1, 3, 5, 6, 7, 17, 18, 19] (σ' := [(1, (.pointer (some ⟨b1, 0, none⟩))), (3, (.pointer (some ⟨b7, 0, none⟩))), (5, (.int .u64 s82.1)), (6, (.int .i64 s82.2.1)), (7, (.int .u32 x97)), (17, (.slice pa0_0 (List.length a_0.2) pc0_0)), (18, (.int .i64 ((List.length a_0.2 : Nat) : Int))), (19, (.int .i64 s82.2.1))]) (by kernel_rfl) ?_
          refine gv_nil ?_
          refine gv_seq ?_
          refine gv_seq ?_
          refine gv_region ?_
          refine gv_pure 2 [1, 3, 5, 6, 7, 17, 18, 19, 25] (σ' := [(1, (.pointer (some ⟨b1, 0, none⟩))), (3, (.pointer (some ⟨b7, 0, none⟩))), (5, (.int .u64 s82.1)), (6, (.int .i64 s82.2.1)), (7, (.int .u32 x97)), (17, (.slice pa0_0 (List.length a_0.2) pc0_0)), (18, (.int .i64 ((List.length a_0.2 : Nat) : Int))), (19, (.int .i64 s82.2.1)), (25, (.bool (decide (s82.2.1 > 1))))]) (by kernel_rfl) ?_
          refine gv_nil ?_
          refine gv_cond (b := (decide (s82.2.1 > 1))) (by rfl) (fun hc99 => ?_) (fun hc99 => ?_)
          · replace h2 := ite_t hc99 h2
            refine gv_seq ?_
            refine gv_region ?_
            refine bindE h2 ?_; clear h2; intro r100 hr101 h2
            refine gv_call (f := 69) (vs := [(.int .i64 14), (.int .i64 (-1))]) (cap := []) _ (by decide) (by rfl) (by rfl) rfl (by rfl) (by rfl) enters69 (integer_at_ok fuel 14 (-1) w83  r100 hr101) ?_
            rintro v104 w102 ⟨hg103, rfl⟩
            refine ⟨(fun e => by cases e), ?_⟩
            refine gv_pure 1 [2, 3, 26] (σ' := [(2, (.int .i64 0)), (3, (.pointer (some ⟨b7, 0, none⟩))), (26, (.agg #[(.int .i64 r100.1), (.int .i64 r100.2)]))]) (by kernel_rfl) ?_
            have hk109 := hb95.grown hg103 nb
            refine gv_store (t := 29) (b := b7) (off := 0) (v := (.agg #[(.int .i64 r100.1), (.int .i64 r100.2)])) (t' := 29) (cs := #[(.int .i64 s82.2.2.1), (.int .i64 s82.2.2.2)]) #[(.int .i64 r100.1), (.int .i64 r100.2)] (by decide) (by rfl) (by rfl) (by kernel_rfl) (by kernel_rfl) (by kernel_rfl) (by intro u hu; simp [Value.cells] at hu; rcases hu with rfl | rfl <;> rfl) (show 0 + 2 ≤ 2 by decide) (by rfl) hk109 ?_
            intro w105 hg106 hb107 hz108
            refine ⟨(fun e => by cases e), ?_⟩
            refine gv_sub [2, 3] (σ' := [(2, (.int .i64 0)), (3, (.pointer (some ⟨b7, 0, none⟩)))]) (by kernel_rfl) ?_
            refine gv_nil ?_
            refine gv_cret ?_
            have e := Option.some.inj h2; subst e
            replace h1 := congrArg some (hR2 _ rfl)
            have e := Option.some.inj h1; subst e
            replace h0 := cont_inr h0
            have e := Option.some.inj h0; subst e
            refine gv_ret (gv_done [(.int .i64 0), (.agg #[(.int .i64 r100.1), (.int .i64 r100.2)])] rfl ⟨rfl, ⟨_, rfl, run_loadVar_row w105 b7 _ 29 _ _ _ hb107 Try.underlying29 rfl (by kernel_rfl)⟩, trivial⟩ ?_)
            have hB110 := below_grown hB92 hg103 hB92.size nb
            have hB111 := below_grown hB110 hg106 hB110.size (rowlo hlo37)
            exact ⟨grown_of_below hB111, rfl⟩
          · replace h2 := ite_f hc99 h2
            refine gv_skip ?_
            refine gv_region ?_
            refine gv_pure 5 [1, 3, 17, 18, 19, 27, 29, 31] (σ' := [(1, (.pointer (some ⟨b1, 0, none⟩))), (3, (.pointer (some ⟨b7, 0, none⟩))), (17, (.slice pa0_0 (List.length a_0.2) pc0_0)), (18, (.int .i64 ((List.length a_0.2 : Nat) : Int))), (19, (.int .i64 s82.2.1)), (27, (.int .u64 s82.1)), (29, (.int .u64 (IntKind.u64.wrap (x97)))), (31, (.int .i64 (IntKind.i64.wrap (32 * s82.2.1))))]) (by kernel_rfl) ?_
            refine bindE h2 ?_; clear h2; intro _ hx112 h2
            refine gv_shift .shl (t := 25) (kk := .u64) (ky := .i64) (x := (IntKind.u64.wrap (x97))) (y := (IntKind.i64.wrap (32 * s82.2.1))) (shlI .u64 (IntKind.u64.wrap (x97)) (IntKind.i64.wrap (32 * s82.2.1))) [1, 3, 17, 18, 19, 27, 32] (σ' := [(1, (.pointer (some ⟨b1, 0, none⟩))), (3, (.pointer (some ⟨b7, 0, none⟩))), (17, (.slice pa0_0 (List.length a_0.2) pc0_0)), (18, (.int .i64 ((List.length a_0.2 : Nat) : Int))), (19, (.int .i64 s82.2.1)), (27, (.int .u64 s82.1)), (32, (.int .u64 (shlI .u64 (IntKind.u64.wrap (x97)) (IntKind.i64.wrap (32 * s82.2.1)))))]) (fun e => by cases e) (by rfl) (by rfl) (by rfl) (by kernel_rfl) (by kernel_rfl) (nn_spec hx112) (.inl ⟨rfl, rfl⟩) (by kernel_rfl) ?_
            refine gv_pure 2 [1, 3, 5, 17, 18, 19] (σ' := [(1, (.pointer (some ⟨b1, 0, none⟩))), (3, (.pointer (some ⟨b7, 0, none⟩))), (5, (.int .u64 (bwOr .u64 s82.1 (shlI .u64 (IntKind.u64.wrap (x97)) (IntKind.i64.wrap (32 * s82.2.1)))))), (17, (.slice pa0_0 (List.length a_0.2) pc0_0)), (18, (.int .i64 ((List.length a_0.2 : Nat) : Int))), (19, (.int .i64 s82.2.1))]) (by kernel_rfl) ?_
            refine bindE h2 ?_; clear h2; intro n113 hn114 h2
            refine gv_name (s := 5) (v := (.int .u64 (bwOr .u64 s82.1 (shlI .u64 (IntKind.u64.wrap (x97)) (IntKind.i64.wrap (32 * s82.2.1)))))) (v' := (.int .u64 n113)) (by rfl) (congrArg (Value.int .u64) (Option.some.inj hn114)) ?_
            refine gv_sub [1, 3, 5, 17, 18, 19] (σ' := [(1, (.pointer (some ⟨b1, 0, none⟩))), (3, (.pointer (some ⟨b7, 0, none⟩))), (5, (.int .u64 n113)), (17, (.slice pa0_0 (List.length a_0.2) pc0_0)), (18, (.int .i64 ((List.length a_0.2 : Nat) : Int))), (19, (.int .i64 s82.2.1))]) (by kernel_rfl) ?_
            refine gv_nil ?_
            refine gv_blk ?_
            refine gv_region ?_
            refine gv_pure 2 [1, 3, 5, 17, 18, 19] (σ' := [(1, (.pointer (some ⟨b1, 0, none⟩))), (3, (.pointer (some ⟨b7, 0, none⟩))), (5, (.int .u64 n113)), (17, (.slice pa0_0 (List.length a_0.2) pc0_0)), (18, (.int .i64 ((List.length a_0.2 : Nat) : Int))), (19, (.int .i64 (IntKind.i64.wrap (s82.2.1 + 1))))]) (by kernel_rfl) ?_
            refine gv_nil ?_
            have e := Option.some.inj h2; subst e
            refine gv_goal fun a hd hs hok => ?_
            obtain ⟨q1, q3, q5, q17, q18, q19, _⟩ := hok
            have hz115 : w49.heap.size ≤ w83.heap.size := hz93
            exact ⟨(n113, (IntKind.i64.wrap (s82.2.1 + 1)), (s82.2.2.1, s82.2.2.2)), rfl, hB92, hz115, hb94, hb95, hd, hs, ⟨q1, q3, q5, q17, q18, q19, trivial⟩⟩
        · replace h2 := ite_f hc96 h2
          refine gv_cexit ?_
          refine gv_exit rfl ?_
          have e := Option.some.inj h2; subst e
          replace h1 := congrArg some (hR2 _ rfl)
          have e := Option.some.inj h1; subst e
          refine gv_goal fun a hd hs hok => ?_
          obtain ⟨q1, q3, q5, q17, q18, q19, q20, _⟩ := hok
          have hz116 : w49.heap.size ≤ w83.heap.size := hz93
          exact ⟨(s82.1, (s82.2.2.1, s82.2.2.2)), rfl, hB92, hz116, hb94, hb95, hd, hs, ⟨q1, q3, q5, trivial⟩⟩
    · rintro a w81 ⟨s80, e, hB117, hz118, hb119, hb120, hd, hs, hok⟩
      subst e
      refine (?_ : Run Try.prog _ 49 _ .normal [(1, (.pointer (some ⟨b1, 0, none⟩))), (3, (.pointer (some ⟨b7, 0, none⟩))), (5, (.int .u64 s80.1))] w81) a hd hs hok
      clear hd hs hok
      replace h0 := cont_inl h0
      clear hz118 hk78 ap77 hk76 hg75 hg74 hc53 hz52 hb51 hg50 hz48 hbe47 hb46 hg45 hg41 hr39 ap35 hB36 ap34 ap32 ap31 hl21 hx30 ho20 hB29 hx24 hx22 hz28 hx23 hB27 hg26 hz19 hbe18 hb17 hg16 hk13 hz12 hb10 hg9 hz6 hbe5 hg3
      refine gv_seq ?_
      refine gv_region ?_
      refine gv_pure 3 [1, 3, 8] (σ' := [(1, (.pointer (some ⟨b1, 0, none⟩))), (3, (.pointer (some ⟨b7, 0, none⟩))), (8, (.int .i64 (IntKind.i64.wrap (s80.1))))]) (by kernel_rfl) ?_
      refine gv_nil ?_
      refine gv_seq ?_
      refine gv_seq ?_
      refine gv_region ?_
      refine gv_pure 1 [1, 3, 8, 37] (σ' := [(1, (.pointer (some ⟨b1, 0, none⟩))), (3, (.pointer (some ⟨b7, 0, none⟩))), (8, (.int .i64 (IntKind.i64.wrap (s80.1)))), (37, (.pointer (some ⟨b1, 0, none⟩)))]) (by kernel_rfl) ?_
      refine gv_load (t := 4) (A := ⟨b1, 0, none⟩) (.bool a_0.1) [1, 3, 8, 38] (σ' := [(1, (.pointer (some ⟨b1, 0, none⟩))), (3, (.pointer (some ⟨b7, 0, none⟩))), (8, (.int .i64 (IntKind.i64.wrap (s80.1)))), (38, (.bool a_0.1))]) (fun e => by cases e) (by rfl) (by rfl) (by rfl) (by kernel_rfl) (by kernel_rfl) (by kernel_rfl) (inw0 (hb119.cell 0 rfl)) (by kernel_rfl) ?_
      refine gv_nil ?_
      refine bindE h0 ?_; clear h0; intro j121 h1 h0
      refine gv_cut_code (J := fun a w122 => Below w0.heap.size w0 w122 ∧ w81.heap.size ≤ w122.heap.size ∧ Box w122 b1 24 #[(.bool a_0.1), (.slice pa0_0 (List.length a_0.2) pc0_0)] ∧ Box w122 b7 29 #[(.int .i64 s80.2.1), (.int .i64 s80.2.2)] ∧ a.defers = [] ∧ a.tmps.size = 49 ∧ Ok [(1, (.pointer (some ⟨b1, 0, none⟩))), (3, (.pointer (some ⟨b7, 0, none⟩))), (8, (.int .i64 j121))] a.tmps) ?_ ?_
      · skip
        refine gv_cond (b := a_0.1) (by rfl) (fun hc123 => ?_) (fun hc123 => ?_)
        · replace h1 := ite_t hc123 h1
          refine gv_region ?_
          refine gv_pure 3 [1, 3, 8] (σ' := [(1, (.pointer (some ⟨b1, 0, none⟩))), (3, (.pointer (some ⟨b7, 0, none⟩))), (8, (.int .i64 (IntKind.i64.wrap (0 - (IntKind.i64.wrap (s80.1))))))]) (by kernel_rfl) ?_
          refine bindE h1 ?_; clear h1; intro n124 hn125 h1
          refine gv_name (s := 8) (v := (.int .i64 (IntKind.i64.wrap (0 - (IntKind.i64.wrap (s80.1)))))) (v' := (.int .i64 n124)) (by rfl) (congrArg (Value.int .i64) (Option.some.inj hn125)) ?_
          refine gv_sub [1, 3, 8] (σ' := [(1, (.pointer (some ⟨b1, 0, none⟩))), (3, (.pointer (some ⟨b7, 0, none⟩))), (8, (.int .i64 n124))]) (by kernel_rfl) ?_
          refine gv_nil ?_
          have e := Option.some.inj h1; subst e
          refine gv_goal fun a hd hs hok => ?_
          obtain ⟨q1, q3, q8, _⟩ := hok
          exact ⟨hB117, (Nat.le_refl _), hb119, hb120, hd, hs, ⟨q1, q3, q8, trivial⟩⟩
        · replace h1 := ite_f hc123 h1
          refine gv_skip ?_
          have e := Option.some.inj h1; subst e
          refine gv_goal fun a hd hs hok => ?_
          obtain ⟨q1, q3, q8, q38, _⟩ := hok
          exact ⟨hB117, (Nat.le_refl _), hb119, hb120, hd, hs, ⟨q1, q3, q8, trivial⟩⟩
      · rintro a w122 ⟨hB126, hz127, hb128, hb129, hd, hs, hok⟩
        refine (?_ : Run Try.prog _ 49 _ .normal [(1, (.pointer (some ⟨b1, 0, none⟩))), (3, (.pointer (some ⟨b7, 0, none⟩))), (8, (.int .i64 j121))] w122) a hd hs hok
        clear hd hs hok
        clear hz127 hb120 hb119 hB117
        refine gv_seq ?_
        refine gv_seq ?_
        refine gv_region ?_
        refine gv_pure 3 [3, 8, 42, 43] (σ' := [(3, (.pointer (some ⟨b7, 0, none⟩))), (8, (.int .i64 j121)), (42, (.bool (decide (j121 < 0)))), (43, (.pointer (some ⟨b1, 0, none⟩)))]) (by kernel_rfl) ?_
        refine gv_load (t := 4) (A := ⟨b1, 0, none⟩) (.bool a_0.1) [3, 8, 42, 44] (σ' := [(3, (.pointer (some ⟨b7, 0, none⟩))), (8, (.int .i64 j121)), (42, (.bool (decide (j121 < 0)))), (44, (.bool a_0.1))]) (fun e => by cases e) (by rfl) (by rfl) (by rfl) (by kernel_rfl) (by kernel_rfl) (by kernel_rfl) (inw0 (hb128.cell 0 rfl)) (by kernel_rfl) ?_
        refine gv_pure 1 [3, 8, 45] (σ' := [(3, (.pointer (some ⟨b7, 0, none⟩))), (8, (.int .i64 j121)), (45, (.bool (!((decide (j121 < 0)) == a_0.1))))]) (by kernel_rfl) ?_
        refine gv_nil ?_
        refine gv_cond (b := (!((decide (j121 < 0)) == a_0.1))) (by rfl) (fun hc130 => ?_) (fun hc130 => ?_)
        · replace h0 := ite_t hc130 h0
          refine gv_seq ?_
          refine gv_region ?_
          refine bindE h0 ?_; clear h0; intro r131 hr132 h0
          refine gv_call (f := 69) (vs := [(.int .i64 14), (.int .i64 (-1))]) (cap := []) _ (by decide) (by rfl) (by rfl) rfl (by rfl) (by rfl) enters69 (integer_at_ok fuel 14 (-1) w122  r131 hr132) ?_
          rintro v135 w133 ⟨hg134, rfl⟩
          refine ⟨(fun e => by cases e), ?_⟩
          refine gv_pure 1 [2, 3, 46] (σ' := [(2, (.int .i64 0)), (3, (.pointer (some ⟨b7, 0, none⟩))), (46, (.agg #[(.int .i64 r131.1), (.int .i64 r131.2)]))]) (by kernel_rfl) ?_
          have hk140 := hb129.grown hg134 nb
          refine gv_store (t := 29) (b := b7) (off := 0) (v := (.agg #[(.int .i64 r131.1), (.int .i64 r131.2)])) (t' := 29) (cs := #[(.int .i64 s80.2.1), (.int .i64 s80.2.2)]) #[(.int .i64 r131.1), (.int .i64 r131.2)] (by decide) (by rfl) (by rfl) (by kernel_rfl) (by kernel_rfl) (by kernel_rfl) (by intro u hu; simp [Value.cells] at hu; rcases hu with rfl | rfl <;> rfl) (show 0 + 2 ≤ 2 by decide) (by rfl) hk140 ?_
          intro w136 hg137 hb138 hz139
          refine ⟨(fun e => by cases e), ?_⟩
          refine gv_sub [2, 3] (σ' := [(2, (.int .i64 0)), (3, (.pointer (some ⟨b7, 0, none⟩)))]) (by kernel_rfl) ?_
          refine gv_nil ?_
          refine gv_cret ?_
          have e := Option.some.inj h0; subst e
          refine gv_ret (gv_done [(.int .i64 0), (.agg #[(.int .i64 r131.1), (.int .i64 r131.2)])] rfl ⟨rfl, ⟨_, rfl, run_loadVar_row w136 b7 _ 29 _ _ _ hb138 Try.underlying29 rfl (by kernel_rfl)⟩, trivial⟩ ?_)
          have hB141 := below_grown hB126 hg134 hB126.size nb
          have hB142 := below_grown hB141 hg137 hB141.size (rowlo hlo37)
          exact ⟨grown_of_below hB142, rfl⟩
        · replace h0 := ite_f hc130 h0
          refine gv_skip ?_
          refine gv_seq ?_
          refine gv_region ?_
          refine gv_pure 3 [2, 3, 48] (σ' := [(2, (.int .i64 j121)), (3, (.pointer (some ⟨b7, 0, none⟩))), (48, (.agg #[(.int .i64 0), (.int .i64 0)]))]) (by kernel_rfl) ?_
          refine gv_store (t := 29) (b := b7) (off := 0) (v := (.agg #[(.int .i64 0), (.int .i64 0)])) (t' := 29) (cs := #[(.int .i64 s80.2.1), (.int .i64 s80.2.2)]) #[(.int .i64 0), (.int .i64 0)] (by decide) (by rfl) (by rfl) (by kernel_rfl) (by kernel_rfl) (by kernel_rfl) (by intro u hu; simp [Value.cells] at hu; rcases hu with rfl | rfl <;> rfl) (show 0 + 2 ≤ 2 by decide) (by rfl) hb129 ?_
          intro w143 hg144 hb145 hz146
          refine ⟨(fun e => by cases e), ?_⟩
          refine gv_sub [2, 3] (σ' := [(2, (.int .i64 j121)), (3, (.pointer (some ⟨b7, 0, none⟩)))]) (by kernel_rfl) ?_
          refine gv_nil ?_
          refine gv_cret ?_
          have e := Option.some.inj h0; subst e
          refine gv_ret (gv_done [(.int .i64 j121), (.agg #[(.int .i64 0), (.int .i64 0)])] rfl ⟨rfl, ⟨_, rfl, run_loadVar_row w143 b7 _ 29 _ _ _ hb145 Try.underlying29 rfl (by kernel_rfl)⟩, trivial⟩ ?_)
          have hB147 := below_grown hB126 hg144 hB126.size (rowlo hlo37)
          exact ⟨grown_of_below hB147, rfl⟩

set_option maxHeartbeats 4000000 in
set_option maxRecDepth 100000 in
theorem random_source_small_ok (fuel : Nat) (pb0 : Nat) (s_0 : ((Int × Int))) (n_1 : Int) (w0 : World) (hp0 : Box w0 pb0 81 #[(.int .u64 s_0.1), (.int .u64 s_0.2)]) (r0 : (Int × ((Int × Int)))) (h0 : random_source_small fuel s_0 n_1 = some r0) :
    Calls Try.prog 56 ([(.pointer (some ⟨pb0, 0, none⟩)), (.int .i64 n_1)] : List Value).toArray w0 (Ret fun v w' => w0.grownBy w' (some pb0) ∧ v = tup [(.int .i64 r0.1)] ∧ Box w' pb0 81 #[(.int .u64 r0.2.1), (.int .u64 r0.2.2)]) := by
  have hB0 : w0.grownBy w0 (some pb0) := grown_refl _ _
  unfold random_source_small at h0
  refine calls_run Try.func56 rfl Try.ntmps56 (by kernel_rfl) ?_
  refine gv_sub [0, 1] (σ' := [(0, (.pointer (some ⟨pb0, 0, none⟩))), (1, (.int .i64 n_1))]) (by kernel_rfl) ?_
  have hpl0 := hp0.lt
  refine gv_seq ?_
  refine gv_region ?_
  refine gv_pure 1 [0, 1] (σ' := [(0, (.pointer (some ⟨pb0, 0, none⟩))), (1, (.int .i64 n_1))]) (by kernel_rfl) ?_
  refine gv_nil ?_
  refine gv_seq ?_
  refine gv_region ?_
  refine gv_pure 2 [8, 9] (σ' := [(8, (.pointer (some ⟨pb0, 0, none⟩))), (9, (.int .i64 n_1))]) (by kernel_rfl) ?_
  refine bindE h0 ?_; clear h0; intro r1 hr2 h0
  refine gv_call (f := 47) (vs := [(.int .i64 n_1)]) (cap := []) _ (by decide) (by rfl) (by rfl) rfl (by rfl) (by rfl) enters47 (integer_Of_ok fuel n_1 w0  r1 hr2) ?_
  rintro v5 w3 ⟨hg4, a6, c7, rfl, ho8, hl9⟩
  refine ⟨(fun e => by cases e), ?_⟩
  have hl10 : ∀ g, blk a6 = some g → w0.heap.size ≤ g := fun g e => Nat.le_trans hB0.size (hl9 g e)
  refine gv_sub [8, 10] (σ' := [(8, (.pointer (some ⟨pb0, 0, none⟩))), (10, (.agg #[(.bool r1.1), (.slice a6 (List.length r1.2) c7)]))]) (by kernel_rfl) ?_
  refine bindE h0 ?_; clear h0; intro r11 hr12 h0
  have ap13 : ¬ (fun k => blk a6 = some k) pb0 := fun hx => Nat.not_lt_of_le ((show ∀ k, blk a6 = some k → w0.heap.size ≤ k from hl9) _ hx) ((fun k (hk : k = pb0) => Nat.lt_of_le_of_lt (Nat.le_of_eq hk) hp0.lt) _ rfl)
  have hk14 := hp0.grown hg4 nb
  refine gv_call (f := 43) (vs := [(.pointer (some ⟨pb0, 0, none⟩)), (.agg #[(.bool r1.1), (.slice a6 (List.length r1.2) c7)])]) (cap := []) _ (by decide) (by rfl) (by rfl) rfl (by rfl) (by rfl) enters43 (random_source_below_ok fuel pb0 (s_0.1, s_0.2) a6 c7 (r1.1, r1.2) w3 (fun k => (fun k => blk a6 = some k) k) (fun k hk => ⟨(fun k (hk : blk a6 = some k) => ho8.lt k hk) k hk, fun e => ap13 (e ▸ hk)⟩) hk14 ((ho8.rd (Y := fun k => blk a6 = some k) (fun _ h => h.elim) (fun g e => e)).wide (fun k hk => hk)) r11 hr12) ?_
  rintro v17 w15 ⟨hg16, a18, c19, rfl, ho20, hl21, hb22⟩
  refine ⟨(fun e => by cases e), ?_⟩
  have hB24 := grown_step hB0 hg4  nb
  have hl23 : ∀ g, blk a18 = some g → w0.heap.size ≤ g := fun g e => Nat.le_trans hB24.size (hl21 g e)
  refine gv_sub [11] (σ' := [(11, (.agg #[(.bool r11.1.1), (.slice a18 (List.length r11.1.2) c19)]))]) (by kernel_rfl) ?_
  refine bindE h0 ?_; clear h0; intro r25 hr26 h0
  refine gv_call (f := 67) (vs := [(.agg #[(.bool r11.1.1), (.slice a18 (List.length r11.1.2) c19)])]) (cap := []) _ (by decide) (by rfl) (by rfl) rfl (by rfl) (by rfl) enters67 (integer_Small_ok fuel a18 c19 (r11.1.1, r11.1.2) w15 (fun k => (fun k => blk a18 = some k) k) (fun k hk => (fun k (hk : blk a18 = some k) => ho20.lt k hk) k hk) ((ho20.rd (Y := fun k => blk a18 = some k) (fun _ h => h.elim) (fun g e => e)).wide (fun k hk => hk)) r25 hr26) ?_
  rintro v29 w27 ⟨hg28, rfl⟩
  refine ⟨(fun e => by cases e), ?_⟩
  refine gv_pure 3 [13, 14] (σ' := [(13, (.int .i64 r25.1)), (14, (.agg #[(.int .i64 r25.2.1), (.int .i64 r25.2.2)]))]) (by kernel_rfl) ?_
  refine gv_new (fun b => .pointer (some ⟨b, 0, none⟩)) #[(.int .i64 0), (.int .i64 0)] 29 (by decide) (by rfl) (by rfl) (by kernel_rfl) (by kernel_rfl) ?_
  intro b30 w31 hg32 hb33 hbe34 hz35
  refine ⟨(fun e => by cases e), ?_⟩
  refine gv_pure 1 [5, 6, 14] (σ' := [(5, (.int .i64 r25.1)), (6, (.pointer (some ⟨b30, 0, none⟩))), (14, (.agg #[(.int .i64 r25.2.1), (.int .i64 r25.2.2)]))]) (by kernel_rfl) ?_
  refine gv_store (t := 29) (b := b30) (off := 0) (v := (.agg #[(.int .i64 r25.2.1), (.int .i64 r25.2.2)])) (t' := 29) (cs := #[(.int .i64 0), (.int .i64 0)]) #[(.int .i64 r25.2.1), (.int .i64 r25.2.2)] (by decide) (by rfl) (by rfl) (by kernel_rfl) (by kernel_rfl) (by kernel_rfl) (by intro u hu; simp [Value.cells] at hu; rcases hu with rfl | rfl <;> rfl) (show 0 + 2 ≤ 2 by decide) (by rfl) hb33 ?_
  intro w36 hg37 hb38 hz39
  refine ⟨(fun e => by cases e), ?_⟩
  refine gv_sub [5] (σ' := [(5, (.int .i64 r25.1))]) (by kernel_rfl) ?_
  refine gv_nil ?_
  refine gv_seq ?_
  refine gv_region ?_
  refine gv_pure 2 [4] (σ' := [(4, (.int .i64 r25.1))]) (by kernel_rfl) ?_
  refine gv_nil ?_
  refine gv_cret ?_
  have e := Option.some.inj h0; subst e
  refine gv_ret (gv_done [(.int .i64 r25.1)] rfl ⟨rfl, trivial⟩ ?_)
  have hB40 := grown_step hB24 hg16  rowpp
  have hg41 := (grown_trans hg28 hg32)
  have hB42 := grown_step hB40 hg41  nb
  have hB43 := grown_step hB24 hg16  rowpp
  have hB44 := grown_step hB43 hg28  nb
  have hlo45 : w0.heap.size ≤ b30 := lob hbe34 hB44.size
  have hB46 := grown_step hB42 hg37  (rowppr hlo45)
  have hk47 := hb22.grown hg28 nb
  have ap48 : ¬ (· = pb0) b30 := fun hx => Nat.not_lt_of_le ((lowb hbe34) _ rfl) ((fun k (hk : k = pb0) => Nat.lt_of_le_of_lt (Nat.le_of_eq hk) hk47.lt) _ hx)
  have hk49 := (hb22.grown hg41 nb).grown hg37 (rowne ap48)
  exact ⟨hB46, rfl, hk49⟩

set_option maxHeartbeats 4000000 in
set_option maxRecDepth 100000 in
theorem slices_Clone_sint_int_ok (fuel : Nat) (pa0_0 : Option Addr) (pc0_0 : Nat) (s_0 : (List Int)) (w0 : World) (X0 : Nat → Prop) (hX0 : ∀ k, X0 k → k < w0.heap.size) (hpa0_0 : Rd (iE .i64) w0 X0 pa0_0 pc0_0 s_0) (r0 : (List Int)) (h0 : slices_Clone_sint_int fuel s_0 = some r0) :
    Calls Try.prog 66 ([(.slice pa0_0 (List.length s_0) pc0_0)] : List Value).toArray w0 (Ret fun v w' => w0.grownBy w' none ∧ ∃ (a0_0r : Option Addr) (c0_0r : Nat), v = tup [(.slice a0_0r (List.length r0) c0_0r)] ∧ Own (iE .i64) 3 w' (fun _ => False) a0_0r c0_0r r0 ∧ (∀ g, blk a0_0r = some g → w0.heap.size ≤ g)) := by
  have hB0 : Below w0.heap.size w0 w0 := Below.refl _ _
  unfold slices_Clone_sint_int at h0
  refine calls_run Try.func66 rfl Try.ntmps66 (by kernel_rfl) ?_
  refine gv_sub [0] (σ' := [(0, (.slice pa0_0 (List.length s_0) pc0_0))]) (by kernel_rfl) ?_
  refine gv_seq ?_
  refine gv_region ?_
  refine gv_pure 1 [0] (σ' := [(0, (.slice pa0_0 (List.length s_0) pc0_0))]) (by kernel_rfl) ?_
  refine gv_nil ?_
  refine gv_seq ?_
  refine gv_seq ?_
  refine gv_region ?_
  refine gv_pure 1 [0, 3] (σ' := [(0, (.slice pa0_0 (List.length s_0) pc0_0)), (3, (.slice pa0_0 (List.length s_0) pc0_0))]) (by kernel_rfl) ?_
  refine gv_nilcmp (t := 46) (x := (.tmp 3)) (y := (.const (.slice none 0 0))) (a := pa0_0) (len := List.length s_0) (cap := pc0_0) [0, 4] (σ' := [(0, (.slice pa0_0 (List.length s_0) pc0_0)), (4, (.bool (Option.isNone pa0_0)))]) (fun e => by cases e) (by rfl) (by rfl) (by rfl) (by kernel_rfl) (by kernel_rfl) Try.underlying46 (by kernel_rfl) ?_
  refine gv_nil ?_
  have hc1n := fun e => nil_of_none (hpa0_0.below hB0 hX0) e
  refine gv_cond (b := (Option.isNone pa0_0)) (by rfl) (fun hc1 => ?_) (fun hc1 => ?_)
  · skip
    replace h0 : (some (([] : List Int))) = some r0 := by have e := hc1n hc1; simp only [e] at h0; simpa [app] using h0
    refine gv_seq ?_
    refine gv_region ?_
    refine gv_pure 1 [2] (σ' := [(2, (.slice none (List.length ([] : List Int)) 0))]) (by kernel_rfl) ?_
    refine gv_nil ?_
    refine gv_cret ?_
    have e := Option.some.inj h0; subst e
    refine gv_ret (gv_done [(.slice none (List.length ([] : List Int)) 0)] rfl ⟨rfl, trivial⟩ ?_)
    exact ⟨grown_of_below hB0, none, 0, rfl, (Own.nil (iE .i64) 3 w0 (fun _ => False)), (fun _ h => by cases h)⟩
  · skip
    refine gv_skip ?_
    refine gv_seq ?_
    refine gv_region ?_
    refine gv_new (fun b => .slice (some ⟨b, 0, none⟩) 0 0) #[] 3 (by decide) (by rfl) (by rfl) (by kernel_rfl) (by kernel_rfl) ?_
    intro b2 w3 hg4 hb5 hbe6 hz7
    refine ⟨(fun e => by cases e), ?_⟩
    have ho8 : Own (iE .i64) 3 w3 (fun _ => False) (some ⟨b2, 0, none⟩) 0 ([] : List Int) := Box.ownE hb5 rfl (show 0 ≤ maxLen by decide) (fun h => h)
    have hl9 : ∀ g, blk (some ⟨b2, 0, none⟩) = some g → w0.heap.size ≤ g := loo hbe6 hB0.size
    refine gv_pure 1 [5, 6] (σ' := [(5, (.slice (some ⟨b2, 0, none⟩) (List.length ([] : List Int)) 0)), (6, (.slice pa0_0 (List.length s_0) pc0_0))]) (by kernel_rfl) ?_
    refine bindE h0 ?_; clear h0; intro l13 hx14 h0
    have hB21 := below_grown hB0 hg4 hB0.size nb
    refine gv_append (iE .i64) (t := 46) (ty := 46) (e := 3) (a := (some ⟨b2, 0, none⟩)) (ax := pa0_0) (cap := 0) (cx := pc0_0) (xs := ([] : List Int)) (ys := s_0) l13 (X := (fun _ => False)) (Y := X0) (by decide) (by rfl) (by rfl) (by kernel_rfl) (by kernel_rfl) Try.underlying46 info3 ho8 (hpa0_0.below hB21 hX0) hx14 (.inr fun _ _ _ _ _ h => h) (fun _ h => h.elim) ?_
    intro a15 c16 w17 hg18 ho19 hk20
    refine ⟨(fun e => by cases e), ?_⟩
    have hl22 : ∀ g, blk a15 = some g → w0.heap.size ≤ g := blk_step hk20 hl9 hB21.size
    refine gv_pure 1 [2] (σ' := [(2, (.slice a15 (List.length l13) c16))]) (by kernel_rfl) ?_
    refine gv_nil ?_
    refine gv_cret ?_
    have e := Option.some.inj h0; subst e
    refine gv_ret (gv_done [(.slice a15 (List.length l13) c16)] rfl ⟨rfl, trivial⟩ ?_)
    have hB23 := below_grown hB21 hg18 hB21.size hl9
    exact ⟨grown_of_below hB23, a15, c16, rfl, ho19, hl22⟩

set_option maxHeartbeats 4000000 in
set_option maxRecDepth 100000 in
theorem random_source_sample_ok (fuel : Nat) (pb0 : Nat) (s_0 : ((Int × Int))) (n_1 : Int) (k_2 : Int) (w0 : World) (hp0 : Box w0 pb0 81 #[(.int .u64 s_0.1), (.int .u64 s_0.2)]) (r0 : ((List Int) × ((Int × Int)))) (h0 : random_source_sample fuel s_0 n_1 k_2 = some r0) :
    Calls Try.prog 55 ([(.pointer (some ⟨pb0, 0, none⟩)), (.int .i64 n_1), (.int .i64 k_2)] : List Value).toArray w0 (Ret fun v w' => w0.grownBy w' (some pb0) ∧ ∃ (a0_0r : Option Addr) (c0_0r : Nat), v = tup [(.slice a0_0r (List.length r0.1) c0_0r)] ∧ Own (iE .i64) 3 w' (fun _ => False) a0_0r c0_0r r0.1 ∧ (∀ g, blk a0_0r = some g → w0.heap.size ≤ g) ∧ Box w' pb0 81 #[(.int .u64 r0.2.1), (.int .u64 r0.2.2)]) := by
  have hB0 : w0.grownBy w0 (some pb0) := grown_refl _ _
  unfold random_source_sample at h0
  refine calls_run Try.func55 rfl Try.ntmps55 (by kernel_rfl) ?_
  refine gv_sub [0, 1, 2] (σ' := [(0, (.pointer (some ⟨pb0, 0, none⟩))), (1, (.int .i64 n_1)), (2, (.int .i64 k_2))]) (by kernel_rfl) ?_
  have hpl0 := hp0.lt
  refine gv_seq ?_
  refine gv_region ?_
  refine gv_pure 1 [0, 1, 2] (σ' := [(0, (.pointer (some ⟨pb0, 0, none⟩))), (1, (.int .i64 n_1)), (2, (.int .i64 k_2))]) (by kernel_rfl) ?_
  refine gv_nil ?_
  refine gv_seq ?_
  refine gv_region ?_
  refine gv_pure 1 [0, 1, 2, 11] (σ' := [(0, (.pointer (some ⟨pb0, 0, none⟩))), (1, (.int .i64 n_1)), (2, (.int .i64 k_2)), (11, (.int .i64 n_1))]) (by kernel_rfl) ?_
  refine bindE h0 ?_; clear h0; intro l1 hx2 h0
  refine gv_makeC (f := (fun n : Int => Value.int .i64 n)) (hf := fun _ => rfl) (t := 46) (e := 3) (kl := .i64) (kc := .i64) (l := n_1) (c := n_1) (bytes := 8) 0 l1 (by decide) (by rfl) (by rfl) (by kernel_rfl) (by kernel_rfl) Try.underlying46 (by kernel_rfl) (by decide) hx2 ?_
  intro b3 w4 hg5 ho6 hbe7 hz8
  refine ⟨(fun e => by cases e), ?_⟩
  have hl9 : ∀ g, blk (some ⟨b3, 0, none⟩) = some g → w0.heap.size ≤ g := loo hbe7 hB0.size
  refine gv_pure 1 [0, 1, 2, 7] (σ' := [(0, (.pointer (some ⟨pb0, 0, none⟩))), (1, (.int .i64 n_1)), (2, (.int .i64 k_2)), (7, (.slice (some ⟨b3, 0, none⟩) (List.length l1) (n_1).toNat))]) (by kernel_rfl) ?_
  refine gv_nil ?_
  refine gv_seq ?_
  refine gv_seq ?_
  refine gv_region ?_
  refine gv_pure 3 [0, 1, 2, 7, 14, 15] (σ' := [(0, (.pointer (some ⟨pb0, 0, none⟩))), (1, (.int .i64 n_1)), (2, (.int .i64 k_2)), (7, (.slice (some ⟨b3, 0, none⟩) (List.length l1) (n_1).toNat)), (14, (.int .i64 ((List.length l1 : Nat) : Int))), (15, (.int .i64 0))]) (by kernel_rfl) ?_
  refine gv_nil ?_
  refine bindE h0 ?_; clear h0; intro j10 h1 h0
  refine gv_cut_code (J := fun a w11 => ∃ (a7_0j : Option Addr) (c7_0j : Nat), w0.grownBy w11 (some pb0) ∧ w4.heap.size ≤ w11.heap.size ∧ Own (iE .i64) 3 w11 (fun _ => False) a7_0j c7_0j j10 ∧ (∀ g, blk a7_0j = some g → w0.heap.size ≤ g) ∧ Box w11 pb0 81 #[(.int .u64 s_0.1), (.int .u64 s_0.2)] ∧ a.defers = [] ∧ a.tmps.size = 53 ∧ Ok [(0, (.pointer (some ⟨pb0, 0, none⟩))), (1, (.int .i64 n_1)), (2, (.int .i64 k_2)), (7, (.slice a7_0j (List.length j10) c7_0j))] a.tmps) ?_ ?_
  · skip
    refine gv_block ?_
    refine gv_loop (A := fun (s12 : ((List Int) × Int)) a w13 => ∃ (a7_0j : Option Addr) (c7_0j : Nat), w0.grownBy w13 (some pb0) ∧ w4.heap.size ≤ w13.heap.size ∧ Own (iE .i64) 3 w13 (fun _ => False) a7_0j c7_0j s12.1 ∧ (∀ g, blk a7_0j = some g → w0.heap.size ≤ g) ∧ Box w13 pb0 81 #[(.int .u64 s_0.1), (.int .u64 s_0.2)] ∧ a.defers = [] ∧ a.tmps.size = 53 ∧ Ok [(0, (.pointer (some ⟨pb0, 0, none⟩))), (1, (.int .i64 n_1)), (2, (.int .i64 k_2)), (7, (.slice a7_0j (List.length s12.1) c7_0j)), (14, (.int .i64 ((List.length l1 : Nat) : Int))), (15, (.int .i64 s12.2))] a.tmps) h1 ?_ ?_
    · intro a hd hs hok
      obtain ⟨q0, q1, q2, q7, q14, q15, _⟩ := hok
      have hB14 := grown_step hB0 hg5  nb
      have hk15 := hp0.grown hg5 nb
      exact ⟨(some ⟨b3, 0, none⟩), (n_1).toNat, hB14, (Nat.le_refl _), ho6, hl9, hk15, hd, hs, ⟨q0, q1, q2, q7, q14, q15, trivial⟩⟩
    · rintro s12 r2 h2 hR2 a w13 ⟨a18, c19, hB16, hz17, ho20, hl21, hb22, hd, hs, hok⟩
      refine (?_ : Run Try.prog _ 53 _ .normal [(0, (.pointer (some ⟨pb0, 0, none⟩))), (1, (.int .i64 n_1)), (2, (.int .i64 k_2)), (7, (.slice a18 (List.length s12.1) c19)), (14, (.int .i64 ((List.length l1 : Nat) : Int))), (15, (.int .i64 s12.2))] w13) a hd hs hok
      clear hd hs hok
      clear hl9 hz8 hbe7 ho6 hg5 hx2
      refine gv_seq ?_
      refine gv_region ?_
      refine gv_pure 1 [0, 1, 2, 7, 14, 15, 16] (σ' := [(0, (.pointer (some ⟨pb0, 0, none⟩))), (1, (.int .i64 n_1)), (2, (.int .i64 k_2)), (7, (.slice a18 (List.length s12.1) c19)), (14, (.int .i64 ((List.length l1 : Nat) : Int))), (15, (.int .i64 s12.2)), (16, (.bool (decide (s12.2 < ((List.length l1 : Nat) : Int)))))]) (by kernel_rfl) ?_
      refine gv_nil ?_
      refine gv_seq ?_
      refine gv_cond (b := (decide (s12.2 < ((List.length l1 : Nat) : Int)))) (by rfl) (fun hc23 => ?_) (fun hc23 => ?_)
      · replace h2 := ite_t hc23 h2
        refine gv_skip ?_
        refine gv_seq ?_
        refine gv_block ?_
        refine gv_seq ?_
        refine gv_region ?_
        refine gv_pure 2 [0, 1, 2, 7, 8, 14, 15] (σ' := [(0, (.pointer (some ⟨pb0, 0, none⟩))), (1, (.int .i64 n_1)), (2, (.int .i64 k_2)), (7, (.slice a18 (List.length s12.1) c19)), (8, (.int .i64 s12.2)), (14, (.int .i64 ((List.length l1 : Nat) : Int))), (15, (.int .i64 s12.2))]) (by kernel_rfl) ?_
        refine gv_nil ?_
        refine gv_region ?_
        refine gv_pure 3 [0, 1, 2, 7, 14, 15, 18, 19, 20] (σ' := [(0, (.pointer (some ⟨pb0, 0, none⟩))), (1, (.int .i64 n_1)), (2, (.int .i64 k_2)), (7, (.slice a18 (List.length s12.1) c19)), (14, (.int .i64 ((List.length l1 : Nat) : Int))), (15, (.int .i64 s12.2)), (18, (.slice a18 (List.length s12.1) c19)), (19, (.int .i64 s12.2)), (20, (.int .i64 s12.2))]) (by kernel_rfl) ?_
        refine bindE h2 ?_; clear h2; intro x24 hx25 h2
        refine gv_idxaddr (t := 46) (e := 3) (a := a18) (len := List.length s12.1) (cap := c19) (kk := .i64) (i := s12.2) (sz := 1) [0, 1, 2, 7, 14, 15, 20, 21] (σ' := [(0, (.pointer (some ⟨pb0, 0, none⟩))), (1, (.int .i64 n_1)), (2, (.int .i64 k_2)), (7, (.slice a18 (List.length s12.1) c19)), (14, (.int .i64 ((List.length l1 : Nat) : Int))), (15, (.int .i64 s12.2)), (20, (.int .i64 s12.2)), (21, (.pointer (some (elemAddr a18 ((s12.2).toNat * 1)))))]) (fun e => by cases e) (by rfl) (by rfl) (by rfl) (by kernel_rfl) (by kernel_rfl) Try.underlying46 (by kernel_rfl) ((ho20.rd (Y := fun k => blk a18 = some k) (fun _ h => h.elim) (fun g e => e)).has hx25) (idx_spec hx25).1 (idx_spec hx25).2.1 (by kernel_rfl) ?_
        refine bindE h2 ?_; clear h2; intro l26 hx27 h2
        refine gv_upd (f := (fun n : Int => Value.int .i64 n)) (hf := fun _ => rfl) (t := 3) (e := 3) (a := a18) (cap := c19) (xs := s12.1) (i := s12.2) s12.2 l26 (by decide) (by rfl) (by rfl) (by kernel_rfl) rfl (by kernel_rfl) (by kernel_rfl) ho20 hx27 ?_
        intro w28 hg29 ho30 hz31
        refine ⟨(fun e => by cases e), ?_⟩
        have hln32 : List.length s12.1 = List.length l26 := by obtain ⟨_, _, e⟩ := upd_spec hx27; rw [e, List.length_set]
        refine gv_sub [0, 1, 2, 7, 14, 15] (σ' := [(0, (.pointer (some ⟨pb0, 0, none⟩))), (1, (.int .i64 n_1)), (2, (.int .i64 k_2)), (7, (.slice a18 (List.length s12.1) c19)), (14, (.int .i64 ((List.length l1 : Nat) : Int))), (15, (.int .i64 s12.2))]) (by kernel_rfl) ?_
        refine gv_name (s := 7) (v := (.slice a18 (List.length s12.1) c19)) (v' := (.slice a18 (List.length l26) c19)) (by rfl) (by rw [hln32]) ?_
        refine gv_sub [0, 1, 2, 7, 14, 15] (σ' := [(0, (.pointer (some ⟨pb0, 0, none⟩))), (1, (.int .i64 n_1)), (2, (.int .i64 k_2)), (7, (.slice a18 (List.length l26) c19)), (14, (.int .i64 ((List.length l1 : Nat) : Int))), (15, (.int .i64 s12.2))]) (by kernel_rfl) ?_
        refine gv_nil ?_
        refine gv_blk ?_
        refine gv_region ?_
        refine gv_pure 2 [0, 1, 2, 7, 14, 15] (σ' := [(0, (.pointer (some ⟨pb0, 0, none⟩))), (1, (.int .i64 n_1)), (2, (.int .i64 k_2)), (7, (.slice a18 (List.length l26) c19)), (14, (.int .i64 ((List.length l1 : Nat) : Int))), (15, (.int .i64 (IntKind.i64.wrap (s12.2 + 1))))]) (by kernel_rfl) ?_
        refine gv_nil ?_
        have e := Option.some.inj h2; subst e
        refine gv_goal fun a hd hs hok => ?_
        obtain ⟨q0, q1, q2, q7, q14, q15, _⟩ := hok
        have hB33 := grown_step hB16 hg29  (fun g e => .inr (hl21 g e))
        have hz34 : w4.heap.size ≤ w28.heap.size := (Nat.le_trans hz17 hg29.size)
        have hk35 := hb22.grown hg29 (fun g (e : blk a18 = some g) (h : g = pb0) => negt hpl0 (hl21 g e) h)
        exact ⟨(l26, (IntKind.i64.wrap (s12.2 + 1))), rfl, a18, c19, hB33, hz34, ho30, hl21, hk35, hd, hs, ⟨q0, q1, q2, q7, q14, q15, trivial⟩⟩
      · replace h2 := ite_f hc23 h2
        refine gv_cexit ?_
        refine gv_exit rfl ?_
        have e := Option.some.inj h2; subst e
        replace h1 := congrArg some (hR2 _ rfl)
        have e := Option.some.inj h1; subst e
        refine gv_goal fun a hd hs hok => ?_
        obtain ⟨q0, q1, q2, q7, q14, q15, q16, _⟩ := hok
        have hz36 : w4.heap.size ≤ w13.heap.size := hz17
        exact ⟨a18, c19, hB16, hz36, ho20, hl21, hb22, hd, hs, ⟨q0, q1, q2, q7, trivial⟩⟩
  · rintro a w11 ⟨a39, c40, hB37, hz38, ho41, hl42, hb43, hd, hs, hok⟩
    refine (?_ : Run Try.prog _ 53 _ .normal [(0, (.pointer (some ⟨pb0, 0, none⟩))), (1, (.int .i64 n_1)), (2, (.int .i64 k_2)), (7, (.slice a39 (List.length j10) c40))] w11) a hd hs hok
    clear hd hs hok
    clear hz38 hl9 hz8 hbe7 ho6 hg5 hx2
    refine gv_seq ?_
    refine gv_seq ?_
    refine gv_region ?_
    refine gv_pure 2 [0, 1, 2, 7, 23, 24] (σ' := [(0, (.pointer (some ⟨pb0, 0, none⟩))), (1, (.int .i64 n_1)), (2, (.int .i64 k_2)), (7, (.slice a39 (List.length j10) c40)), (23, (.int .i64 k_2)), (24, (.int .i64 0))]) (by kernel_rfl) ?_
    refine gv_nil ?_
    refine bindE h0 ?_; clear h0; intro j44 h1 h0
    refine gv_cut_code (J := fun a w45 => ∃ (a7_0j : Option Addr) (c7_0j : Nat), w0.grownBy w45 (some pb0) ∧ w11.heap.size ≤ w45.heap.size ∧ Own (iE .i64) 3 w45 (fun _ => False) a7_0j c7_0j j44.1 ∧ (∀ g, blk a7_0j = some g → w0.heap.size ≤ g) ∧ Box w45 pb0 81 #[(.int .u64 j44.2.1), (.int .u64 j44.2.2)] ∧ a.defers = [] ∧ a.tmps.size = 53 ∧ Ok [(2, (.int .i64 k_2)), (7, (.slice a7_0j (List.length j44.1) c7_0j))] a.tmps) ?_ ?_
    · skip
      refine gv_block ?_
      refine gv_loop (A := fun (s46 : ((List Int) × Int × ((Int × Int)))) a w47 => ∃ (a7_0j : Option Addr) (c7_0j : Nat), w0.grownBy w47 (some pb0) ∧ w11.heap.size ≤ w47.heap.size ∧ Own (iE .i64) 3 w47 (fun _ => False) a7_0j c7_0j s46.1 ∧ (∀ g, blk a7_0j = some g → w0.heap.size ≤ g) ∧ Box w47 pb0 81 #[(.int .u64 s46.2.2.1), (.int .u64 s46.2.2.2)] ∧ a.defers = [] ∧ a.tmps.size = 53 ∧ Ok [(0, (.pointer (some ⟨pb0, 0, none⟩))), (1, (.int .i64 n_1)), (2, (.int .i64 k_2)), (7, (.slice a7_0j (List.length s46.1) c7_0j)), (23, (.int .i64 k_2)), (24, (.int .i64 s46.2.1))] a.tmps) h1 ?_ ?_
      · intro a hd hs hok
        obtain ⟨q0, q1, q2, q7, q23, q24, _⟩ := hok
        exact ⟨a39, c40, hB37, (Nat.le_refl _), ho41, hl42, hb43, hd, hs, ⟨q0, q1, q2, q7, q23, q24, trivial⟩⟩
      · rintro s46 r2 h2 hR2 a w47 ⟨a50, c51, hB48, hz49, ho52, hl53, hb54, hd, hs, hok⟩
        refine (?_ : Run Try.prog _ 53 _ .normal [(0, (.pointer (some ⟨pb0, 0, none⟩))), (1, (.int .i64 n_1)), (2, (.int .i64 k_2)), (7, (.slice a50 (List.length s46.1) c51)), (23, (.int .i64 k_2)), (24, (.int .i64 s46.2.1))] w47) a hd hs hok
        clear hd hs hok
        clear hb43 hl42 ho41 hB37
        refine gv_seq ?_
        refine gv_region ?_
        refine gv_pure 1 [0, 1, 2, 7, 23, 24, 25] (σ' := [(0, (.pointer (some ⟨pb0, 0, none⟩))), (1, (.int .i64 n_1)), (2, (.int .i64 k_2)), (7, (.slice a50 (List.length s46.1) c51)), (23, (.int .i64 k_2)), (24, (.int .i64 s46.2.1)), (25, (.bool (decide (s46.2.1 < k_2))))]) (by kernel_rfl) ?_
        refine gv_nil ?_
        refine gv_seq ?_
        refine gv_cond (b := (decide (s46.2.1 < k_2))) (by rfl) (fun hc55 => ?_) (fun hc55 => ?_)
        · replace h2 := ite_t hc55 h2
          refine gv_skip ?_
          refine gv_seq ?_
          refine gv_block ?_
          refine gv_seq ?_
          refine gv_region ?_
          refine gv_pure 2 [0, 1, 2, 7, 9, 23, 24] (σ' := [(0, (.pointer (some ⟨pb0, 0, none⟩))), (1, (.int .i64 n_1)), (2, (.int .i64 k_2)), (7, (.slice a50 (List.length s46.1) c51)), (9, (.int .i64 s46.2.1)), (23, (.int .i64 k_2)), (24, (.int .i64 s46.2.1))]) (by kernel_rfl) ?_
          refine gv_nil ?_
          refine gv_seq ?_
          refine gv_region ?_
          refine gv_pure 5 [0, 1, 2, 7, 9, 23, 24, 27, 28, 31] (σ' := [(0, (.pointer (some ⟨pb0, 0, none⟩))), (1, (.int .i64 n_1)), (2, (.int .i64 k_2)), (7, (.slice a50 (List.length s46.1) c51)), (9, (.int .i64 s46.2.1)), (23, (.int .i64 k_2)), (24, (.int .i64 s46.2.1)), (27, (.int .i64 s46.2.1)), (28, (.pointer (some ⟨pb0, 0, none⟩))), (31, (.int .i64 (IntKind.i64.wrap (n_1 - s46.2.1))))]) (by kernel_rfl) ?_
          refine bindE h2 ?_; clear h2; intro r56 hr57 h2
          refine gv_call (f := 56) (vs := [(.pointer (some ⟨pb0, 0, none⟩)), (.int .i64 (IntKind.i64.wrap (n_1 - s46.2.1)))]) (cap := []) _ (by decide) (by rfl) (by rfl) rfl (by rfl) (by rfl) enters56 (random_source_small_ok fuel pb0 (s46.2.2.1, s46.2.2.2) (IntKind.i64.wrap (n_1 - s46.2.1)) w47 hb54 r56 hr57) ?_
          rintro v60 w58 ⟨hg59, rfl, hb61⟩
          refine ⟨(fun e => by cases e), ?_⟩
          refine gv_pure 2 [0, 1, 2, 7, 9, 10, 23, 24] (σ' := [(0, (.pointer (some ⟨pb0, 0, none⟩))), (1, (.int .i64 n_1)), (2, (.int .i64 k_2)), (7, (.slice a50 (List.length s46.1) c51)), (9, (.int .i64 s46.2.1)), (10, (.int .i64 (IntKind.i64.wrap (s46.2.1 + r56.1)))), (23, (.int .i64 k_2)), (24, (.int .i64 s46.2.1))]) (by kernel_rfl) ?_
          refine gv_nil ?_
          refine gv_drawA (by kernel_rfl) ?_
          intro w62 hg63
          refine gv_pre [0, 1, 2, 3, 4, 5, 6, 8, 9, 10] #[true, true, true, true, true, true, true, false, true, true, true, false, false, false, false, false] 6 (by kernel_rfl) (by rfl) ?_
          refine gv_pure 6 [0, 1, 2, 7, 9, 23, 24, 34, 35, 36, 37, 38, 39] (σ' := [(0, (.pointer (some ⟨pb0, 0, none⟩))), (1, (.int .i64 n_1)), (2, (.int .i64 k_2)), (7, (.slice a50 (List.length s46.1) c51)), (9, (.int .i64 s46.2.1)), (23, (.int .i64 k_2)), (24, (.int .i64 s46.2.1)), (34, (.slice a50 (List.length s46.1) c51)), (35, (.int .i64 s46.2.1)), (36, (.slice a50 (List.length s46.1) c51)), (37, (.int .i64 (IntKind.i64.wrap (s46.2.1 + r56.1)))), (38, (.slice a50 (List.length s46.1) c51)), (39, (.int .i64 (IntKind.i64.wrap (s46.2.1 + r56.1))))]) (by kernel_rfl) ?_
          refine bindE h2 ?_; clear h2; intro x64 hx65 h2
          have hk66 := (ho52.grown hg59 (fun _ h => h.elim) (rdnn (rowne (fun (h : blk a50 = some pb0) => Nat.not_lt_of_le (hl53 _ h) hpl0)))).grown hg63 (fun _ h => h.elim) nb
          refine gv_idxaddr (t := 46) (e := 3) (a := a50) (len := List.length s46.1) (cap := c51) (kk := .i64) (i := (IntKind.i64.wrap (s46.2.1 + r56.1))) (sz := 1) [0, 1, 2, 7, 9, 23, 24, 34, 35, 36, 37, 40] (σ' := [(0, (.pointer (some ⟨pb0, 0, none⟩))), (1, (.int .i64 n_1)), (2, (.int .i64 k_2)), (7, (.slice a50 (List.length s46.1) c51)), (9, (.int .i64 s46.2.1)), (23, (.int .i64 k_2)), (24, (.int .i64 s46.2.1)), (34, (.slice a50 (List.length s46.1) c51)), (35, (.int .i64 s46.2.1)), (36, (.slice a50 (List.length s46.1) c51)), (37, (.int .i64 (IntKind.i64.wrap (s46.2.1 + r56.1)))), (40, (.pointer (some (elemAddr a50 (((IntKind.i64.wrap (s46.2.1 + r56.1))).toNat * 1)))))]) (fun e => by cases e) (by rfl) (by rfl) (by rfl) (by kernel_rfl) (by kernel_rfl) Try.underlying46 (by kernel_rfl) ((hk66.rd (Y := fun k => blk a50 = some k) (fun _ h => h.elim) (fun g e => e)).has hx65) (idx_spec hx65).1 (idx_spec hx65).2.1 (by kernel_rfl) ?_
          refine gv_pure 2 [0, 1, 2, 7, 23, 24, 34, 35, 36, 37, 40, 42, 43] (σ' := [(0, (.pointer (some ⟨pb0, 0, none⟩))), (1, (.int .i64 n_1)), (2, (.int .i64 k_2)), (7, (.slice a50 (List.length s46.1) c51)), (23, (.int .i64 k_2)), (24, (.int .i64 s46.2.1)), (34, (.slice a50 (List.length s46.1) c51)), (35, (.int .i64 s46.2.1)), (36, (.slice a50 (List.length s46.1) c51)), (37, (.int .i64 (IntKind.i64.wrap (s46.2.1 + r56.1)))), (40, (.pointer (some (elemAddr a50 (((IntKind.i64.wrap (s46.2.1 + r56.1))).toNat * 1))))), (42, (.slice a50 (List.length s46.1) c51)), (43, (.int .i64 s46.2.1))]) (by kernel_rfl) ?_
          refine bindE h2 ?_; clear h2; intro x67 hx68 h2
          refine gv_idxaddr (t := 46) (e := 3) (a := a50) (len := List.length s46.1) (cap := c51) (kk := .i64) (i := s46.2.1) (sz := 1) [0, 1, 2, 7, 23, 24, 34, 35, 36, 37, 40, 44] (σ' := [(0, (.pointer (some ⟨pb0, 0, none⟩))), (1, (.int .i64 n_1)), (2, (.int .i64 k_2)), (7, (.slice a50 (List.length s46.1) c51)), (23, (.int .i64 k_2)), (24, (.int .i64 s46.2.1)), (34, (.slice a50 (List.length s46.1) c51)), (35, (.int .i64 s46.2.1)), (36, (.slice a50 (List.length s46.1) c51)), (37, (.int .i64 (IntKind.i64.wrap (s46.2.1 + r56.1)))), (40, (.pointer (some (elemAddr a50 (((IntKind.i64.wrap (s46.2.1 + r56.1))).toNat * 1))))), (44, (.pointer (some (elemAddr a50 ((s46.2.1).toNat * 1)))))]) (fun e => by cases e) (by rfl) (by rfl) (by rfl) (by kernel_rfl) (by kernel_rfl) Try.underlying46 (by kernel_rfl) ((hk66.rd (Y := fun k => blk a50 = some k) (fun _ h => h.elim) (fun g e => e)).has hx68) (idx_spec hx68).1 (idx_spec hx68).2.1 (by kernel_rfl) ?_
          refine gv_nil ?_
          refine gv_goal fun a hd hs hok => ?_
          refine (?_ : RunA Try.prog _ 53 _ _ 6 #[true, true, true, true, true, true, true, false, true, true, true, false, false, false, false, false] [(0, (.pointer (some ⟨pb0, 0, none⟩))), (1, (.int .i64 n_1)), (2, (.int .i64 k_2)), (7, (.slice a50 (List.length s46.1) c51)), (23, (.int .i64 k_2)), (24, (.int .i64 s46.2.1)), (34, (.slice a50 (List.length s46.1) c51)), (35, (.int .i64 s46.2.1)), (36, (.slice a50 (List.length s46.1) c51)), (37, (.int .i64 (IntKind.i64.wrap (s46.2.1 + r56.1)))), (40, (.pointer (some (elemAddr a50 (((IntKind.i64.wrap (s46.2.1 + r56.1))).toNat * 1))))), (44, (.pointer (some (elemAddr a50 ((s46.2.1).toNat * 1)))))] w62) a hd hs hok
          clear hd hs hok
          refine gv_stage (Cls w62 []) [0, 1, 2, 3, 4, 5, 6, 7, 8, 9, 10, 11] [(7, some true), (11, some true)] #[true, true, true, true, true, true, true, true, true, true, true, true, false, false, false, false] 4 (by kernel_rfl) (by rfl) (Cls.refl _ _) ?_
          have hC69 := Cls.refl w62 []
          refine gv_load (t := 3) (A := (elemAddr a50 (((IntKind.i64.wrap (s46.2.1 + r56.1))).toNat * 1))) (.int .i64 x64) [0, 1, 2, 7, 23, 24, 34, 35, 36, 37, 41, 44] (σ' := [(0, (.pointer (some ⟨pb0, 0, none⟩))), (1, (.int .i64 n_1)), (2, (.int .i64 k_2)), (7, (.slice a50 (List.length s46.1) c51)), (23, (.int .i64 k_2)), (24, (.int .i64 s46.2.1)), (34, (.slice a50 (List.length s46.1) c51)), (35, (.int .i64 s46.2.1)), (36, (.slice a50 (List.length s46.1) c51)), (37, (.int .i64 (IntKind.i64.wrap (s46.2.1 + r56.1)))), (41, (.int .i64 x64)), (44, (.pointer (some (elemAddr a50 ((s46.2.1).toNat * 1)))))]) (fun e => by cases e) (by rfl) (by rfl) (by rfl) (by kernel_rfl) (by kernel_rfl) (by kernel_rfl) (inw1 fun w' hC' => ((hC'.rd (hk66.rd (Y := fun k => blk a50 = some k) (fun _ h => h.elim) (fun g e => e)) (fun k (hk : blk a50 = some k) => hk66.lt k hk) nmx_nil).cell hx65)) (by kernel_rfl) ?_
          refine gv_load (t := 3) (A := (elemAddr a50 ((s46.2.1).toNat * 1))) (.int .i64 x67) [0, 1, 2, 7, 23, 24, 34, 35, 36, 37, 41, 45] (σ' := [(0, (.pointer (some ⟨pb0, 0, none⟩))), (1, (.int .i64 n_1)), (2, (.int .i64 k_2)), (7, (.slice a50 (List.length s46.1) c51)), (23, (.int .i64 k_2)), (24, (.int .i64 s46.2.1)), (34, (.slice a50 (List.length s46.1) c51)), (35, (.int .i64 s46.2.1)), (36, (.slice a50 (List.length s46.1) c51)), (37, (.int .i64 (IntKind.i64.wrap (s46.2.1 + r56.1)))), (41, (.int .i64 x64)), (45, (.int .i64 x67))]) (fun e => by cases e) (by rfl) (by rfl) (by rfl) (by kernel_rfl) (by kernel_rfl) (by kernel_rfl) (inw1 fun w' hC' => ((hC'.rd (hk66.rd (Y := fun k => blk a50 = some k) (fun _ h => h.elim) (fun g e => e)) (fun k (hk : blk a50 = some k) => hk66.lt k hk) nmx_nil).cell hx68)) (by kernel_rfl) ?_
          refine gv_nil ?_
          refine gv_goal fun a hd hs hok => ?_
          refine (?_ : RunA Try.prog _ 53 _ _ 4 #[true, true, true, true, true, true, true, true, true, true, true, true, false, false, false, false] [(0, (.pointer (some ⟨pb0, 0, none⟩))), (1, (.int .i64 n_1)), (2, (.int .i64 k_2)), (7, (.slice a50 (List.length s46.1) c51)), (23, (.int .i64 k_2)), (24, (.int .i64 s46.2.1)), (34, (.slice a50 (List.length s46.1) c51)), (35, (.int .i64 s46.2.1)), (36, (.slice a50 (List.length s46.1) c51)), (37, (.int .i64 (IntKind.i64.wrap (s46.2.1 + r56.1)))), (41, (.int .i64 x64)), (45, (.int .i64 x67))] w62) a hd hs hok
          clear hd hs hok
          refine gv_pre [12] #[true, true, true, true, true, true, true, true, true, true, true, true, true, false, false, false] 3 (by kernel_rfl) (by rfl) ?_
          refine bindE h2 ?_; clear h2; intro x70 hx71 h2
          refine gv_idxaddr (t := 46) (e := 3) (a := a50) (len := List.length s46.1) (cap := c51) (kk := .i64) (i := s46.2.1) (sz := 1) [0, 1, 2, 7, 23, 24, 36, 37, 41, 45, 46] (σ' := [(0, (.pointer (some ⟨pb0, 0, none⟩))), (1, (.int .i64 n_1)), (2, (.int .i64 k_2)), (7, (.slice a50 (List.length s46.1) c51)), (23, (.int .i64 k_2)), (24, (.int .i64 s46.2.1)), (36, (.slice a50 (List.length s46.1) c51)), (37, (.int .i64 (IntKind.i64.wrap (s46.2.1 + r56.1)))), (41, (.int .i64 x64)), (45, (.int .i64 x67)), (46, (.pointer (some (elemAddr a50 ((s46.2.1).toNat * 1)))))]) (fun e => by cases e) (by rfl) (by rfl) (by rfl) (by kernel_rfl) (by kernel_rfl) Try.underlying46 (by kernel_rfl) ((hk66.rd (Y := fun k => blk a50 = some k) (fun _ h => h.elim) (fun g e => e)).has hx71) (idx_spec hx71).1 (idx_spec hx71).2.1 (by kernel_rfl) ?_
          refine gv_nil ?_
          refine gv_goal fun a hd hs hok => ?_
          refine (?_ : RunA Try.prog _ 53 _ _ 3 #[true, true, true, true, true, true, true, true, true, true, true, true, true, false, false, false] [(0, (.pointer (some ⟨pb0, 0, none⟩))), (1, (.int .i64 n_1)), (2, (.int .i64 k_2)), (7, (.slice a50 (List.length s46.1) c51)), (23, (.int .i64 k_2)), (24, (.int .i64 s46.2.1)), (36, (.slice a50 (List.length s46.1) c51)), (37, (.int .i64 (IntKind.i64.wrap (s46.2.1 + r56.1)))), (41, (.int .i64 x64)), (45, (.int .i64 x67)), (46, (.pointer (some (elemAddr a50 ((s46.2.1).toNat * 1)))))] w62) a hd hs hok
          clear hd hs hok
          refine gv_stage (fun _ => True) [0, 1, 2, 3, 4, 5, 6, 7, 8, 9, 10, 11, 12, 13] [(13, some false)] #[true, true, true, true, true, true, true, true, true, true, true, true, true, true, false, false] 2 (by kernel_rfl) (by rfl) trivial ?_
          refine bindE h2 ?_; clear h2; intro l72 hx73 h2
          refine gv_upd (f := (fun n : Int => Value.int .i64 n)) (hf := fun _ => rfl) (t := 3) (e := 3) (a := a50) (cap := c51) (xs := s46.1) (i := s46.2.1) x64 l72 (by decide) (by rfl) (by rfl) (by kernel_rfl) rfl (by kernel_rfl) (by kernel_rfl) hk66 hx73 ?_
          intro w74 hg75 ho76 hz77
          refine ⟨(fun _ => trivial), ?_⟩
          have hln78 : List.length s46.1 = List.length l72 := by obtain ⟨_, _, e⟩ := upd_spec hx73; rw [e, List.length_set]
          refine gv_sub [0, 1, 2, 7, 23, 24, 36, 37, 45] (σ' := [(0, (.pointer (some ⟨pb0, 0, none⟩))), (1, (.int .i64 n_1)), (2, (.int .i64 k_2)), (7, (.slice a50 (List.length s46.1) c51)), (23, (.int .i64 k_2)), (24, (.int .i64 s46.2.1)), (36, (.slice a50 (List.length s46.1) c51)), (37, (.int .i64 (IntKind.i64.wrap (s46.2.1 + r56.1)))), (45, (.int .i64 x67))]) (by kernel_rfl) ?_
          refine gv_name (s := 7) (v := (.slice a50 (List.length s46.1) c51)) (v' := (.slice a50 (List.length l72) c51)) (by rfl) (by rw [hln78]) ?_
          refine gv_sub [0, 1, 2, 7, 23, 24, 36, 37, 45] (σ' := [(0, (.pointer (some ⟨pb0, 0, none⟩))), (1, (.int .i64 n_1)), (2, (.int .i64 k_2)), (7, (.slice a50 (List.length l72) c51)), (23, (.int .i64 k_2)), (24, (.int .i64 s46.2.1)), (36, (.slice a50 (List.length s46.1) c51)), (37, (.int .i64 (IntKind.i64.wrap (s46.2.1 + r56.1)))), (45, (.int .i64 x67))]) (by kernel_rfl) ?_
          refine gv_name (s := 36) (v := (.slice a50 (List.length s46.1) c51)) (v' := (.slice a50 (List.length l72) c51)) (by rfl) (by rw [hln78]) ?_
          refine gv_sub [0, 1, 2, 7, 23, 24, 36, 37, 45] (σ' := [(0, (.pointer (some ⟨pb0, 0, none⟩))), (1, (.int .i64 n_1)), (2, (.int .i64 k_2)), (7, (.slice a50 (List.length l72) c51)), (23, (.int .i64 k_2)), (24, (.int .i64 s46.2.1)), (36, (.slice a50 (List.length l72) c51)), (37, (.int .i64 (IntKind.i64.wrap (s46.2.1 + r56.1)))), (45, (.int .i64 x67))]) (by kernel_rfl) ?_
          refine gv_nil ?_
          refine gv_goal fun a hd hs hok => ?_
          refine (?_ : RunA Try.prog _ 53 _ _ 2 #[true, true, true, true, true, true, true, true, true, true, true, true, true, true, false, false] [(0, (.pointer (some ⟨pb0, 0, none⟩))), (1, (.int .i64 n_1)), (2, (.int .i64 k_2)), (7, (.slice a50 (List.length l72) c51)), (23, (.int .i64 k_2)), (24, (.int .i64 s46.2.1)), (36, (.slice a50 (List.length l72) c51)), (37, (.int .i64 (IntKind.i64.wrap (s46.2.1 + r56.1)))), (45, (.int .i64 x67))] w74) a hd hs hok
          clear hd hs hok
          refine gv_pre [14] #[true, true, true, true, true, true, true, true, true, true, true, true, true, true, true, false] 1 (by kernel_rfl) (by rfl) ?_
          refine bindE h2 ?_; clear h2; intro x79 hx80 h2
          refine gv_idxaddr (t := 46) (e := 3) (a := a50) (len := List.length l72) (cap := c51) (kk := .i64) (i := (IntKind.i64.wrap (s46.2.1 + r56.1))) (sz := 1) [0, 1, 2, 7, 23, 24, 45, 47] (σ' := [(0, (.pointer (some ⟨pb0, 0, none⟩))), (1, (.int .i64 n_1)), (2, (.int .i64 k_2)), (7, (.slice a50 (List.length l72) c51)), (23, (.int .i64 k_2)), (24, (.int .i64 s46.2.1)), (45, (.int .i64 x67)), (47, (.pointer (some (elemAddr a50 (((IntKind.i64.wrap (s46.2.1 + r56.1))).toNat * 1)))))]) (fun e => by cases e) (by rfl) (by rfl) (by rfl) (by kernel_rfl) (by kernel_rfl) Try.underlying46 (by kernel_rfl) ((ho76.rd (Y := fun k => blk a50 = some k) (fun _ h => h.elim) (fun g e => e)).has hx80) (idx_spec hx80).1 (idx_spec hx80).2.1 (by kernel_rfl) ?_
          refine gv_nil ?_
          refine gv_goal fun a hd hs hok => ?_
          refine (?_ : RunA Try.prog _ 53 _ _ 1 #[true, true, true, true, true, true, true, true, true, true, true, true, true, true, true, false] [(0, (.pointer (some ⟨pb0, 0, none⟩))), (1, (.int .i64 n_1)), (2, (.int .i64 k_2)), (7, (.slice a50 (List.length l72) c51)), (23, (.int .i64 k_2)), (24, (.int .i64 s46.2.1)), (45, (.int .i64 x67)), (47, (.pointer (some (elemAddr a50 (((IntKind.i64.wrap (s46.2.1 + r56.1))).toNat * 1)))))] w74) a hd hs hok
          clear hd hs hok
          refine gv_stage (fun _ => True) [0, 1, 2, 3, 4, 5, 6, 7, 8, 9, 10, 11, 12, 13, 14, 15] [(15, some false)] #[true, true, true, true, true, true, true, true, true, true, true, true, true, true, true, true] 0 (by kernel_rfl) (by rfl) trivial ?_
          refine bindE h2 ?_; clear h2; intro l81 hx82 h2
          refine gv_upd (f := (fun n : Int => Value.int .i64 n)) (hf := fun _ => rfl) (t := 3) (e := 3) (a := a50) (cap := c51) (xs := l72) (i := (IntKind.i64.wrap (s46.2.1 + r56.1))) x67 l81 (by decide) (by rfl) (by rfl) (by kernel_rfl) rfl (by kernel_rfl) (by kernel_rfl) ho76 hx82 ?_
          intro w83 hg84 ho85 hz86
          refine ⟨(fun _ => trivial), ?_⟩
          have hln87 : List.length l72 = List.length l81 := by obtain ⟨_, _, e⟩ := upd_spec hx82; rw [e, List.length_set]
          refine gv_sub [0, 1, 2, 7, 23, 24] (σ' := [(0, (.pointer (some ⟨pb0, 0, none⟩))), (1, (.int .i64 n_1)), (2, (.int .i64 k_2)), (7, (.slice a50 (List.length l72) c51)), (23, (.int .i64 k_2)), (24, (.int .i64 s46.2.1))]) (by kernel_rfl) ?_
          refine gv_name (s := 7) (v := (.slice a50 (List.length l72) c51)) (v' := (.slice a50 (List.length l81) c51)) (by rfl) (by rw [hln87]) ?_
          refine gv_sub [0, 1, 2, 7, 23, 24] (σ' := [(0, (.pointer (some ⟨pb0, 0, none⟩))), (1, (.int .i64 n_1)), (2, (.int .i64 k_2)), (7, (.slice a50 (List.length l81) c51)), (23, (.int .i64 k_2)), (24, (.int .i64 s46.2.1))]) (by kernel_rfl) ?_
          refine gv_nil ?_
          refine gv_goal fun a hd hs hok => ?_
          refine (?_ : RunA Try.prog _ 53 _ _ 0 #[true, true, true, true, true, true, true, true, true, true, true, true, true, true, true, true] [(0, (.pointer (some ⟨pb0, 0, none⟩))), (1, (.int .i64 n_1)), (2, (.int .i64 k_2)), (7, (.slice a50 (List.length l81) c51)), (23, (.int .i64 k_2)), (24, (.int .i64 s46.2.1))] w83) a hd hs hok
          clear hd hs hok
          refine gv_stageE (by kernel_rfl) ?_
          refine gv_blk ?_
          refine gv_region ?_
          refine gv_pure 2 [0, 1, 2, 7, 23, 24] (σ' := [(0, (.pointer (some ⟨pb0, 0, none⟩))), (1, (.int .i64 n_1)), (2, (.int .i64 k_2)), (7, (.slice a50 (List.length l81) c51)), (23, (.int .i64 k_2)), (24, (.int .i64 (IntKind.i64.wrap (s46.2.1 + 1))))]) (by kernel_rfl) ?_
          refine gv_nil ?_
          have e := Option.some.inj h2; subst e
          refine gv_goal fun a hd hs hok => ?_
          obtain ⟨q0, q1, q2, q7, q23, q24, _⟩ := hok
          have hB88 := grown_step hB48 hg59  rowpp
          have hB89 := grown_step hB88 hg63  nb
          have hB90 := grown_step hB89 hg75  (fun g e => .inr (hl53 g e))
          have hB91 := grown_step hB90 hg84  (fun g e => .inr (hl53 g e))
          have hz92 : w11.heap.size ≤ w83.heap.size := (Nat.le_trans (Nat.le_trans (Nat.le_trans (Nat.le_trans hz49 hg59.size) hg63.size) hg75.size) hg84.size)
          have hk93 := ((hb61.grown hg63 nb).grown hg75 (fun g (e : blk a50 = some g) (h : g = pb0) => negt hpl0 (hl53 g e) h)).grown hg84 (fun g (e : blk a50 = some g) (h : g = pb0) => negt hpl0 (hl53 g e) h)
          exact ⟨(l81, (IntKind.i64.wrap (s46.2.1 + 1)), (r56.2.1, r56.2.2)), rfl, a50, c51, hB91, hz92, ho85, hl53, hk93, hd, hs, ⟨q0, q1, q2, q7, q23, q24, trivial⟩⟩
        · replace h2 := ite_f hc55 h2
          refine gv_cexit ?_
          refine gv_exit rfl ?_
          have e := Option.some.inj h2; subst e
          replace h1 := congrArg some (hR2 _ rfl)
          have e := Option.some.inj h1; subst e
          refine gv_goal fun a hd hs hok => ?_
          obtain ⟨q0, q1, q2, q7, q23, q24, q25, _⟩ := hok
          have hz94 : w11.heap.size ≤ w47.heap.size := hz49
          exact ⟨a50, c51, hB48, hz94, ho52, hl53, hb54, hd, hs, ⟨q2, q7, trivial⟩⟩
    · rintro a w45 ⟨a97, c98, hB95, hz96, ho99, hl100, hb101, hd, hs, hok⟩
      refine (?_ : Run Try.prog _ 53 _ .normal [(2, (.int .i64 k_2)), (7, (.slice a97 (List.length j44.1) c98))] w45) a hd hs hok
      clear hd hs hok
      clear hz96 hb43 hl42 ho41 hB37
      refine gv_seq ?_
      refine gv_region ?_
      refine gv_pure 2 [49, 50] (σ' := [(49, (.slice a97 (List.length j44.1) c98)), (50, (.int .i64 k_2))]) (by kernel_rfl) ?_
      refine bindE h0 ?_; clear h0; intro x102 hx103 h0
      refine gv_pop (iE .i64) (t := 46) (e := 3) (xs := j44.1) (a := a97) (cap := c98) (lo := none) (hi := (some (.int .i64 k_2))) k_2 x102 (fun e => by cases e) (by rfl) (by rfl) (by rfl) (by kernel_rfl) (by kernel_rfl) Try.underlying46 (by kernel_rfl) (.inl ⟨rfl, rfl⟩) (.inr ⟨_, rfl⟩) hx103 (ho99.rd (Y := fun k => blk a97 = some k) (fun _ h => h.elim) (fun g e => e)).1 ?_
      have ho104 := ho99.pop hx103
      refine gv_sub [51] (σ' := [(51, (.slice a97 (List.length x102) c98))]) (by kernel_rfl) ?_
      refine bindE h0 ?_; clear h0; intro r105 hr106 h0
      refine gv_call (f := 66) (vs := [(.slice a97 (List.length x102) c98)]) (cap := []) _ (by decide) (by rfl) (by rfl) rfl (by rfl) (by rfl) enters66 (slices_Clone_sint_int_ok fuel a97 c98 x102 w45 (fun k => (fun k => blk a97 = some k) k) (fun k hk => (fun k (hk : blk a97 = some k) => ho104.lt k hk) k hk) ((ho104.rd (Y := fun k => blk a97 = some k) (fun _ h => h.elim) (fun g e => e)).wide (fun k hk => hk)) r105 hr106) ?_
      rintro v109 w107 ⟨hg108, a110, c111, rfl, ho112, hl113⟩
      refine ⟨(fun e => by cases e), ?_⟩
      have hl114 : ∀ g, blk a110 = some g → w0.heap.size ≤ g := fun g e => Nat.le_trans hB95.size (hl113 g e)
      refine gv_pure 1 [6] (σ' := [(6, (.slice a110 (List.length r105) c111))]) (by kernel_rfl) ?_
      refine gv_nil ?_
      refine gv_cret ?_
      have e := Option.some.inj h0; subst e
      refine gv_ret (gv_done [(.slice a110 (List.length r105) c111)] rfl ⟨rfl, trivial⟩ ?_)
      have hB115 := grown_step hB95 hg108  nb
      have hk116 := hb101.grown hg108 nb
      exact ⟨hB115, a110, c111, rfl, ho112, hl114, hk116⟩

set_option maxHeartbeats 4000000 in
set_option maxRecDepth 100000 in
theorem random_Sample_ok (fuel : Nat) (g_0 : (Int × Int)) (n_1 : Int) (k_2 : Int) (w0 : World)  (r0 : ((List Int) × (Int × Int) × (Int × Int))) (h0 : random_Sample fuel g_0 n_1 k_2 = some r0) :
    Calls Try.prog 28 ([(.agg #[(.int .u64 g_0.1), (.int .u64 g_0.2)]), (.int .i64 n_1), (.int .i64 k_2)] : List Value).toArray w0 (Ret fun v w' => w0.grownBy w' none ∧ ∃ (a0_0r : Option Addr) (c0_0r : Nat), v = tup [(.slice a0_0r (List.length r0.1) c0_0r), (.agg #[(.int .u64 r0.2.1.1), (.int .u64 r0.2.1.2)]), (.agg #[(.int .i64 r0.2.2.1), (.int .i64 r0.2.2.2)])] ∧ Own (iE .i64) 3 w' (fun _ => False) a0_0r c0_0r r0.1 ∧ (∀ g, blk a0_0r = some g → w0.heap.size ≤ g)) := by
  have hB0 : Below w0.heap.size w0 w0 := Below.refl _ _
  unfold random_Sample at h0
  refine calls_run Try.func28 rfl Try.ntmps28 (by kernel_rfl) ?_
  refine gv_sub [0, 1, 2] (σ' := [(0, (.agg #[(.int .u64 g_0.1), (.int .u64 g_0.2)])), (1, (.int .i64 n_1)), (2, (.int .i64 k_2))]) (by kernel_rfl) ?_
  refine gv_seq ?_
  refine gv_region ?_
  refine gv_new (fun b => .pointer (some ⟨b, 0, none⟩)) #[(.int .u64 g_0.1), (.int .u64 g_0.2)] 27 (by decide) (by rfl) (by rfl) (by kernel_rfl) (by kernel_rfl) ?_
  intro b1 w2 hg3 hb4 hbe5 hz6
  refine ⟨(fun e => by cases e), ?_⟩
  refine gv_pure 1 [1, 2, 3] (σ' := [(1, (.int .i64 n_1)), (2, (.int .i64 k_2)), (3, (.pointer (some ⟨b1, 0, none⟩)))]) (by kernel_rfl) ?_
  refine gv_new (fun b => .pointer (some ⟨b, 0, none⟩)) #[(.int .u64 0), (.int .u64 0)] 27 (by decide) (by rfl) (by rfl) (by kernel_rfl) (by kernel_rfl) ?_
  intro b7 w8 hg9 hb10 hbe11 hz12
  refine ⟨(fun e => by cases e), ?_⟩
  refine gv_sub [1, 2, 3, 7] (σ' := [(1, (.int .i64 n_1)), (2, (.int .i64 k_2)), (3, (.pointer (some ⟨b1, 0, none⟩))), (7, (.pointer (some ⟨b7, 0, none⟩)))]) (by kernel_rfl) ?_
  refine gv_new (fun b => .pointer (some ⟨b, 0, none⟩)) #[(.int .i64 0), (.int .i64 0)] 29 (by decide) (by rfl) (by rfl) (by kernel_rfl) (by kernel_rfl) ?_
  intro b13 w14 hg15 hb16 hbe17 hz18
  refine ⟨(fun e => by cases e), ?_⟩
  refine gv_sub [1, 2, 3, 7, 8] (σ' := [(1, (.int .i64 n_1)), (2, (.int .i64 k_2)), (3, (.pointer (some ⟨b1, 0, none⟩))), (7, (.pointer (some ⟨b7, 0, none⟩))), (8, (.pointer (some ⟨b13, 0, none⟩)))]) (by kernel_rfl) ?_
  refine gv_nil ?_
  refine gv_seq ?_
  refine gv_region ?_
  have hg19 := (grown_trans hg9 hg15)
  have hk20 := hb4.grown hg19 nb
  refine gv_loadBox (t := 27) (b := b1) (t' := 27) (fr := (0, 0)) #[(.int .u64 g_0.1), (.int .u64 g_0.2)] [1, 2, 7, 8, 13] (σ' := [(1, (.int .i64 n_1)), (2, (.int .i64 k_2)), (7, (.pointer (some ⟨b7, 0, none⟩))), (8, (.pointer (some ⟨b13, 0, none⟩))), (13, (.agg #[(.int .u64 g_0.1), (.int .u64 g_0.2)]))]) (fun e => by cases e) (by rfl) (by rfl) (by rfl) (by kernel_rfl) (by kernel_rfl) (by kernel_rfl) (by kernel_rfl) (inw0 hk20) (by kernel_rfl) ?_
  refine bindE h0 ?_; clear h0; intro r21 hr22 h0
  refine gv_call (f := 39) (vs := [(.agg #[(.int .u64 g_0.1), (.int .u64 g_0.2)])]) (cap := []) _ (by decide) (by rfl) (by rfl) rfl (by rfl) (by rfl) enters39 (random_open_ok fuel (g_0.1, g_0.2) w14  r21 hr22) ?_
  rintro v25 w23 ⟨hg24, p26, rfl, hp27⟩
  refine ⟨(fun e => by cases e), ?_⟩
  rcases hp27 with ⟨hn28, rfl⟩ | ⟨x30, b31, hn29, rfl, hb32, hlo33⟩
  · skip
    replace h0 := optc_none hn28 h0
    refine gv_pure 3 [1, 2, 7, 8, 15, 16] (σ' := [(1, (.int .i64 n_1)), (2, (.int .i64 k_2)), (7, (.pointer (some ⟨b7, 0, none⟩))), (8, (.pointer (some ⟨b13, 0, none⟩))), (15, (.pointer none)), (16, (.agg #[(.int .i64 r21.2.1), (.int .i64 r21.2.2)]))]) (by kernel_rfl) ?_
    refine gv_new (fun b => .pointer (some ⟨b, 0, none⟩)) #[(.int .i64 0), (.int .i64 0)] 29 (by decide) (by rfl) (by rfl) (by kernel_rfl) (by kernel_rfl) ?_
    intro b34 w35 hg36 hb37 hbe38 hz39
    refine ⟨(fun e => by cases e), ?_⟩
    refine gv_pure 1 [1, 2, 7, 8, 9, 10, 16] (σ' := [(1, (.int .i64 n_1)), (2, (.int .i64 k_2)), (7, (.pointer (some ⟨b7, 0, none⟩))), (8, (.pointer (some ⟨b13, 0, none⟩))), (9, (.pointer none)), (10, (.pointer (some ⟨b34, 0, none⟩))), (16, (.agg #[(.int .i64 r21.2.1), (.int .i64 r21.2.2)]))]) (by kernel_rfl) ?_
    refine gv_store (t := 29) (b := b34) (off := 0) (v := (.agg #[(.int .i64 r21.2.1), (.int .i64 r21.2.2)])) (t' := 29) (cs := #[(.int .i64 0), (.int .i64 0)]) #[(.int .i64 r21.2.1), (.int .i64 r21.2.2)] (by decide) (by rfl) (by rfl) (by kernel_rfl) (by kernel_rfl) (by kernel_rfl) (by intro u hu; simp [Value.cells] at hu; rcases hu with rfl | rfl <;> rfl) (show 0 + 2 ≤ 2 by decide) (by rfl) hb37 ?_
    intro w40 hg41 hb42 hz43
    refine ⟨(fun e => by cases e), ?_⟩
    refine gv_sub [1, 2, 7, 8, 9, 10] (σ' := [(1, (.int .i64 n_1)), (2, (.int .i64 k_2)), (7, (.pointer (some ⟨b7, 0, none⟩))), (8, (.pointer (some ⟨b13, 0, none⟩))), (9, (.pointer none)), (10, (.pointer (some ⟨b34, 0, none⟩)))]) (by kernel_rfl) ?_
    refine gv_nil ?_
    refine gv_seq ?_
    refine gv_block ?_
    refine gv_seq ?_
    refine gv_region ?_
    refine gv_pure 1 [1, 2, 7, 8, 9, 10, 18] (σ' := [(1, (.int .i64 n_1)), (2, (.int .i64 k_2)), (7, (.pointer (some ⟨b7, 0, none⟩))), (8, (.pointer (some ⟨b13, 0, none⟩))), (9, (.pointer none)), (10, (.pointer (some ⟨b34, 0, none⟩))), (18, (.pointer (some ⟨b34, 0, none⟩)))]) (by kernel_rfl) ?_
    refine gv_load (t := 3) (A := ⟨b34, 0, none⟩) (.int .i64 r21.2.1) [1, 2, 7, 8, 9, 10, 19] (σ' := [(1, (.int .i64 n_1)), (2, (.int .i64 k_2)), (7, (.pointer (some ⟨b7, 0, none⟩))), (8, (.pointer (some ⟨b13, 0, none⟩))), (9, (.pointer none)), (10, (.pointer (some ⟨b34, 0, none⟩))), (19, (.int .i64 r21.2.1))]) (fun e => by cases e) (by rfl) (by rfl) (by rfl) (by kernel_rfl) (by kernel_rfl) (by kernel_rfl) (inw0 (hb42.cell 0 rfl)) (by kernel_rfl) ?_
    refine gv_pure 2 [1, 2, 7, 8, 9, 10, 17] (σ' := [(1, (.int .i64 n_1)), (2, (.int .i64 k_2)), (7, (.pointer (some ⟨b7, 0, none⟩))), (8, (.pointer (some ⟨b13, 0, none⟩))), (9, (.pointer none)), (10, (.pointer (some ⟨b34, 0, none⟩))), (17, (.bool (r21.2.1 != 0)))]) (by kernel_rfl) ?_
    refine gv_nil ?_
    refine gv_cond (b := (r21.2.1 != 0)) (by rfl) (fun hc44 => ?_) (fun hc44 => ?_)
    · replace h0 := ite_t hc44 h0
      refine gv_seq ?_
      refine gv_drawA (by kernel_rfl) ?_
      intro w45 hg46
      refine gv_pre [0, 2] #[true, false, true, false, false] 3 (by kernel_rfl) (by rfl) ?_
      refine gv_pure 2 [6, 7, 8, 10, 21] (σ' := [(6, (.slice none (List.length ([] : List Int)) 0)), (7, (.pointer (some ⟨b7, 0, none⟩))), (8, (.pointer (some ⟨b13, 0, none⟩))), (10, (.pointer (some ⟨b34, 0, none⟩))), (21, (.agg #[(.int .u64 0), (.int .u64 0)]))]) (by kernel_rfl) ?_
      refine gv_nil ?_
      refine gv_goal fun a hd hs hok => ?_
      refine (?_ : RunA Try.prog _ 52 _ _ 3 #[true, false, true, false, false] [(6, (.slice none (List.length ([] : List Int)) 0)), (7, (.pointer (some ⟨b7, 0, none⟩))), (8, (.pointer (some ⟨b13, 0, none⟩))), (10, (.pointer (some ⟨b34, 0, none⟩))), (21, (.agg #[(.int .u64 0), (.int .u64 0)]))] w45) a hd hs hok
      clear hd hs hok
      refine gv_stage (Cls w45 [b7]) [0, 1, 2, 3] [(1, some true), (3, some false)] #[true, true, true, true, false] 1 (by kernel_rfl) (by rfl) (Cls.refl _ _) ?_
      have hC47 := Cls.refl w45 [b7]
      have hk48 := hb42.grown hg46 nb
      have hg49 := (grown_trans hg15 hg24)
      have hk50 := hb10.grown hg49 nb
      have ap51 : ¬ (· = b7) b34 := fun hx => Nat.not_lt_of_le ((lowb hbe38) _ rfl) ((fun k (hk : k = b7) => Nat.lt_of_le_of_lt (Nat.le_of_eq hk) hk50.lt) _ hx)
      refine gv_loadBox (t := 29) (b := b34) (t' := 29) (fr := (0, 0)) #[(.int .i64 r21.2.1), (.int .i64 r21.2.2)] [6, 7, 8, 21, 22] (σ' := [(6, (.slice none (List.length ([] : List Int)) 0)), (7, (.pointer (some ⟨b7, 0, none⟩))), (8, (.pointer (some ⟨b13, 0, none⟩))), (21, (.agg #[(.int .u64 0), (.int .u64 0)])), (22, (.agg #[(.int .i64 r21.2.1), (.int .i64 r21.2.2)]))]) (fun e => by cases e) (by rfl) (by rfl) (by rfl) (by kernel_rfl) (by kernel_rfl) (by kernel_rfl) (by kernel_rfl) (inw1 fun w' hC' => (hC'.box hk48 (nm_cons ap51 nm_nil))) (by kernel_rfl) ?_
      have hk56 := ((hk50.grown hg36 nb).grown hg41 (rowne ap51)).grown hg46 nb
      refine gv_store (t := 27) (b := b7) (off := 0) (v := (.agg #[(.int .u64 0), (.int .u64 0)])) (t' := 27) (cs := #[(.int .u64 0), (.int .u64 0)]) #[(.int .u64 0), (.int .u64 0)] (by decide) (by rfl) (by rfl) (by kernel_rfl) (by kernel_rfl) (by kernel_rfl) (by intro u hu; simp [Value.cells] at hu; rcases hu with rfl | rfl <;> rfl) (show 0 + 2 ≤ 2 by decide) (by rfl) hk56 ?_
      intro w52 hg53 hb54 hz55
      refine ⟨(fun _ => hC47.grown hg53 (rowm (List.Mem.head _))), ?_⟩
      clear hz55 ap51 hk50 hg49 hc44 hz43 hb42 hz39 hb37 hr22 hg19 hz18 hz12 hz6 hb4
      refine gv_sub [6, 7, 8, 22] (σ' := [(6, (.slice none (List.length ([] : List Int)) 0)), (7, (.pointer (some ⟨b7, 0, none⟩))), (8, (.pointer (some ⟨b13, 0, none⟩))), (22, (.agg #[(.int .i64 r21.2.1), (.int .i64 r21.2.2)]))]) (by kernel_rfl) ?_
      refine gv_nil ?_
      refine gv_goal fun a hd hs hok => ?_
      refine (?_ : RunA Try.prog _ 52 _ _ 1 #[true, true, true, true, false] [(6, (.slice none (List.length ([] : List Int)) 0)), (7, (.pointer (some ⟨b7, 0, none⟩))), (8, (.pointer (some ⟨b13, 0, none⟩))), (22, (.agg #[(.int .i64 r21.2.1), (.int .i64 r21.2.2)]))] w52) a hd hs hok
      clear hd hs hok
      refine gv_stage (fun _ => True) [0, 1, 2, 3, 4] [(4, some false)] #[true, true, true, true, true] 0 (by kernel_rfl) (by rfl) trivial ?_
      have hg61 := (grown_trans hg24 hg36)
      have hk62 := hb16.grown hg24 nb
      have ap63 : ¬ (· = b13) b34 := fun hx => Nat.not_lt_of_le ((lowb hbe38) _ rfl) ((fun k (hk : k = b13) => Nat.lt_of_le_of_lt (Nat.le_of_eq hk) hk62.lt) _ hx)
      have ap64 : ¬ (· = b13) b7 := fun hx => Nat.not_lt_of_le ((lowb hbe17) _ hx) ((fun k (hk : k = b7) => Nat.lt_of_le_of_lt (Nat.le_of_eq hk) hb10.lt) _ rfl)
      have hk65 := (((hb16.grown hg61 nb).grown hg41 (rowne ap63)).grown hg46 nb).grown hg53 (rowne ap64)
      refine gv_store (t := 29) (b := b13) (off := 0) (v := (.agg #[(.int .i64 r21.2.1), (.int .i64 r21.2.2)])) (t' := 29) (cs := #[(.int .i64 0), (.int .i64 0)]) #[(.int .i64 r21.2.1), (.int .i64 r21.2.2)] (by decide) (by rfl) (by rfl) (by kernel_rfl) (by kernel_rfl) (by kernel_rfl) (by intro u hu; simp [Value.cells] at hu; rcases hu with rfl | rfl <;> rfl) (show 0 + 2 ≤ 2 by decide) (by rfl) hk65 ?_
      intro w57 hg58 hb59 hz60
      refine ⟨(fun _ => trivial), ?_⟩
      refine gv_sub [6, 7, 8] (σ' := [(6, (.slice none (List.length ([] : List Int)) 0)), (7, (.pointer (some ⟨b7, 0, none⟩))), (8, (.pointer (some ⟨b13, 0, none⟩)))]) (by kernel_rfl) ?_
      refine gv_nil ?_
      refine gv_goal fun a hd hs hok => ?_
      refine (?_ : RunA Try.prog _ 52 _ _ 0 #[true, true, true, true, true] [(6, (.slice none (List.length ([] : List Int)) 0)), (7, (.pointer (some ⟨b7, 0, none⟩))), (8, (.pointer (some ⟨b13, 0, none⟩)))] w57) a hd hs hok
      clear hd hs hok
      refine gv_stageE (by kernel_rfl) ?_
      refine gv_cret ?_
      have e := Option.some.inj h0; subst e
      have ap66 : ¬ (· = b7) b13 := fun hx => Nat.not_lt_of_le ((lowb hbe17) _ rfl) ((fun k (hk : k = b7) => Nat.lt_of_le_of_lt (Nat.le_of_eq hk) hb10.lt) _ hx)
      have hk67 := hb54.grown hg58 (rowne ap66)
      refine gv_ret (gv_done [(.slice none (List.length ([] : List Int)) 0), (.agg #[(.int .u64 0), (.int .u64 0)]), (.agg #[(.int .i64 r21.2.1), (.int .i64 r21.2.2)])] rfl ⟨rfl, ⟨_, rfl, run_loadVar_row w57 b7 _ 27 _ _ _ hk67 Try.underlying27 rfl (by kernel_rfl)⟩, ⟨_, rfl, run_loadVar_row w57 b13 _ 29 _ _ _ hb59 Try.underlying29 rfl (by kernel_rfl)⟩, trivial⟩ ?_)
      have hg68 := (grown_trans (grown_trans (grown_trans hg3 hg9) hg15) hg61)
      have hB69 := below_grown hB0 hg68 hB0.size nb
      have hg70 := (grown_trans (grown_trans (grown_trans hg3 hg9) hg15) hg24)
      have hB71 := below_grown hB0 hg70 hB0.size nb
      have hlo72 : w0.heap.size ≤ b34 := lob hbe38 hB71.size
      have hB73 := below_grown hB69 hg41 hB69.size (rowlo hlo72)
      have hB74 := below_grown hB73 hg46 hB73.size nb
      have hB75 := below_grown hB0 hg3 hB0.size nb
      have hlo76 : w0.heap.size ≤ b7 := lob hbe11 hB75.size
      have hB77 := below_grown hB74 hg53 hB74.size (rowlo hlo76)
      have hB78 := below_grown hB75 hg9 hB75.size nb
      have hlo79 : w0.heap.size ≤ b13 := lob hbe17 hB78.size
      have hB80 := below_grown hB77 hg58 hB77.size (rowlo hlo79)
      exact ⟨grown_of_below hB80, none, 0, rfl, (Own.nil (iE .i64) 3 w57 (fun _ => False)), (fun _ h => by cases h)⟩
    · replace h0 := ite_f hc44 h0
      refine gv_seq ?_
      refine gv_region ?_
      refine gv_cut_ops (J := fun a w81 => w40 = w81 ∧ a.defers = [] ∧ a.tmps.size = 52 ∧ Ok [(1, (.int .i64 n_1)), (2, (.int .i64 k_2)), (7, (.pointer (some ⟨b7, 0, none⟩))), (8, (.pointer (some ⟨b13, 0, none⟩))), (9, (.pointer none)), (23, (.bool ((decide (n_1 < 0)) || (decide (n_1 > 1000)))))] a.tmps) ?_ ?_
      · skip
        refine gv_pure 3 [1, 2, 7, 8, 9, 26] (σ' := [(1, (.int .i64 n_1)), (2, (.int .i64 k_2)), (7, (.pointer (some ⟨b7, 0, none⟩))), (8, (.pointer (some ⟨b13, 0, none⟩))), (9, (.pointer none)), (26, (.bool (decide (n_1 < 0))))]) (by kernel_rfl) ?_
        refine gv_split (s := 26) (g := (decide (n_1 < 0))) (by rfl) (fun hc82 => ?_) (fun hc82 => ?_)
        · skip
          refine gv_pure 4 [1, 2, 7, 8, 9, 23] (σ' := [(1, (.int .i64 n_1)), (2, (.int .i64 k_2)), (7, (.pointer (some ⟨b7, 0, none⟩))), (8, (.pointer (some ⟨b13, 0, none⟩))), (9, (.pointer none)), (23, (.bool true))]) (by kernel_rfl) ?_
          refine gv_nil ?_
          refine gv_goal fun a hd hs hok => ⟨rfl, hd, hs, ?_⟩
          obtain ⟨q1, q2, q7, q8, q9, q23, _⟩ := hok
          exact ⟨q1, q2, q7, q8, q9, (by rw [hc82]; exact q23), trivial⟩
        · skip
          refine gv_pure 4 [1, 2, 7, 8, 9, 23] (σ' := [(1, (.int .i64 n_1)), (2, (.int .i64 k_2)), (7, (.pointer (some ⟨b7, 0, none⟩))), (8, (.pointer (some ⟨b13, 0, none⟩))), (9, (.pointer none)), (23, (.bool (decide (n_1 > 1000))))]) (by kernel_rfl) ?_
          refine gv_nil ?_
          refine gv_goal fun a hd hs hok => ⟨rfl, hd, hs, ?_⟩
          obtain ⟨q1, q2, q7, q8, q9, q23, _⟩ := hok
          exact ⟨q1, q2, q7, q8, q9, (by rw [hc82]; exact q23), trivial⟩
      · rintro a w81 ⟨e, hd, hs, hok⟩; subst e
        refine (?_ : Run Try.prog _ 52 _ .normal [(1, (.int .i64 n_1)), (2, (.int .i64 k_2)), (7, (.pointer (some ⟨b7, 0, none⟩))), (8, (.pointer (some ⟨b13, 0, none⟩))), (9, (.pointer none)), (23, (.bool ((decide (n_1 < 0)) || (decide (n_1 > 1000)))))] w40) a hd hs hok
        clear hd hs hok
        refine gv_cond (b := ((decide (n_1 < 0)) || (decide (n_1 > 1000)))) (by rfl) (fun hc83 => ?_) (fun hc83 => ?_)
        · replace h0 := ite_t hc83 h0
          refine gv_seq ?_
          refine gv_region ?_
          refine gv_pure 1 [7, 8, 30] (σ' := [(7, (.pointer (some ⟨b7, 0, none⟩))), (8, (.pointer (some ⟨b13, 0, none⟩))), (30, (.agg #[(.int .u64 0), (.int .u64 0)]))]) (by kernel_rfl) ?_
          refine bindE h0 ?_; clear h0; intro r84 hr85 h0
          refine gv_call (f := 37) (vs := [(.int .i64 4), (.int .i64 (-2))]) (cap := []) _ (by decide) (by rfl) (by rfl) rfl (by rfl) (by rfl) enters37 (random_at_ok fuel 4 (-2) w40  r84 hr85) ?_
          rintro v88 w86 ⟨hg87, rfl⟩
          refine ⟨(fun e => by cases e), ?_⟩
          refine gv_pure 1 [6, 7, 8, 30, 31] (σ' := [(6, (.slice none (List.length ([] : List Int)) 0)), (7, (.pointer (some ⟨b7, 0, none⟩))), (8, (.pointer (some ⟨b13, 0, none⟩))), (30, (.agg #[(.int .u64 0), (.int .u64 0)])), (31, (.agg #[(.int .i64 r84.1), (.int .i64 r84.2)]))]) (by kernel_rfl) ?_
          have hg93 := (grown_trans (grown_trans hg15 hg24) hg36)
          have hg94 := (grown_trans hg15 hg24)
          have hk95 := hb10.grown hg94 nb
          have ap96 : ¬ (· = b7) b34 := fun hx => Nat.not_lt_of_le ((lowb hbe38) _ rfl) ((fun k (hk : k = b7) => Nat.lt_of_le_of_lt (Nat.le_of_eq hk) hk95.lt) _ hx)
          have hk97 := ((hb10.grown hg93 nb).grown hg41 (rowne ap96)).grown hg87 nb
          refine gv_store (t := 27) (b := b7) (off := 0) (v := (.agg #[(.int .u64 0), (.int .u64 0)])) (t' := 27) (cs := #[(.int .u64 0), (.int .u64 0)]) #[(.int .u64 0), (.int .u64 0)] (by decide) (by rfl) (by rfl) (by kernel_rfl) (by kernel_rfl) (by kernel_rfl) (by intro u hu; simp [Value.cells] at hu; rcases hu with rfl | rfl <;> rfl) (show 0 + 2 ≤ 2 by decide) (by rfl) hk97 ?_
          intro w89 hg90 hb91 hz92
          refine ⟨(fun e => by cases e), ?_⟩
          have hg102 := (grown_trans hg24 hg36)
          have hk103 := hb16.grown hg24 nb
          have ap104 : ¬ (· = b13) b34 := fun hx => Nat.not_lt_of_le ((lowb hbe38) _ rfl) ((fun k (hk : k = b13) => Nat.lt_of_le_of_lt (Nat.le_of_eq hk) hk103.lt) _ hx)
          have ap105 : ¬ (· = b13) b7 := fun hx => Nat.not_lt_of_le ((lowb hbe17) _ hx) ((fun k (hk : k = b7) => Nat.lt_of_le_of_lt (Nat.le_of_eq hk) hb10.lt) _ rfl)
          have hk106 := (((hb16.grown hg102 nb).grown hg41 (rowne ap104)).grown hg87 nb).grown hg90 (rowne ap105)
          refine gv_sub [6, 7, 8, 31] (σ' := [(6, (.slice none (List.length ([] : List Int)) 0)), (7, (.pointer (some ⟨b7, 0, none⟩))), (8, (.pointer (some ⟨b13, 0, none⟩))), (31, (.agg #[(.int .i64 r84.1), (.int .i64 r84.2)]))]) (by kernel_rfl) ?_
          refine gv_store (t := 29) (b := b13) (off := 0) (v := (.agg #[(.int .i64 r84.1), (.int .i64 r84.2)])) (t' := 29) (cs := #[(.int .i64 0), (.int .i64 0)]) #[(.int .i64 r84.1), (.int .i64 r84.2)] (by decide) (by rfl) (by rfl) (by kernel_rfl) (by kernel_rfl) (by kernel_rfl) (by intro u hu; simp [Value.cells] at hu; rcases hu with rfl | rfl <;> rfl) (show 0 + 2 ≤ 2 by decide) (by rfl) hk106 ?_
          intro w98 hg99 hb100 hz101
          refine ⟨(fun e => by cases e), ?_⟩
          refine gv_sub [6, 7, 8] (σ' := [(6, (.slice none (List.length ([] : List Int)) 0)), (7, (.pointer (some ⟨b7, 0, none⟩))), (8, (.pointer (some ⟨b13, 0, none⟩)))]) (by kernel_rfl) ?_
          refine gv_nil ?_
          refine gv_cret ?_
          have e := Option.some.inj h0; subst e
          have ap107 : ¬ (· = b7) b13 := fun hx => Nat.not_lt_of_le ((lowb hbe17) _ rfl) ((fun k (hk : k = b7) => Nat.lt_of_le_of_lt (Nat.le_of_eq hk) hb10.lt) _ hx)
          have hk108 := hb91.grown hg99 (rowne ap107)
          refine gv_ret (gv_done [(.slice none (List.length ([] : List Int)) 0), (.agg #[(.int .u64 0), (.int .u64 0)]), (.agg #[(.int .i64 r84.1), (.int .i64 r84.2)])] rfl ⟨rfl, ⟨_, rfl, run_loadVar_row w98 b7 _ 27 _ _ _ hk108 Try.underlying27 rfl (by kernel_rfl)⟩, ⟨_, rfl, run_loadVar_row w98 b13 _ 29 _ _ _ hb100 Try.underlying29 rfl (by kernel_rfl)⟩, trivial⟩ ?_)
          have hg109 := (grown_trans (grown_trans hg3 hg19) hg102)
          have hB110 := below_grown hB0 hg109 hB0.size nb
          have hg111 := (grown_trans (grown_trans hg3 hg19) hg24)
          have hB112 := below_grown hB0 hg111 hB0.size nb
          have hlo113 : w0.heap.size ≤ b34 := lob hbe38 hB112.size
          have hB114 := below_grown hB110 hg41 hB110.size (rowlo hlo113)
          have hB115 := below_grown hB114 hg87 hB114.size nb
          have hB116 := below_grown hB0 hg3 hB0.size nb
          have hlo117 : w0.heap.size ≤ b7 := lob hbe11 hB116.size
          have hB118 := below_grown hB115 hg90 hB115.size (rowlo hlo117)
          have hB119 := below_grown hB116 hg9 hB116.size nb
          have hlo120 : w0.heap.size ≤ b13 := lob hbe17 hB119.size
          have hB121 := below_grown hB118 hg99 hB118.size (rowlo hlo120)
          exact ⟨grown_of_below hB121, none, 0, rfl, (Own.nil (iE .i64) 3 w98 (fun _ => False)), (fun _ h => by cases h)⟩
        · replace h0 := ite_f hc83 h0
          refine gv_seq ?_
          refine gv_region ?_
          refine gv_cut_ops (J := fun a w122 => w40 = w122 ∧ a.defers = [] ∧ a.tmps.size = 52 ∧ Ok [(1, (.int .i64 n_1)), (2, (.int .i64 k_2)), (7, (.pointer (some ⟨b7, 0, none⟩))), (8, (.pointer (some ⟨b13, 0, none⟩))), (9, (.pointer none)), (32, (.bool ((decide (k_2 < 0)) || (decide (k_2 > n_1)))))] a.tmps) ?_ ?_
          · skip
            refine gv_pure 3 [1, 2, 7, 8, 9, 35] (σ' := [(1, (.int .i64 n_1)), (2, (.int .i64 k_2)), (7, (.pointer (some ⟨b7, 0, none⟩))), (8, (.pointer (some ⟨b13, 0, none⟩))), (9, (.pointer none)), (35, (.bool (decide (k_2 < 0))))]) (by kernel_rfl) ?_
            refine gv_split (s := 35) (g := (decide (k_2 < 0))) (by rfl) (fun hc123 => ?_) (fun hc123 => ?_)
            · skip
              refine gv_pure 5 [1, 2, 7, 8, 9, 32] (σ' := [(1, (.int .i64 n_1)), (2, (.int .i64 k_2)), (7, (.pointer (some ⟨b7, 0, none⟩))), (8, (.pointer (some ⟨b13, 0, none⟩))), (9, (.pointer none)), (32, (.bool true))]) (by kernel_rfl) ?_
              refine gv_nil ?_
              refine gv_goal fun a hd hs hok => ⟨rfl, hd, hs, ?_⟩
              obtain ⟨q1, q2, q7, q8, q9, q32, _⟩ := hok
              exact ⟨q1, q2, q7, q8, q9, (by rw [hc123]; exact q32), trivial⟩
            · skip
              refine gv_pure 5 [1, 2, 7, 8, 9, 32] (σ' := [(1, (.int .i64 n_1)), (2, (.int .i64 k_2)), (7, (.pointer (some ⟨b7, 0, none⟩))), (8, (.pointer (some ⟨b13, 0, none⟩))), (9, (.pointer none)), (32, (.bool (decide (k_2 > n_1))))]) (by kernel_rfl) ?_
              refine gv_nil ?_
              refine gv_goal fun a hd hs hok => ⟨rfl, hd, hs, ?_⟩
              obtain ⟨q1, q2, q7, q8, q9, q32, _⟩ := hok
              exact ⟨q1, q2, q7, q8, q9, (by rw [hc123]; exact q32), trivial⟩
          · rintro a w122 ⟨e, hd, hs, hok⟩; subst e
            refine (?_ : Run Try.prog _ 52 _ .normal [(1, (.int .i64 n_1)), (2, (.int .i64 k_2)), (7, (.pointer (some ⟨b7, 0, none⟩))), (8, (.pointer (some ⟨b13, 0, none⟩))), (9, (.pointer none)), (32, (.bool ((decide (k_2 < 0)) || (decide (k_2 > n_1)))))] w40) a hd hs hok
            clear hd hs hok
            refine gv_cond (b := ((decide (k_2 < 0)) || (decide (k_2 > n_1)))) (by rfl) (fun hc124 => ?_) (fun hc124 => ?_)
            · replace h0 := ite_t hc124 h0
              refine gv_seq ?_
              refine gv_region ?_
              refine gv_pure 1 [7, 8, 40] (σ' := [(7, (.pointer (some ⟨b7, 0, none⟩))), (8, (.pointer (some ⟨b13, 0, none⟩))), (40, (.agg #[(.int .u64 0), (.int .u64 0)]))]) (by kernel_rfl) ?_
              refine bindE h0 ?_; clear h0; intro r125 hr126 h0
              refine gv_call (f := 37) (vs := [(.int .i64 4), (.int .i64 (-3))]) (cap := []) _ (by decide) (by rfl) (by rfl) rfl (by rfl) (by rfl) enters37 (random_at_ok fuel 4 (-3) w40  r125 hr126) ?_
              rintro v129 w127 ⟨hg128, rfl⟩
              refine ⟨(fun e => by cases e), ?_⟩
              refine gv_pure 1 [6, 7, 8, 40, 41] (σ' := [(6, (.slice none (List.length ([] : List Int)) 0)), (7, (.pointer (some ⟨b7, 0, none⟩))), (8, (.pointer (some ⟨b13, 0, none⟩))), (40, (.agg #[(.int .u64 0), (.int .u64 0)])), (41, (.agg #[(.int .i64 r125.1), (.int .i64 r125.2)]))]) (by kernel_rfl) ?_
              have hg134 := (grown_trans (grown_trans hg15 hg24) hg36)
              have hg135 := (grown_trans hg15 hg24)
              have hk136 := hb10.grown hg135 nb
              have ap137 : ¬ (· = b7) b34 := fun hx => Nat.not_lt_of_le ((lowb hbe38) _ rfl) ((fun k (hk : k = b7) => Nat.lt_of_le_of_lt (Nat.le_of_eq hk) hk136.lt) _ hx)
              have hk138 := ((hb10.grown hg134 nb).grown hg41 (rowne ap137)).grown hg128 nb
              refine gv_store (t := 27) (b := b7) (off := 0) (v := (.agg #[(.int .u64 0), (.int .u64 0)])) (t' := 27) (cs := #[(.int .u64 0), (.int .u64 0)]) #[(.int .u64 0), (.int .u64 0)] (by decide) (by rfl) (by rfl) (by kernel_rfl) (by kernel_rfl) (by kernel_rfl) (by intro u hu; simp [Value.cells] at hu; rcases hu with rfl | rfl <;> rfl) (show 0 + 2 ≤ 2 by decide) (by rfl) hk138 ?_
              intro w130 hg131 hb132 hz133
              refine ⟨(fun e => by cases e), ?_⟩
              have hg143 := (grown_trans hg24 hg36)
              have hk144 := hb16.grown hg24 nb
              have ap145 : ¬ (· = b13) b34 := fun hx => Nat.not_lt_of_le ((lowb hbe38) _ rfl) ((fun k (hk : k = b13) => Nat.lt_of_le_of_lt (Nat.le_of_eq hk) hk144.lt) _ hx)
              have ap146 : ¬ (· = b13) b7 := fun hx => Nat.not_lt_of_le ((lowb hbe17) _ hx) ((fun k (hk : k = b7) => Nat.lt_of_le_of_lt (Nat.le_of_eq hk) hb10.lt) _ rfl)
              have hk147 := (((hb16.grown hg143 nb).grown hg41 (rowne ap145)).grown hg128 nb).grown hg131 (rowne ap146)
              refine gv_sub [6, 7, 8, 41] (σ' := [(6, (.slice none (List.length ([] : List Int)) 0)), (7, (.pointer (some ⟨b7, 0, none⟩))), (8, (.pointer (some ⟨b13, 0, none⟩))), (41, (.agg #[(.int .i64 r125.1), (.int .i64 r125.2)]))]) (by kernel_rfl) ?_
              refine gv_store (t := 29) (b := b13) (off := 0) (v := (.agg #[(.int .i64 r125.1), (.int .i64 r125.2)])) (t' := 29) (cs := #[(.int .i64 0), (.int .i64 0)]) #[(.int .i64 r125.1), (.int .i64 r125.2)] (by decide) (by rfl) (by rfl) (by kernel_rfl) (by kernel_rfl) (by kernel_rfl) (by intro u hu; simp [Value.cells] at hu; rcases hu with rfl | rfl <;> rfl) (show 0 + 2 ≤ 2 by decide) (by rfl) hk147 ?_
              intro w139 hg140 hb141 hz142
              refine ⟨(fun e => by cases e), ?_⟩
              refine gv_sub [6, 7, 8] (σ' := [(6, (.slice none (List.length ([] : List Int)) 0)), (7, (.pointer (some ⟨b7, 0, none⟩))), (8, (.pointer (some ⟨b13, 0, none⟩)))]) (by kernel_rfl) ?_
              refine gv_nil ?_
              refine gv_cret ?_
              have e := Option.some.inj h0; subst e
              have ap148 : ¬ (· = b7) b13 := fun hx => Nat.not_lt_of_le ((lowb hbe17) _ rfl) ((fun k (hk : k = b7) => Nat.lt_of_le_of_lt (Nat.le_of_eq hk) hb10.lt) _ hx)
              have hk149 := hb132.grown hg140 (rowne ap148)
              refine gv_ret (gv_done [(.slice none (List.length ([] : List Int)) 0), (.agg #[(.int .u64 0), (.int .u64 0)]), (.agg #[(.int .i64 r125.1), (.int .i64 r125.2)])] rfl ⟨rfl, ⟨_, rfl, run_loadVar_row w139 b7 _ 27 _ _ _ hk149 Try.underlying27 rfl (by kernel_rfl)⟩, ⟨_, rfl, run_loadVar_row w139 b13 _ 29 _ _ _ hb141 Try.underlying29 rfl (by kernel_rfl)⟩, trivial⟩ ?_)
              have hg150 := (grown_trans (grown_trans hg3 hg19) hg143)
              have hB151 := below_grown hB0 hg150 hB0.size nb
              have hg152 := (grown_trans (grown_trans hg3 hg19) hg24)
              have hB153 := below_grown hB0 hg152 hB0.size nb
              have hlo154 : w0.heap.size ≤ b34 := lob hbe38 hB153.size
              have hB155 := below_grown hB151 hg41 hB151.size (rowlo hlo154)
              have hB156 := below_grown hB155 hg128 hB155.size nb
              have hB157 := below_grown hB0 hg3 hB0.size nb
              have hlo158 : w0.heap.size ≤ b7 := lob hbe11 hB157.size
              have hB159 := below_grown hB156 hg131 hB156.size (rowlo hlo158)
              have hB160 := below_grown hB157 hg9 hB157.size nb
              have hlo161 : w0.heap.size ≤ b13 := lob hbe17 hB160.size
              have hB162 := below_grown hB159 hg140 hB159.size (rowlo hlo161)
              exact ⟨grown_of_below hB162, none, 0, rfl, (Own.nil (iE .i64) 3 w139 (fun _ => False)), (fun _ h => by cases h)⟩
            · replace h0 := ite_f hc124 h0
              refine gv_skip ?_
              refine gv_blk ?_
              refine gv_seq ?_
              refine gv_region ?_
              refine gv_pure 3 [7, 8, 9, 42, 43, 44] (σ' := [(7, (.pointer (some ⟨b7, 0, none⟩))), (8, (.pointer (some ⟨b13, 0, none⟩))), (9, (.pointer none)), (42, (.pointer none)), (43, (.int .i64 n_1)), (44, (.int .i64 k_2))]) (by kernel_rfl) ?_
              cases h0
  · skip
    replace h0 := optc_some hn29 h0
    have hg166 := (grown_trans hg3 hg19)
    have hB167 := below_grown hB0 hg166 hB0.size nb
    have hl165 : w0.heap.size ≤ b31 := Nat.le_trans hB167.size hlo33
    refine gv_pure 3 [1, 2, 7, 8, 15, 16] (σ' := [(1, (.int .i64 n_1)), (2, (.int .i64 k_2)), (7, (.pointer (some ⟨b7, 0, none⟩))), (8, (.pointer (some ⟨b13, 0, none⟩))), (15, (.pointer (some ⟨b31, 0, none⟩))), (16, (.agg #[(.int .i64 r21.2.1), (.int .i64 r21.2.2)]))]) (by kernel_rfl) ?_
    refine gv_new (fun b => .pointer (some ⟨b, 0, none⟩)) #[(.int .i64 0), (.int .i64 0)] 29 (by decide) (by rfl) (by rfl) (by kernel_rfl) (by kernel_rfl) ?_
    intro b168 w169 hg170 hb171 hbe172 hz173
    refine ⟨(fun e => by cases e), ?_⟩
    clear hz173 hg166 hr22 hk20 hg19 hz18 hz12 hz6 hbe5 hb4
    refine gv_pure 1 [1, 2, 7, 8, 9, 10, 16] (σ' := [(1, (.int .i64 n_1)), (2, (.int .i64 k_2)), (7, (.pointer (some ⟨b7, 0, none⟩))), (8, (.pointer (some ⟨b13, 0, none⟩))), (9, (.pointer (some ⟨b31, 0, none⟩))), (10, (.pointer (some ⟨b168, 0, none⟩))), (16, (.agg #[(.int .i64 r21.2.1), (.int .i64 r21.2.2)]))]) (by kernel_rfl) ?_
    refine gv_store (t := 29) (b := b168) (off := 0) (v := (.agg #[(.int .i64 r21.2.1), (.int .i64 r21.2.2)])) (t' := 29) (cs := #[(.int .i64 0), (.int .i64 0)]) #[(.int .i64 r21.2.1), (.int .i64 r21.2.2)] (by decide) (by rfl) (by rfl) (by kernel_rfl) (by kernel_rfl) (by kernel_rfl) (by intro u hu; simp [Value.cells] at hu; rcases hu with rfl | rfl <;> rfl) (show 0 + 2 ≤ 2 by decide) (by rfl) hb171 ?_
    intro w174 hg175 hb176 hz177
    refine ⟨(fun e => by cases e), ?_⟩
    refine gv_sub [1, 2, 7, 8, 9, 10] (σ' := [(1, (.int .i64 n_1)), (2, (.int .i64 k_2)), (7, (.pointer (some ⟨b7, 0, none⟩))), (8, (.pointer (some ⟨b13, 0, none⟩))), (9, (.pointer (some ⟨b31, 0, none⟩))), (10, (.pointer (some ⟨b168, 0, none⟩)))]) (by kernel_rfl) ?_
    refine gv_nil ?_
    refine gv_seq ?_
    refine gv_block ?_
    refine gv_seq ?_
    refine gv_region ?_
    refine gv_pure 1 [1, 2, 7, 8, 9, 10, 18] (σ' := [(1, (.int .i64 n_1)), (2, (.int .i64 k_2)), (7, (.pointer (some ⟨b7, 0, none⟩))), (8, (.pointer (some ⟨b13, 0, none⟩))), (9, (.pointer (some ⟨b31, 0, none⟩))), (10, (.pointer (some ⟨b168, 0, none⟩))), (18, (.pointer (some ⟨b168, 0, none⟩)))]) (by kernel_rfl) ?_
    refine gv_load (t := 3) (A := ⟨b168, 0, none⟩) (.int .i64 r21.2.1) [1, 2, 7, 8, 9, 10, 19] (σ' := [(1, (.int .i64 n_1)), (2, (.int .i64 k_2)), (7, (.pointer (some ⟨b7, 0, none⟩))), (8, (.pointer (some ⟨b13, 0, none⟩))), (9, (.pointer (some ⟨b31, 0, none⟩))), (10, (.pointer (some ⟨b168, 0, none⟩))), (19, (.int .i64 r21.2.1))]) (fun e => by cases e) (by rfl) (by rfl) (by rfl) (by kernel_rfl) (by kernel_rfl) (by kernel_rfl) (inw0 (hb176.cell 0 rfl)) (by kernel_rfl) ?_
    refine gv_pure 2 [1, 2, 7, 8, 9, 10, 17] (σ' := [(1, (.int .i64 n_1)), (2, (.int .i64 k_2)), (7, (.pointer (some ⟨b7, 0, none⟩))), (8, (.pointer (some ⟨b13, 0, none⟩))), (9, (.pointer (some ⟨b31, 0, none⟩))), (10, (.pointer (some ⟨b168, 0, none⟩))), (17, (.bool (r21.2.1 != 0)))]) (by kernel_rfl) ?_
    refine gv_nil ?_
    refine gv_cond (b := (r21.2.1 != 0)) (by rfl) (fun hc178 => ?_) (fun hc178 => ?_)
    · replace h0 := ite_t hc178 h0
      refine gv_seq ?_
      refine gv_drawA (by kernel_rfl) ?_
      intro w179 hg180
      refine gv_pre [0, 2] #[true, false, true, false, false] 3 (by kernel_rfl) (by rfl) ?_
      refine gv_pure 2 [6, 7, 8, 10, 21] (σ' := [(6, (.slice none (List.length ([] : List Int)) 0)), (7, (.pointer (some ⟨b7, 0, none⟩))), (8, (.pointer (some ⟨b13, 0, none⟩))), (10, (.pointer (some ⟨b168, 0, none⟩))), (21, (.agg #[(.int .u64 0), (.int .u64 0)]))]) (by kernel_rfl) ?_
      refine gv_nil ?_
      refine gv_goal fun a hd hs hok => ?_
      refine (?_ : RunA Try.prog _ 52 _ _ 3 #[true, false, true, false, false] [(6, (.slice none (List.length ([] : List Int)) 0)), (7, (.pointer (some ⟨b7, 0, none⟩))), (8, (.pointer (some ⟨b13, 0, none⟩))), (10, (.pointer (some ⟨b168, 0, none⟩))), (21, (.agg #[(.int .u64 0), (.int .u64 0)]))] w179) a hd hs hok
      clear hd hs hok
      refine gv_stage (Cls w179 [b7]) [0, 1, 2, 3] [(1, some true), (3, some false)] #[true, true, true, true, false] 1 (by kernel_rfl) (by rfl) (Cls.refl _ _) ?_
      have hC181 := Cls.refl w179 [b7]
      have hk182 := hb176.grown hg180 nb
      have hg183 := (grown_trans hg15 hg24)
      have hk184 := hb10.grown hg183 nb
      have ap185 : ¬ (· = b7) b168 := fun hx => Nat.not_lt_of_le ((lowb hbe172) _ rfl) ((fun k (hk : k = b7) => Nat.lt_of_le_of_lt (Nat.le_of_eq hk) hk184.lt) _ hx)
      refine gv_loadBox (t := 29) (b := b168) (t' := 29) (fr := (0, 0)) #[(.int .i64 r21.2.1), (.int .i64 r21.2.2)] [6, 7, 8, 21, 22] (σ' := [(6, (.slice none (List.length ([] : List Int)) 0)), (7, (.pointer (some ⟨b7, 0, none⟩))), (8, (.pointer (some ⟨b13, 0, none⟩))), (21, (.agg #[(.int .u64 0), (.int .u64 0)])), (22, (.agg #[(.int .i64 r21.2.1), (.int .i64 r21.2.2)]))]) (fun e => by cases e) (by rfl) (by rfl) (by rfl) (by kernel_rfl) (by kernel_rfl) (by kernel_rfl) (by kernel_rfl) (inw1 fun w' hC' => (hC'.box hk182 (nm_cons ap185 nm_nil))) (by kernel_rfl) ?_
      have hk190 := ((hk184.grown hg170 nb).grown hg175 (rowne ap185)).grown hg180 nb
      refine gv_store (t := 27) (b := b7) (off := 0) (v := (.agg #[(.int .u64 0), (.int .u64 0)])) (t' := 27) (cs := #[(.int .u64 0), (.int .u64 0)]) #[(.int .u64 0), (.int .u64 0)] (by decide) (by rfl) (by rfl) (by kernel_rfl) (by kernel_rfl) (by kernel_rfl) (by intro u hu; simp [Value.cells] at hu; rcases hu with rfl | rfl <;> rfl) (show 0 + 2 ≤ 2 by decide) (by rfl) hk190 ?_
      intro w186 hg187 hb188 hz189
      refine ⟨(fun _ => hC181.grown hg187 (rowm (List.Mem.head _))), ?_⟩
      refine gv_sub [6, 7, 8, 22] (σ' := [(6, (.slice none (List.length ([] : List Int)) 0)), (7, (.pointer (some ⟨b7, 0, none⟩))), (8, (.pointer (some ⟨b13, 0, none⟩))), (22, (.agg #[(.int .i64 r21.2.1), (.int .i64 r21.2.2)]))]) (by kernel_rfl) ?_
      refine gv_nil ?_
      refine gv_goal fun a hd hs hok => ?_
      refine (?_ : RunA Try.prog _ 52 _ _ 1 #[true, true, true, true, false] [(6, (.slice none (List.length ([] : List Int)) 0)), (7, (.pointer (some ⟨b7, 0, none⟩))), (8, (.pointer (some ⟨b13, 0, none⟩))), (22, (.agg #[(.int .i64 r21.2.1), (.int .i64 r21.2.2)]))] w186) a hd hs hok
      clear hd hs hok
      refine gv_stage (fun _ => True) [0, 1, 2, 3, 4] [(4, some false)] #[true, true, true, true, true] 0 (by kernel_rfl) (by rfl) trivial ?_
      have hg195 := (grown_trans hg24 hg170)
      have hk196 := hb16.grown hg24 nb
      have ap197 : ¬ (· = b13) b168 := fun hx => Nat.not_lt_of_le ((lowb hbe172) _ rfl) ((fun k (hk : k = b13) => Nat.lt_of_le_of_lt (Nat.le_of_eq hk) hk196.lt) _ hx)
      have ap198 : ¬ (· = b13) b7 := fun hx => Nat.not_lt_of_le ((lowb hbe17) _ hx) ((fun k (hk : k = b7) => Nat.lt_of_le_of_lt (Nat.le_of_eq hk) hb10.lt) _ rfl)
      have hk199 := (((hb16.grown hg195 nb).grown hg175 (rowne ap197)).grown hg180 nb).grown hg187 (rowne ap198)
      refine gv_store (t := 29) (b := b13) (off := 0) (v := (.agg #[(.int .i64 r21.2.1), (.int .i64 r21.2.2)])) (t' := 29) (cs := #[(.int .i64 0), (.int .i64 0)]) #[(.int .i64 r21.2.1), (.int .i64 r21.2.2)] (by decide) (by rfl) (by rfl) (by kernel_rfl) (by kernel_rfl) (by kernel_rfl) (by intro u hu; simp [Value.cells] at hu; rcases hu with rfl | rfl <;> rfl) (show 0 + 2 ≤ 2 by decide) (by rfl) hk199 ?_
      intro w191 hg192 hb193 hz194
      refine ⟨(fun _ => trivial), ?_⟩
      refine gv_sub [6, 7, 8] (σ' := [(6, (.slice none (List.length ([] : List Int)) 0)), (7, (.pointer (some ⟨b7, 0, none⟩))), (8, (.pointer (some ⟨b13, 0, none⟩)))]) (by kernel_rfl) ?_
      refine gv_nil ?_
      refine gv_goal fun a hd hs hok => ?_
      refine (?_ : RunA Try.prog _ 52 _ _ 0 #[true, true, true, true, true] [(6, (.slice none (List.length ([] : List Int)) 0)), (7, (.pointer (some ⟨b7, 0, none⟩))), (8, (.pointer (some ⟨b13, 0, none⟩)))] w191) a hd hs hok
      clear hd hs hok
      refine gv_stageE (by kernel_rfl) ?_
      refine gv_cret ?_
      have e := Option.some.inj h0; subst e
      have ap200 : ¬ (· = b7) b13 := fun hx => Nat.not_lt_of_le ((lowb hbe17) _ rfl) ((fun k (hk : k = b7) => Nat.lt_of_le_of_lt (Nat.le_of_eq hk) hb10.lt) _ hx)
      have hk201 := hb188.grown hg192 (rowne ap200)
      refine gv_ret (gv_done [(.slice none (List.length ([] : List Int)) 0), (.agg #[(.int .u64 0), (.int .u64 0)]), (.agg #[(.int .i64 r21.2.1), (.int .i64 r21.2.2)])] rfl ⟨rfl, ⟨_, rfl, run_loadVar_row w191 b7 _ 27 _ _ _ hk201 Try.underlying27 rfl (by kernel_rfl)⟩, ⟨_, rfl, run_loadVar_row w191 b13 _ 29 _ _ _ hb193 Try.underlying29 rfl (by kernel_rfl)⟩, trivial⟩ ?_)
      have hB202 := below_grown hB167 hg195 hB167.size nb
      have hB203 := below_grown hB167 hg24 hB167.size nb
      have hlo204 : w0.heap.size ≤ b168 := lob hbe172 hB203.size
      have hB205 := below_grown hB202 hg175 hB202.size (rowlo hlo204)
      have hB206 := below_grown hB205 hg180 hB205.size nb
      have hB207 := below_grown hB0 hg3 hB0.size nb
      have hlo208 : w0.heap.size ≤ b7 := lob hbe11 hB207.size
      have hB209 := below_grown hB206 hg187 hB206.size (rowlo hlo208)
      have hB210 := below_grown hB207 hg9 hB207.size nb
      have hlo211 : w0.heap.size ≤ b13 := lob hbe17 hB210.size
      have hB212 := below_grown hB209 hg192 hB209.size (rowlo hlo211)
      exact ⟨grown_of_below hB212, none, 0, rfl, (Own.nil (iE .i64) 3 w191 (fun _ => False)), (fun _ h => by cases h)⟩
    · replace h0 := ite_f hc178 h0
      refine gv_seq ?_
      refine gv_region ?_
      refine gv_cut_ops (J := fun a w213 => w174 = w213 ∧ a.defers = [] ∧ a.tmps.size = 52 ∧ Ok [(1, (.int .i64 n_1)), (2, (.int .i64 k_2)), (7, (.pointer (some ⟨b7, 0, none⟩))), (8, (.pointer (some ⟨b13, 0, none⟩))), (9, (.pointer (some ⟨b31, 0, none⟩))), (23, (.bool ((decide (n_1 < 0)) || (decide (n_1 > 1000)))))] a.tmps) ?_ ?_
      · skip
        refine gv_pure 3 [1, 2, 7, 8, 9, 26] (σ' := [(1, (.int .i64 n_1)), (2, (.int .i64 k_2)), (7, (.pointer (some ⟨b7, 0, none⟩))), (8, (.pointer (some ⟨b13, 0, none⟩))), (9, (.pointer (some ⟨b31, 0, none⟩))), (26, (.bool (decide (n_1 < 0))))]) (by kernel_rfl) ?_
        refine gv_split (s := 26) (g := (decide (n_1 < 0))) (by rfl) (fun hc214 => ?_) (fun hc214 => ?_)
        · skip
          refine gv_pure 4 [1, 2, 7, 8, 9, 23] (σ' := [(1, (.int .i64 n_1)), (2, (.int .i64 k_2)), (7, (.pointer (some ⟨b7, 0, none⟩))), (8, (.pointer (some ⟨b13, 0, none⟩))), (9, (.pointer (some ⟨b31, 0, none⟩))), (23, (.bool true))]) (by kernel_rfl) ?_
          refine gv_nil ?_
          refine gv_goal fun a hd hs hok => ⟨rfl, hd, hs, ?_⟩
          obtain ⟨q1, q2, q7, q8, q9, q23, _⟩ := hok
          exact ⟨q1, q2, q7, q8, q9, (by rw [hc214]; exact q23), trivial⟩
        · skip
          refine gv_pure 4 [1, 2, 7, 8, 9, 23] (σ' := [(1, (.int .i64 n_1)), (2, (.int .i64 k_2)), (7, (.pointer (some ⟨b7, 0, none⟩))), (8, (.pointer (some ⟨b13, 0, none⟩))), (9, (.pointer (some ⟨b31, 0, none⟩))), (23, (.bool (decide (n_1 > 1000))))]) (by kernel_rfl) ?_
          refine gv_nil ?_
          refine gv_goal fun a hd hs hok => ⟨rfl, hd, hs, ?_⟩
          obtain ⟨q1, q2, q7, q8, q9, q23, _⟩ := hok
          exact ⟨q1, q2, q7, q8, q9, (by rw [hc214]; exact q23), trivial⟩
      · rintro a w213 ⟨e, hd, hs, hok⟩; subst e
        refine (?_ : Run Try.prog _ 52 _ .normal [(1, (.int .i64 n_1)), (2, (.int .i64 k_2)), (7, (.pointer (some ⟨b7, 0, none⟩))), (8, (.pointer (some ⟨b13, 0, none⟩))), (9, (.pointer (some ⟨b31, 0, none⟩))), (23, (.bool ((decide (n_1 < 0)) || (decide (n_1 > 1000)))))] w174) a hd hs hok
        clear hd hs hok
        refine gv_cond (b := ((decide (n_1 < 0)) || (decide (n_1 > 1000)))) (by rfl) (fun hc215 => ?_) (fun hc215 => ?_)
        · replace h0 := ite_t hc215 h0
          refine gv_seq ?_
          refine gv_region ?_
          refine gv_pure 1 [7, 8, 30] (σ' := [(7, (.pointer (some ⟨b7, 0, none⟩))), (8, (.pointer (some ⟨b13, 0, none⟩))), (30, (.agg #[(.int .u64 0), (.int .u64 0)]))]) (by kernel_rfl) ?_
          refine bindE h0 ?_; clear h0; intro r216 hr217 h0
          refine gv_call (f := 37) (vs := [(.int .i64 4), (.int .i64 (-2))]) (cap := []) _ (by decide) (by rfl) (by rfl) rfl (by rfl) (by rfl) enters37 (random_at_ok fuel 4 (-2) w174  r216 hr217) ?_
          rintro v220 w218 ⟨hg219, rfl⟩
          refine ⟨(fun e => by cases e), ?_⟩
          refine gv_pure 1 [6, 7, 8, 30, 31] (σ' := [(6, (.slice none (List.length ([] : List Int)) 0)), (7, (.pointer (some ⟨b7, 0, none⟩))), (8, (.pointer (some ⟨b13, 0, none⟩))), (30, (.agg #[(.int .u64 0), (.int .u64 0)])), (31, (.agg #[(.int .i64 r216.1), (.int .i64 r216.2)]))]) (by kernel_rfl) ?_
          have hg225 := (grown_trans (grown_trans hg15 hg24) hg170)
          have hg226 := (grown_trans hg15 hg24)
          have hk227 := hb10.grown hg226 nb
          have ap228 : ¬ (· = b7) b168 := fun hx => Nat.not_lt_of_le ((lowb hbe172) _ rfl) ((fun k (hk : k = b7) => Nat.lt_of_le_of_lt (Nat.le_of_eq hk) hk227.lt) _ hx)
          have hk229 := ((hb10.grown hg225 nb).grown hg175 (rowne ap228)).grown hg219 nb
          refine gv_store (t := 27) (b := b7) (off := 0) (v := (.agg #[(.int .u64 0), (.int .u64 0)])) (t' := 27) (cs := #[(.int .u64 0), (.int .u64 0)]) #[(.int .u64 0), (.int .u64 0)] (by decide) (by rfl) (by rfl) (by kernel_rfl) (by kernel_rfl) (by kernel_rfl) (by intro u hu; simp [Value.cells] at hu; rcases hu with rfl | rfl <;> rfl) (show 0 + 2 ≤ 2 by decide) (by rfl) hk229 ?_
          intro w221 hg222 hb223 hz224
          refine ⟨(fun e => by cases e), ?_⟩
          have hg234 := (grown_trans hg24 hg170)
          have hk235 := hb16.grown hg24 nb
          have ap236 : ¬ (· = b13) b168 := fun hx => Nat.not_lt_of_le ((lowb hbe172) _ rfl) ((fun k (hk : k = b13) => Nat.lt_of_le_of_lt (Nat.le_of_eq hk) hk235.lt) _ hx)
          have ap237 : ¬ (· = b13) b7 := fun hx => Nat.not_lt_of_le ((lowb hbe17) _ hx) ((fun k (hk : k = b7) => Nat.lt_of_le_of_lt (Nat.le_of_eq hk) hb10.lt) _ rfl)
          have hk238 := (((hb16.grown hg234 nb).grown hg175 (rowne ap236)).grown hg219 nb).grown hg222 (rowne ap237)
          refine gv_sub [6, 7, 8, 31] (σ' := [(6, (.slice none (List.length ([] : List Int)) 0)), (7, (.pointer (some ⟨b7, 0, none⟩))), (8, (.pointer (some ⟨b13, 0, none⟩))), (31, (.agg #[(.int .i64 r216.1), (.int .i64 r216.2)]))]) (by kernel_rfl) ?_
          refine gv_store (t := 29) (b := b13) (off := 0) (v := (.agg #[(.int .i64 r216.1), (.int .i64 r216.2)])) (t' := 29) (cs := #[(.int .i64 0), (.int .i64 0)]) #[(.int .i64 r216.1), (.int .i64 r216.2)] (by decide) (by rfl) (by rfl) (by kernel_rfl) (by kernel_rfl) (by kernel_rfl) (by intro u hu; simp [Value.cells] at hu; rcases hu with rfl | rfl <;> rfl) (show 0 + 2 ≤ 2 by decide) (by rfl) hk238 ?_
          intro w230 hg231 hb232 hz233
          refine ⟨(fun e => by cases e), ?_⟩
          refine gv_sub [6, 7, 8] (σ' := [(6, (.slice none (List.length ([] : List Int)) 0)), (7, (.pointer (some ⟨b7, 0, none⟩))), (8, (.pointer (some ⟨b13, 0, none⟩)))]) (by kernel_rfl) ?_
          refine gv_nil ?_
          refine gv_cret ?_
          have e := Option.some.inj h0; subst e
          have ap239 : ¬ (· = b7) b13 := fun hx => Nat.not_lt_of_le ((lowb hbe17) _ rfl) ((fun k (hk : k = b7) => Nat.lt_of_le_of_lt (Nat.le_of_eq hk) hb10.lt) _ hx)
          have hk240 := hb223.grown hg231 (rowne ap239)
          refine gv_ret (gv_done [(.slice none (List.length ([] : List Int)) 0), (.agg #[(.int .u64 0), (.int .u64 0)]), (.agg #[(.int .i64 r216.1), (.int .i64 r216.2)])] rfl ⟨rfl, ⟨_, rfl, run_loadVar_row w230 b7 _ 27 _ _ _ hk240 Try.underlying27 rfl (by kernel_rfl)⟩, ⟨_, rfl, run_loadVar_row w230 b13 _ 29 _ _ _ hb232 Try.underlying29 rfl (by kernel_rfl)⟩, trivial⟩ ?_)
          have hB241 := below_grown hB167 hg234 hB167.size nb
          have hB242 := below_grown hB167 hg24 hB167.size nb
          have hlo243 : w0.heap.size ≤ b168 := lob hbe172 hB242.size
          have hB244 := below_grown hB241 hg175 hB241.size (rowlo hlo243)
          have hB245 := below_grown hB244 hg219 hB244.size nb
          have hB246 := below_grown hB0 hg3 hB0.size nb
          have hlo247 : w0.heap.size ≤ b7 := lob hbe11 hB246.size
          have hB248 := below_grown hB245 hg222 hB245.size (rowlo hlo247)
          have hB249 := below_grown hB246 hg9 hB246.size nb
          have hlo250 : w0.heap.size ≤ b13 := lob hbe17 hB249.size
          have hB251 := below_grown hB248 hg231 hB248.size (rowlo hlo250)
          exact ⟨grown_of_below hB251, none, 0, rfl, (Own.nil (iE .i64) 3 w230 (fun _ => False)), (fun _ h => by cases h)⟩
        · replace h0 := ite_f hc215 h0
          refine gv_seq ?_
          refine gv_region ?_
          refine gv_cut_ops (J := fun a w252 => w174 = w252 ∧ a.defers = [] ∧ a.tmps.size = 52 ∧ Ok [(1, (.int .i64 n_1)), (2, (.int .i64 k_2)), (7, (.pointer (some ⟨b7, 0, none⟩))), (8, (.pointer (some ⟨b13, 0, none⟩))), (9, (.pointer (some ⟨b31, 0, none⟩))), (32, (.bool ((decide (k_2 < 0)) || (decide (k_2 > n_1)))))] a.tmps) ?_ ?_
          · skip
            refine gv_pure 3 [1, 2, 7, 8, 9, 35] (σ' := [(1, (.int .i64 n_1)), (2, (.int .i64 k_2)), (7, (.pointer (some ⟨b7, 0, none⟩))), (8, (.pointer (some ⟨b13, 0, none⟩))), (9, (.pointer (some ⟨b31, 0, none⟩))), (35, (.bool (decide (k_2 < 0))))]) (by kernel_rfl) ?_
            refine gv_split (s := 35) (g := (decide (k_2 < 0))) (by rfl) (fun hc253 => ?_) (fun hc253 => ?_)
            · skip
              refine gv_pure 5 [1, 2, 7, 8, 9, 32] (σ' := [(1, (.int .i64 n_1)), (2, (.int .i64 k_2)), (7, (.pointer (some ⟨b7, 0, none⟩))), (8, (.pointer (some ⟨b13, 0, none⟩))), (9, (.pointer (some ⟨b31, 0, none⟩))), (32, (.bool true))]) (by kernel_rfl) ?_
              refine gv_nil ?_
              refine gv_goal fun a hd hs hok => ⟨rfl, hd, hs, ?_⟩
              obtain ⟨q1, q2, q7, q8, q9, q32, _⟩ := hok
              exact ⟨q1, q2, q7, q8, q9, (by rw [hc253]; exact q32), trivial⟩
            · skip
              refine gv_pure 5 [1, 2, 7, 8, 9, 32] (σ' := [(1, (.int .i64 n_1)), (2, (.int .i64 k_2)), (7, (.pointer (some ⟨b7, 0, none⟩))), (8, (.pointer (some ⟨b13, 0, none⟩))), (9, (.pointer (some ⟨b31, 0, none⟩))), (32, (.bool (decide (k_2 > n_1))))]) (by kernel_rfl) ?_
              refine gv_nil ?_
              refine gv_goal fun a hd hs hok => ⟨rfl, hd, hs, ?_⟩
              obtain ⟨q1, q2, q7, q8, q9, q32, _⟩ := hok
              exact ⟨q1, q2, q7, q8, q9, (by rw [hc253]; exact q32), trivial⟩
          · rintro a w252 ⟨e, hd, hs, hok⟩; subst e
            refine (?_ : Run Try.prog _ 52 _ .normal [(1, (.int .i64 n_1)), (2, (.int .i64 k_2)), (7, (.pointer (some ⟨b7, 0, none⟩))), (8, (.pointer (some ⟨b13, 0, none⟩))), (9, (.pointer (some ⟨b31, 0, none⟩))), (32, (.bool ((decide (k_2 < 0)) || (decide (k_2 > n_1)))))] w174) a hd hs hok
            clear hd hs hok
            refine gv_cond (b := ((decide (k_2 < 0)) || (decide (k_2 > n_1)))) (by rfl) (fun hc254 => ?_) (fun hc254 => ?_)
            · replace h0 := ite_t hc254 h0
              refine gv_seq ?_
              refine gv_region ?_
              refine gv_pure 1 [7, 8, 40] (σ' := [(7, (.pointer (some ⟨b7, 0, none⟩))), (8, (.pointer (some ⟨b13, 0, none⟩))), (40, (.agg #[(.int .u64 0), (.int .u64 0)]))]) (by kernel_rfl) ?_
              refine bindE h0 ?_; clear h0; intro r255 hr256 h0
              refine gv_call (f := 37) (vs := [(.int .i64 4), (.int .i64 (-3))]) (cap := []) _ (by decide) (by rfl) (by rfl) rfl (by rfl) (by rfl) enters37 (random_at_ok fuel 4 (-3) w174  r255 hr256) ?_
              rintro v259 w257 ⟨hg258, rfl⟩
              refine ⟨(fun e => by cases e), ?_⟩
              clear hr256 hc254 hc215 hc178 hz177 hb176 hb171 hl165
              refine gv_pure 1 [6, 7, 8, 40, 41] (σ' := [(6, (.slice none (List.length ([] : List Int)) 0)), (7, (.pointer (some ⟨b7, 0, none⟩))), (8, (.pointer (some ⟨b13, 0, none⟩))), (40, (.agg #[(.int .u64 0), (.int .u64 0)])), (41, (.agg #[(.int .i64 r255.1), (.int .i64 r255.2)]))]) (by kernel_rfl) ?_
              have hg264 := (grown_trans (grown_trans hg15 hg24) hg170)
              have hg265 := (grown_trans hg15 hg24)
              have hk266 := hb10.grown hg265 nb
              have ap267 : ¬ (· = b7) b168 := fun hx => Nat.not_lt_of_le ((lowb hbe172) _ rfl) ((fun k (hk : k = b7) => Nat.lt_of_le_of_lt (Nat.le_of_eq hk) hk266.lt) _ hx)
              have hk268 := ((hb10.grown hg264 nb).grown hg175 (rowne ap267)).grown hg258 nb
              refine gv_store (t := 27) (b := b7) (off := 0) (v := (.agg #[(.int .u64 0), (.int .u64 0)])) (t' := 27) (cs := #[(.int .u64 0), (.int .u64 0)]) #[(.int .u64 0), (.int .u64 0)] (by decide) (by rfl) (by rfl) (by kernel_rfl) (by kernel_rfl) (by kernel_rfl) (by intro u hu; simp [Value.cells] at hu; rcases hu with rfl | rfl <;> rfl) (show 0 + 2 ≤ 2 by decide) (by rfl) hk268 ?_
              intro w260 hg261 hb262 hz263
              refine ⟨(fun e => by cases e), ?_⟩
              have hg273 := (grown_trans hg24 hg170)
              have hk274 := hb16.grown hg24 nb
              have ap275 : ¬ (· = b13) b168 := fun hx => Nat.not_lt_of_le ((lowb hbe172) _ rfl) ((fun k (hk : k = b13) => Nat.lt_of_le_of_lt (Nat.le_of_eq hk) hk274.lt) _ hx)
              have ap276 : ¬ (· = b13) b7 := fun hx => Nat.not_lt_of_le ((lowb hbe17) _ hx) ((fun k (hk : k = b7) => Nat.lt_of_le_of_lt (Nat.le_of_eq hk) hb10.lt) _ rfl)
              have hk277 := (((hb16.grown hg273 nb).grown hg175 (rowne ap275)).grown hg258 nb).grown hg261 (rowne ap276)
              refine gv_sub [6, 7, 8, 41] (σ' := [(6, (.slice none (List.length ([] : List Int)) 0)), (7, (.pointer (some ⟨b7, 0, none⟩))), (8, (.pointer (some ⟨b13, 0, none⟩))), (41, (.agg #[(.int .i64 r255.1), (.int .i64 r255.2)]))]) (by kernel_rfl) ?_
              refine gv_store (t := 29) (b := b13) (off := 0) (v := (.agg #[(.int .i64 r255.1), (.int .i64 r255.2)])) (t' := 29) (cs := #[(.int .i64 0), (.int .i64 0)]) #[(.int .i64 r255.1), (.int .i64 r255.2)] (by decide) (by rfl) (by rfl) (by kernel_rfl) (by kernel_rfl) (by kernel_rfl) (by intro u hu; simp [Value.cells] at hu; rcases hu with rfl | rfl <;> rfl) (show 0 + 2 ≤ 2 by decide) (by rfl) hk277 ?_
              intro w269 hg270 hb271 hz272
              refine ⟨(fun e => by cases e), ?_⟩
              refine gv_sub [6, 7, 8] (σ' := [(6, (.slice none (List.length ([] : List Int)) 0)), (7, (.pointer (some ⟨b7, 0, none⟩))), (8, (.pointer (some ⟨b13, 0, none⟩)))]) (by kernel_rfl) ?_
              refine gv_nil ?_
              refine gv_cret ?_
              have e := Option.some.inj h0; subst e
              have ap278 : ¬ (· = b7) b13 := fun hx => Nat.not_lt_of_le ((lowb hbe17) _ rfl) ((fun k (hk : k = b7) => Nat.lt_of_le_of_lt (Nat.le_of_eq hk) hb10.lt) _ hx)
              have hk279 := hb262.grown hg270 (rowne ap278)
              refine gv_ret (gv_done [(.slice none (List.length ([] : List Int)) 0), (.agg #[(.int .u64 0), (.int .u64 0)]), (.agg #[(.int .i64 r255.1), (.int .i64 r255.2)])] rfl ⟨rfl, ⟨_, rfl, run_loadVar_row w269 b7 _ 27 _ _ _ hk279 Try.underlying27 rfl (by kernel_rfl)⟩, ⟨_, rfl, run_loadVar_row w269 b13 _ 29 _ _ _ hb271 Try.underlying29 rfl (by kernel_rfl)⟩, trivial⟩ ?_)
              have hB280 := below_grown hB167 hg273 hB167.size nb
              have hB281 := below_grown hB167 hg24 hB167.size nb
              have hlo282 : w0.heap.size ≤ b168 := lob hbe172 hB281.size
              have hB283 := below_grown hB280 hg175 hB280.size (rowlo hlo282)
              have hB284 := below_grown hB283 hg258 hB283.size nb
              have hB285 := below_grown hB0 hg3 hB0.size nb
              have hlo286 : w0.heap.size ≤ b7 := lob hbe11 hB285.size
              have hB287 := below_grown hB284 hg261 hB284.size (rowlo hlo286)
              have hB288 := below_grown hB285 hg9 hB285.size nb
              have hlo289 : w0.heap.size ≤ b13 := lob hbe17 hB288.size
              have hB290 := below_grown hB287 hg270 hB287.size (rowlo hlo289)
              exact ⟨grown_of_below hB290, none, 0, rfl, (Own.nil (iE .i64) 3 w269 (fun _ => False)), (fun _ h => by cases h)⟩
            · replace h0 := ite_f hc254 h0
              refine gv_skip ?_
              refine gv_blk ?_
              refine gv_seq ?_
              refine gv_region ?_
              refine gv_pure 3 [7, 8, 9, 42, 43, 44] (σ' := [(7, (.pointer (some ⟨b7, 0, none⟩))), (8, (.pointer (some ⟨b13, 0, none⟩))), (9, (.pointer (some ⟨b31, 0, none⟩))), (42, (.pointer (some ⟨b31, 0, none⟩))), (43, (.int .i64 n_1)), (44, (.int .i64 k_2))]) (by kernel_rfl) ?_
              refine bindE h0 ?_; clear h0; intro r291 hr292 h0
              have ap293 : ¬ (· = b31) b168 := fun hx => Nat.not_lt_of_le ((lowb hbe172) _ rfl) ((fun k (hk : k = b31) => Nat.lt_of_le_of_lt (Nat.le_of_eq hk) hb32.lt) _ hx)
              have hk294 := (hb32.grown hg170 nb).grown hg175 (rowne ap293)
              refine gv_call (f := 55) (vs := [(.pointer (some ⟨b31, 0, none⟩)), (.int .i64 n_1), (.int .i64 k_2)]) (cap := []) _ (by decide) (by rfl) (by rfl) rfl (by rfl) (by rfl) enters55 (random_source_sample_ok fuel b31 (x30.1, x30.2) n_1 k_2 w174 hk294 r291 hr292) ?_
              rintro v297 w295 ⟨hg296, a298, c299, rfl, ho300, hl301, hb302⟩
              refine ⟨(fun e => by cases e), ?_⟩
              have hg304 := (grown_trans hg24 hg170)
              have hB305 := below_grown hB167 hg304 hB167.size nb
              have hB306 := below_grown hB167 hg24 hB167.size nb
              have hlo307 : w0.heap.size ≤ b168 := lob hbe172 hB306.size
              have hB308 := below_grown hB305 hg175 hB305.size (rowlo hlo307)
              have hl303 : ∀ g, blk a298 = some g → w0.heap.size ≤ g := fun g e => Nat.le_trans hB308.size (hl301 g e)
              refine gv_pure 1 [7, 8, 9, 11] (σ' := [(7, (.pointer (some ⟨b7, 0, none⟩))), (8, (.pointer (some ⟨b13, 0, none⟩))), (9, (.pointer (some ⟨b31, 0, none⟩))), (11, (.slice a298 (List.length r291.1) c299))]) (by kernel_rfl) ?_
              refine gv_nil ?_
              refine gv_seq ?_
              refine gv_drawA (by kernel_rfl) ?_
              intro w309 hg310
              refine gv_pre [0, 1, 2, 3, 5, 6] #[true, true, true, true, false, true, true, false, false] 3 (by kernel_rfl) (by rfl) ?_
              refine gv_pure 6 [6, 7, 8, 49, 51] (σ' := [(6, (.slice a298 (List.length r291.1) c299)), (7, (.pointer (some ⟨b7, 0, none⟩))), (8, (.pointer (some ⟨b13, 0, none⟩))), (49, (.pointer (some ⟨b31, 0, none⟩))), (51, (.agg #[(.int .i64 0), (.int .i64 0)]))]) (by kernel_rfl) ?_
              refine gv_nil ?_
              refine gv_goal fun a hd hs hok => ?_
              refine (?_ : RunA Try.prog _ 52 _ _ 3 #[true, true, true, true, false, true, true, false, false] [(6, (.slice a298 (List.length r291.1) c299)), (7, (.pointer (some ⟨b7, 0, none⟩))), (8, (.pointer (some ⟨b13, 0, none⟩))), (49, (.pointer (some ⟨b31, 0, none⟩))), (51, (.agg #[(.int .i64 0), (.int .i64 0)]))] w309) a hd hs hok
              clear hd hs hok
              refine gv_stage (Cls w309 []) [0, 1, 2, 3, 4, 5, 6] [(4, some true)] #[true, true, true, true, true, true, true, false, false] 2 (by kernel_rfl) (by rfl) (Cls.refl _ _) ?_
              have hC311 := Cls.refl w309 []
              have hk312 := hb302.grown hg310 nb
              refine gv_loadBox (t := 27) (b := b31) (t' := 81) (fr := (0, 0)) #[(.int .u64 r291.2.1), (.int .u64 r291.2.2)] [6, 7, 8, 50, 51] (σ' := [(6, (.slice a298 (List.length r291.1) c299)), (7, (.pointer (some ⟨b7, 0, none⟩))), (8, (.pointer (some ⟨b13, 0, none⟩))), (50, (.agg #[(.int .u64 r291.2.1), (.int .u64 r291.2.2)])), (51, (.agg #[(.int .i64 0), (.int .i64 0)]))]) (fun e => by cases e) (by rfl) (by rfl) (by rfl) (by kernel_rfl) (by kernel_rfl) (by kernel_rfl) (by kernel_rfl) (inw1 fun w' hC' => (hC'.box hk312 nm_nil)) (by kernel_rfl) ?_
              refine gv_nil ?_
              refine gv_goal fun a hd hs hok => ?_
              refine (?_ : RunA Try.prog _ 52 _ _ 2 #[true, true, true, true, true, true, true, false, false] [(6, (.slice a298 (List.length r291.1) c299)), (7, (.pointer (some ⟨b7, 0, none⟩))), (8, (.pointer (some ⟨b13, 0, none⟩))), (50, (.agg #[(.int .u64 r291.2.1), (.int .u64 r291.2.2)])), (51, (.agg #[(.int .i64 0), (.int .i64 0)]))] w309) a hd hs hok
              clear hd hs hok
              refine gv_stage (fun _ => True) [0, 1, 2, 3, 4, 5, 6, 7] [(7, some false)] #[true, true, true, true, true, true, true, true, false] 1 (by kernel_rfl) (by rfl) trivial ?_
              have hg317 := (grown_trans hg15 hg304)
              have hg318 := (grown_trans hg15 hg24)
              have hk319 := hb10.grown hg318 nb
              have ap320 : ¬ (· = b7) b168 := fun hx => Nat.not_lt_of_le ((lowb hbe172) _ rfl) ((fun k (hk : k = b7) => Nat.lt_of_le_of_lt (Nat.le_of_eq hk) hk319.lt) _ hx)
              have hk321 := hb10.grown hg15 nb
              have ap322 : ¬ (· = b7) b31 := fun hx => Nat.not_lt_of_le ((lowe hlo33) _ rfl) ((fun k (hk : k = b7) => Nat.lt_of_le_of_lt (Nat.le_of_eq hk) hk321.lt) _ hx)
              have hk323 := (((hb10.grown hg317 nb).grown hg175 (rowne ap320)).grown hg296 (rowne ap322)).grown hg310 nb
              refine gv_store (t := 27) (b := b7) (off := 0) (v := (.agg #[(.int .u64 r291.2.1), (.int .u64 r291.2.2)])) (t' := 27) (cs := #[(.int .u64 0), (.int .u64 0)]) #[(.int .u64 r291.2.1), (.int .u64 r291.2.2)] (by decide) (by rfl) (by rfl) (by kernel_rfl) (by kernel_rfl) (by kernel_rfl) (by intro u hu; simp [Value.cells] at hu; rcases hu with rfl | rfl <;> rfl) (show 0 + 2 ≤ 2 by decide) (by rfl) hk323 ?_
              intro w313 hg314 hb315 hz316
              refine ⟨(fun _ => trivial), ?_⟩
              refine gv_sub [6, 7, 8, 51] (σ' := [(6, (.slice a298 (List.length r291.1) c299)), (7, (.pointer (some ⟨b7, 0, none⟩))), (8, (.pointer (some ⟨b13, 0, none⟩))), (51, (.agg #[(.int .i64 0), (.int .i64 0)]))]) (by kernel_rfl) ?_
              refine gv_nil ?_
              refine gv_goal fun a hd hs hok => ?_
              refine (?_ : RunA Try.prog _ 52 _ _ 1 #[true, true, true, true, true, true, true, true, false] [(6, (.slice a298 (List.length r291.1) c299)), (7, (.pointer (some ⟨b7, 0, none⟩))), (8, (.pointer (some ⟨b13, 0, none⟩))), (51, (.agg #[(.int .i64 0), (.int .i64 0)]))] w313) a hd hs hok
              clear hd hs hok
              refine gv_stage (fun _ => True) [0, 1, 2, 3, 4, 5, 6, 7, 8] [(8, some false)] #[true, true, true, true, true, true, true, true, true] 0 (by kernel_rfl) (by rfl) trivial ?_
              have hk328 := hb16.grown hg24 nb
              have ap329 : ¬ (· = b13) b168 := fun hx => Nat.not_lt_of_le ((lowb hbe172) _ rfl) ((fun k (hk : k = b13) => Nat.lt_of_le_of_lt (Nat.le_of_eq hk) hk328.lt) _ hx)
              have ap330 : ¬ (· = b13) b31 := fun hx => Nat.not_lt_of_le ((lowe hlo33) _ rfl) ((fun k (hk : k = b13) => Nat.lt_of_le_of_lt (Nat.le_of_eq hk) hb16.lt) _ hx)
              have ap331 : ¬ (· = b13) b7 := fun hx => Nat.not_lt_of_le ((lowb hbe17) _ hx) ((fun k (hk : k = b7) => Nat.lt_of_le_of_lt (Nat.le_of_eq hk) hb10.lt) _ rfl)
              have hk332 := ((((hb16.grown hg304 nb).grown hg175 (rowne ap329)).grown hg296 (rowne ap330)).grown hg310 nb).grown hg314 (rowne ap331)
              refine gv_store (t := 29) (b := b13) (off := 0) (v := (.agg #[(.int .i64 0), (.int .i64 0)])) (t' := 29) (cs := #[(.int .i64 0), (.int .i64 0)]) #[(.int .i64 0), (.int .i64 0)] (by decide) (by rfl) (by rfl) (by kernel_rfl) (by kernel_rfl) (by kernel_rfl) (by intro u hu; simp [Value.cells] at hu; rcases hu with rfl | rfl <;> rfl) (show 0 + 2 ≤ 2 by decide) (by rfl) hk332 ?_
              intro w324 hg325 hb326 hz327
              refine ⟨(fun _ => trivial), ?_⟩
              refine gv_sub [6, 7, 8] (σ' := [(6, (.slice a298 (List.length r291.1) c299)), (7, (.pointer (some ⟨b7, 0, none⟩))), (8, (.pointer (some ⟨b13, 0, none⟩)))]) (by kernel_rfl) ?_
              refine gv_nil ?_
              refine gv_goal fun a hd hs hok => ?_
              refine (?_ : RunA Try.prog _ 52 _ _ 0 #[true, true, true, true, true, true, true, true, true] [(6, (.slice a298 (List.length r291.1) c299)), (7, (.pointer (some ⟨b7, 0, none⟩))), (8, (.pointer (some ⟨b13, 0, none⟩)))] w324) a hd hs hok
              clear hd hs hok
              refine gv_stageE (by kernel_rfl) ?_
              refine gv_cret ?_
              have e := Option.some.inj h0; subst e
              have ap333 : ¬ (· = b7) b13 := fun hx => Nat.not_lt_of_le ((lowb hbe17) _ rfl) ((fun k (hk : k = b7) => Nat.lt_of_le_of_lt (Nat.le_of_eq hk) hb10.lt) _ hx)
              have hk334 := hb315.grown hg325 (rowne ap333)
              refine gv_ret (gv_done [(.slice a298 (List.length r291.1) c299), (.agg #[(.int .u64 r291.2.1), (.int .u64 r291.2.2)]), (.agg #[(.int .i64 0), (.int .i64 0)])] rfl ⟨rfl, ⟨_, rfl, run_loadVar_row w324 b7 _ 27 _ _ _ hk334 Try.underlying27 rfl (by kernel_rfl)⟩, ⟨_, rfl, run_loadVar_row w324 b13 _ 29 _ _ _ hb326 Try.underlying29 rfl (by kernel_rfl)⟩, trivial⟩ ?_)
              have hB335 := below_grown hB308 hg296 hB308.size (rowlo hl165)
              have hB336 := below_grown hB335 hg310 hB335.size nb
              have hB337 := below_grown hB0 hg3 hB0.size nb
              have hlo338 : w0.heap.size ≤ b7 := lob hbe11 hB337.size
              have hB339 := below_grown hB336 hg314 hB336.size (rowlo hlo338)
              have hB340 := below_grown hB337 hg9 hB337.size nb
              have hlo341 : w0.heap.size ≤ b13 := lob hbe17 hB340.size
              have hB342 := below_grown hB339 hg325 hB339.size (rowlo hlo341)
              have hk343 := (hk319.grown hg170 nb).grown hg175 (rowne ap320)
              have ap344 : ¬ (fun k => blk a298 = some k) b7 := fun hx => Nat.not_lt_of_le ((show ∀ k, blk a298 = some k → w174.heap.size ≤ k from hl301) _ hx) ((fun k (hk : k = b7) => Nat.lt_of_le_of_lt (Nat.le_of_eq hk) hk343.lt) _ rfl)
              have hk345 := (hk328.grown hg170 nb).grown hg175 (rowne ap329)
              have ap346 : ¬ (fun k => blk a298 = some k) b13 := fun hx => Nat.not_lt_of_le ((show ∀ k, blk a298 = some k → w174.heap.size ≤ k from hl301) _ hx) ((fun k (hk : k = b13) => Nat.lt_of_le_of_lt (Nat.le_of_eq hk) hk345.lt) _ rfl)
              have hk347 := ((ho300.grown hg310 (fun _ h => h.elim) nb).grown hg314 (fun _ h => h.elim) (rdnn (rowne ap344))).grown hg325 (fun _ h => h.elim) (rdnn (rowne ap346))
              exact ⟨grown_of_below hB342, a298, c299, rfl, hk347, hl303⟩

set_option maxHeartbeats 4000000 in
set_option maxRecDepth 100000 in
theorem ref4_SameBytes_ok (fuel : Nat) (pa0_0 : Option Addr) (pc0_0 : Nat) (a_0 : (List UInt8)) (pa1_0 : Option Addr) (pc1_0 : Nat) (b_1 : (List UInt8)) (w0 : World) (X0 : Nat → Prop) (hX0 : ∀ k, X0 k → k < w0.heap.size) (hpa0_0 : Rd bE w0 X0 pa0_0 pc0_0 a_0) (hpa1_0 : Rd bE w0 X0 pa1_0 pc1_0 b_1) (r0 : Bool) (h0 : ref4_SameBytes fuel a_0 b_1 = some r0) :
    Calls Try.prog 29 ([(.slice pa0_0 (List.length a_0) pc0_0), (.slice pa1_0 (List.length b_1) pc1_0)] : List Value).toArray w0 (Ret fun v w' => w0.grownBy w' none ∧ v = tup [(.bool r0)]) := by
  have hB0 : Below w0.heap.size w0 w0 := Below.refl _ _
  unfold ref4_SameBytes at h0
  refine calls_run Try.func29 rfl Try.ntmps29 (by kernel_rfl) ?_
  refine gv_sub [0, 1] (σ' := [(0, (.slice pa0_0 (List.length a_0) pc0_0)), (1, (.slice pa1_0 (List.length b_1) pc1_0))]) (by kernel_rfl) ?_
  refine gv_seq ?_
  refine gv_region ?_
  refine gv_pure 1 [0, 1] (σ' := [(0, (.slice pa0_0 (List.length a_0) pc0_0)), (1, (.slice pa1_0 (List.length b_1) pc1_0))]) (by kernel_rfl) ?_
  refine gv_nil ?_
  refine gv_seq ?_
  refine gv_region ?_
  refine gv_pure 1 [1, 5] (σ' := [(1, (.slice pa1_0 (List.length b_1) pc1_0)), (5, (.slice pa0_0 (List.length a_0) pc0_0))]) (by kernel_rfl) ?_
  refine gv_b2s (src := 60) (dst := 9) (e := 5) (xs := a_0) (a := pa0_0) (cap := pc0_0) (X := X0) [1, 6] (σ' := [(1, (.slice pa1_0 (List.length b_1) pc1_0)), (6, (.string (strOf a_0)))]) (fun e => by cases e) (by rfl) (by rfl) (by rfl) (by kernel_rfl) (by kernel_rfl) Try.underlying60 Try.underlying5 Try.underlying9 (inw0 (hpa0_0.below hB0 hX0)) (by kernel_rfl) ?_
  refine gv_pure 1 [6, 7] (σ' := [(6, (.string (strOf a_0))), (7, (.slice pa1_0 (List.length b_1) pc1_0))]) (by kernel_rfl) ?_
  refine gv_b2s (src := 60) (dst := 9) (e := 5) (xs := b_1) (a := pa1_0) (cap := pc1_0) (X := X0) [6, 8] (σ' := [(6, (.string (strOf a_0))), (8, (.string (strOf b_1)))]) (fun e => by cases e) (by rfl) (by rfl) (by rfl) (by kernel_rfl) (by kernel_rfl) Try.underlying60 Try.underlying5 Try.underlying9 (inw0 (hpa1_0.below hB0 hX0)) (by kernel_rfl) ?_
  refine gv_pure 2 [4] (σ' := [(4, (.bool ((strOf a_0).toList == (strOf b_1).toList)))]) (by kernel_rfl) ?_
  refine bindE h0 ?_; clear h0; intro n1 hn2 h0
  refine gv_name (s := 4) (v := (.bool ((strOf a_0).toList == (strOf b_1).toList))) (v' := (.bool n1)) (by rfl) (congrArg (Value.bool) (Option.some.inj hn2)) ?_
  refine gv_sub [4] (σ' := [(4, (.bool n1))]) (by kernel_rfl) ?_
  refine gv_nil ?_
  refine gv_cret ?_
  have e := Option.some.inj h0; subst e
  refine gv_ret (gv_done [(.bool n1)] rfl ⟨rfl, trivial⟩ ?_)
  exact ⟨grown_of_below hB0, rfl⟩

set_option maxHeartbeats 4000000 in
set_option maxRecDepth 100000 in
theorem ref4_Numbers_ok (fuel : Nat) (pa0_0 : Option Addr) (pc0_0 : Nat) (a_0 : (List Int)) (pa1_0 : Option Addr) (pc1_0 : Nat) (b_1 : (List Int)) (w0 : World) (X0 : Nat → Prop) (hX0 : ∀ k, X0 k → k < w0.heap.size) (hpa0_0 : Rd (iE .i64) w0 X0 pa0_0 pc0_0 a_0) (hpa1_0 : Rd (iE .i64) w0 X0 pa1_0 pc1_0 b_1) (r0 : Bool) (h0 : ref4_Numbers fuel a_0 b_1 = some r0) :
    Calls Try.prog 30 ([(.slice pa0_0 (List.length a_0) pc0_0), (.slice pa1_0 (List.length b_1) pc1_0)] : List Value).toArray w0 (Ret fun v w' => w0.grownBy w' none ∧ v = tup [(.bool r0)]) := by
  have hB0 : Below w0.heap.size w0 w0 := Below.refl _ _
  unfold ref4_Numbers at h0
  refine calls_run Try.func30 rfl Try.ntmps30 (by kernel_rfl) ?_
  refine gv_sub [0, 1] (σ' := [(0, (.slice pa0_0 (List.length a_0) pc0_0)), (1, (.slice pa1_0 (List.length b_1) pc1_0))]) (by kernel_rfl) ?_
  refine gv_seq ?_
  refine gv_region ?_
  refine gv_pure 1 [0, 1] (σ' := [(0, (.slice pa0_0 (List.length a_0) pc0_0)), (1, (.slice pa1_0 (List.length b_1) pc1_0))]) (by kernel_rfl) ?_
  refine gv_nil ?_
  refine gv_seq ?_
  refine gv_seq ?_
  refine gv_region ?_
  refine gv_pure 5 [0, 1, 10] (σ' := [(0, (.slice pa0_0 (List.length a_0) pc0_0)), (1, (.slice pa1_0 (List.length b_1) pc1_0)), (10, (.bool (((List.length a_0 : Nat) : Int) != ((List.length b_1 : Nat) : Int))))]) (by kernel_rfl) ?_
  refine gv_nil ?_
  refine gv_cond (b := (((List.length a_0 : Nat) : Int) != ((List.length b_1 : Nat) : Int))) (by rfl) (fun hc1 => ?_) (fun hc1 => ?_)
  · replace h0 := ite_t hc1 h0
    refine gv_seq ?_
    refine gv_region ?_
    refine gv_pure 1 [4] (σ' := [(4, (.bool false))]) (by kernel_rfl) ?_
    refine gv_nil ?_
    refine gv_cret ?_
    have e := Option.some.inj h0; subst e
    refine gv_ret (gv_done [(.bool false)] rfl ⟨rfl, trivial⟩ ?_)
    exact ⟨grown_of_below hB0, rfl⟩
  · replace h0 := ite_f hc1 h0
    refine gv_skip ?_
    refine gv_seq ?_
    refine gv_seq ?_
    refine gv_region ?_
    refine gv_pure 1 [0, 1, 5] (σ' := [(0, (.slice pa0_0 (List.length a_0) pc0_0)), (1, (.slice pa1_0 (List.length b_1) pc1_0)), (5, (.int .i64 0))]) (by kernel_rfl) ?_
    refine gv_nil ?_
    refine bindE h0 ?_; clear h0; intro j2 h1 h0
    refine gv_cut_code (J := fun a w4 => ∃ s3 : Unit, j2 = .inl s3 ∧ Below w0.heap.size w0 w4 ∧ w0.heap.size ≤ w4.heap.size ∧ a.defers = [] ∧ a.tmps.size = 26 ∧ Ok [] a.tmps) ?_ ?_
    · skip
      refine gv_block ?_
      refine gv_loop (A := fun (s5 : Int) a w6 => Below w0.heap.size w0 w6 ∧ w0.heap.size ≤ w6.heap.size ∧ a.defers = [] ∧ a.tmps.size = 26 ∧ Ok [(0, (.slice pa0_0 (List.length a_0) pc0_0)), (1, (.slice pa1_0 (List.length b_1) pc1_0)), (5, (.int .i64 s5))] a.tmps) h1 ?_ ?_
      · intro a hd hs hok
        obtain ⟨q0, q1, q5, _⟩ := hok
        exact ⟨hB0, (Nat.le_refl _), hd, hs, ⟨q0, q1, q5, trivial⟩⟩
      · rintro s5 r2 h2 hR2 a w6 ⟨hB7, hz8, hd, hs, hok⟩
        refine (?_ : Run Try.prog _ 26 _ .normal [(0, (.slice pa0_0 (List.length a_0) pc0_0)), (1, (.slice pa1_0 (List.length b_1) pc1_0)), (5, (.int .i64 s5))] w6) a hd hs hok
        clear hd hs hok
        refine gv_seq ?_
        refine gv_seq ?_
        refine gv_region ?_
        refine gv_pure 4 [0, 1, 5, 14] (σ' := [(0, (.slice pa0_0 (List.length a_0) pc0_0)), (1, (.slice pa1_0 (List.length b_1) pc1_0)), (5, (.int .i64 s5)), (14, (.bool (decide (s5 < ((List.length a_0 : Nat) : Int)))))]) (by kernel_rfl) ?_
        refine gv_nil ?_
        refine gv_cond (b := (decide (s5 < ((List.length a_0 : Nat) : Int)))) (by rfl) (fun hc9 => ?_) (fun hc9 => ?_)
        · replace h2 := ite_t hc9 h2
          refine gv_skip ?_
          refine gv_seq ?_
          refine gv_block ?_
          refine gv_seq ?_
          refine gv_drawA (by kernel_rfl) ?_
          intro w10 hg11
          refine gv_pre [0, 1, 2, 4, 5, 6] #[true, true, true, false, true, true, true, false, false] 3 (by kernel_rfl) (by rfl) ?_
          refine gv_pure 2 [0, 1, 5, 17, 18] (σ' := [(0, (.slice pa0_0 (List.length a_0) pc0_0)), (1, (.slice pa1_0 (List.length b_1) pc1_0)), (5, (.int .i64 s5)), (17, (.slice pa0_0 (List.length a_0) pc0_0)), (18, (.int .i64 s5))]) (by kernel_rfl) ?_
          refine bindE h2 ?_; clear h2; intro x12 hx13 h2
          have hB14 := below_grown hB7 hg11 hB7.size nb
          refine gv_idxaddr (t := 46) (e := 3) (a := pa0_0) (len := List.length a_0) (cap := pc0_0) (kk := .i64) (i := s5) (sz := 1) [0, 1, 5, 19] (σ' := [(0, (.slice pa0_0 (List.length a_0) pc0_0)), (1, (.slice pa1_0 (List.length b_1) pc1_0)), (5, (.int .i64 s5)), (19, (.pointer (some (elemAddr pa0_0 ((s5).toNat * 1)))))]) (fun e => by cases e) (by rfl) (by rfl) (by rfl) (by kernel_rfl) (by kernel_rfl) Try.underlying46 (by kernel_rfl) ((hpa0_0.below hB14 hX0).has hx13) (idx_spec hx13).1 (idx_spec hx13).2.1 (by kernel_rfl) ?_
          refine gv_pure 2 [0, 1, 5, 19, 21, 22] (σ' := [(0, (.slice pa0_0 (List.length a_0) pc0_0)), (1, (.slice pa1_0 (List.length b_1) pc1_0)), (5, (.int .i64 s5)), (19, (.pointer (some (elemAddr pa0_0 ((s5).toNat * 1))))), (21, (.slice pa1_0 (List.length b_1) pc1_0)), (22, (.int .i64 s5))]) (by kernel_rfl) ?_
          refine bindE h2 ?_; clear h2; intro x15 hx16 h2
          refine gv_idxaddr (t := 46) (e := 3) (a := pa1_0) (len := List.length b_1) (cap := pc1_0) (kk := .i64) (i := s5) (sz := 1) [0, 1, 5, 19, 23] (σ' := [(0, (.slice pa0_0 (List.length a_0) pc0_0)), (1, (.slice pa1_0 (List.length b_1) pc1_0)), (5, (.int .i64 s5)), (19, (.pointer (some (elemAddr pa0_0 ((s5).toNat * 1))))), (23, (.pointer (some (elemAddr pa1_0 ((s5).toNat * 1)))))]) (fun e => by cases e) (by rfl) (by rfl) (by rfl) (by kernel_rfl) (by kernel_rfl) Try.underlying46 (by kernel_rfl) ((hpa1_0.below hB14 hX0).has hx16) (idx_spec hx16).1 (idx_spec hx16).2.1 (by kernel_rfl) ?_
          refine gv_nil ?_
          refine gv_goal fun a hd hs hok => ?_
          refine (?_ : RunA Try.prog _ 26 _ _ 3 #[true, true, true, false, true, true, true, false, false] [(0, (.slice pa0_0 (List.length a_0) pc0_0)), (1, (.slice pa1_0 (List.length b_1) pc1_0)), (5, (.int .i64 s5)), (19, (.pointer (some (elemAddr pa0_0 ((s5).toNat * 1))))), (23, (.pointer (some (elemAddr pa1_0 ((s5).toNat * 1)))))] w10) a hd hs hok
          clear hd hs hok
          refine gv_stage (Cls w10 []) [0, 1, 2, 3, 4, 5, 6, 7] [(3, some true), (7, some true)] #[true, true, true, true, true, true, true, true, false] 1 (by kernel_rfl) (by rfl) (Cls.refl _ _) ?_
          have hC17 := Cls.refl w10 []
          refine gv_load (t := 3) (A := (elemAddr pa0_0 ((s5).toNat * 1))) (.int .i64 x12) [0, 1, 5, 20, 23] (σ' := [(0, (.slice pa0_0 (List.length a_0) pc0_0)), (1, (.slice pa1_0 (List.length b_1) pc1_0)), (5, (.int .i64 s5)), (20, (.int .i64 x12)), (23, (.pointer (some (elemAddr pa1_0 ((s5).toNat * 1)))))]) (fun e => by cases e) (by rfl) (by rfl) (by rfl) (by kernel_rfl) (by kernel_rfl) (by kernel_rfl) (inw1 fun w' hC' => ((hC'.rd (hpa0_0.below hB14 hX0) (fun k (hk : X0 k) => Nat.lt_of_lt_of_le (hX0 k hk) hB14.size) nmx_nil).cell hx13)) (by kernel_rfl) ?_
          refine gv_load (t := 3) (A := (elemAddr pa1_0 ((s5).toNat * 1))) (.int .i64 x15) [0, 1, 5, 20, 24] (σ' := [(0, (.slice pa0_0 (List.length a_0) pc0_0)), (1, (.slice pa1_0 (List.length b_1) pc1_0)), (5, (.int .i64 s5)), (20, (.int .i64 x12)), (24, (.int .i64 x15))]) (fun e => by cases e) (by rfl) (by rfl) (by rfl) (by kernel_rfl) (by kernel_rfl) (by kernel_rfl) (inw1 fun w' hC' => ((hC'.rd (hpa1_0.below hB14 hX0) (fun k (hk : X0 k) => Nat.lt_of_lt_of_le (hX0 k hk) hB14.size) nmx_nil).cell hx16)) (by kernel_rfl) ?_
          refine gv_nil ?_
          refine gv_goal fun a hd hs hok => ?_
          refine (?_ : RunA Try.prog _ 26 _ _ 1 #[true, true, true, true, true, true, true, true, false] [(0, (.slice pa0_0 (List.length a_0) pc0_0)), (1, (.slice pa1_0 (List.length b_1) pc1_0)), (5, (.int .i64 s5)), (20, (.int .i64 x12)), (24, (.int .i64 x15))] w10) a hd hs hok
          clear hd hs hok
          refine gv_pre [8] #[true, true, true, true, true, true, true, true, true] 0 (by kernel_rfl) (by rfl) ?_
          refine gv_pure 1 [0, 1, 5, 25] (σ' := [(0, (.slice pa0_0 (List.length a_0) pc0_0)), (1, (.slice pa1_0 (List.length b_1) pc1_0)), (5, (.int .i64 s5)), (25, (.bool (x12 != x15)))]) (by kernel_rfl) ?_
          refine gv_nil ?_
          refine gv_goal fun a hd hs hok => ?_
          refine (?_ : RunA Try.prog _ 26 _ _ 0 #[true, true, true, true, true, true, true, true, true] [(0, (.slice pa0_0 (List.length a_0) pc0_0)), (1, (.slice pa1_0 (List.length b_1) pc1_0)), (5, (.int .i64 s5)), (25, (.bool (x12 != x15)))] w10) a hd hs hok
          clear hd hs hok
          refine gv_stageE (by kernel_rfl) ?_
          refine gv_cond (b := (x12 != x15)) (by rfl) (fun hc18 => ?_) (fun hc18 => ?_)
          · replace h2 := ite_t hc18 h2
            refine gv_seq ?_
            refine gv_region ?_
            refine gv_pure 1 [4] (σ' := [(4, (.bool false))]) (by kernel_rfl) ?_
            refine gv_nil ?_
            refine gv_cret ?_
            have e := Option.some.inj h2; subst e
            replace h1 := congrArg some (hR2 _ rfl)
            have e := Option.some.inj h1; subst e
            replace h0 := cont_inr h0
            have e := Option.some.inj h0; subst e
            refine gv_ret (gv_done [(.bool false)] rfl ⟨rfl, trivial⟩ ?_)
            exact ⟨grown_of_below hB14, rfl⟩
          · replace h2 := ite_f hc18 h2
            refine gv_skip ?_
            refine gv_blk ?_
            refine gv_region ?_
            refine gv_pure 3 [0, 1, 5] (σ' := [(0, (.slice pa0_0 (List.length a_0) pc0_0)), (1, (.slice pa1_0 (List.length b_1) pc1_0)), (5, (.int .i64 (IntKind.i64.wrap (s5 + 1))))]) (by kernel_rfl) ?_
            refine gv_nil ?_
            have e := Option.some.inj h2; subst e
            refine gv_goal fun a hd hs hok => ?_
            obtain ⟨q0, q1, q5, _⟩ := hok
            have hz19 : w0.heap.size ≤ w10.heap.size := (Nat.le_trans hz8 hg11.size)
            exact ⟨(IntKind.i64.wrap (s5 + 1)), rfl, hB14, hz19, hd, hs, ⟨q0, q1, q5, trivial⟩⟩
        · replace h2 := ite_f hc9 h2
          refine gv_cexit ?_
          refine gv_exit rfl ?_
          have e := Option.some.inj h2; subst e
          replace h1 := congrArg some (hR2 _ rfl)
          have e := Option.some.inj h1; subst e
          refine gv_goal fun a hd hs hok => ?_
          obtain ⟨q0, q1, q5, q14, _⟩ := hok
          have hz20 : w0.heap.size ≤ w6.heap.size := hz8
          exact ⟨(), rfl, hB7, hz20, hd, hs, trivial⟩
    · rintro a w4 ⟨s3, e, hB21, hz22, hd, hs, hok⟩
      subst e
      refine (?_ : Run Try.prog _ 26 _ .normal [] w4) a hd hs hok
      clear hd hs hok
      replace h0 := cont_inl h0
      refine gv_seq ?_
      refine gv_region ?_
      refine gv_pure 1 [4] (σ' := [(4, (.bool true))]) (by kernel_rfl) ?_
      refine gv_nil ?_
      refine gv_cret ?_
      have e := Option.some.inj h0; subst e
      refine gv_ret (gv_done [(.bool true)] rfl ⟨rfl, trivial⟩ ?_)
      exact ⟨grown_of_below hB21, rfl⟩

set_option maxHeartbeats 4000000 in
set_option maxRecDepth 100000 in
theorem law4_RandomPrefixes_ok (fuel : Nat) (g_0 : (Int × Int)) (n_1 : Int) (k_2 : Int) (w0 : World)  (r0 : Bool) (h0 : law4_RandomPrefixes fuel g_0 n_1 k_2 = some r0) :
    Calls Try.prog 5 ([(.agg #[(.int .u64 g_0.1), (.int .u64 g_0.2)]), (.int .i64 n_1), (.int .i64 k_2)] : List Value).toArray w0 (Ret fun v w' => w0.grownBy w' none ∧ v = tup [(.bool r0)]) := by
  have hB0 : Below w0.heap.size w0 w0 := Below.refl _ _
  unfold law4_RandomPrefixes at h0
  refine calls_run Try.func5 rfl Try.ntmps5 (by kernel_rfl) ?_
  refine gv_sub [0, 1, 2] (σ' := [(0, (.agg #[(.int .u64 g_0.1), (.int .u64 g_0.2)])), (1, (.int .i64 n_1)), (2, (.int .i64 k_2))]) (by kernel_rfl) ?_
  refine gv_seq ?_
  refine gv_region ?_
  refine gv_new (fun b => .pointer (some ⟨b, 0, none⟩)) #[(.int .u64 g_0.1), (.int .u64 g_0.2)] 27 (by decide) (by rfl) (by rfl) (by kernel_rfl) (by kernel_rfl) ?_
  intro b1 w2 hg3 hb4 hbe5 hz6
  refine ⟨(fun e => by cases e), ?_⟩
  refine gv_pure 1 [1, 2, 3] (σ' := [(1, (.int .i64 n_1)), (2, (.int .i64 k_2)), (3, (.pointer (some ⟨b1, 0, none⟩)))]) (by kernel_rfl) ?_
  refine gv_nil ?_
  refine gv_seq ?_
  refine gv_seq ?_
  refine gv_region ?_
  refine bindE h0 ?_; clear h0; intro r7 hr8 h0
  refine gv_call (f := 11) (vs := []) (cap := []) _ (by decide) (by rfl) (by rfl) rfl (by rfl) (by rfl) enters11 (law4_draws_ok fuel  w2  r7 hr8) ?_
  rintro v11 w9 ⟨hg10, rfl⟩
  refine ⟨(fun e => by cases e), ?_⟩
  refine gv_pure 1 [1, 2, 3, 22] (σ' := [(1, (.int .i64 n_1)), (2, (.int .i64 k_2)), (3, (.pointer (some ⟨b1, 0, none⟩))), (22, (.bool (!r7)))]) (by kernel_rfl) ?_
  refine gv_nil ?_
  refine gv_cond (b := (!r7)) (by rfl) (fun hc12 => ?_) (fun hc12 => ?_)
  · replace h0 := ite_t hc12 h0
    refine gv_seq ?_
    refine gv_region ?_
    refine gv_pure 1 [6] (σ' := [(6, (.bool false))]) (by kernel_rfl) ?_
    refine gv_nil ?_
    refine gv_cret ?_
    have e := Option.some.inj h0; subst e
    refine gv_ret (gv_done [(.bool false)] rfl ⟨rfl, trivial⟩ ?_)
    have hg13 := (grown_trans hg3 hg10)
    have hB14 := below_grown hB0 hg13 hB0.size nb
    exact ⟨grown_of_below hB14, rfl⟩
  · replace h0 := ite_f hc12 h0
    refine gv_skip ?_
    refine gv_seq ?_
    refine gv_seq ?_
    refine gv_region ?_
    refine bindE h0 ?_; clear h0; intro j15 h1 h0
    refine gv_cut_ops (J := fun a w16 => Below w0.heap.size w0 w16 ∧ w9.heap.size ≤ w16.heap.size ∧ Box w16 b1 27 #[(.int .u64 g_0.1), (.int .u64 g_0.2)] ∧ a.defers = [] ∧ a.tmps.size = 167 ∧ Ok [(1, (.int .i64 n_1)), (2, (.int .i64 k_2)), (3, (.pointer (some ⟨b1, 0, none⟩))), (43, (.bool j15))] a.tmps) ?_ ?_
    · skip
      refine gv_pure 1 [1, 2, 3, 23] (σ' := [(1, (.int .i64 n_1)), (2, (.int .i64 k_2)), (3, (.pointer (some ⟨b1, 0, none⟩))), (23, (.pointer (some ⟨b1, 1, none⟩)))]) (by kernel_rfl) ?_
      have hk17 := hb4.grown hg10 nb
      refine gv_load (t := 25) (A := ⟨b1, 1, none⟩) (.int .u64 g_0.2) [1, 2, 3, 24] (σ' := [(1, (.int .i64 n_1)), (2, (.int .i64 k_2)), (3, (.pointer (some ⟨b1, 0, none⟩))), (24, (.int .u64 g_0.2))]) (fun e => by cases e) (by rfl) (by rfl) (by rfl) (by kernel_rfl) (by kernel_rfl) (by kernel_rfl) (inw0 (hk17.cell 1 rfl)) (by kernel_rfl) ?_
      refine gv_pure 3 [1, 2, 3, 27] (σ' := [(1, (.int .i64 n_1)), (2, (.int .i64 k_2)), (3, (.pointer (some ⟨b1, 0, none⟩))), (27, (.bool (((g_0.2).tmod 2) == 0)))]) (by kernel_rfl) ?_
      refine gv_split (s := 27) (g := (((g_0.2).tmod 2) == 0)) (by rfl) (fun hc18 => ?_) (fun hc18 => ?_)
      · skip
        replace h1 := ite_t hc18 h1
        refine gv_pure 16 [1, 2, 3, 43] (σ' := [(1, (.int .i64 n_1)), (2, (.int .i64 k_2)), (3, (.pointer (some ⟨b1, 0, none⟩))), (43, (.bool true))]) (by kernel_rfl) ?_
        refine gv_nil ?_
        have e := Option.some.inj h1; subst e
        refine gv_goal fun a hd hs hok => ?_
        obtain ⟨q1, q2, q3, q43, _⟩ := hok
        have hg19 := (grown_trans hg3 hg10)
        have hB20 := below_grown hB0 hg19 hB0.size nb
        exact ⟨hB20, (Nat.le_refl _), hk17, hd, hs, ⟨q1, q2, q3, q43, trivial⟩⟩
      · skip
        replace h1 := ite_f hc18 h1
        refine gv_pure 4 [1, 2, 3, 31] (σ' := [(1, (.int .i64 n_1)), (2, (.int .i64 k_2)), (3, (.pointer (some ⟨b1, 0, none⟩))), (31, (.bool (decide (n_1 < 0))))]) (by kernel_rfl) ?_
        refine gv_split (s := 31) (g := (decide (n_1 < 0))) (by rfl) (fun hc21 => ?_) (fun hc21 => ?_)
        · skip
          replace h1 := ite_t hc21 h1
          refine gv_pure 12 [1, 2, 3, 43] (σ' := [(1, (.int .i64 n_1)), (2, (.int .i64 k_2)), (3, (.pointer (some ⟨b1, 0, none⟩))), (43, (.bool true))]) (by kernel_rfl) ?_
          refine gv_nil ?_
          have e := Option.some.inj h1; subst e
          refine gv_goal fun a hd hs hok => ?_
          obtain ⟨q1, q2, q3, q43, _⟩ := hok
          have hg22 := (grown_trans hg3 hg10)
          have hB23 := below_grown hB0 hg22 hB0.size nb
          exact ⟨hB23, (Nat.le_refl _), hk17, hd, hs, ⟨q1, q2, q3, q43, trivial⟩⟩
        · skip
          replace h1 := ite_f hc21 h1
          refine gv_pure 4 [1, 2, 3, 35] (σ' := [(1, (.int .i64 n_1)), (2, (.int .i64 k_2)), (3, (.pointer (some ⟨b1, 0, none⟩))), (35, (.bool (decide (n_1 > 1000))))]) (by kernel_rfl) ?_
          refine gv_split (s := 35) (g := (decide (n_1 > 1000))) (by rfl) (fun hc24 => ?_) (fun hc24 => ?_)
          · skip
            replace h1 := ite_t hc24 h1
            refine gv_pure 8 [1, 2, 3, 43] (σ' := [(1, (.int .i64 n_1)), (2, (.int .i64 k_2)), (3, (.pointer (some ⟨b1, 0, none⟩))), (43, (.bool true))]) (by kernel_rfl) ?_
            refine gv_nil ?_
            have e := Option.some.inj h1; subst e
            refine gv_goal fun a hd hs hok => ?_
            obtain ⟨q1, q2, q3, q43, _⟩ := hok
            have hg25 := (grown_trans hg3 hg10)
            have hB26 := below_grown hB0 hg25 hB0.size nb
            exact ⟨hB26, (Nat.le_refl _), hk17, hd, hs, ⟨q1, q2, q3, q43, trivial⟩⟩
          · skip
            replace h1 := ite_f hc24 h1
            refine gv_pure 4 [1, 2, 3, 39] (σ' := [(1, (.int .i64 n_1)), (2, (.int .i64 k_2)), (3, (.pointer (some ⟨b1, 0, none⟩))), (39, (.bool (decide (k_2 < 0))))]) (by kernel_rfl) ?_
            refine gv_split (s := 39) (g := (decide (k_2 < 0))) (by rfl) (fun hc27 => ?_) (fun hc27 => ?_)
            · skip
              replace h1 := ite_t hc27 h1
              refine gv_pure 4 [1, 2, 3, 43] (σ' := [(1, (.int .i64 n_1)), (2, (.int .i64 k_2)), (3, (.pointer (some ⟨b1, 0, none⟩))), (43, (.bool true))]) (by kernel_rfl) ?_
              refine gv_nil ?_
              have e := Option.some.inj h1; subst e
              refine gv_goal fun a hd hs hok => ?_
              obtain ⟨q1, q2, q3, q43, _⟩ := hok
              have hg28 := (grown_trans hg3 hg10)
              have hB29 := below_grown hB0 hg28 hB0.size nb
              exact ⟨hB29, (Nat.le_refl _), hk17, hd, hs, ⟨q1, q2, q3, q43, trivial⟩⟩
            · skip
              replace h1 := ite_f hc27 h1
              refine gv_pure 4 [1, 2, 3, 43] (σ' := [(1, (.int .i64 n_1)), (2, (.int .i64 k_2)), (3, (.pointer (some ⟨b1, 0, none⟩))), (43, (.bool (decide (k_2 > n_1))))]) (by kernel_rfl) ?_
              refine gv_nil ?_
              have e := Option.some.inj h1; subst e
              refine gv_goal fun a hd hs hok => ?_
              obtain ⟨q1, q2, q3, q43, _⟩ := hok
              have hg30 := (grown_trans hg3 hg10)
              have hB31 := below_grown hB0 hg30 hB0.size nb
              exact ⟨hB31, (Nat.le_refl _), hk17, hd, hs, ⟨q1, q2, q3, q43, trivial⟩⟩
    · rintro a w16 ⟨hB32, hz33, hb34, hd, hs, hok⟩
      refine (?_ : Run Try.prog _ 167 _ .normal [(1, (.int .i64 n_1)), (2, (.int .i64 k_2)), (3, (.pointer (some ⟨b1, 0, none⟩))), (43, (.bool j15))] w16) a hd hs hok
      clear hd hs hok
      clear hz33 hc12 hg10 hr8 hz6 hb4 hg3
      refine gv_cond (b := j15) (by rfl) (fun hc35 => ?_) (fun hc35 => ?_)
      · replace h0 := ite_t hc35 h0
        refine gv_seq ?_
        refine gv_region ?_
        refine gv_pure 1 [6] (σ' := [(6, (.bool true))]) (by kernel_rfl) ?_
        refine gv_nil ?_
        refine gv_cret ?_
        have e := Option.some.inj h0; subst e
        refine gv_ret (gv_done [(.bool true)] rfl ⟨rfl, trivial⟩ ?_)
        exact ⟨grown_of_below hB32, rfl⟩
      · replace h0 := ite_f hc35 h0
        refine gv_skip ?_
        refine gv_seq ?_
        refine gv_region ?_
        refine gv_loadBox (t := 27) (b := b1) (t' := 27) (fr := (0, 0)) #[(.int .u64 g_0.1), (.int .u64 g_0.2)] [1, 2, 3, 45] (σ' := [(1, (.int .i64 n_1)), (2, (.int .i64 k_2)), (3, (.pointer (some ⟨b1, 0, none⟩))), (45, (.agg #[(.int .u64 g_0.1), (.int .u64 g_0.2)]))]) (fun e => by cases e) (by rfl) (by rfl) (by rfl) (by kernel_rfl) (by kernel_rfl) (by kernel_rfl) (by kernel_rfl) (inw0 hb34) (by kernel_rfl) ?_
        refine gv_pure 1 [1, 2, 3, 45, 46] (σ' := [(1, (.int .i64 n_1)), (2, (.int .i64 k_2)), (3, (.pointer (some ⟨b1, 0, none⟩))), (45, (.agg #[(.int .u64 g_0.1), (.int .u64 g_0.2)])), (46, (.int .i64 n_1))]) (by kernel_rfl) ?_
        refine bindE h0 ?_; clear h0; intro r36 hr37 h0
        refine gv_call (f := 27) (vs := [(.agg #[(.int .u64 g_0.1), (.int .u64 g_0.2)]), (.int .i64 n_1)]) (cap := []) _ (by decide) (by rfl) (by rfl) rfl (by rfl) (by rfl) enters27 (random_Bytes_ok fuel (g_0.1, g_0.2) n_1 w16  r36 hr37) ?_
        rintro v40 w38 ⟨hg39, a41, c42, rfl, ho43, hl44⟩
        refine ⟨(fun e => by cases e), ?_⟩
        have hl45 : ∀ g, blk a41 = some g → w0.heap.size ≤ g := fun g e => Nat.le_trans hB32.size (hl44 g e)
        refine gv_pure 4 [1, 2, 3, 48, 49, 50] (σ' := [(1, (.int .i64 n_1)), (2, (.int .i64 k_2)), (3, (.pointer (some ⟨b1, 0, none⟩))), (48, (.slice a41 (List.length r36.1) c42)), (49, (.agg #[(.int .u64 r36.2.1.1), (.int .u64 r36.2.1.2)])), (50, (.agg #[(.int .i64 r36.2.2.1), (.int .i64 r36.2.2.2)]))]) (by kernel_rfl) ?_
        refine gv_new (fun b => .pointer (some ⟨b, 0, none⟩)) #[(.int .u64 0), (.int .u64 0)] 27 (by decide) (by rfl) (by rfl) (by kernel_rfl) (by kernel_rfl) ?_
        intro b46 w47 hg48 hb49 hbe50 hz51
        refine ⟨(fun e => by cases e), ?_⟩
        refine gv_sub [1, 2, 3, 8, 48, 49, 50] (σ' := [(1, (.int .i64 n_1)), (2, (.int .i64 k_2)), (3, (.pointer (some ⟨b1, 0, none⟩))), (8, (.pointer (some ⟨b46, 0, none⟩))), (48, (.slice a41 (List.length r36.1) c42)), (49, (.agg #[(.int .u64 r36.2.1.1), (.int .u64 r36.2.1.2)])), (50, (.agg #[(.int .i64 r36.2.2.1), (.int .i64 r36.2.2.2)]))]) (by kernel_rfl) ?_
        refine gv_new (fun b => .pointer (some ⟨b, 0, none⟩)) #[(.int .i64 0), (.int .i64 0)] 29 (by decide) (by rfl) (by rfl) (by kernel_rfl) (by kernel_rfl) ?_
        intro b52 w53 hg54 hb55 hbe56 hz57
        refine ⟨(fun e => by cases e), ?_⟩
        refine gv_pure 1 [1, 2, 3, 7, 8, 9, 49, 50] (σ' := [(1, (.int .i64 n_1)), (2, (.int .i64 k_2)), (3, (.pointer (some ⟨b1, 0, none⟩))), (7, (.slice a41 (List.length r36.1) c42)), (8, (.pointer (some ⟨b46, 0, none⟩))), (9, (.pointer (some ⟨b52, 0, none⟩))), (49, (.agg #[(.int .u64 r36.2.1.1), (.int .u64 r36.2.1.2)])), (50, (.agg #[(.int .i64 r36.2.2.1), (.int .i64 r36.2.2.2)]))]) (by kernel_rfl) ?_
        have hk62 := hb49.grown hg54 nb
        refine gv_store (t := 27) (b := b46) (off := 0) (v := (.agg #[(.int .u64 r36.2.1.1), (.int .u64 r36.2.1.2)])) (t' := 27) (cs := #[(.int .u64 0), (.int .u64 0)]) #[(.int .u64 r36.2.1.1), (.int .u64 r36.2.1.2)] (by decide) (by rfl) (by rfl) (by kernel_rfl) (by kernel_rfl) (by kernel_rfl) (by intro u hu; simp [Value.cells] at hu; rcases hu with rfl | rfl <;> rfl) (show 0 + 2 ≤ 2 by decide) (by rfl) hk62 ?_
        intro w58 hg59 hb60 hz61
        refine ⟨(fun e => by cases e), ?_⟩
        have ap67 : ¬ (· = b52) b46 := fun hx => Nat.not_lt_of_le ((lowb hbe56) _ hx) ((fun k (hk : k = b46) => Nat.lt_of_le_of_lt (Nat.le_of_eq hk) hb49.lt) _ rfl)
        have hk68 := hb55.grown hg59 (rowne ap67)
        refine gv_sub [1, 2, 3, 7, 9, 50] (σ' := [(1, (.int .i64 n_1)), (2, (.int .i64 k_2)), (3, (.pointer (some ⟨b1, 0, none⟩))), (7, (.slice a41 (List.length r36.1) c42)), (9, (.pointer (some ⟨b52, 0, none⟩))), (50, (.agg #[(.int .i64 r36.2.2.1), (.int .i64 r36.2.2.2)]))]) (by kernel_rfl) ?_
        refine gv_store (t := 29) (b := b52) (off := 0) (v := (.agg #[(.int .i64 r36.2.2.1), (.int .i64 r36.2.2.2)])) (t' := 29) (cs := #[(.int .i64 0), (.int .i64 0)]) #[(.int .i64 r36.2.2.1), (.int .i64 r36.2.2.2)] (by decide) (by rfl) (by rfl) (by kernel_rfl) (by kernel_rfl) (by kernel_rfl) (by intro u hu; simp [Value.cells] at hu; rcases hu with rfl | rfl <;> rfl) (show 0 + 2 ≤ 2 by decide) (by rfl) hk68 ?_
        intro w63 hg64 hb65 hz66
        refine ⟨(fun e => by cases e), ?_⟩
        refine gv_sub [1, 2, 3, 7, 9] (σ' := [(1, (.int .i64 n_1)), (2, (.int .i64 k_2)), (3, (.pointer (some ⟨b1, 0, none⟩))), (7, (.slice a41 (List.length r36.1) c42)), (9, (.pointer (some ⟨b52, 0, none⟩)))]) (by kernel_rfl) ?_
        refine gv_nil ?_
        refine gv_seq ?_
        refine gv_region ?_
        have hg69 := (grown_trans (grown_trans hg39 hg48) hg54)
        have hk70 := hb34.grown hg39 nb
        have ap71 : ¬ (· = b1) b46 := fun hx => Nat.not_lt_of_le ((lowb hbe50) _ rfl) ((fun k (hk : k = b1) => Nat.lt_of_le_of_lt (Nat.le_of_eq hk) hk70.lt) _ hx)
        have hk72 := hk70.grown hg48 nb
        have ap73 : ¬ (· = b1) b52 := fun hx => Nat.not_lt_of_le ((lowb hbe56) _ rfl) ((fun k (hk : k = b1) => Nat.lt_of_le_of_lt (Nat.le_of_eq hk) hk72.lt) _ hx)
        have hk74 := ((hb34.grown hg69 nb).grown hg59 (rowne ap71)).grown hg64 (rowne ap73)
        refine gv_loadBox (t := 27) (b := b1) (t' := 27) (fr := (0, 0)) #[(.int .u64 g_0.1), (.int .u64 g_0.2)] [1, 2, 3, 7, 9, 52] (σ' := [(1, (.int .i64 n_1)), (2, (.int .i64 k_2)), (3, (.pointer (some ⟨b1, 0, none⟩))), (7, (.slice a41 (List.length r36.1) c42)), (9, (.pointer (some ⟨b52, 0, none⟩))), (52, (.agg #[(.int .u64 g_0.1), (.int .u64 g_0.2)]))]) (fun e => by cases e) (by rfl) (by rfl) (by rfl) (by kernel_rfl) (by kernel_rfl) (by kernel_rfl) (by kernel_rfl) (inw0 hk74) (by kernel_rfl) ?_
        refine gv_pure 1 [1, 2, 3, 7, 9, 52, 53] (σ' := [(1, (.int .i64 n_1)), (2, (.int .i64 k_2)), (3, (.pointer (some ⟨b1, 0, none⟩))), (7, (.slice a41 (List.length r36.1) c42)), (9, (.pointer (some ⟨b52, 0, none⟩))), (52, (.agg #[(.int .u64 g_0.1), (.int .u64 g_0.2)])), (53, (.int .i64 k_2))]) (by kernel_rfl) ?_
        refine bindE h0 ?_; clear h0; intro r75 hr76 h0
        refine gv_call (f := 27) (vs := [(.agg #[(.int .u64 g_0.1), (.int .u64 g_0.2)]), (.int .i64 k_2)]) (cap := []) _ (by decide) (by rfl) (by rfl) rfl (by rfl) (by rfl) enters27 (random_Bytes_ok fuel (g_0.1, g_0.2) k_2 w63  r75 hr76) ?_
        rintro v79 w77 ⟨hg78, a80, c81, rfl, ho82, hl83⟩
        refine ⟨(fun e => by cases e), ?_⟩
        have hB85 := below_grown hB32 hg69 hB32.size nb
        have hB86 := below_grown hB32 hg39 hB32.size nb
        have hlo87 : w0.heap.size ≤ b46 := lob hbe50 hB86.size
        have hB88 := below_grown hB85 hg59 hB85.size (rowlo hlo87)
        have hB89 := below_grown hB86 hg48 hB86.size nb
        have hlo90 : w0.heap.size ≤ b52 := lob hbe56 hB89.size
        have hB91 := below_grown hB88 hg64 hB88.size (rowlo hlo90)
        have hl84 : ∀ g, blk a80 = some g → w0.heap.size ≤ g := fun g e => Nat.le_trans hB91.size (hl83 g e)
        clear hB89 hB88 hlo87 hB86 hB85 hr76 ap71 hk70 hg69 hz66 hk68 ap67 hz61 hb60 hk62 hz57 hb55 hz51 hb49 hg39 hr37 hc35 hB32
        refine gv_pure 4 [1, 2, 3, 7, 9, 55, 56, 57] (σ' := [(1, (.int .i64 n_1)), (2, (.int .i64 k_2)), (3, (.pointer (some ⟨b1, 0, none⟩))), (7, (.slice a41 (List.length r36.1) c42)), (9, (.pointer (some ⟨b52, 0, none⟩))), (55, (.slice a80 (List.length r75.1) c81)), (56, (.agg #[(.int .u64 r75.2.1.1), (.int .u64 r75.2.1.2)])), (57, (.agg #[(.int .i64 r75.2.2.1), (.int .i64 r75.2.2.2)]))]) (by kernel_rfl) ?_
        refine gv_new (fun b => .pointer (some ⟨b, 0, none⟩)) #[(.int .u64 0), (.int .u64 0)] 27 (by decide) (by rfl) (by rfl) (by kernel_rfl) (by kernel_rfl) ?_
        intro b92 w93 hg94 hb95 hbe96 hz97
        refine ⟨(fun e => by cases e), ?_⟩
        refine gv_sub [1, 2, 3, 7, 9, 11, 55, 56, 57] (σ' := [(1, (.int .i64 n_1)), (2, (.int .i64 k_2)), (3, (.pointer (some ⟨b1, 0, none⟩))), (7, (.slice a41 (List.length r36.1) c42)), (9, (.pointer (some ⟨b52, 0, none⟩))), (11, (.pointer (some ⟨b92, 0, none⟩))), (55, (.slice a80 (List.length r75.1) c81)), (56, (.agg #[(.int .u64 r75.2.1.1), (.int .u64 r75.2.1.2)])), (57, (.agg #[(.int .i64 r75.2.2.1), (.int .i64 r75.2.2.2)]))]) (by kernel_rfl) ?_
        refine gv_new (fun b => .pointer (some ⟨b, 0, none⟩)) #[(.int .i64 0), (.int .i64 0)] 29 (by decide) (by rfl) (by rfl) (by kernel_rfl) (by kernel_rfl) ?_
        intro b98 w99 hg100 hb101 hbe102 hz103
        refine ⟨(fun e => by cases e), ?_⟩
        refine gv_pure 1 [1, 2, 3, 7, 9, 10, 11, 12, 56, 57] (σ' := [(1, (.int .i64 n_1)), (2, (.int .i64 k_2)), (3, (.pointer (some ⟨b1, 0, none⟩))), (7, (.slice a41 (List.length r36.1) c42)), (9, (.pointer (some ⟨b52, 0, none⟩))), (10, (.slice a80 (List.length r75.1) c81)), (11, (.pointer (some ⟨b92, 0, none⟩))), (12, (.pointer (some ⟨b98, 0, none⟩))), (56, (.agg #[(.int .u64 r75.2.1.1), (.int .u64 r75.2.1.2)])), (57, (.agg #[(.int .i64 r75.2.2.1), (.int .i64 r75.2.2.2)]))]) (by kernel_rfl) ?_
        have hk108 := hb95.grown hg100 nb
        refine gv_store (t := 27) (b := b92) (off := 0) (v := (.agg #[(.int .u64 r75.2.1.1), (.int .u64 r75.2.1.2)])) (t' := 27) (cs := #[(.int .u64 0), (.int .u64 0)]) #[(.int .u64 r75.2.1.1), (.int .u64 r75.2.1.2)] (by decide) (by rfl) (by rfl) (by kernel_rfl) (by kernel_rfl) (by kernel_rfl) (by intro u hu; simp [Value.cells] at hu; rcases hu with rfl | rfl <;> rfl) (show 0 + 2 ≤ 2 by decide) (by rfl) hk108 ?_
        intro w104 hg105 hb106 hz107
        refine ⟨(fun e => by cases e), ?_⟩
        have ap113 : ¬ (· = b98) b92 := fun hx => Nat.not_lt_of_le ((lowb hbe102) _ hx) ((fun k (hk : k = b92) => Nat.lt_of_le_of_lt (Nat.le_of_eq hk) hb95.lt) _ rfl)
        have hk114 := hb101.grown hg105 (rowne ap113)
        refine gv_sub [1, 2, 3, 7, 9, 10, 12, 57] (σ' := [(1, (.int .i64 n_1)), (2, (.int .i64 k_2)), (3, (.pointer (some ⟨b1, 0, none⟩))), (7, (.slice a41 (List.length r36.1) c42)), (9, (.pointer (some ⟨b52, 0, none⟩))), (10, (.slice a80 (List.length r75.1) c81)), (12, (.pointer (some ⟨b98, 0, none⟩))), (57, (.agg #[(.int .i64 r75.2.2.1), (.int .i64 r75.2.2.2)]))]) (by kernel_rfl) ?_
        refine gv_store (t := 29) (b := b98) (off := 0) (v := (.agg #[(.int .i64 r75.2.2.1), (.int .i64 r75.2.2.2)])) (t' := 29) (cs := #[(.int .i64 0), (.int .i64 0)]) #[(.int .i64 r75.2.2.1), (.int .i64 r75.2.2.2)] (by decide) (by rfl) (by rfl) (by kernel_rfl) (by kernel_rfl) (by kernel_rfl) (by intro u hu; simp [Value.cells] at hu; rcases hu with rfl | rfl <;> rfl) (show 0 + 2 ≤ 2 by decide) (by rfl) hk114 ?_
        intro w109 hg110 hb111 hz112
        refine ⟨(fun e => by cases e), ?_⟩
        refine gv_sub [1, 2, 3, 7, 9, 10, 12] (σ' := [(1, (.int .i64 n_1)), (2, (.int .i64 k_2)), (3, (.pointer (some ⟨b1, 0, none⟩))), (7, (.slice a41 (List.length r36.1) c42)), (9, (.pointer (some ⟨b52, 0, none⟩))), (10, (.slice a80 (List.length r75.1) c81)), (12, (.pointer (some ⟨b98, 0, none⟩)))]) (by kernel_rfl) ?_
        refine gv_nil ?_
        refine gv_seq ?_
        refine gv_region ?_
        have hg115 := (grown_trans (grown_trans hg78 hg94) hg100)
        have hk116 := hk74.grown hg78 nb
        have ap117 : ¬ (· = b1) b92 := fun hx => Nat.not_lt_of_le ((lowb hbe96) _ rfl) ((fun k (hk : k = b1) => Nat.lt_of_le_of_lt (Nat.le_of_eq hk) hk116.lt) _ hx)
        have hk118 := hk116.grown hg94 nb
        have ap119 : ¬ (· = b1) b98 := fun hx => Nat.not_lt_of_le ((lowb hbe102) _ rfl) ((fun k (hk : k = b1) => Nat.lt_of_le_of_lt (Nat.le_of_eq hk) hk118.lt) _ hx)
        have hk120 := ((hk74.grown hg115 nb).grown hg105 (rowne ap117)).grown hg110 (rowne ap119)
        refine gv_loadBox (t := 27) (b := b1) (t' := 27) (fr := (0, 0)) #[(.int .u64 g_0.1), (.int .u64 g_0.2)] [1, 2, 3, 7, 9, 10, 12, 59] (σ' := [(1, (.int .i64 n_1)), (2, (.int .i64 k_2)), (3, (.pointer (some ⟨b1, 0, none⟩))), (7, (.slice a41 (List.length r36.1) c42)), (9, (.pointer (some ⟨b52, 0, none⟩))), (10, (.slice a80 (List.length r75.1) c81)), (12, (.pointer (some ⟨b98, 0, none⟩))), (59, (.agg #[(.int .u64 g_0.1), (.int .u64 g_0.2)]))]) (fun e => by cases e) (by rfl) (by rfl) (by rfl) (by kernel_rfl) (by kernel_rfl) (by kernel_rfl) (by kernel_rfl) (inw0 hk120) (by kernel_rfl) ?_
        refine gv_pure 2 [1, 2, 3, 7, 9, 10, 12, 59, 60, 61] (σ' := [(1, (.int .i64 n_1)), (2, (.int .i64 k_2)), (3, (.pointer (some ⟨b1, 0, none⟩))), (7, (.slice a41 (List.length r36.1) c42)), (9, (.pointer (some ⟨b52, 0, none⟩))), (10, (.slice a80 (List.length r75.1) c81)), (12, (.pointer (some ⟨b98, 0, none⟩))), (59, (.agg #[(.int .u64 g_0.1), (.int .u64 g_0.2)])), (60, (.int .i64 n_1)), (61, (.int .i64 n_1))]) (by kernel_rfl) ?_
        refine bindE h0 ?_; clear h0; intro r121 hr122 h0
        refine gv_call (f := 28) (vs := [(.agg #[(.int .u64 g_0.1), (.int .u64 g_0.2)]), (.int .i64 n_1), (.int .i64 n_1)]) (cap := []) _ (by decide) (by rfl) (by rfl) rfl (by rfl) (by rfl) enters28 (random_Sample_ok fuel (g_0.1, g_0.2) n_1 n_1 w109  r121 hr122) ?_
        rintro v125 w123 ⟨hg124, a126, c127, rfl, ho128, hl129⟩
        refine ⟨(fun e => by cases e), ?_⟩
        have hB131 := below_grown hB91 hg115 hB91.size nb
        have hB132 := below_grown hB91 hg78 hB91.size nb
        have hlo133 : w0.heap.size ≤ b92 := lob hbe96 hB132.size
        have hB134 := below_grown hB131 hg105 hB131.size (rowlo hlo133)
        have hB135 := below_grown hB132 hg94 hB132.size nb
        have hlo136 : w0.heap.size ≤ b98 := lob hbe102 hB135.size
        have hB137 := below_grown hB134 hg110 hB134.size (rowlo hlo136)
        have hl130 : ∀ g, blk a126 = some g → w0.heap.size ≤ g := fun g e => Nat.le_trans hB137.size (hl129 g e)
        refine gv_pure 4 [1, 2, 3, 7, 9, 10, 12, 63, 64, 65] (σ' := [(1, (.int .i64 n_1)), (2, (.int .i64 k_2)), (3, (.pointer (some ⟨b1, 0, none⟩))), (7, (.slice a41 (List.length r36.1) c42)), (9, (.pointer (some ⟨b52, 0, none⟩))), (10, (.slice a80 (List.length r75.1) c81)), (12, (.pointer (some ⟨b98, 0, none⟩))), (63, (.slice a126 (List.length r121.1) c127)), (64, (.agg #[(.int .u64 r121.2.1.1), (.int .u64 r121.2.1.2)])), (65, (.agg #[(.int .i64 r121.2.2.1), (.int .i64 r121.2.2.2)]))]) (by kernel_rfl) ?_
        refine gv_new (fun b => .pointer (some ⟨b, 0, none⟩)) #[(.int .u64 0), (.int .u64 0)] 27 (by decide) (by rfl) (by rfl) (by kernel_rfl) (by kernel_rfl) ?_
        intro b138 w139 hg140 hb141 hbe142 hz143
        refine ⟨(fun e => by cases e), ?_⟩
        refine gv_sub [1, 2, 3, 7, 9, 10, 12, 14, 63, 64, 65] (σ' := [(1, (.int .i64 n_1)), (2, (.int .i64 k_2)), (3, (.pointer (some ⟨b1, 0, none⟩))), (7, (.slice a41 (List.length r36.1) c42)), (9, (.pointer (some ⟨b52, 0, none⟩))), (10, (.slice a80 (List.length r75.1) c81)), (12, (.pointer (some ⟨b98, 0, none⟩))), (14, (.pointer (some ⟨b138, 0, none⟩))), (63, (.slice a126 (List.length r121.1) c127)), (64, (.agg #[(.int .u64 r121.2.1.1), (.int .u64 r121.2.1.2)])), (65, (.agg #[(.int .i64 r121.2.2.1), (.int .i64 r121.2.2.2)]))]) (by kernel_rfl) ?_
        refine gv_new (fun b => .pointer (some ⟨b, 0, none⟩)) #[(.int .i64 0), (.int .i64 0)] 29 (by decide) (by rfl) (by rfl) (by kernel_rfl) (by kernel_rfl) ?_
        intro b144 w145 hg146 hb147 hbe148 hz149
        refine ⟨(fun e => by cases e), ?_⟩
        refine gv_pure 1 [1, 2, 3, 7, 9, 10, 12, 13, 14, 15, 64, 65] (σ' := [(1, (.int .i64 n_1)), (2, (.int .i64 k_2)), (3, (.pointer (some ⟨b1, 0, none⟩))), (7, (.slice a41 (List.length r36.1) c42)), (9, (.pointer (some ⟨b52, 0, none⟩))), (10, (.slice a80 (List.length r75.1) c81)), (12, (.pointer (some ⟨b98, 0, none⟩))), (13, (.slice a126 (List.length r121.1) c127)), (14, (.pointer (some ⟨b138, 0, none⟩))), (15, (.pointer (some ⟨b144, 0, none⟩))), (64, (.agg #[(.int .u64 r121.2.1.1), (.int .u64 r121.2.1.2)])), (65, (.agg #[(.int .i64 r121.2.2.1), (.int .i64 r121.2.2.2)]))]) (by kernel_rfl) ?_
        have hk154 := hb141.grown hg146 nb
        refine gv_store (t := 27) (b := b138) (off := 0) (v := (.agg #[(.int .u64 r121.2.1.1), (.int .u64 r121.2.1.2)])) (t' := 27) (cs := #[(.int .u64 0), (.int .u64 0)]) #[(.int .u64 r121.2.1.1), (.int .u64 r121.2.1.2)] (by decide) (by rfl) (by rfl) (by kernel_rfl) (by kernel_rfl) (by kernel_rfl) (by intro u hu; simp [Value.cells] at hu; rcases hu with rfl | rfl <;> rfl) (show 0 + 2 ≤ 2 by decide) (by rfl) hk154 ?_
        intro w150 hg151 hb152 hz153
        refine ⟨(fun e => by cases e), ?_⟩
        clear hz153 hb152 hk154 hz149 hz143 hB135 hB134 hlo133 hB132 hB131 hr122 ap117 hk116 hg115 hz112 hk114 ap113 hz107 hb106 hk108 hz103 hb101 hz97 hb95 hB91
        have ap159 : ¬ (· = b144) b138 := fun hx => Nat.not_lt_of_le ((lowb hbe148) _ hx) ((fun k (hk : k = b138) => Nat.lt_of_le_of_lt (Nat.le_of_eq hk) hb141.lt) _ rfl)
        have hk160 := hb147.grown hg151 (rowne ap159)
        refine gv_sub [1, 2, 3, 7, 9, 10, 12, 13, 15, 65] (σ' := [(1, (.int .i64 n_1)), (2, (.int .i64 k_2)), (3, (.pointer (some ⟨b1, 0, none⟩))), (7, (.slice a41 (List.length r36.1) c42)), (9, (.pointer (some ⟨b52, 0, none⟩))), (10, (.slice a80 (List.length r75.1) c81)), (12, (.pointer (some ⟨b98, 0, none⟩))), (13, (.slice a126 (List.length r121.1) c127)), (15, (.pointer (some ⟨b144, 0, none⟩))), (65, (.agg #[(.int .i64 r121.2.2.1), (.int .i64 r121.2.2.2)]))]) (by kernel_rfl) ?_
        refine gv_store (t := 29) (b := b144) (off := 0) (v := (.agg #[(.int .i64 r121.2.2.1), (.int .i64 r121.2.2.2)])) (t' := 29) (cs := #[(.int .i64 0), (.int .i64 0)]) #[(.int .i64 r121.2.2.1), (.int .i64 r121.2.2.2)] (by decide) (by rfl) (by rfl) (by kernel_rfl) (by kernel_rfl) (by kernel_rfl) (by intro u hu; simp [Value.cells] at hu; rcases hu with rfl | rfl <;> rfl) (show 0 + 2 ≤ 2 by decide) (by rfl) hk160 ?_
        intro w155 hg156 hb157 hz158
        refine ⟨(fun e => by cases e), ?_⟩
        refine gv_sub [1, 2, 3, 7, 9, 10, 12, 13, 15] (σ' := [(1, (.int .i64 n_1)), (2, (.int .i64 k_2)), (3, (.pointer (some ⟨b1, 0, none⟩))), (7, (.slice a41 (List.length r36.1) c42)), (9, (.pointer (some ⟨b52, 0, none⟩))), (10, (.slice a80 (List.length r75.1) c81)), (12, (.pointer (some ⟨b98, 0, none⟩))), (13, (.slice a126 (List.length r121.1) c127)), (15, (.pointer (some ⟨b144, 0, none⟩)))]) (by kernel_rfl) ?_
        refine gv_nil ?_
        refine gv_seq ?_
        refine gv_region ?_
        have hg161 := (grown_trans (grown_trans hg124 hg140) hg146)
        have hk162 := hk120.grown hg124 nb
        have ap163 : ¬ (· = b1) b138 := fun hx => Nat.not_lt_of_le ((lowb hbe142) _ rfl) ((fun k (hk : k = b1) => Nat.lt_of_le_of_lt (Nat.le_of_eq hk) hk162.lt) _ hx)
        have hk164 := hk162.grown hg140 nb
        have ap165 : ¬ (· = b1) b144 := fun hx => Nat.not_lt_of_le ((lowb hbe148) _ rfl) ((fun k (hk : k = b1) => Nat.lt_of_le_of_lt (Nat.le_of_eq hk) hk164.lt) _ hx)
        have hk166 := ((hk120.grown hg161 nb).grown hg151 (rowne ap163)).grown hg156 (rowne ap165)
        refine gv_loadBox (t := 27) (b := b1) (t' := 27) (fr := (0, 0)) #[(.int .u64 g_0.1), (.int .u64 g_0.2)] [1, 2, 7, 9, 10, 12, 13, 15, 67] (σ' := [(1, (.int .i64 n_1)), (2, (.int .i64 k_2)), (7, (.slice a41 (List.length r36.1) c42)), (9, (.pointer (some ⟨b52, 0, none⟩))), (10, (.slice a80 (List.length r75.1) c81)), (12, (.pointer (some ⟨b98, 0, none⟩))), (13, (.slice a126 (List.length r121.1) c127)), (15, (.pointer (some ⟨b144, 0, none⟩))), (67, (.agg #[(.int .u64 g_0.1), (.int .u64 g_0.2)]))]) (fun e => by cases e) (by rfl) (by rfl) (by rfl) (by kernel_rfl) (by kernel_rfl) (by kernel_rfl) (by kernel_rfl) (inw0 hk166) (by kernel_rfl) ?_
        refine gv_pure 2 [1, 2, 7, 9, 10, 12, 13, 15, 67, 68, 69] (σ' := [(1, (.int .i64 n_1)), (2, (.int .i64 k_2)), (7, (.slice a41 (List.length r36.1) c42)), (9, (.pointer (some ⟨b52, 0, none⟩))), (10, (.slice a80 (List.length r75.1) c81)), (12, (.pointer (some ⟨b98, 0, none⟩))), (13, (.slice a126 (List.length r121.1) c127)), (15, (.pointer (some ⟨b144, 0, none⟩))), (67, (.agg #[(.int .u64 g_0.1), (.int .u64 g_0.2)])), (68, (.int .i64 n_1)), (69, (.int .i64 k_2))]) (by kernel_rfl) ?_
        refine bindE h0 ?_; clear h0; intro r167 hr168 h0
        refine gv_call (f := 28) (vs := [(.agg #[(.int .u64 g_0.1), (.int .u64 g_0.2)]), (.int .i64 n_1), (.int .i64 k_2)]) (cap := []) _ (by decide) (by rfl) (by rfl) rfl (by rfl) (by rfl) enters28 (random_Sample_ok fuel (g_0.1, g_0.2) n_1 k_2 w155  r167 hr168) ?_
        rintro v171 w169 ⟨hg170, a172, c173, rfl, ho174, hl175⟩
        refine ⟨(fun e => by cases e), ?_⟩
        have hB177 := below_grown hB137 hg161 hB137.size nb
        have hB178 := below_grown hB137 hg124 hB137.size nb
        have hlo179 : w0.heap.size ≤ b138 := lob hbe142 hB178.size
        have hB180 := below_grown hB177 hg151 hB177.size (rowlo hlo179)
        have hB181 := below_grown hB178 hg140 hB178.size nb
        have hlo182 : w0.heap.size ≤ b144 := lob hbe148 hB181.size
        have hB183 := below_grown hB180 hg156 hB180.size (rowlo hlo182)
        have hl176 : ∀ g, blk a172 = some g → w0.heap.size ≤ g := fun g e => Nat.le_trans hB183.size (hl175 g e)
        refine gv_pure 4 [1, 2, 7, 9, 10, 12, 13, 15, 71, 72, 73] (σ' := [(1, (.int .i64 n_1)), (2, (.int .i64 k_2)), (7, (.slice a41 (List.length r36.1) c42)), (9, (.pointer (some ⟨b52, 0, none⟩))), (10, (.slice a80 (List.length r75.1) c81)), (12, (.pointer (some ⟨b98, 0, none⟩))), (13, (.slice a126 (List.length r121.1) c127)), (15, (.pointer (some ⟨b144, 0, none⟩))), (71, (.slice a172 (List.length r167.1) c173)), (72, (.agg #[(.int .u64 r167.2.1.1), (.int .u64 r167.2.1.2)])), (73, (.agg #[(.int .i64 r167.2.2.1), (.int .i64 r167.2.2.2)]))]) (by kernel_rfl) ?_
        refine gv_new (fun b => .pointer (some ⟨b, 0, none⟩)) #[(.int .u64 0), (.int .u64 0)] 27 (by decide) (by rfl) (by rfl) (by kernel_rfl) (by kernel_rfl) ?_
        intro b184 w185 hg186 hb187 hbe188 hz189
        refine ⟨(fun e => by cases e), ?_⟩
        refine gv_sub [1, 2, 7, 9, 10, 12, 13, 15, 17, 71, 72, 73] (σ' := [(1, (.int .i64 n_1)), (2, (.int .i64 k_2)), (7, (.slice a41 (List.length r36.1) c42)), (9, (.pointer (some ⟨b52, 0, none⟩))), (10, (.slice a80 (List.length r75.1) c81)), (12, (.pointer (some ⟨b98, 0, none⟩))), (13, (.slice a126 (List.length r121.1) c127)), (15, (.pointer (some ⟨b144, 0, none⟩))), (17, (.pointer (some ⟨b184, 0, none⟩))), (71, (.slice a172 (List.length r167.1) c173)), (72, (.agg #[(.int .u64 r167.2.1.1), (.int .u64 r167.2.1.2)])), (73, (.agg #[(.int .i64 r167.2.2.1), (.int .i64 r167.2.2.2)]))]) (by kernel_rfl) ?_
        refine gv_new (fun b => .pointer (some ⟨b, 0, none⟩)) #[(.int .i64 0), (.int .i64 0)] 29 (by decide) (by rfl) (by rfl) (by kernel_rfl) (by kernel_rfl) ?_
        intro b190 w191 hg192 hb193 hbe194 hz195
        refine ⟨(fun e => by cases e), ?_⟩
        refine gv_pure 1 [1, 2, 7, 9, 10, 12, 13, 15, 16, 17, 18, 72, 73] (σ' := [(1, (.int .i64 n_1)), (2, (.int .i64 k_2)), (7, (.slice a41 (List.length r36.1) c42)), (9, (.pointer (some ⟨b52, 0, none⟩))), (10, (.slice a80 (List.length r75.1) c81)), (12, (.pointer (some ⟨b98, 0, none⟩))), (13, (.slice a126 (List.length r121.1) c127)), (15, (.pointer (some ⟨b144, 0, none⟩))), (16, (.slice a172 (List.length r167.1) c173)), (17, (.pointer (some ⟨b184, 0, none⟩))), (18, (.pointer (some ⟨b190, 0, none⟩))), (72, (.agg #[(.int .u64 r167.2.1.1), (.int .u64 r167.2.1.2)])), (73, (.agg #[(.int .i64 r167.2.2.1), (.int .i64 r167.2.2.2)]))]) (by kernel_rfl) ?_
        have hk200 := hb187.grown hg192 nb
        refine gv_store (t := 27) (b := b184) (off := 0) (v := (.agg #[(.int .u64 r167.2.1.1), (.int .u64 r167.2.1.2)])) (t' := 27) (cs := #[(.int .u64 0), (.int .u64 0)]) #[(.int .u64 r167.2.1.1), (.int .u64 r167.2.1.2)] (by decide) (by rfl) (by rfl) (by kernel_rfl) (by kernel_rfl) (by kernel_rfl) (by intro u hu; simp [Value.cells] at hu; rcases hu with rfl | rfl <;> rfl) (show 0 + 2 ≤ 2 by decide) (by rfl) hk200 ?_
        intro w196 hg197 hb198 hz199
        refine ⟨(fun e => by cases e), ?_⟩
        have ap205 : ¬ (· = b190) b184 := fun hx => Nat.not_lt_of_le ((lowb hbe194) _ hx) ((fun k (hk : k = b184) => Nat.lt_of_le_of_lt (Nat.le_of_eq hk) hb187.lt) _ rfl)
        have hk206 := hb193.grown hg197 (rowne ap205)
        refine gv_sub [1, 2, 7, 9, 10, 12, 13, 15, 16, 18, 73] (σ' := [(1, (.int .i64 n_1)), (2, (.int .i64 k_2)), (7, (.slice a41 (List.length r36.1) c42)), (9, (.pointer (some ⟨b52, 0, none⟩))), (10, (.slice a80 (List.length r75.1) c81)), (12, (.pointer (some ⟨b98, 0, none⟩))), (13, (.slice a126 (List.length r121.1) c127)), (15, (.pointer (some ⟨b144, 0, none⟩))), (16, (.slice a172 (List.length r167.1) c173)), (18, (.pointer (some ⟨b190, 0, none⟩))), (73, (.agg #[(.int .i64 r167.2.2.1), (.int .i64 r167.2.2.2)]))]) (by kernel_rfl) ?_
        refine gv_store (t := 29) (b := b190) (off := 0) (v := (.agg #[(.int .i64 r167.2.2.1), (.int .i64 r167.2.2.2)])) (t' := 29) (cs := #[(.int .i64 0), (.int .i64 0)]) #[(.int .i64 r167.2.2.1), (.int .i64 r167.2.2.2)] (by decide) (by rfl) (by rfl) (by kernel_rfl) (by kernel_rfl) (by kernel_rfl) (by intro u hu; simp [Value.cells] at hu; rcases hu with rfl | rfl <;> rfl) (show 0 + 2 ≤ 2 by decide) (by rfl) hk206 ?_
        intro w201 hg202 hb203 hz204
        refine ⟨(fun e => by cases e), ?_⟩
        refine gv_sub [1, 2, 7, 9, 10, 12, 13, 15, 16, 18] (σ' := [(1, (.int .i64 n_1)), (2, (.int .i64 k_2)), (7, (.slice a41 (List.length r36.1) c42)), (9, (.pointer (some ⟨b52, 0, none⟩))), (10, (.slice a80 (List.length r75.1) c81)), (12, (.pointer (some ⟨b98, 0, none⟩))), (13, (.slice a126 (List.length r121.1) c127)), (15, (.pointer (some ⟨b144, 0, none⟩))), (16, (.slice a172 (List.length r167.1) c173)), (18, (.pointer (some ⟨b190, 0, none⟩)))]) (by kernel_rfl) ?_
        refine gv_nil ?_
        refine gv_seq ?_
        refine gv_seq ?_
        refine gv_region ?_
        refine bindE h0 ?_; clear h0; intro j207 h1 h0
        refine gv_cut_ops (J := fun a w208 => Below w0.heap.size w0 w208 ∧ w201.heap.size ≤ w208.heap.size ∧ Own (iE .i64) 3 w208 (fun _ => False) a126 c127 r121.1 ∧ a.defers = [] ∧ a.tmps.size = 167 ∧ Ok [(1, (.int .i64 n_1)), (13, (.slice a126 (List.length r121.1) c127)), (131, (.bool j207))] a.tmps) ?_ ?_
        · skip
          refine gv_pure 1 [1, 2, 7, 10, 12, 13, 15, 16, 18, 74] (σ' := [(1, (.int .i64 n_1)), (2, (.int .i64 k_2)), (7, (.slice a41 (List.length r36.1) c42)), (10, (.slice a80 (List.length r75.1) c81)), (12, (.pointer (some ⟨b98, 0, none⟩))), (13, (.slice a126 (List.length r121.1) c127)), (15, (.pointer (some ⟨b144, 0, none⟩))), (16, (.slice a172 (List.length r167.1) c173)), (18, (.pointer (some ⟨b190, 0, none⟩))), (74, (.pointer (some ⟨b52, 0, none⟩)))]) (by kernel_rfl) ?_
          have hg209 := (grown_trans (grown_trans hg78 hg94) hg100)
          have hk210 := hb65.grown hg78 nb
          have ap211 : ¬ (· = b52) b92 := fun hx => Nat.not_lt_of_le ((lowb hbe96) _ rfl) ((fun k (hk : k = b52) => Nat.lt_of_le_of_lt (Nat.le_of_eq hk) hk210.lt) _ hx)
          have hk212 := hk210.grown hg94 nb
          have ap213 : ¬ (· = b52) b98 := fun hx => Nat.not_lt_of_le ((lowb hbe102) _ rfl) ((fun k (hk : k = b52) => Nat.lt_of_le_of_lt (Nat.le_of_eq hk) hk212.lt) _ hx)
          have hk214 := (((hk212.grown hg100 nb).grown hg105 (rowne ap211)).grown hg110 (rowne ap213)).grown hg124 nb
          have ap215 : ¬ (· = b52) b138 := fun hx => Nat.not_lt_of_le ((lowb hbe142) _ rfl) ((fun k (hk : k = b52) => Nat.lt_of_le_of_lt (Nat.le_of_eq hk) hk214.lt) _ hx)
          have hk216 := hk214.grown hg140 nb
          have ap217 : ¬ (· = b52) b144 := fun hx => Nat.not_lt_of_le ((lowb hbe148) _ rfl) ((fun k (hk : k = b52) => Nat.lt_of_le_of_lt (Nat.le_of_eq hk) hk216.lt) _ hx)
          have hg218 := (grown_trans (grown_trans hg170 hg186) hg192)
          have hk219 := (((hk216.grown hg146 nb).grown hg151 (rowne ap215)).grown hg156 (rowne ap217)).grown hg170 nb
          have ap220 : ¬ (· = b52) b184 := fun hx => Nat.not_lt_of_le ((lowb hbe188) _ rfl) ((fun k (hk : k = b52) => Nat.lt_of_le_of_lt (Nat.le_of_eq hk) hk219.lt) _ hx)
          have hk221 := hk219.grown hg186 nb
          have ap222 : ¬ (· = b52) b190 := fun hx => Nat.not_lt_of_le ((lowb hbe194) _ rfl) ((fun k (hk : k = b52) => Nat.lt_of_le_of_lt (Nat.le_of_eq hk) hk221.lt) _ hx)
          have hk223 := ((((((((hb65.grown hg209 nb).grown hg105 (rowne ap211)).grown hg110 (rowne ap213)).grown hg161 nb).grown hg151 (rowne ap215)).grown hg156 (rowne ap217)).grown hg218 nb).grown hg197 (rowne ap220)).grown hg202 (rowne ap222)
          refine gv_load (t := 3) (A := ⟨b52, 0, none⟩) (.int .i64 r36.2.2.1) [1, 2, 7, 10, 12, 13, 15, 16, 18, 75] (σ' := [(1, (.int .i64 n_1)), (2, (.int .i64 k_2)), (7, (.slice a41 (List.length r36.1) c42)), (10, (.slice a80 (List.length r75.1) c81)), (12, (.pointer (some ⟨b98, 0, none⟩))), (13, (.slice a126 (List.length r121.1) c127)), (15, (.pointer (some ⟨b144, 0, none⟩))), (16, (.slice a172 (List.length r167.1) c173)), (18, (.pointer (some ⟨b190, 0, none⟩))), (75, (.int .i64 r36.2.2.1))]) (fun e => by cases e) (by rfl) (by rfl) (by rfl) (by kernel_rfl) (by kernel_rfl) (by kernel_rfl) (inw0 (hk223.cell 0 rfl)) (by kernel_rfl) ?_
          refine gv_pure 2 [1, 2, 7, 10, 12, 13, 15, 16, 18, 77] (σ' := [(1, (.int .i64 n_1)), (2, (.int .i64 k_2)), (7, (.slice a41 (List.length r36.1) c42)), (10, (.slice a80 (List.length r75.1) c81)), (12, (.pointer (some ⟨b98, 0, none⟩))), (13, (.slice a126 (List.length r121.1) c127)), (15, (.pointer (some ⟨b144, 0, none⟩))), (16, (.slice a172 (List.length r167.1) c173)), (18, (.pointer (some ⟨b190, 0, none⟩))), (77, (.bool (r36.2.2.1 != 0)))]) (by kernel_rfl) ?_
          refine gv_split (s := 77) (g := (r36.2.2.1 != 0)) (by rfl) (fun hc224 => ?_) (fun hc224 => ?_)
          · skip
            replace h1 := ite_t hc224 h1
            refine gv_pure 54 [1, 13, 131] (σ' := [(1, (.int .i64 n_1)), (13, (.slice a126 (List.length r121.1) c127)), (131, (.bool true))]) (by kernel_rfl) ?_
            refine gv_nil ?_
            have e := Option.some.inj h1; subst e
            refine gv_goal fun a hd hs hok => ?_
            obtain ⟨q1, q13, q131, _⟩ := hok
            have hB225 := below_grown hB183 hg218 hB183.size nb
            have hB226 := below_grown hB183 hg170 hB183.size nb
            have hlo227 : w0.heap.size ≤ b184 := lob hbe188 hB226.size
            have hB228 := below_grown hB225 hg197 hB225.size (rowlo hlo227)
            have hB229 := below_grown hB226 hg186 hB226.size nb
            have hlo230 : w0.heap.size ≤ b190 := lob hbe194 hB229.size
            have hB231 := below_grown hB228 hg202 hB228.size (rowlo hlo230)
            have hg232 := (grown_trans hg140 hg146)
            have ap233 : ¬ (fun k => blk a126 = some k) b138 := fun hx => Nat.not_lt_of_le ((lowb hbe142) _ rfl) ((fun k (hk : blk a126 = some k) => ho128.lt k hk) _ hx)
            have hk234 := ho128.grown hg140 (fun _ h => h.elim) nb
            have ap235 : ¬ (fun k => blk a126 = some k) b144 := fun hx => Nat.not_lt_of_le ((lowb hbe148) _ rfl) ((fun k (hk : blk a126 = some k) => hk234.lt k hk) _ hx)
            have hk236 := (((hk234.grown hg146 (fun _ h => h.elim) nb).grown hg151 (fun _ h => h.elim) (rdnn (rowne ap233))).grown hg156 (fun _ h => h.elim) (rdnn (rowne ap235))).grown hg170 (fun _ h => h.elim) nb
            have ap237 : ¬ (fun k => blk a126 = some k) b184 := fun hx => Nat.not_lt_of_le ((lowb hbe188) _ rfl) ((fun k (hk : blk a126 = some k) => hk236.lt k hk) _ hx)
            have hk238 := hk236.grown hg186 (fun _ h => h.elim) nb
            have ap239 : ¬ (fun k => blk a126 = some k) b190 := fun hx => Nat.not_lt_of_le ((lowb hbe194) _ rfl) ((fun k (hk : blk a126 = some k) => hk238.lt k hk) _ hx)
            have hk240 := (((((ho128.grown hg232 (fun _ h => h.elim) nb).grown hg151 (fun _ h => h.elim) (rdnn (rowne ap233))).grown hg156 (fun _ h => h.elim) (rdnn (rowne ap235))).grown hg218 (fun _ h => h.elim) nb).grown hg197 (fun _ h => h.elim) (rdnn (rowne ap237))).grown hg202 (fun _ h => h.elim) (rdnn (rowne ap239))
            exact ⟨hB231, (Nat.le_refl _), hk240, hd, hs, ⟨q1, q13, q131, trivial⟩⟩
          · skip
            replace h1 := ite_f hc224 h1
            refine gv_pure 1 [1, 2, 7, 10, 13, 15, 16, 18, 77, 78] (σ' := [(1, (.int .i64 n_1)), (2, (.int .i64 k_2)), (7, (.slice a41 (List.length r36.1) c42)), (10, (.slice a80 (List.length r75.1) c81)), (13, (.slice a126 (List.length r121.1) c127)), (15, (.pointer (some ⟨b144, 0, none⟩))), (16, (.slice a172 (List.length r167.1) c173)), (18, (.pointer (some ⟨b190, 0, none⟩))), (77, (.bool false)), (78, (.pointer (some ⟨b98, 0, none⟩)))]) (by kernel_rfl) ?_
            have hk241 := hb111.grown hg124 nb
            have ap242 : ¬ (· = b98) b138 := fun hx => Nat.not_lt_of_le ((lowb hbe142) _ rfl) ((fun k (hk : k = b98) => Nat.lt_of_le_of_lt (Nat.le_of_eq hk) hk241.lt) _ hx)
            have hk243 := hk241.grown hg140 nb
            have ap244 : ¬ (· = b98) b144 := fun hx => Nat.not_lt_of_le ((lowb hbe148) _ rfl) ((fun k (hk : k = b98) => Nat.lt_of_le_of_lt (Nat.le_of_eq hk) hk243.lt) _ hx)
            have hk245 := (((hk243.grown hg146 nb).grown hg151 (rowne ap242)).grown hg156 (rowne ap244)).grown hg170 nb
            have ap246 : ¬ (· = b98) b184 := fun hx => Nat.not_lt_of_le ((lowb hbe188) _ rfl) ((fun k (hk : k = b98) => Nat.lt_of_le_of_lt (Nat.le_of_eq hk) hk245.lt) _ hx)
            have hk247 := hk245.grown hg186 nb
            have ap248 : ¬ (· = b98) b190 := fun hx => Nat.not_lt_of_le ((lowb hbe194) _ rfl) ((fun k (hk : k = b98) => Nat.lt_of_le_of_lt (Nat.le_of_eq hk) hk247.lt) _ hx)
            have hk249 := (((((hb111.grown hg161 nb).grown hg151 (rowne ap242)).grown hg156 (rowne ap244)).grown hg218 nb).grown hg197 (rowne ap246)).grown hg202 (rowne ap248)
            refine gv_load (t := 3) (A := ⟨b98, 0, none⟩) (.int .i64 r75.2.2.1) [1, 2, 7, 10, 13, 15, 16, 18, 77, 79] (σ' := [(1, (.int .i64 n_1)), (2, (.int .i64 k_2)), (7, (.slice a41 (List.length r36.1) c42)), (10, (.slice a80 (List.length r75.1) c81)), (13, (.slice a126 (List.length r121.1) c127)), (15, (.pointer (some ⟨b144, 0, none⟩))), (16, (.slice a172 (List.length r167.1) c173)), (18, (.pointer (some ⟨b190, 0, none⟩))), (77, (.bool false)), (79, (.int .i64 r75.2.2.1))]) (fun e => by cases e) (by rfl) (by rfl) (by rfl) (by kernel_rfl) (by kernel_rfl) (by kernel_rfl) (inw0 (hk249.cell 0 rfl)) (by kernel_rfl) ?_
            refine gv_pure 3 [1, 2, 7, 10, 13, 15, 16, 18, 82] (σ' := [(1, (.int .i64 n_1)), (2, (.int .i64 k_2)), (7, (.slice a41 (List.length r36.1) c42)), (10, (.slice a80 (List.length r75.1) c81)), (13, (.slice a126 (List.length r121.1) c127)), (15, (.pointer (some ⟨b144, 0, none⟩))), (16, (.slice a172 (List.length r167.1) c173)), (18, (.pointer (some ⟨b190, 0, none⟩))), (82, (.bool (r75.2.2.1 != 0)))]) (by kernel_rfl) ?_
            refine gv_split (s := 82) (g := (r75.2.2.1 != 0)) (by rfl) (fun hc250 => ?_) (fun hc250 => ?_)
            · skip
              replace h1 := ite_t hc250 h1
              refine gv_pure 49 [1, 13, 131] (σ' := [(1, (.int .i64 n_1)), (13, (.slice a126 (List.length r121.1) c127)), (131, (.bool true))]) (by kernel_rfl) ?_
              refine gv_nil ?_
              have e := Option.some.inj h1; subst e
              refine gv_goal fun a hd hs hok => ?_
              obtain ⟨q1, q13, q131, _⟩ := hok
              have hB251 := below_grown hB183 hg218 hB183.size nb
              have hB252 := below_grown hB183 hg170 hB183.size nb
              have hlo253 : w0.heap.size ≤ b184 := lob hbe188 hB252.size
              have hB254 := below_grown hB251 hg197 hB251.size (rowlo hlo253)
              have hB255 := below_grown hB252 hg186 hB252.size nb
              have hlo256 : w0.heap.size ≤ b190 := lob hbe194 hB255.size
              have hB257 := below_grown hB254 hg202 hB254.size (rowlo hlo256)
              have hg258 := (grown_trans hg140 hg146)
              have ap259 : ¬ (fun k => blk a126 = some k) b138 := fun hx => Nat.not_lt_of_le ((lowb hbe142) _ rfl) ((fun k (hk : blk a126 = some k) => ho128.lt k hk) _ hx)
              have hk260 := ho128.grown hg140 (fun _ h => h.elim) nb
              have ap261 : ¬ (fun k => blk a126 = some k) b144 := fun hx => Nat.not_lt_of_le ((lowb hbe148) _ rfl) ((fun k (hk : blk a126 = some k) => hk260.lt k hk) _ hx)
              have hk262 := (((hk260.grown hg146 (fun _ h => h.elim) nb).grown hg151 (fun _ h => h.elim) (rdnn (rowne ap259))).grown hg156 (fun _ h => h.elim) (rdnn (rowne ap261))).grown hg170 (fun _ h => h.elim) nb
              have ap263 : ¬ (fun k => blk a126 = some k) b184 := fun hx => Nat.not_lt_of_le ((lowb hbe188) _ rfl) ((fun k (hk : blk a126 = some k) => hk262.lt k hk) _ hx)
              have hk264 := hk262.grown hg186 (fun _ h => h.elim) nb
              have ap265 : ¬ (fun k => blk a126 = some k) b190 := fun hx => Nat.not_lt_of_le ((lowb hbe194) _ rfl) ((fun k (hk : blk a126 = some k) => hk264.lt k hk) _ hx)
              have hk266 := (((((ho128.grown hg258 (fun _ h => h.elim) nb).grown hg151 (fun _ h => h.elim) (rdnn (rowne ap259))).grown hg156 (fun _ h => h.elim) (rdnn (rowne ap261))).grown hg218 (fun _ h => h.elim) nb).grown hg197 (fun _ h => h.elim) (rdnn (rowne ap263))).grown hg202 (fun _ h => h.elim) (rdnn (rowne ap265))
              exact ⟨hB257, (Nat.le_refl _), hk266, hd, hs, ⟨q1, q13, q131, trivial⟩⟩
            · skip
              replace h1 := ite_f hc250 h1
              refine gv_pure 1 [1, 2, 7, 10, 13, 16, 18, 82, 83] (σ' := [(1, (.int .i64 n_1)), (2, (.int .i64 k_2)), (7, (.slice a41 (List.length r36.1) c42)), (10, (.slice a80 (List.length r75.1) c81)), (13, (.slice a126 (List.length r121.1) c127)), (16, (.slice a172 (List.length r167.1) c173)), (18, (.pointer (some ⟨b190, 0, none⟩))), (82, (.bool false)), (83, (.pointer (some ⟨b144, 0, none⟩)))]) (by kernel_rfl) ?_
              have hk267 := hb157.grown hg170 nb
              have ap268 : ¬ (· = b144) b184 := fun hx => Nat.not_lt_of_le ((lowb hbe188) _ rfl) ((fun k (hk : k = b144) => Nat.lt_of_le_of_lt (Nat.le_of_eq hk) hk267.lt) _ hx)
              have hk269 := hk267.grown hg186 nb
              have ap270 : ¬ (· = b144) b190 := fun hx => Nat.not_lt_of_le ((lowb hbe194) _ rfl) ((fun k (hk : k = b144) => Nat.lt_of_le_of_lt (Nat.le_of_eq hk) hk269.lt) _ hx)
              have hk271 := ((hb157.grown hg218 nb).grown hg197 (rowne ap268)).grown hg202 (rowne ap270)
              refine gv_load (t := 3) (A := ⟨b144, 0, none⟩) (.int .i64 r121.2.2.1) [1, 2, 7, 10, 13, 16, 18, 82, 84] (σ' := [(1, (.int .i64 n_1)), (2, (.int .i64 k_2)), (7, (.slice a41 (List.length r36.1) c42)), (10, (.slice a80 (List.length r75.1) c81)), (13, (.slice a126 (List.length r121.1) c127)), (16, (.slice a172 (List.length r167.1) c173)), (18, (.pointer (some ⟨b190, 0, none⟩))), (82, (.bool false)), (84, (.int .i64 r121.2.2.1))]) (fun e => by cases e) (by rfl) (by rfl) (by rfl) (by kernel_rfl) (by kernel_rfl) (by kernel_rfl) (inw0 (hk271.cell 0 rfl)) (by kernel_rfl) ?_
              refine gv_pure 3 [1, 2, 7, 10, 13, 16, 18, 87] (σ' := [(1, (.int .i64 n_1)), (2, (.int .i64 k_2)), (7, (.slice a41 (List.length r36.1) c42)), (10, (.slice a80 (List.length r75.1) c81)), (13, (.slice a126 (List.length r121.1) c127)), (16, (.slice a172 (List.length r167.1) c173)), (18, (.pointer (some ⟨b190, 0, none⟩))), (87, (.bool (r121.2.2.1 != 0)))]) (by kernel_rfl) ?_
              refine gv_split (s := 87) (g := (r121.2.2.1 != 0)) (by rfl) (fun hc272 => ?_) (fun hc272 => ?_)
              · skip
                replace h1 := ite_t hc272 h1
                refine gv_pure 44 [1, 13, 131] (σ' := [(1, (.int .i64 n_1)), (13, (.slice a126 (List.length r121.1) c127)), (131, (.bool true))]) (by kernel_rfl) ?_
                refine gv_nil ?_
                have e := Option.some.inj h1; subst e
                refine gv_goal fun a hd hs hok => ?_
                obtain ⟨q1, q13, q131, _⟩ := hok
                have hB273 := below_grown hB183 hg218 hB183.size nb
                have hB274 := below_grown hB183 hg170 hB183.size nb
                have hlo275 : w0.heap.size ≤ b184 := lob hbe188 hB274.size
                have hB276 := below_grown hB273 hg197 hB273.size (rowlo hlo275)
                have hB277 := below_grown hB274 hg186 hB274.size nb
                have hlo278 : w0.heap.size ≤ b190 := lob hbe194 hB277.size
                have hB279 := below_grown hB276 hg202 hB276.size (rowlo hlo278)
                have hg280 := (grown_trans hg140 hg146)
                have ap281 : ¬ (fun k => blk a126 = some k) b138 := fun hx => Nat.not_lt_of_le ((lowb hbe142) _ rfl) ((fun k (hk : blk a126 = some k) => ho128.lt k hk) _ hx)
                have hk282 := ho128.grown hg140 (fun _ h => h.elim) nb
                have ap283 : ¬ (fun k => blk a126 = some k) b144 := fun hx => Nat.not_lt_of_le ((lowb hbe148) _ rfl) ((fun k (hk : blk a126 = some k) => hk282.lt k hk) _ hx)
                have hk284 := (((hk282.grown hg146 (fun _ h => h.elim) nb).grown hg151 (fun _ h => h.elim) (rdnn (rowne ap281))).grown hg156 (fun _ h => h.elim) (rdnn (rowne ap283))).grown hg170 (fun _ h => h.elim) nb
                have ap285 : ¬ (fun k => blk a126 = some k) b184 := fun hx => Nat.not_lt_of_le ((lowb hbe188) _ rfl) ((fun k (hk : blk a126 = some k) => hk284.lt k hk) _ hx)
                have hk286 := hk284.grown hg186 (fun _ h => h.elim) nb
                have ap287 : ¬ (fun k => blk a126 = some k) b190 := fun hx => Nat.not_lt_of_le ((lowb hbe194) _ rfl) ((fun k (hk : blk a126 = some k) => hk286.lt k hk) _ hx)
                have hk288 := (((((ho128.grown hg280 (fun _ h => h.elim) nb).grown hg151 (fun _ h => h.elim) (rdnn (rowne ap281))).grown hg156 (fun _ h => h.elim) (rdnn (rowne ap283))).grown hg218 (fun _ h => h.elim) nb).grown hg197 (fun _ h => h.elim) (rdnn (rowne ap285))).grown hg202 (fun _ h => h.elim) (rdnn (rowne ap287))
                exact ⟨hB279, (Nat.le_refl _), hk288, hd, hs, ⟨q1, q13, q131, trivial⟩⟩
              · skip
                replace h1 := ite_f hc272 h1
                refine gv_pure 1 [1, 2, 7, 10, 13, 16, 87, 88] (σ' := [(1, (.int .i64 n_1)), (2, (.int .i64 k_2)), (7, (.slice a41 (List.length r36.1) c42)), (10, (.slice a80 (List.length r75.1) c81)), (13, (.slice a126 (List.length r121.1) c127)), (16, (.slice a172 (List.length r167.1) c173)), (87, (.bool false)), (88, (.pointer (some ⟨b190, 0, none⟩)))]) (by kernel_rfl) ?_
                refine gv_load (t := 3) (A := ⟨b190, 0, none⟩) (.int .i64 r167.2.2.1) [1, 2, 7, 10, 13, 16, 87, 89] (σ' := [(1, (.int .i64 n_1)), (2, (.int .i64 k_2)), (7, (.slice a41 (List.length r36.1) c42)), (10, (.slice a80 (List.length r75.1) c81)), (13, (.slice a126 (List.length r121.1) c127)), (16, (.slice a172 (List.length r167.1) c173)), (87, (.bool false)), (89, (.int .i64 r167.2.2.1))]) (fun e => by cases e) (by rfl) (by rfl) (by rfl) (by kernel_rfl) (by kernel_rfl) (by kernel_rfl) (inw0 (hb203.cell 0 rfl)) (by kernel_rfl) ?_
                refine gv_pure 3 [1, 2, 7, 10, 13, 16, 92] (σ' := [(1, (.int .i64 n_1)), (2, (.int .i64 k_2)), (7, (.slice a41 (List.length r36.1) c42)), (10, (.slice a80 (List.length r75.1) c81)), (13, (.slice a126 (List.length r121.1) c127)), (16, (.slice a172 (List.length r167.1) c173)), (92, (.bool (r167.2.2.1 != 0)))]) (by kernel_rfl) ?_
                refine gv_split (s := 92) (g := (r167.2.2.1 != 0)) (by rfl) (fun hc289 => ?_) (fun hc289 => ?_)
                · skip
                  replace h1 := ite_t hc289 h1
                  refine gv_pure 39 [1, 13, 131] (σ' := [(1, (.int .i64 n_1)), (13, (.slice a126 (List.length r121.1) c127)), (131, (.bool true))]) (by kernel_rfl) ?_
                  refine gv_nil ?_
                  have e := Option.some.inj h1; subst e
                  refine gv_goal fun a hd hs hok => ?_
                  obtain ⟨q1, q13, q131, _⟩ := hok
                  have hB290 := below_grown hB183 hg218 hB183.size nb
                  have hB291 := below_grown hB183 hg170 hB183.size nb
                  have hlo292 : w0.heap.size ≤ b184 := lob hbe188 hB291.size
                  have hB293 := below_grown hB290 hg197 hB290.size (rowlo hlo292)
                  have hB294 := below_grown hB291 hg186 hB291.size nb
                  have hlo295 : w0.heap.size ≤ b190 := lob hbe194 hB294.size
                  have hB296 := below_grown hB293 hg202 hB293.size (rowlo hlo295)
                  have hg297 := (grown_trans hg140 hg146)
                  have ap298 : ¬ (fun k => blk a126 = some k) b138 := fun hx => Nat.not_lt_of_le ((lowb hbe142) _ rfl) ((fun k (hk : blk a126 = some k) => ho128.lt k hk) _ hx)
                  have hk299 := ho128.grown hg140 (fun _ h => h.elim) nb
                  have ap300 : ¬ (fun k => blk a126 = some k) b144 := fun hx => Nat.not_lt_of_le ((lowb hbe148) _ rfl) ((fun k (hk : blk a126 = some k) => hk299.lt k hk) _ hx)
                  have hk301 := (((hk299.grown hg146 (fun _ h => h.elim) nb).grown hg151 (fun _ h => h.elim) (rdnn (rowne ap298))).grown hg156 (fun _ h => h.elim) (rdnn (rowne ap300))).grown hg170 (fun _ h => h.elim) nb
                  have ap302 : ¬ (fun k => blk a126 = some k) b184 := fun hx => Nat.not_lt_of_le ((lowb hbe188) _ rfl) ((fun k (hk : blk a126 = some k) => hk301.lt k hk) _ hx)
                  have hk303 := hk301.grown hg186 (fun _ h => h.elim) nb
                  have ap304 : ¬ (fun k => blk a126 = some k) b190 := fun hx => Nat.not_lt_of_le ((lowb hbe194) _ rfl) ((fun k (hk : blk a126 = some k) => hk303.lt k hk) _ hx)
                  have hk305 := (((((ho128.grown hg297 (fun _ h => h.elim) nb).grown hg151 (fun _ h => h.elim) (rdnn (rowne ap298))).grown hg156 (fun _ h => h.elim) (rdnn (rowne ap300))).grown hg218 (fun _ h => h.elim) nb).grown hg197 (fun _ h => h.elim) (rdnn (rowne ap302))).grown hg202 (fun _ h => h.elim) (rdnn (rowne ap304))
                  exact ⟨hB296, (Nat.le_refl _), hk305, hd, hs, ⟨q1, q13, q131, trivial⟩⟩
                · skip
                  replace h1 := ite_f hc289 h1
                  refine gv_pure 6 [1, 2, 7, 10, 13, 16, 98] (σ' := [(1, (.int .i64 n_1)), (2, (.int .i64 k_2)), (7, (.slice a41 (List.length r36.1) c42)), (10, (.slice a80 (List.length r75.1) c81)), (13, (.slice a126 (List.length r121.1) c127)), (16, (.slice a172 (List.length r167.1) c173)), (98, (.bool (((List.length r36.1 : Nat) : Int) != n_1)))]) (by kernel_rfl) ?_
                  refine gv_split (s := 98) (g := (((List.length r36.1 : Nat) : Int) != n_1)) (by rfl) (fun hc306 => ?_) (fun hc306 => ?_)
                  · skip
                    replace h1 := ite_t hc306 h1
                    refine gv_pure 33 [1, 13, 131] (σ' := [(1, (.int .i64 n_1)), (13, (.slice a126 (List.length r121.1) c127)), (131, (.bool true))]) (by kernel_rfl) ?_
                    refine gv_nil ?_
                    have e := Option.some.inj h1; subst e
                    refine gv_goal fun a hd hs hok => ?_
                    obtain ⟨q1, q13, q131, _⟩ := hok
                    have hB307 := below_grown hB183 hg218 hB183.size nb
                    have hB308 := below_grown hB183 hg170 hB183.size nb
                    have hlo309 : w0.heap.size ≤ b184 := lob hbe188 hB308.size
                    have hB310 := below_grown hB307 hg197 hB307.size (rowlo hlo309)
                    have hB311 := below_grown hB308 hg186 hB308.size nb
                    have hlo312 : w0.heap.size ≤ b190 := lob hbe194 hB311.size
                    have hB313 := below_grown hB310 hg202 hB310.size (rowlo hlo312)
                    have hg314 := (grown_trans hg140 hg146)
                    have ap315 : ¬ (fun k => blk a126 = some k) b138 := fun hx => Nat.not_lt_of_le ((lowb hbe142) _ rfl) ((fun k (hk : blk a126 = some k) => ho128.lt k hk) _ hx)
                    have hk316 := ho128.grown hg140 (fun _ h => h.elim) nb
                    have ap317 : ¬ (fun k => blk a126 = some k) b144 := fun hx => Nat.not_lt_of_le ((lowb hbe148) _ rfl) ((fun k (hk : blk a126 = some k) => hk316.lt k hk) _ hx)
                    have hk318 := (((hk316.grown hg146 (fun _ h => h.elim) nb).grown hg151 (fun _ h => h.elim) (rdnn (rowne ap315))).grown hg156 (fun _ h => h.elim) (rdnn (rowne ap317))).grown hg170 (fun _ h => h.elim) nb
                    have ap319 : ¬ (fun k => blk a126 = some k) b184 := fun hx => Nat.not_lt_of_le ((lowb hbe188) _ rfl) ((fun k (hk : blk a126 = some k) => hk318.lt k hk) _ hx)
                    have hk320 := hk318.grown hg186 (fun _ h => h.elim) nb
                    have ap321 : ¬ (fun k => blk a126 = some k) b190 := fun hx => Nat.not_lt_of_le ((lowb hbe194) _ rfl) ((fun k (hk : blk a126 = some k) => hk320.lt k hk) _ hx)
                    have hk322 := (((((ho128.grown hg314 (fun _ h => h.elim) nb).grown hg151 (fun _ h => h.elim) (rdnn (rowne ap315))).grown hg156 (fun _ h => h.elim) (rdnn (rowne ap317))).grown hg218 (fun _ h => h.elim) nb).grown hg197 (fun _ h => h.elim) (rdnn (rowne ap319))).grown hg202 (fun _ h => h.elim) (rdnn (rowne ap321))
                    exact ⟨hB313, (Nat.le_refl _), hk322, hd, hs, ⟨q1, q13, q131, trivial⟩⟩
                  · skip
                    replace h1 := ite_f hc306 h1
                    refine gv_pure 6 [1, 2, 7, 10, 13, 16, 104] (σ' := [(1, (.int .i64 n_1)), (2, (.int .i64 k_2)), (7, (.slice a41 (List.length r36.1) c42)), (10, (.slice a80 (List.length r75.1) c81)), (13, (.slice a126 (List.length r121.1) c127)), (16, (.slice a172 (List.length r167.1) c173)), (104, (.bool (((List.length r75.1 : Nat) : Int) != k_2)))]) (by kernel_rfl) ?_
                    refine gv_split (s := 104) (g := (((List.length r75.1 : Nat) : Int) != k_2)) (by rfl) (fun hc323 => ?_) (fun hc323 => ?_)
                    · skip
                      replace h1 := ite_t hc323 h1
                      refine gv_pure 27 [1, 13, 131] (σ' := [(1, (.int .i64 n_1)), (13, (.slice a126 (List.length r121.1) c127)), (131, (.bool true))]) (by kernel_rfl) ?_
                      refine gv_nil ?_
                      have e := Option.some.inj h1; subst e
                      refine gv_goal fun a hd hs hok => ?_
                      obtain ⟨q1, q13, q131, _⟩ := hok
                      have hB324 := below_grown hB183 hg218 hB183.size nb
                      have hB325 := below_grown hB183 hg170 hB183.size nb
                      have hlo326 : w0.heap.size ≤ b184 := lob hbe188 hB325.size
                      have hB327 := below_grown hB324 hg197 hB324.size (rowlo hlo326)
                      have hB328 := below_grown hB325 hg186 hB325.size nb
                      have hlo329 : w0.heap.size ≤ b190 := lob hbe194 hB328.size
                      have hB330 := below_grown hB327 hg202 hB327.size (rowlo hlo329)
                      have hg331 := (grown_trans hg140 hg146)
                      have ap332 : ¬ (fun k => blk a126 = some k) b138 := fun hx => Nat.not_lt_of_le ((lowb hbe142) _ rfl) ((fun k (hk : blk a126 = some k) => ho128.lt k hk) _ hx)
                      have hk333 := ho128.grown hg140 (fun _ h => h.elim) nb
                      have ap334 : ¬ (fun k => blk a126 = some k) b144 := fun hx => Nat.not_lt_of_le ((lowb hbe148) _ rfl) ((fun k (hk : blk a126 = some k) => hk333.lt k hk) _ hx)
                      have hk335 := (((hk333.grown hg146 (fun _ h => h.elim) nb).grown hg151 (fun _ h => h.elim) (rdnn (rowne ap332))).grown hg156 (fun _ h => h.elim) (rdnn (rowne ap334))).grown hg170 (fun _ h => h.elim) nb
                      have ap336 : ¬ (fun k => blk a126 = some k) b184 := fun hx => Nat.not_lt_of_le ((lowb hbe188) _ rfl) ((fun k (hk : blk a126 = some k) => hk335.lt k hk) _ hx)
                      have hk337 := hk335.grown hg186 (fun _ h => h.elim) nb
                      have ap338 : ¬ (fun k => blk a126 = some k) b190 := fun hx => Nat.not_lt_of_le ((lowb hbe194) _ rfl) ((fun k (hk : blk a126 = some k) => hk337.lt k hk) _ hx)
                      have hk339 := (((((ho128.grown hg331 (fun _ h => h.elim) nb).grown hg151 (fun _ h => h.elim) (rdnn (rowne ap332))).grown hg156 (fun _ h => h.elim) (rdnn (rowne ap334))).grown hg218 (fun _ h => h.elim) nb).grown hg197 (fun _ h => h.elim) (rdnn (rowne ap336))).grown hg202 (fun _ h => h.elim) (rdnn (rowne ap338))
                      exact ⟨hB330, (Nat.le_refl _), hk339, hd, hs, ⟨q1, q13, q131, trivial⟩⟩
                    · skip
                      replace h1 := ite_f hc323 h1
                      refine gv_pure 6 [1, 2, 7, 10, 13, 16, 110] (σ' := [(1, (.int .i64 n_1)), (2, (.int .i64 k_2)), (7, (.slice a41 (List.length r36.1) c42)), (10, (.slice a80 (List.length r75.1) c81)), (13, (.slice a126 (List.length r121.1) c127)), (16, (.slice a172 (List.length r167.1) c173)), (110, (.bool (((List.length r121.1 : Nat) : Int) != n_1)))]) (by kernel_rfl) ?_
                      refine gv_split (s := 110) (g := (((List.length r121.1 : Nat) : Int) != n_1)) (by rfl) (fun hc340 => ?_) (fun hc340 => ?_)
                      · skip
                        replace h1 := ite_t hc340 h1
                        refine gv_pure 21 [1, 13, 131] (σ' := [(1, (.int .i64 n_1)), (13, (.slice a126 (List.length r121.1) c127)), (131, (.bool true))]) (by kernel_rfl) ?_
                        refine gv_nil ?_
                        have e := Option.some.inj h1; subst e
                        refine gv_goal fun a hd hs hok => ?_
                        obtain ⟨q1, q13, q131, _⟩ := hok
                        have hB341 := below_grown hB183 hg218 hB183.size nb
                        have hB342 := below_grown hB183 hg170 hB183.size nb
                        have hlo343 : w0.heap.size ≤ b184 := lob hbe188 hB342.size
                        have hB344 := below_grown hB341 hg197 hB341.size (rowlo hlo343)
                        have hB345 := below_grown hB342 hg186 hB342.size nb
                        have hlo346 : w0.heap.size ≤ b190 := lob hbe194 hB345.size
                        have hB347 := below_grown hB344 hg202 hB344.size (rowlo hlo346)
                        have hg348 := (grown_trans hg140 hg146)
                        have ap349 : ¬ (fun k => blk a126 = some k) b138 := fun hx => Nat.not_lt_of_le ((lowb hbe142) _ rfl) ((fun k (hk : blk a126 = some k) => ho128.lt k hk) _ hx)
                        have hk350 := ho128.grown hg140 (fun _ h => h.elim) nb
                        have ap351 : ¬ (fun k => blk a126 = some k) b144 := fun hx => Nat.not_lt_of_le ((lowb hbe148) _ rfl) ((fun k (hk : blk a126 = some k) => hk350.lt k hk) _ hx)
                        have hk352 := (((hk350.grown hg146 (fun _ h => h.elim) nb).grown hg151 (fun _ h => h.elim) (rdnn (rowne ap349))).grown hg156 (fun _ h => h.elim) (rdnn (rowne ap351))).grown hg170 (fun _ h => h.elim) nb
                        have ap353 : ¬ (fun k => blk a126 = some k) b184 := fun hx => Nat.not_lt_of_le ((lowb hbe188) _ rfl) ((fun k (hk : blk a126 = some k) => hk352.lt k hk) _ hx)
                        have hk354 := hk352.grown hg186 (fun _ h => h.elim) nb
                        have ap355 : ¬ (fun k => blk a126 = some k) b190 := fun hx => Nat.not_lt_of_le ((lowb hbe194) _ rfl) ((fun k (hk : blk a126 = some k) => hk354.lt k hk) _ hx)
                        have hk356 := (((((ho128.grown hg348 (fun _ h => h.elim) nb).grown hg151 (fun _ h => h.elim) (rdnn (rowne ap349))).grown hg156 (fun _ h => h.elim) (rdnn (rowne ap351))).grown hg218 (fun _ h => h.elim) nb).grown hg197 (fun _ h => h.elim) (rdnn (rowne ap353))).grown hg202 (fun _ h => h.elim) (rdnn (rowne ap355))
                        exact ⟨hB347, (Nat.le_refl _), hk356, hd, hs, ⟨q1, q13, q131, trivial⟩⟩
                      · skip
                        replace h1 := ite_f hc340 h1
                        refine gv_pure 6 [1, 2, 7, 10, 13, 16, 116] (σ' := [(1, (.int .i64 n_1)), (2, (.int .i64 k_2)), (7, (.slice a41 (List.length r36.1) c42)), (10, (.slice a80 (List.length r75.1) c81)), (13, (.slice a126 (List.length r121.1) c127)), (16, (.slice a172 (List.length r167.1) c173)), (116, (.bool (((List.length r167.1 : Nat) : Int) != k_2)))]) (by kernel_rfl) ?_
                        refine gv_split (s := 116) (g := (((List.length r167.1 : Nat) : Int) != k_2)) (by rfl) (fun hc357 => ?_) (fun hc357 => ?_)
                        · skip
                          replace h1 := ite_t hc357 h1
                          refine gv_pure 15 [1, 13, 131] (σ' := [(1, (.int .i64 n_1)), (13, (.slice a126 (List.length r121.1) c127)), (131, (.bool true))]) (by kernel_rfl) ?_
                          refine gv_nil ?_
                          have e := Option.some.inj h1; subst e
                          refine gv_goal fun a hd hs hok => ?_
                          obtain ⟨q1, q13, q131, _⟩ := hok
                          have hB358 := below_grown hB183 hg218 hB183.size nb
                          have hB359 := below_grown hB183 hg170 hB183.size nb
                          have hlo360 : w0.heap.size ≤ b184 := lob hbe188 hB359.size
                          have hB361 := below_grown hB358 hg197 hB358.size (rowlo hlo360)
                          have hB362 := below_grown hB359 hg186 hB359.size nb
                          have hlo363 : w0.heap.size ≤ b190 := lob hbe194 hB362.size
                          have hB364 := below_grown hB361 hg202 hB361.size (rowlo hlo363)
                          have hg365 := (grown_trans hg140 hg146)
                          have ap366 : ¬ (fun k => blk a126 = some k) b138 := fun hx => Nat.not_lt_of_le ((lowb hbe142) _ rfl) ((fun k (hk : blk a126 = some k) => ho128.lt k hk) _ hx)
                          have hk367 := ho128.grown hg140 (fun _ h => h.elim) nb
                          have ap368 : ¬ (fun k => blk a126 = some k) b144 := fun hx => Nat.not_lt_of_le ((lowb hbe148) _ rfl) ((fun k (hk : blk a126 = some k) => hk367.lt k hk) _ hx)
                          have hk369 := (((hk367.grown hg146 (fun _ h => h.elim) nb).grown hg151 (fun _ h => h.elim) (rdnn (rowne ap366))).grown hg156 (fun _ h => h.elim) (rdnn (rowne ap368))).grown hg170 (fun _ h => h.elim) nb
                          have ap370 : ¬ (fun k => blk a126 = some k) b184 := fun hx => Nat.not_lt_of_le ((lowb hbe188) _ rfl) ((fun k (hk : blk a126 = some k) => hk369.lt k hk) _ hx)
                          have hk371 := hk369.grown hg186 (fun _ h => h.elim) nb
                          have ap372 : ¬ (fun k => blk a126 = some k) b190 := fun hx => Nat.not_lt_of_le ((lowb hbe194) _ rfl) ((fun k (hk : blk a126 = some k) => hk371.lt k hk) _ hx)
                          have hk373 := (((((ho128.grown hg365 (fun _ h => h.elim) nb).grown hg151 (fun _ h => h.elim) (rdnn (rowne ap366))).grown hg156 (fun _ h => h.elim) (rdnn (rowne ap368))).grown hg218 (fun _ h => h.elim) nb).grown hg197 (fun _ h => h.elim) (rdnn (rowne ap370))).grown hg202 (fun _ h => h.elim) (rdnn (rowne ap372))
                          exact ⟨hB364, (Nat.le_refl _), hk373, hd, hs, ⟨q1, q13, q131, trivial⟩⟩
                        · skip
                          replace h1 := ite_f hc357 h1
                          refine gv_pure 2 [1, 2, 10, 13, 16, 116, 117, 118] (σ' := [(1, (.int .i64 n_1)), (2, (.int .i64 k_2)), (10, (.slice a80 (List.length r75.1) c81)), (13, (.slice a126 (List.length r121.1) c127)), (16, (.slice a172 (List.length r167.1) c173)), (116, (.bool false)), (117, (.slice a41 (List.length r36.1) c42)), (118, (.int .i64 k_2))]) (by kernel_rfl) ?_
                          refine bindE h1 ?_; clear h1; intro x374 hx375 h1
                          have hg376 := (grown_trans hg48 hg54)
                          have ap377 : ¬ (fun k => blk a41 = some k) b46 := fun hx => Nat.not_lt_of_le ((lowb hbe50) _ rfl) ((fun k (hk : blk a41 = some k) => ho43.lt k hk) _ hx)
                          have hk378 := ho43.grown hg48 (fun _ h => h.elim) nb
                          have ap379 : ¬ (fun k => blk a41 = some k) b52 := fun hx => Nat.not_lt_of_le ((lowb hbe56) _ rfl) ((fun k (hk : blk a41 = some k) => hk378.lt k hk) _ hx)
                          have hk380 := (((hk378.grown hg54 (fun _ h => h.elim) nb).grown hg59 (fun _ h => h.elim) (rdnn (rowne ap377))).grown hg64 (fun _ h => h.elim) (rdnn (rowne ap379))).grown hg78 (fun _ h => h.elim) nb
                          have ap381 : ¬ (fun k => blk a41 = some k) b92 := fun hx => Nat.not_lt_of_le ((lowb hbe96) _ rfl) ((fun k (hk : blk a41 = some k) => hk380.lt k hk) _ hx)
                          have hk382 := hk380.grown hg94 (fun _ h => h.elim) nb
                          have ap383 : ¬ (fun k => blk a41 = some k) b98 := fun hx => Nat.not_lt_of_le ((lowb hbe102) _ rfl) ((fun k (hk : blk a41 = some k) => hk382.lt k hk) _ hx)
                          have hk384 := (((hk382.grown hg100 (fun _ h => h.elim) nb).grown hg105 (fun _ h => h.elim) (rdnn (rowne ap381))).grown hg110 (fun _ h => h.elim) (rdnn (rowne ap383))).grown hg124 (fun _ h => h.elim) nb
                          have ap385 : ¬ (fun k => blk a41 = some k) b138 := fun hx => Nat.not_lt_of_le ((lowb hbe142) _ rfl) ((fun k (hk : blk a41 = some k) => hk384.lt k hk) _ hx)
                          have hk386 := hk384.grown hg140 (fun _ h => h.elim) nb
                          have ap387 : ¬ (fun k => blk a41 = some k) b144 := fun hx => Nat.not_lt_of_le ((lowb hbe148) _ rfl) ((fun k (hk : blk a41 = some k) => hk386.lt k hk) _ hx)
                          have hk388 := (((hk386.grown hg146 (fun _ h => h.elim) nb).grown hg151 (fun _ h => h.elim) (rdnn (rowne ap385))).grown hg156 (fun _ h => h.elim) (rdnn (rowne ap387))).grown hg170 (fun _ h => h.elim) nb
                          have ap389 : ¬ (fun k => blk a41 = some k) b184 := fun hx => Nat.not_lt_of_le ((lowb hbe188) _ rfl) ((fun k (hk : blk a41 = some k) => hk388.lt k hk) _ hx)
                          have hk390 := hk388.grown hg186 (fun _ h => h.elim) nb
                          have ap391 : ¬ (fun k => blk a41 = some k) b190 := fun hx => Nat.not_lt_of_le ((lowb hbe194) _ rfl) ((fun k (hk : blk a41 = some k) => hk390.lt k hk) _ hx)
                          have hk392 := (((((((((((ho43.grown hg376 (fun _ h => h.elim) nb).grown hg59 (fun _ h => h.elim) (rdnn (rowne ap377))).grown hg64 (fun _ h => h.elim) (rdnn (rowne ap379))).grown hg209 (fun _ h => h.elim) nb).grown hg105 (fun _ h => h.elim) (rdnn (rowne ap381))).grown hg110 (fun _ h => h.elim) (rdnn (rowne ap383))).grown hg161 (fun _ h => h.elim) nb).grown hg151 (fun _ h => h.elim) (rdnn (rowne ap385))).grown hg156 (fun _ h => h.elim) (rdnn (rowne ap387))).grown hg218 (fun _ h => h.elim) nb).grown hg197 (fun _ h => h.elim) (rdnn (rowne ap389))).grown hg202 (fun _ h => h.elim) (rdnn (rowne ap391))
                          refine gv_pop bE (t := 60) (e := 5) (xs := r36.1) (a := a41) (cap := c42) (lo := none) (hi := (some (.int .i64 k_2))) k_2 x374 (fun e => by cases e) (by rfl) (by rfl) (by rfl) (by kernel_rfl) (by kernel_rfl) Try.underlying60 (by kernel_rfl) (.inl ⟨rfl, rfl⟩) (.inr ⟨_, rfl⟩) hx375 (hk392.rd (Y := fun k => blk a41 = some k) (fun _ h => h.elim) (fun g e => e)).1 ?_
                          have ho393 := hk392.pop hx375
                          refine gv_pure 1 [1, 2, 13, 16, 116, 119, 120] (σ' := [(1, (.int .i64 n_1)), (2, (.int .i64 k_2)), (13, (.slice a126 (List.length r121.1) c127)), (16, (.slice a172 (List.length r167.1) c173)), (116, (.bool false)), (119, (.slice a41 (List.length x374) c42)), (120, (.slice a80 (List.length r75.1) c81))]) (by kernel_rfl) ?_
                          refine bindE h1 ?_; clear h1; intro r394 hr395 h1
                          have hg396 := (grown_trans hg94 hg100)
                          have ap397 : ¬ (fun k => blk a80 = some k) b92 := fun hx => Nat.not_lt_of_le ((lowb hbe96) _ rfl) ((fun k (hk : blk a80 = some k) => ho82.lt k hk) _ hx)
                          have hk398 := ho82.grown hg94 (fun _ h => h.elim) nb
                          have ap399 : ¬ (fun k => blk a80 = some k) b98 := fun hx => Nat.not_lt_of_le ((lowb hbe102) _ rfl) ((fun k (hk : blk a80 = some k) => hk398.lt k hk) _ hx)
                          have hk400 := (((hk398.grown hg100 (fun _ h => h.elim) nb).grown hg105 (fun _ h => h.elim) (rdnn (rowne ap397))).grown hg110 (fun _ h => h.elim) (rdnn (rowne ap399))).grown hg124 (fun _ h => h.elim) nb
                          have ap401 : ¬ (fun k => blk a80 = some k) b138 := fun hx => Nat.not_lt_of_le ((lowb hbe142) _ rfl) ((fun k (hk : blk a80 = some k) => hk400.lt k hk) _ hx)
                          have hk402 := hk400.grown hg140 (fun _ h => h.elim) nb
                          have ap403 : ¬ (fun k => blk a80 = some k) b144 := fun hx => Nat.not_lt_of_le ((lowb hbe148) _ rfl) ((fun k (hk : blk a80 = some k) => hk402.lt k hk) _ hx)
                          have hk404 := (((hk402.grown hg146 (fun _ h => h.elim) nb).grown hg151 (fun _ h => h.elim) (rdnn (rowne ap401))).grown hg156 (fun _ h => h.elim) (rdnn (rowne ap403))).grown hg170 (fun _ h => h.elim) nb
                          have ap405 : ¬ (fun k => blk a80 = some k) b184 := fun hx => Nat.not_lt_of_le ((lowb hbe188) _ rfl) ((fun k (hk : blk a80 = some k) => hk404.lt k hk) _ hx)
                          have hk406 := hk404.grown hg186 (fun _ h => h.elim) nb
                          have ap407 : ¬ (fun k => blk a80 = some k) b190 := fun hx => Nat.not_lt_of_le ((lowb hbe194) _ rfl) ((fun k (hk : blk a80 = some k) => hk406.lt k hk) _ hx)
                          have hk408 := ((((((((ho82.grown hg396 (fun _ h => h.elim) nb).grown hg105 (fun _ h => h.elim) (rdnn (rowne ap397))).grown hg110 (fun _ h => h.elim) (rdnn (rowne ap399))).grown hg161 (fun _ h => h.elim) nb).grown hg151 (fun _ h => h.elim) (rdnn (rowne ap401))).grown hg156 (fun _ h => h.elim) (rdnn (rowne ap403))).grown hg218 (fun _ h => h.elim) nb).grown hg197 (fun _ h => h.elim) (rdnn (rowne ap405))).grown hg202 (fun _ h => h.elim) (rdnn (rowne ap407))
                          refine gv_call (f := 29) (vs := [(.slice a41 (List.length x374) c42), (.slice a80 (List.length r75.1) c81)]) (cap := []) _ (by decide) (by rfl) (by rfl) rfl (by rfl) (by rfl) enters29 (ref4_SameBytes_ok fuel a41 c42 x374 a80 c81 r75.1 w201 (fun k => (fun k => blk a41 = some k) k ∨ (fun k => blk a80 = some k) k) (fun k hk => (hk).elim (fun h => (fun k (hk : blk a41 = some k) => ho393.lt k hk) k h) (fun h => (fun k (hk : blk a80 = some k) => hk408.lt k hk) k h)) ((ho393.rd (Y := fun k => blk a41 = some k) (fun _ h => h.elim) (fun g e => e)).wide (fun k hk => (.inl hk))) ((hk408.rd (Y := fun k => blk a80 = some k) (fun _ h => h.elim) (fun g e => e)).wide (fun k hk => (.inr hk))) r394 hr395) ?_
                          rintro v411 w409 ⟨hg410, rfl⟩
                          refine ⟨(fun e => by cases e), ?_⟩
                          refine gv_pure 3 [1, 2, 13, 16, 124] (σ' := [(1, (.int .i64 n_1)), (2, (.int .i64 k_2)), (13, (.slice a126 (List.length r121.1) c127)), (16, (.slice a172 (List.length r167.1) c173)), (124, (.bool (!r394)))]) (by kernel_rfl) ?_
                          refine gv_split (s := 124) (g := (!r394)) (by rfl) (fun hc412 => ?_) (fun hc412 => ?_)
                          · skip
                            replace h1 := ite_t hc412 h1
                            refine gv_pure 7 [1, 13, 131] (σ' := [(1, (.int .i64 n_1)), (13, (.slice a126 (List.length r121.1) c127)), (131, (.bool true))]) (by kernel_rfl) ?_
                            refine gv_nil ?_
                            have e := Option.some.inj h1; subst e
                            refine gv_goal fun a hd hs hok => ?_
                            obtain ⟨q1, q13, q131, _⟩ := hok
                            have hB413 := below_grown hB183 hg218 hB183.size nb
                            have hB414 := below_grown hB183 hg170 hB183.size nb
                            have hlo415 : w0.heap.size ≤ b184 := lob hbe188 hB414.size
                            have hB416 := below_grown hB413 hg197 hB413.size (rowlo hlo415)
                            have hB417 := below_grown hB414 hg186 hB414.size nb
                            have hlo418 : w0.heap.size ≤ b190 := lob hbe194 hB417.size
                            have hB419 := below_grown hB416 hg202 hB416.size (rowlo hlo418)
                            have hB420 := below_grown hB419 hg410 hB419.size nb
                            have hz421 : w201.heap.size ≤ w409.heap.size := hg410.size
                            have hg422 := (grown_trans hg140 hg146)
                            have ap423 : ¬ (fun k => blk a126 = some k) b138 := fun hx => Nat.not_lt_of_le ((lowb hbe142) _ rfl) ((fun k (hk : blk a126 = some k) => ho128.lt k hk) _ hx)
                            have hk424 := ho128.grown hg140 (fun _ h => h.elim) nb
                            have ap425 : ¬ (fun k => blk a126 = some k) b144 := fun hx => Nat.not_lt_of_le ((lowb hbe148) _ rfl) ((fun k (hk : blk a126 = some k) => hk424.lt k hk) _ hx)
                            have hk426 := (((hk424.grown hg146 (fun _ h => h.elim) nb).grown hg151 (fun _ h => h.elim) (rdnn (rowne ap423))).grown hg156 (fun _ h => h.elim) (rdnn (rowne ap425))).grown hg170 (fun _ h => h.elim) nb
                            have ap427 : ¬ (fun k => blk a126 = some k) b184 := fun hx => Nat.not_lt_of_le ((lowb hbe188) _ rfl) ((fun k (hk : blk a126 = some k) => hk426.lt k hk) _ hx)
                            have hk428 := hk426.grown hg186 (fun _ h => h.elim) nb
                            have ap429 : ¬ (fun k => blk a126 = some k) b190 := fun hx => Nat.not_lt_of_le ((lowb hbe194) _ rfl) ((fun k (hk : blk a126 = some k) => hk428.lt k hk) _ hx)
                            have hk430 := ((((((ho128.grown hg422 (fun _ h => h.elim) nb).grown hg151 (fun _ h => h.elim) (rdnn (rowne ap423))).grown hg156 (fun _ h => h.elim) (rdnn (rowne ap425))).grown hg218 (fun _ h => h.elim) nb).grown hg197 (fun _ h => h.elim) (rdnn (rowne ap427))).grown hg202 (fun _ h => h.elim) (rdnn (rowne ap429))).grown hg410 (fun _ h => h.elim) nb
                            exact ⟨hB420, hz421, hk430, hd, hs, ⟨q1, q13, q131, trivial⟩⟩
                          · skip
                            replace h1 := ite_f hc412 h1
                            refine gv_pure 2 [1, 13, 16, 124, 125, 126] (σ' := [(1, (.int .i64 n_1)), (13, (.slice a126 (List.length r121.1) c127)), (16, (.slice a172 (List.length r167.1) c173)), (124, (.bool false)), (125, (.slice a126 (List.length r121.1) c127)), (126, (.int .i64 k_2))]) (by kernel_rfl) ?_
                            refine bindE h1 ?_; clear h1; intro x431 hx432 h1
                            have hg436 := (grown_trans hg140 hg146)
                            have ap437 : ¬ (fun k => blk a126 = some k) b138 := fun hx => Nat.not_lt_of_le ((lowb hbe142) _ rfl) ((fun k (hk : blk a126 = some k) => ho128.lt k hk) _ hx)
                            have hk438 := ho128.grown hg140 (fun _ h => h.elim) nb
                            have ap439 : ¬ (fun k => blk a126 = some k) b144 := fun hx => Nat.not_lt_of_le ((lowb hbe148) _ rfl) ((fun k (hk : blk a126 = some k) => hk438.lt k hk) _ hx)
                            have hk440 := (((hk438.grown hg146 (fun _ h => h.elim) nb).grown hg151 (fun _ h => h.elim) (rdnn (rowne ap437))).grown hg156 (fun _ h => h.elim) (rdnn (rowne ap439))).grown hg170 (fun _ h => h.elim) nb
                            have ap441 : ¬ (fun k => blk a126 = some k) b184 := fun hx => Nat.not_lt_of_le ((lowb hbe188) _ rfl) ((fun k (hk : blk a126 = some k) => hk440.lt k hk) _ hx)
                            have hk442 := hk440.grown hg186 (fun _ h => h.elim) nb
                            have ap443 : ¬ (fun k => blk a126 = some k) b190 := fun hx => Nat.not_lt_of_le ((lowb hbe194) _ rfl) ((fun k (hk : blk a126 = some k) => hk442.lt k hk) _ hx)
                            have hk444 := ((((((ho128.grown hg436 (fun _ h => h.elim) nb).grown hg151 (fun _ h => h.elim) (rdnn (rowne ap437))).grown hg156 (fun _ h => h.elim) (rdnn (rowne ap439))).grown hg218 (fun _ h => h.elim) nb).grown hg197 (fun _ h => h.elim) (rdnn (rowne ap441))).grown hg202 (fun _ h => h.elim) (rdnn (rowne ap443))).grown hg410 (fun _ h => h.elim) nb
                            refine gv_ssl2 (iE .i64) (t := 46) (e := 3) (xs := r121.1) (a := a126) (cap := c127) (lo := none) (hi := (some (.int .i64 k_2))) 0 k_2 x431 (fun e => by cases e) (by rfl) (by rfl) (by rfl) (by kernel_rfl) (by kernel_rfl) Try.underlying46 (by kernel_rfl) (.inl ⟨rfl, rfl⟩) (.inr ⟨_, rfl⟩) hx432 (hk444.rd (Y := fun k => blk a126 = some k) (fun _ h => h.elim) (fun g e => e)).1 ?_
                            intro a433 c434 hsub435
                            have hr445 := hsub435 _ _ (hk444.rd (Y := fun k => blk a126 = some k) (fun _ h => h.elim) (fun g e => e))
                            refine gv_pure 1 [1, 13, 124, 127, 128] (σ' := [(1, (.int .i64 n_1)), (13, (.slice a126 (List.length r121.1) c127)), (124, (.bool false)), (127, (.slice a433 (List.length x431) c434)), (128, (.slice a172 (List.length r167.1) c173))]) (by kernel_rfl) ?_
                            refine bindE h1 ?_; clear h1; intro r446 hr447 h1
                            have hg448 := (grown_trans hg186 hg192)
                            have ap449 : ¬ (fun k => blk a172 = some k) b184 := fun hx => Nat.not_lt_of_le ((lowb hbe188) _ rfl) ((fun k (hk : blk a172 = some k) => ho174.lt k hk) _ hx)
                            have hk450 := ho174.grown hg186 (fun _ h => h.elim) nb
                            have ap451 : ¬ (fun k => blk a172 = some k) b190 := fun hx => Nat.not_lt_of_le ((lowb hbe194) _ rfl) ((fun k (hk : blk a172 = some k) => hk450.lt k hk) _ hx)
                            have hk452 := (((ho174.grown hg448 (fun _ h => h.elim) nb).grown hg197 (fun _ h => h.elim) (rdnn (rowne ap449))).grown hg202 (fun _ h => h.elim) (rdnn (rowne ap451))).grown hg410 (fun _ h => h.elim) nb
                            refine gv_call (f := 30) (vs := [(.slice a433 (List.length x431) c434), (.slice a172 (List.length r167.1) c173)]) (cap := []) _ (by decide) (by rfl) (by rfl) rfl (by rfl) (by rfl) enters30 (ref4_Numbers_ok fuel a433 c434 x431 a172 c173 r167.1 w409 (fun k => (fun k => blk a126 = some k) k ∨ (fun k => blk a172 = some k) k) (fun k hk => (hk).elim (fun h => (fun k (hk : blk a126 = some k) => hk444.lt k hk) k h) (fun h => (fun k (hk : blk a172 = some k) => hk452.lt k hk) k h)) (hr445.wide (fun k hk => (.inl hk))) ((hk452.rd (Y := fun k => blk a172 = some k) (fun _ h => h.elim) (fun g e => e)).wide (fun k hk => (.inr hk))) r446 hr447) ?_
                            rintro v455 w453 ⟨hg454, rfl⟩
                            refine ⟨(fun e => by cases e), ?_⟩
                            have hz456 : w201.heap.size ≤ w453.heap.size := (Nat.le_trans hg410.size hg454.size)
                            clear hk452 ap451 hk450 ap449 hg448 hr447 hr445 hsub435 ap443 hk442 ap441 hk440 ap439 hk438 ap437 hg436 hx432 hc412 hk408 ap407 hk406 ap405 hk404 ap403 hk402 ap401 hk400 ap399 hk398 ap397 hg396 hr395 ho393 hk392 ap391 hk390 ap389 hk388 ap387 hk386 ap385 hk384 ap383 hk382 ap381 hk380 ap379 hk378 ap377 hg376 hx375 hc357 hc340 hc323 hc306 hc289 hc272 hk271 ap270 hk269 ap268 hk267 hc250 hk249 ap248 hk247 ap246 hk245 ap244 hk243 ap242 hk241 hc224 hk223 ap222 hk221 ap220 hk219 hg218 ap217 hk216 ap215 hk214 ap213 hk212 ap211 hk210 hg209 hz204 hb203 hk206 ap205 hz199 hb198 hk200 hz195 hb193 hz189 hb187 hl176 hlo182 hB181 hB180 hlo179 hB178 hB177 hl175 ho174 hr168 hk166 ap165 hk164 ap163 hk162 hg161 hz158 hb157 hg156 hk160 ap159 hg151 hbe148 hb147 hg146 hbe142 hb141 hg140 hB137 hlo136 hl129 ho128 hg124 hk120 ap119 hk118 hb111 hg110 hg105 hbe102 hg100 hbe96 hg94 hl84 hlo90 hl83 ho82 hg78 hk74 ap73 hk72 hb65 hg64 hg59 hbe56 hg54 hbe50 hg48 hl45 hl44 ho43 hb34 hbe5
                            refine gv_pure 2 [1, 13, 131] (σ' := [(1, (.int .i64 n_1)), (13, (.slice a126 (List.length r121.1) c127)), (131, (.bool (!r446)))]) (by kernel_rfl) ?_
                            refine gv_nil ?_
                            have e := Option.some.inj h1; subst e
                            refine gv_goal fun a hd hs hok => ?_
                            obtain ⟨q1, q13, q131, _⟩ := hok
                            have hg457 := (grown_trans (grown_trans hg170 hg186) hg192)
                            have hB458 := below_grown hB183 hg457 hB183.size nb
                            have hB459 := below_grown hB183 hg170 hB183.size nb
                            have hlo460 : w0.heap.size ≤ b184 := lob hbe188 hB459.size
                            have hB461 := below_grown hB458 hg197 hB458.size (rowlo hlo460)
                            have hB462 := below_grown hB459 hg186 hB459.size nb
                            have hlo463 : w0.heap.size ≤ b190 := lob hbe194 hB462.size
                            have hB464 := below_grown hB461 hg202 hB461.size (rowlo hlo463)
                            have hg465 := (grown_trans hg410 hg454)
                            have hB466 := below_grown hB464 hg465 hB464.size nb
                            have hz467 : w201.heap.size ≤ w453.heap.size := hz456
                            have hk468 := hk444.grown hg454 (fun _ h => h.elim) nb
                            exact ⟨hB466, hz467, hk468, hd, hs, ⟨q1, q13, q131, trivial⟩⟩
        · rintro a w208 ⟨hB469, hz470, hk471, hd, hs, hok⟩
          refine (?_ : Run Try.prog _ 167 _ .normal [(1, (.int .i64 n_1)), (13, (.slice a126 (List.length r121.1) c127)), (131, (.bool j207))] w208) a hd hs hok
          clear hd hs hok
          clear hz470 hz204 hb203 hg202 hk206 ap205 hz199 hb198 hg197 hk200 hz195 hbe194 hb193 hg192 hz189 hbe188 hb187 hg186 hl176 hB183 hlo182 hB181 hB180 hlo179 hB178 hB177 hl175 ho174 hg170 hr168 hk166 ap165 hk164 ap163 hk162 hg161 hz158 hb157 hg156 hk160 ap159 hg151 hbe148 hb147 hg146 hbe142 hb141 hg140 hB137 hlo136 hl129 ho128 hg124 hk120 ap119 hk118 hb111 hg110 hg105 hbe102 hg100 hbe96 hg94 hl84 hlo90 hl83 ho82 hg78 hk74 ap73 hk72 hb65 hg64 hg59 hbe56 hg54 hbe50 hg48 hl45 hl44 ho43 hb34 hbe5
          refine gv_cond (b := j207) (by rfl) (fun hc472 => ?_) (fun hc472 => ?_)
          · replace h0 := ite_t hc472 h0
            refine gv_seq ?_
            refine gv_region ?_
            refine gv_pure 1 [6] (σ' := [(6, (.bool false))]) (by kernel_rfl) ?_
            refine gv_nil ?_
            refine gv_cret ?_
            have e := Option.some.inj h0; subst e
            refine gv_ret (gv_done [(.bool false)] rfl ⟨rfl, trivial⟩ ?_)
            exact ⟨grown_of_below hB469, rfl⟩
          · replace h0 := ite_f hc472 h0
            refine gv_skip ?_
            refine gv_seq ?_
            refine gv_region ?_
            refine gv_pure 1 [1, 13, 132] (σ' := [(1, (.int .i64 n_1)), (13, (.slice a126 (List.length r121.1) c127)), (132, (.int .i64 n_1))]) (by kernel_rfl) ?_
            refine bindE h0 ?_; clear h0; intro l473 hx474 h0
            refine gv_makeC (f := Value.bool) (hf := fun _ => rfl) (t := 67) (e := 4) (kl := .i64) (kc := .i64) (l := n_1) (c := n_1) (bytes := 1) false l473 (by decide) (by rfl) (by rfl) (by kernel_rfl) (by kernel_rfl) Try.underlying67 (by kernel_rfl) (by decide) hx474 ?_
            intro b475 w476 hg477 ho478 hbe479 hz480
            refine ⟨(fun e => by cases e), ?_⟩
            have hl481 : ∀ g, blk (some ⟨b475, 0, none⟩) = some g → w0.heap.size ≤ g := loo hbe479 hB469.size
            refine gv_pure 1 [1, 13, 19] (σ' := [(1, (.int .i64 n_1)), (13, (.slice a126 (List.length r121.1) c127)), (19, (.slice (some ⟨b475, 0, none⟩) (List.length l473) (n_1).toNat))]) (by kernel_rfl) ?_
            refine gv_nil ?_
            refine gv_seq ?_
            refine gv_seq ?_
            refine gv_region ?_
            refine gv_pure 1 [1, 13, 19, 20] (σ' := [(1, (.int .i64 n_1)), (13, (.slice a126 (List.length r121.1) c127)), (19, (.slice (some ⟨b475, 0, none⟩) (List.length l473) (n_1).toNat)), (20, (.int .i64 0))]) (by kernel_rfl) ?_
            refine gv_nil ?_
            refine bindE h0 ?_; clear h0; intro j482 h1 h0
            refine gv_cut_code (J := fun a w484 => ∃ s483 : Unit, j482 = .inl s483 ∧ Below w0.heap.size w0 w484 ∧ w476.heap.size ≤ w484.heap.size ∧ a.defers = [] ∧ a.tmps.size = 167 ∧ Ok [] a.tmps) ?_ ?_
            · skip
              refine gv_block ?_
              refine gv_loop (A := fun (s485 : ((List Bool) × Int)) a w486 => ∃ (a19_0j : Option Addr) (c19_0j : Nat), Below w0.heap.size w0 w486 ∧ w476.heap.size ≤ w486.heap.size ∧ Own tE 4 w486 (fun _ => False) a19_0j c19_0j s485.1 ∧ (∀ g, blk a19_0j = some g → w0.heap.size ≤ g) ∧ (∀ g, blk a19_0j = some g → ¬ (fun k => blk a126 = some k) g) ∧ (∀ g, blk a126 = some g → ¬ (fun k => blk a19_0j = some k) g) ∧ Own (iE .i64) 3 w486 (fun _ => False) a126 c127 r121.1 ∧ a.defers = [] ∧ a.tmps.size = 167 ∧ Ok [(1, (.int .i64 n_1)), (13, (.slice a126 (List.length r121.1) c127)), (19, (.slice a19_0j (List.length s485.1) c19_0j)), (20, (.int .i64 s485.2))] a.tmps) h1 ?_ ?_
              · intro a hd hs hok
                obtain ⟨q1, q13, q19, q20, _⟩ := hok
                have hB487 := below_grown hB469 hg477 hB469.size nb
                have ap488 : ∀ g, blk (some ⟨b475, 0, none⟩) = some g → ¬ (fun k => blk a126 = some k) g := fun g e hx => Nat.not_lt_of_le ((lowo hbe479) g e) ((fun k (hk : blk a126 = some k) => hk471.lt k hk) _ hx)
                have ap489 : ∀ g, blk a126 = some g → ¬ (fun k => blk (some ⟨b475, 0, none⟩) = some k) g := fun g e hx => Nat.not_lt_of_le ((lowo hbe479) _ hx) ((fun k (hk : blk a126 = some k) => hk471.lt k hk) g e)
                have hk490 := hk471.grown hg477 (fun _ h => h.elim) nb
                exact ⟨(some ⟨b475, 0, none⟩), (n_1).toNat, hB487, (Nat.le_refl _), ho478, hl481, ap488, ap489, hk490, hd, hs, ⟨q1, q13, q19, q20, trivial⟩⟩
              · rintro s485 r2 h2 hR2 a w486 ⟨a493, c494, hB491, hz492, ho495, hl496, ap497, ap498, hk499, hd, hs, hok⟩
                refine (?_ : Run Try.prog _ 167 _ .normal [(1, (.int .i64 n_1)), (13, (.slice a126 (List.length r121.1) c127)), (19, (.slice a493 (List.length s485.1) c494)), (20, (.int .i64 s485.2))] w486) a hd hs hok
                clear hd hs hok
                clear hl481 hz480 hbe479 ho478 hg477 hx474 hc472 hk471 hB469
                refine gv_seq ?_
                refine gv_seq ?_
                refine gv_region ?_
                refine gv_pure 3 [1, 13, 19, 20, 136] (σ' := [(1, (.int .i64 n_1)), (13, (.slice a126 (List.length r121.1) c127)), (19, (.slice a493 (List.length s485.1) c494)), (20, (.int .i64 s485.2)), (136, (.bool (decide (s485.2 < n_1))))]) (by kernel_rfl) ?_
                refine gv_nil ?_
                refine gv_cond (b := (decide (s485.2 < n_1))) (by rfl) (fun hc500 => ?_) (fun hc500 => ?_)
                · replace h2 := ite_t hc500 h2
                  refine gv_skip ?_
                  refine gv_seq ?_
                  refine gv_block ?_
                  refine gv_seq ?_
                  refine gv_seq ?_
                  refine gv_region ?_
                  refine bindE h2 ?_; clear h2; intro j501 h3 h2
                  refine gv_cut_ops (J := fun a w502 => Below w0.heap.size w0 w502 ∧ w486.heap.size ≤ w502.heap.size ∧ Own (iE .i64) 3 w502 (fun _ => False) a126 c127 r121.1 ∧ Own tE 4 w502 (fun _ => False) a493 c494 s485.1 ∧ a.defers = [] ∧ a.tmps.size = 167 ∧ Ok [(1, (.int .i64 n_1)), (13, (.slice a126 (List.length r121.1) c127)), (19, (.slice a493 (List.length s485.1) c494)), (20, (.int .i64 s485.2)), (160, (.bool j501))] a.tmps) ?_ ?_
                  · skip
                    refine gv_pure 2 [1, 13, 19, 20, 139, 140] (σ' := [(1, (.int .i64 n_1)), (13, (.slice a126 (List.length r121.1) c127)), (19, (.slice a493 (List.length s485.1) c494)), (20, (.int .i64 s485.2)), (139, (.slice a126 (List.length r121.1) c127)), (140, (.int .i64 s485.2))]) (by kernel_rfl) ?_
                    refine bindE h3 ?_; clear h3; intro x503 hx504 h3
                    refine gv_idxaddr (t := 46) (e := 3) (a := a126) (len := List.length r121.1) (cap := c127) (kk := .i64) (i := s485.2) (sz := 1) [1, 13, 19, 20, 141] (σ' := [(1, (.int .i64 n_1)), (13, (.slice a126 (List.length r121.1) c127)), (19, (.slice a493 (List.length s485.1) c494)), (20, (.int .i64 s485.2)), (141, (.pointer (some (elemAddr a126 ((s485.2).toNat * 1)))))]) (fun e => by cases e) (by rfl) (by rfl) (by rfl) (by kernel_rfl) (by kernel_rfl) Try.underlying46 (by kernel_rfl) ((hk499.rd (Y := fun k => blk a126 = some k) (fun _ h => h.elim) (fun g e => e)).has hx504) (idx_spec hx504).1 (idx_spec hx504).2.1 (by kernel_rfl) ?_
                    refine gv_load (t := 3) (A := (elemAddr a126 ((s485.2).toNat * 1))) (.int .i64 x503) [1, 13, 19, 20, 142] (σ' := [(1, (.int .i64 n_1)), (13, (.slice a126 (List.length r121.1) c127)), (19, (.slice a493 (List.length s485.1) c494)), (20, (.int .i64 s485.2)), (142, (.int .i64 x503))]) (fun e => by cases e) (by rfl) (by rfl) (by rfl) (by kernel_rfl) (by kernel_rfl) (by kernel_rfl) (inw0 ((hk499.rd (Y := fun k => blk a126 = some k) (fun _ h => h.elim) (fun g e => e)).cell hx504)) (by kernel_rfl) ?_
                    refine gv_pure 2 [1, 13, 19, 20, 144] (σ' := [(1, (.int .i64 n_1)), (13, (.slice a126 (List.length r121.1) c127)), (19, (.slice a493 (List.length s485.1) c494)), (20, (.int .i64 s485.2)), (144, (.bool (decide (x503 < 0))))]) (by kernel_rfl) ?_
                    refine gv_split (s := 144) (g := (decide (x503 < 0))) (by rfl) (fun hc505 => ?_) (fun hc505 => ?_)
                    · skip
                      replace h3 := ite_t hc505 h3
                      refine gv_pure 16 [1, 13, 19, 20, 160] (σ' := [(1, (.int .i64 n_1)), (13, (.slice a126 (List.length r121.1) c127)), (19, (.slice a493 (List.length s485.1) c494)), (20, (.int .i64 s485.2)), (160, (.bool true))]) (by kernel_rfl) ?_
                      refine gv_nil ?_
                      have e := Option.some.inj h3; subst e
                      refine gv_goal fun a hd hs hok => ?_
                      obtain ⟨q1, q13, q19, q20, q160, _⟩ := hok
                      exact ⟨hB491, (Nat.le_refl _), hk499, ho495, hd, hs, ⟨q1, q13, q19, q20, q160, trivial⟩⟩
                    · skip
                      replace h3 := ite_f hc505 h3
                      refine gv_pure 2 [1, 13, 19, 20, 144, 145, 146] (σ' := [(1, (.int .i64 n_1)), (13, (.slice a126 (List.length r121.1) c127)), (19, (.slice a493 (List.length s485.1) c494)), (20, (.int .i64 s485.2)), (144, (.bool false)), (145, (.slice a126 (List.length r121.1) c127)), (146, (.int .i64 s485.2))]) (by kernel_rfl) ?_
                      refine bindE h3 ?_; clear h3; intro x506 hx507 h3
                      refine gv_idxaddr (t := 46) (e := 3) (a := a126) (len := List.length r121.1) (cap := c127) (kk := .i64) (i := s485.2) (sz := 1) [1, 13, 19, 20, 144, 147] (σ' := [(1, (.int .i64 n_1)), (13, (.slice a126 (List.length r121.1) c127)), (19, (.slice a493 (List.length s485.1) c494)), (20, (.int .i64 s485.2)), (144, (.bool false)), (147, (.pointer (some (elemAddr a126 ((s485.2).toNat * 1)))))]) (fun e => by cases e) (by rfl) (by rfl) (by rfl) (by kernel_rfl) (by kernel_rfl) Try.underlying46 (by kernel_rfl) ((hk499.rd (Y := fun k => blk a126 = some k) (fun _ h => h.elim) (fun g e => e)).has hx507) (idx_spec hx507).1 (idx_spec hx507).2.1 (by kernel_rfl) ?_
                      refine gv_load (t := 3) (A := (elemAddr a126 ((s485.2).toNat * 1))) (.int .i64 x506) [1, 13, 19, 20, 144, 148] (σ' := [(1, (.int .i64 n_1)), (13, (.slice a126 (List.length r121.1) c127)), (19, (.slice a493 (List.length s485.1) c494)), (20, (.int .i64 s485.2)), (144, (.bool false)), (148, (.int .i64 x506))]) (fun e => by cases e) (by rfl) (by rfl) (by rfl) (by kernel_rfl) (by kernel_rfl) (by kernel_rfl) (inw0 ((hk499.rd (Y := fun k => blk a126 = some k) (fun _ h => h.elim) (fun g e => e)).cell hx507)) (by kernel_rfl) ?_
                      refine gv_pure 4 [1, 13, 19, 20, 152] (σ' := [(1, (.int .i64 n_1)), (13, (.slice a126 (List.length r121.1) c127)), (19, (.slice a493 (List.length s485.1) c494)), (20, (.int .i64 s485.2)), (152, (.bool (decide (x506 ≥ n_1))))]) (by kernel_rfl) ?_
                      refine gv_split (s := 152) (g := (decide (x506 ≥ n_1))) (by rfl) (fun hc508 => ?_) (fun hc508 => ?_)
                      · skip
                        replace h3 := ite_t hc508 h3
                        refine gv_pure 8 [1, 13, 19, 20, 160] (σ' := [(1, (.int .i64 n_1)), (13, (.slice a126 (List.length r121.1) c127)), (19, (.slice a493 (List.length s485.1) c494)), (20, (.int .i64 s485.2)), (160, (.bool true))]) (by kernel_rfl) ?_
                        refine gv_nil ?_
                        have e := Option.some.inj h3; subst e
                        refine gv_goal fun a hd hs hok => ?_
                        obtain ⟨q1, q13, q19, q20, q160, _⟩ := hok
                        exact ⟨hB491, (Nat.le_refl _), hk499, ho495, hd, hs, ⟨q1, q13, q19, q20, q160, trivial⟩⟩
                      · skip
                        replace h3 := ite_f hc508 h3
                        refine gv_pure 3 [1, 13, 19, 20, 152, 153, 154, 155] (σ' := [(1, (.int .i64 n_1)), (13, (.slice a126 (List.length r121.1) c127)), (19, (.slice a493 (List.length s485.1) c494)), (20, (.int .i64 s485.2)), (152, (.bool false)), (153, (.slice a493 (List.length s485.1) c494)), (154, (.slice a126 (List.length r121.1) c127)), (155, (.int .i64 s485.2))]) (by kernel_rfl) ?_
                        refine bindE h3 ?_; clear h3; intro x509 hx510 h3
                        refine gv_idxaddr (t := 46) (e := 3) (a := a126) (len := List.length r121.1) (cap := c127) (kk := .i64) (i := s485.2) (sz := 1) [1, 13, 19, 20, 152, 153, 156] (σ' := [(1, (.int .i64 n_1)), (13, (.slice a126 (List.length r121.1) c127)), (19, (.slice a493 (List.length s485.1) c494)), (20, (.int .i64 s485.2)), (152, (.bool false)), (153, (.slice a493 (List.length s485.1) c494)), (156, (.pointer (some (elemAddr a126 ((s485.2).toNat * 1)))))]) (fun e => by cases e) (by rfl) (by rfl) (by rfl) (by kernel_rfl) (by kernel_rfl) Try.underlying46 (by kernel_rfl) ((hk499.rd (Y := fun k => blk a126 = some k) (fun _ h => h.elim) (fun g e => e)).has hx510) (idx_spec hx510).1 (idx_spec hx510).2.1 (by kernel_rfl) ?_
                        refine gv_load (t := 3) (A := (elemAddr a126 ((s485.2).toNat * 1))) (.int .i64 x509) [1, 13, 19, 20, 152, 153, 157] (σ' := [(1, (.int .i64 n_1)), (13, (.slice a126 (List.length r121.1) c127)), (19, (.slice a493 (List.length s485.1) c494)), (20, (.int .i64 s485.2)), (152, (.bool false)), (153, (.slice a493 (List.length s485.1) c494)), (157, (.int .i64 x509))]) (fun e => by cases e) (by rfl) (by rfl) (by rfl) (by kernel_rfl) (by kernel_rfl) (by kernel_rfl) (inw0 ((hk499.rd (Y := fun k => blk a126 = some k) (fun _ h => h.elim) (fun g e => e)).cell hx510)) (by kernel_rfl) ?_
                        refine bindE h3 ?_; clear h3; intro x511 hx512 h3
                        refine gv_idxaddr (t := 67) (e := 4) (a := a493) (len := List.length s485.1) (cap := c494) (kk := .i64) (i := x509) (sz := 1) [1, 13, 19, 20, 152, 158] (σ' := [(1, (.int .i64 n_1)), (13, (.slice a126 (List.length r121.1) c127)), (19, (.slice a493 (List.length s485.1) c494)), (20, (.int .i64 s485.2)), (152, (.bool false)), (158, (.pointer (some (elemAddr a493 ((x509).toNat * 1)))))]) (fun e => by cases e) (by rfl) (by rfl) (by rfl) (by kernel_rfl) (by kernel_rfl) Try.underlying67 (by kernel_rfl) ((ho495.rd (Y := fun k => blk a493 = some k) (fun _ h => h.elim) (fun g e => e)).has hx512) (idx_spec hx512).1 (idx_spec hx512).2.1 (by kernel_rfl) ?_
                        refine gv_load (t := 4) (A := (elemAddr a493 ((x509).toNat * 1))) (.bool x511) [1, 13, 19, 20, 152, 159] (σ' := [(1, (.int .i64 n_1)), (13, (.slice a126 (List.length r121.1) c127)), (19, (.slice a493 (List.length s485.1) c494)), (20, (.int .i64 s485.2)), (152, (.bool false)), (159, (.bool x511))]) (fun e => by cases e) (by rfl) (by rfl) (by rfl) (by kernel_rfl) (by kernel_rfl) (by kernel_rfl) (inw0 ((ho495.rd (Y := fun k => blk a493 = some k) (fun _ h => h.elim) (fun g e => e)).cell hx512)) (by kernel_rfl) ?_
                        refine gv_pure 1 [1, 13, 19, 20, 160] (σ' := [(1, (.int .i64 n_1)), (13, (.slice a126 (List.length r121.1) c127)), (19, (.slice a493 (List.length s485.1) c494)), (20, (.int .i64 s485.2)), (160, (.bool x511))]) (by kernel_rfl) ?_
                        refine gv_nil ?_
                        have e := Option.some.inj h3; subst e
                        refine gv_goal fun a hd hs hok => ?_
                        obtain ⟨q1, q13, q19, q20, q160, _⟩ := hok
                        exact ⟨hB491, (Nat.le_refl _), hk499, ho495, hd, hs, ⟨q1, q13, q19, q20, q160, trivial⟩⟩
                  · rintro a w502 ⟨hB513, hz514, hk515, hk516, hd, hs, hok⟩
                    refine (?_ : Run Try.prog _ 167 _ .normal [(1, (.int .i64 n_1)), (13, (.slice a126 (List.length r121.1) c127)), (19, (.slice a493 (List.length s485.1) c494)), (20, (.int .i64 s485.2)), (160, (.bool j501))] w502) a hd hs hok
                    clear hd hs hok
                    have hz517 : w476.heap.size ≤ w502.heap.size := (Nat.le_trans hz492 hz514)
                    clear hz514 hc500 hk499 ho495 hz492 hB491
                    refine gv_cond (b := j501) (by rfl) (fun hc518 => ?_) (fun hc518 => ?_)
                    · replace h2 := ite_t hc518 h2
                      refine gv_seq ?_
                      refine gv_region ?_
                      refine gv_pure 1 [6] (σ' := [(6, (.bool false))]) (by kernel_rfl) ?_
                      refine gv_nil ?_
                      refine gv_cret ?_
                      have e := Option.some.inj h2; subst e
                      replace h1 := congrArg some (hR2 _ rfl)
                      have e := Option.some.inj h1; subst e
                      replace h0 := cont_inr h0
                      have e := Option.some.inj h0; subst e
                      refine gv_ret (gv_done [(.bool false)] rfl ⟨rfl, trivial⟩ ?_)
                      exact ⟨grown_of_below hB513, rfl⟩
                    · replace h2 := ite_f hc518 h2
                      refine gv_skip ?_
                      refine gv_region ?_
                      refine gv_pure 3 [1, 13, 19, 20, 161, 162, 163] (σ' := [(1, (.int .i64 n_1)), (13, (.slice a126 (List.length r121.1) c127)), (19, (.slice a493 (List.length s485.1) c494)), (20, (.int .i64 s485.2)), (161, (.slice a493 (List.length s485.1) c494)), (162, (.slice a126 (List.length r121.1) c127)), (163, (.int .i64 s485.2))]) (by kernel_rfl) ?_
                      refine bindE h2 ?_; clear h2; intro x519 hx520 h2
                      refine gv_idxaddr (t := 46) (e := 3) (a := a126) (len := List.length r121.1) (cap := c127) (kk := .i64) (i := s485.2) (sz := 1) [1, 13, 19, 20, 161, 164] (σ' := [(1, (.int .i64 n_1)), (13, (.slice a126 (List.length r121.1) c127)), (19, (.slice a493 (List.length s485.1) c494)), (20, (.int .i64 s485.2)), (161, (.slice a493 (List.length s485.1) c494)), (164, (.pointer (some (elemAddr a126 ((s485.2).toNat * 1)))))]) (fun e => by cases e) (by rfl) (by rfl) (by rfl) (by kernel_rfl) (by kernel_rfl) Try.underlying46 (by kernel_rfl) ((hk515.rd (Y := fun k => blk a126 = some k) (fun _ h => h.elim) (fun g e => e)).has hx520) (idx_spec hx520).1 (idx_spec hx520).2.1 (by kernel_rfl) ?_
                      refine gv_load (t := 3) (A := (elemAddr a126 ((s485.2).toNat * 1))) (.int .i64 x519) [1, 13, 19, 20, 161, 165] (σ' := [(1, (.int .i64 n_1)), (13, (.slice a126 (List.length r121.1) c127)), (19, (.slice a493 (List.length s485.1) c494)), (20, (.int .i64 s485.2)), (161, (.slice a493 (List.length s485.1) c494)), (165, (.int .i64 x519))]) (fun e => by cases e) (by rfl) (by rfl) (by rfl) (by kernel_rfl) (by kernel_rfl) (by kernel_rfl) (inw0 ((hk515.rd (Y := fun k => blk a126 = some k) (fun _ h => h.elim) (fun g e => e)).cell hx520)) (by kernel_rfl) ?_
                      refine bindE h2 ?_; clear h2; intro x521 hx522 h2
                      refine gv_idxaddr (t := 67) (e := 4) (a := a493) (len := List.length s485.1) (cap := c494) (kk := .i64) (i := x519) (sz := 1) [1, 13, 19, 20, 166] (σ' := [(1, (.int .i64 n_1)), (13, (.slice a126 (List.length r121.1) c127)), (19, (.slice a493 (List.length s485.1) c494)), (20, (.int .i64 s485.2)), (166, (.pointer (some (elemAddr a493 ((x519).toNat * 1)))))]) (fun e => by cases e) (by rfl) (by rfl) (by rfl) (by kernel_rfl) (by kernel_rfl) Try.underlying67 (by kernel_rfl) ((hk516.rd (Y := fun k => blk a493 = some k) (fun _ h => h.elim) (fun g e => e)).has hx522) (idx_spec hx522).1 (idx_spec hx522).2.1 (by kernel_rfl) ?_
                      refine bindE h2 ?_; clear h2; intro l523 hx524 h2
                      refine gv_upd (f := Value.bool) (hf := fun _ => rfl) (t := 4) (e := 4) (a := a493) (cap := c494) (xs := s485.1) (i := x519) true l523 (by decide) (by rfl) (by rfl) (by kernel_rfl) rfl (by kernel_rfl) (by kernel_rfl) hk516 hx524 ?_
                      intro w525 hg526 ho527 hz528
                      refine ⟨(fun e => by cases e), ?_⟩
                      have hln529 : List.length s485.1 = List.length l523 := by obtain ⟨_, _, e⟩ := upd_spec hx524; rw [e, List.length_set]
                      refine gv_sub [1, 13, 19, 20] (σ' := [(1, (.int .i64 n_1)), (13, (.slice a126 (List.length r121.1) c127)), (19, (.slice a493 (List.length s485.1) c494)), (20, (.int .i64 s485.2))]) (by kernel_rfl) ?_
                      refine gv_name (s := 19) (v := (.slice a493 (List.length s485.1) c494)) (v' := (.slice a493 (List.length l523) c494)) (by rfl) (by rw [hln529]) ?_
                      refine gv_sub [1, 13, 19, 20] (σ' := [(1, (.int .i64 n_1)), (13, (.slice a126 (List.length r121.1) c127)), (19, (.slice a493 (List.length l523) c494)), (20, (.int .i64 s485.2))]) (by kernel_rfl) ?_
                      refine gv_nil ?_
                      refine gv_blk ?_
                      refine gv_region ?_
                      refine gv_pure 3 [1, 13, 19, 20] (σ' := [(1, (.int .i64 n_1)), (13, (.slice a126 (List.length r121.1) c127)), (19, (.slice a493 (List.length l523) c494)), (20, (.int .i64 (IntKind.i64.wrap (s485.2 + 1))))]) (by kernel_rfl) ?_
                      refine gv_nil ?_
                      have e := Option.some.inj h2; subst e
                      refine gv_goal fun a hd hs hok => ?_
                      obtain ⟨q1, q13, q19, q20, _⟩ := hok
                      have hB530 := below_grown hB513 hg526 hB513.size hl496
                      have hz531 : w476.heap.size ≤ w525.heap.size := (Nat.le_trans hz517 hg526.size)
                      have hk532 := hk515.grown hg526 (fun _ h => h.elim) (rdnn ap497)
                      exact ⟨(l523, (IntKind.i64.wrap (s485.2 + 1))), rfl, a493, c494, hB530, hz531, ho527, hl496, ap497, ap498, hk532, hd, hs, ⟨q1, q13, q19, q20, trivial⟩⟩
                · replace h2 := ite_f hc500 h2
                  refine gv_cexit ?_
                  refine gv_exit rfl ?_
                  have e := Option.some.inj h2; subst e
                  replace h1 := congrArg some (hR2 _ rfl)
                  have e := Option.some.inj h1; subst e
                  refine gv_goal fun a hd hs hok => ?_
                  obtain ⟨q1, q13, q19, q20, q136, _⟩ := hok
                  have hz533 : w476.heap.size ≤ w486.heap.size := hz492
                  exact ⟨(), rfl, hB491, hz533, hd, hs, trivial⟩
            · rintro a w484 ⟨s483, e, hB534, hz535, hd, hs, hok⟩
              subst e
              refine (?_ : Run Try.prog _ 167 _ .normal [] w484) a hd hs hok
              clear hd hs hok
              replace h0 := cont_inl h0
              clear hz535 hl481 hz480 hbe479 ho478 hg477 hx474 hc472 hk471 hB469 hl130
              refine gv_seq ?_
              refine gv_region ?_
              refine gv_pure 1 [6] (σ' := [(6, (.bool true))]) (by kernel_rfl) ?_
              refine gv_nil ?_
              refine gv_cret ?_
              have e := Option.some.inj h0; subst e
              refine gv_ret (gv_done [(.bool true)] rfl ⟨rfl, trivial⟩ ?_)
              exact ⟨grown_of_below hB534, rfl⟩

end Go.Proofs.Ytenjigdaaeiklaa
