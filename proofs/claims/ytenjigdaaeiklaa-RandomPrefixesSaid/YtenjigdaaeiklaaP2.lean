import Derived.Test.YtenjigdaaeiklaaP1
set_option linter.all false
/- Own work, printed by a program of mine: the walk of each function: a call returns what the plain function says. -/
namespace Go.Proofs.Ytenjigdaaeiklaa
open Go.Gv Go.Gv.D Go.RowKit
set_option maxHeartbeats 4000000 in
set_option maxRecDepth 100000 in
theorem random_Below_ok (fuel : Nat) (g_0 : (Int × Int)) (pa1_0 : Option Addr) (pc1_0 : Nat) (n_1 : (Bool × (List Int))) (w0 : World) (X0 : Nat → Prop) (hX0 : ∀ k, X0 k → k < w0.heap.size) (hpa1_0 : Rd (iE .u32) w0 X0 pa1_0 pc1_0 n_1.2) (r0 : ((Bool × (List Int)) × (Int × Int) × (Int × Int))) (h0 : random_Below fuel g_0 n_1 = some r0) :
    Calls Try.prog 16 ([(.agg #[(.int .u64 g_0.1), (.int .u64 g_0.2)]), (.agg #[(.bool n_1.1), (.slice pa1_0 (List.length n_1.2) pc1_0)])] : List Value).toArray w0 (Ret fun v w' => w0.grownBy w' none ∧ ∃ (a0_0r : Option Addr) (c0_0r : Nat), v = tup [(.agg #[(.bool r0.1.1), (.slice a0_0r (List.length r0.1.2) c0_0r)]), (.agg #[(.int .u64 r0.2.1.1), (.int .u64 r0.2.1.2)]), (.agg #[(.int .i64 r0.2.2.1), (.int .i64 r0.2.2.2)])] ∧ Own (iE .u32) 76 w' (fun _ => False) a0_0r c0_0r r0.1.2 ∧ (∀ g, blk a0_0r = some g → w0.heap.size ≤ g)) := by
  have hB0 : Below w0.heap.size w0 w0 := Below.refl _ _
  unfold random_Below at h0
  refine calls_run Try.func16 rfl Try.ntmps16 (by kernel_rfl) ?_
  refine gv_sub [0, 1] (σ' := [(0, (.agg #[(.int .u64 g_0.1), (.int .u64 g_0.2)])), (1, (.agg #[(.bool n_1.1), (.slice pa1_0 (List.length n_1.2) pc1_0)]))]) (by kernel_rfl) ?_
  refine gv_seq ?_
  refine gv_region ?_
  refine gv_new (fun b => .pointer (some ⟨b, 0, none⟩)) #[(.int .u64 g_0.1), (.int .u64 g_0.2)] 27 (by decide) (by rfl) (by rfl) (by kernel_rfl) (by kernel_rfl) ?_
  intro b1 w2 hg3 hb4 hbe5 hz6
  refine ⟨(fun e => by cases e), ?_⟩
  refine gv_sub [1, 2] (σ' := [(1, (.agg #[(.bool n_1.1), (.slice pa1_0 (List.length n_1.2) pc1_0)])), (2, (.pointer (some ⟨b1, 0, none⟩)))]) (by kernel_rfl) ?_
  refine gv_new (fun b => .pointer (some ⟨b, 0, none⟩)) #[(.bool n_1.1), (.slice pa1_0 (List.length n_1.2) pc1_0)] 24 (by decide) (by rfl) (by rfl) (by kernel_rfl) (by kernel_rfl) ?_
  intro b7 w8 hg9 hb10 hbe11 hz12
  refine ⟨(fun e => by cases e), ?_⟩
  refine gv_sub [2, 3] (σ' := [(2, (.pointer (some ⟨b1, 0, none⟩))), (3, (.pointer (some ⟨b7, 0, none⟩)))]) (by kernel_rfl) ?_
  refine gv_new (fun b => .pointer (some ⟨b, 0, none⟩)) #[(.bool false), (.slice none (List.length ([] : List Int)) 0)] 24 (by decide) (by rfl) (by rfl) (by kernel_rfl) (by kernel_rfl) ?_
  intro b13 w14 hg15 hb16 hbe17 hz18
  refine ⟨(fun e => by cases e), ?_⟩
  refine gv_sub [2, 3, 4] (σ' := [(2, (.pointer (some ⟨b1, 0, none⟩))), (3, (.pointer (some ⟨b7, 0, none⟩))), (4, (.pointer (some ⟨b13, 0, none⟩)))]) (by kernel_rfl) ?_
  refine gv_new (fun b => .pointer (some ⟨b, 0, none⟩)) #[(.int .u64 0), (.int .u64 0)] 27 (by decide) (by rfl) (by rfl) (by kernel_rfl) (by kernel_rfl) ?_
  intro b19 w20 hg21 hb22 hbe23 hz24
  refine ⟨(fun e => by cases e), ?_⟩
  refine gv_sub [2, 3, 4, 5] (σ' := [(2, (.pointer (some ⟨b1, 0, none⟩))), (3, (.pointer (some ⟨b7, 0, none⟩))), (4, (.pointer (some ⟨b13, 0, none⟩))), (5, (.pointer (some ⟨b19, 0, none⟩)))]) (by kernel_rfl) ?_
  refine gv_new (fun b => .pointer (some ⟨b, 0, none⟩)) #[(.int .i64 0), (.int .i64 0)] 29 (by decide) (by rfl) (by rfl) (by kernel_rfl) (by kernel_rfl) ?_
  intro b25 w26 hg27 hb28 hbe29 hz30
  refine ⟨(fun e => by cases e), ?_⟩
  refine gv_sub [2, 3, 4, 5, 6] (σ' := [(2, (.pointer (some ⟨b1, 0, none⟩))), (3, (.pointer (some ⟨b7, 0, none⟩))), (4, (.pointer (some ⟨b13, 0, none⟩))), (5, (.pointer (some ⟨b19, 0, none⟩))), (6, (.pointer (some ⟨b25, 0, none⟩)))]) (by kernel_rfl) ?_
  refine gv_nil ?_
  refine gv_seq ?_
  refine gv_region ?_
  have hg31 := (grown_trans (grown_trans (grown_trans hg9 hg15) hg21) hg27)
  have hk32 := hb4.grown hg31 nb
  refine gv_loadBox (t := 27) (b := b1) (t' := 27) (fr := (0, 0)) #[(.int .u64 g_0.1), (.int .u64 g_0.2)] [3, 4, 5, 6, 11] (σ' := [(3, (.pointer (some ⟨b7, 0, none⟩))), (4, (.pointer (some ⟨b13, 0, none⟩))), (5, (.pointer (some ⟨b19, 0, none⟩))), (6, (.pointer (some ⟨b25, 0, none⟩))), (11, (.agg #[(.int .u64 g_0.1), (.int .u64 g_0.2)]))]) (fun e => by cases e) (by rfl) (by rfl) (by rfl) (by kernel_rfl) (by kernel_rfl) (by kernel_rfl) (by kernel_rfl) (inw0 hk32) (by kernel_rfl) ?_
  refine bindE h0 ?_; clear h0; intro r33 hr34 h0
  refine gv_call (f := 39) (vs := [(.agg #[(.int .u64 g_0.1), (.int .u64 g_0.2)])]) (cap := []) _ (by decide) (by rfl) (by rfl) rfl (by rfl) (by rfl) enters39 (random_open_ok fuel (g_0.1, g_0.2) w26  r33 hr34) ?_
  rintro v37 w35 ⟨hg36, p38, rfl, hp39⟩
  refine ⟨(fun e => by cases e), ?_⟩
  rcases hp39 with ⟨hn40, rfl⟩ | ⟨x42, b43, hn41, rfl, hb44, hlo45⟩
  · skip
    replace h0 := optc_none hn40 h0
    refine gv_pure 3 [3, 4, 5, 6, 13, 14] (σ' := [(3, (.pointer (some ⟨b7, 0, none⟩))), (4, (.pointer (some ⟨b13, 0, none⟩))), (5, (.pointer (some ⟨b19, 0, none⟩))), (6, (.pointer (some ⟨b25, 0, none⟩))), (13, (.pointer none)), (14, (.agg #[(.int .i64 r33.2.1), (.int .i64 r33.2.2)]))]) (by kernel_rfl) ?_
    refine gv_new (fun b => .pointer (some ⟨b, 0, none⟩)) #[(.int .i64 0), (.int .i64 0)] 29 (by decide) (by rfl) (by rfl) (by kernel_rfl) (by kernel_rfl) ?_
    intro b46 w47 hg48 hb49 hbe50 hz51
    refine ⟨(fun e => by cases e), ?_⟩
    refine gv_pure 1 [3, 4, 5, 6, 7, 8, 14] (σ' := [(3, (.pointer (some ⟨b7, 0, none⟩))), (4, (.pointer (some ⟨b13, 0, none⟩))), (5, (.pointer (some ⟨b19, 0, none⟩))), (6, (.pointer (some ⟨b25, 0, none⟩))), (7, (.pointer none)), (8, (.pointer (some ⟨b46, 0, none⟩))), (14, (.agg #[(.int .i64 r33.2.1), (.int .i64 r33.2.2)]))]) (by kernel_rfl) ?_
    refine gv_store (t := 29) (b := b46) (off := 0) (v := (.agg #[(.int .i64 r33.2.1), (.int .i64 r33.2.2)])) (t' := 29) (cs := #[(.int .i64 0), (.int .i64 0)]) #[(.int .i64 r33.2.1), (.int .i64 r33.2.2)] (by decide) (by rfl) (by rfl) (by kernel_rfl) (by kernel_rfl) (by kernel_rfl) (by intro u hu; simp [Value.cells] at hu; rcases hu with rfl | rfl <;> rfl) (show 0 + 2 ≤ 2 by decide) (by rfl) hb49 ?_
    intro w52 hg53 hb54 hz55
    refine ⟨(fun e => by cases e), ?_⟩
    clear hz55 hz51 hb49 hr34 hk32 hg31 hz30 hz24 hz18 hz12 hz6 hbe5 hb4
    refine gv_sub [3, 4, 5, 6, 7, 8] (σ' := [(3, (.pointer (some ⟨b7, 0, none⟩))), (4, (.pointer (some ⟨b13, 0, none⟩))), (5, (.pointer (some ⟨b19, 0, none⟩))), (6, (.pointer (some ⟨b25, 0, none⟩))), (7, (.pointer none)), (8, (.pointer (some ⟨b46, 0, none⟩)))]) (by kernel_rfl) ?_
    refine gv_nil ?_
    refine gv_seq ?_
    refine gv_block ?_
    refine gv_seq ?_
    refine gv_region ?_
    refine gv_pure 1 [3, 4, 5, 6, 7, 8, 16] (σ' := [(3, (.pointer (some ⟨b7, 0, none⟩))), (4, (.pointer (some ⟨b13, 0, none⟩))), (5, (.pointer (some ⟨b19, 0, none⟩))), (6, (.pointer (some ⟨b25, 0, none⟩))), (7, (.pointer none)), (8, (.pointer (some ⟨b46, 0, none⟩))), (16, (.pointer (some ⟨b46, 0, none⟩)))]) (by kernel_rfl) ?_
    refine gv_load (t := 3) (A := ⟨b46, 0, none⟩) (.int .i64 r33.2.1) [3, 4, 5, 6, 7, 8, 17] (σ' := [(3, (.pointer (some ⟨b7, 0, none⟩))), (4, (.pointer (some ⟨b13, 0, none⟩))), (5, (.pointer (some ⟨b19, 0, none⟩))), (6, (.pointer (some ⟨b25, 0, none⟩))), (7, (.pointer none)), (8, (.pointer (some ⟨b46, 0, none⟩))), (17, (.int .i64 r33.2.1))]) (fun e => by cases e) (by rfl) (by rfl) (by rfl) (by kernel_rfl) (by kernel_rfl) (by kernel_rfl) (inw0 (hb54.cell 0 rfl)) (by kernel_rfl) ?_
    refine gv_pure 2 [3, 4, 5, 6, 7, 8, 15] (σ' := [(3, (.pointer (some ⟨b7, 0, none⟩))), (4, (.pointer (some ⟨b13, 0, none⟩))), (5, (.pointer (some ⟨b19, 0, none⟩))), (6, (.pointer (some ⟨b25, 0, none⟩))), (7, (.pointer none)), (8, (.pointer (some ⟨b46, 0, none⟩))), (15, (.bool (r33.2.1 != 0)))]) (by kernel_rfl) ?_
    refine gv_nil ?_
    refine gv_cond (b := (r33.2.1 != 0)) (by rfl) (fun hc56 => ?_) (fun hc56 => ?_)
    · replace h0 := ite_t hc56 h0
      refine gv_seq ?_
      refine gv_drawA (by kernel_rfl) ?_
      intro w57 hg58
      refine gv_pre [0, 1] #[true, true, false, false, false, false] 4 (by kernel_rfl) (by rfl) ?_
      refine gv_pure 2 [4, 5, 6, 8, 19, 20] (σ' := [(4, (.pointer (some ⟨b13, 0, none⟩))), (5, (.pointer (some ⟨b19, 0, none⟩))), (6, (.pointer (some ⟨b25, 0, none⟩))), (8, (.pointer (some ⟨b46, 0, none⟩))), (19, (.agg #[(.bool false), (.slice none (List.length ([] : List Int)) 0)])), (20, (.agg #[(.int .u64 0), (.int .u64 0)]))]) (by kernel_rfl) ?_
      refine gv_nil ?_
      refine gv_goal fun a hd hs hok => ?_
      refine (?_ : RunA Try.prog _ 50 _ _ 4 #[true, true, false, false, false, false] [(4, (.pointer (some ⟨b13, 0, none⟩))), (5, (.pointer (some ⟨b19, 0, none⟩))), (6, (.pointer (some ⟨b25, 0, none⟩))), (8, (.pointer (some ⟨b46, 0, none⟩))), (19, (.agg #[(.bool false), (.slice none (List.length ([] : List Int)) 0)])), (20, (.agg #[(.int .u64 0), (.int .u64 0)]))] w57) a hd hs hok
      clear hd hs hok
      refine gv_stage (Cls w57 [b13, b19]) [0, 1, 2, 3, 4] [(2, some true), (3, some false), (4, some false)] #[true, true, true, true, true, false] 1 (by kernel_rfl) (by rfl) (Cls.refl _ _) ?_
      have hC59 := Cls.refl w57 [b13, b19]
      have hk60 := hb54.grown hg58 nb
      have hg61 := (grown_trans (grown_trans hg21 hg27) hg36)
      have hk62 := hb16.grown hg61 nb
      have ap63 : ¬ (· = b13) b46 := fun hx => Nat.not_lt_of_le ((lowb hbe50) _ rfl) ((fun k (hk : k = b13) => Nat.lt_of_le_of_lt (Nat.le_of_eq hk) hk62.lt) _ hx)
      have hg64 := (grown_trans hg27 hg36)
      have hk65 := hb22.grown hg64 nb
      have ap66 : ¬ (· = b19) b46 := fun hx => Nat.not_lt_of_le ((lowb hbe50) _ rfl) ((fun k (hk : k = b19) => Nat.lt_of_le_of_lt (Nat.le_of_eq hk) hk65.lt) _ hx)
      refine gv_loadBox (t := 29) (b := b46) (t' := 29) (fr := (0, 0)) #[(.int .i64 r33.2.1), (.int .i64 r33.2.2)] [4, 5, 6, 19, 20, 21] (σ' := [(4, (.pointer (some ⟨b13, 0, none⟩))), (5, (.pointer (some ⟨b19, 0, none⟩))), (6, (.pointer (some ⟨b25, 0, none⟩))), (19, (.agg #[(.bool false), (.slice none (List.length ([] : List Int)) 0)])), (20, (.agg #[(.int .u64 0), (.int .u64 0)])), (21, (.agg #[(.int .i64 r33.2.1), (.int .i64 r33.2.2)]))]) (fun e => by cases e) (by rfl) (by rfl) (by rfl) (by kernel_rfl) (by kernel_rfl) (by kernel_rfl) (by kernel_rfl) (inw1 fun w' hC' => (hC'.box hk60 (nm_cons ap63 (nm_cons ap66 nm_nil)))) (by kernel_rfl) ?_
      have hk71 := ((hk62.grown hg48 nb).grown hg53 (rowne ap63)).grown hg58 nb
      refine gv_store (t := 24) (b := b13) (off := 0) (v := (.agg #[(.bool false), (.slice none (List.length ([] : List Int)) 0)])) (t' := 24) (cs := #[(.bool false), (.slice none (List.length ([] : List Int)) 0)]) #[(.bool false), (.slice none (List.length ([] : List Int)) 0)] (by decide) (by rfl) (by rfl) (by kernel_rfl) (by kernel_rfl) (by kernel_rfl) (by intro u hu; simp [Value.cells] at hu; rcases hu with rfl | rfl <;> rfl) (show 0 + 2 ≤ 2 by decide) (by rfl) hk71 ?_
      intro w67 hg68 hb69 hz70
      refine ⟨(fun _ => hC59.grown hg68 (rowm (List.Mem.head _))), ?_⟩
      have ap76 : ¬ (· = b19) b13 := fun hx => Nat.not_lt_of_le ((lowb hbe23) _ hx) ((fun k (hk : k = b13) => Nat.lt_of_le_of_lt (Nat.le_of_eq hk) hb16.lt) _ rfl)
      have hk77 := (((hk65.grown hg48 nb).grown hg53 (rowne ap66)).grown hg58 nb).grown hg68 (rowne ap76)
      refine gv_sub [4, 5, 6, 20, 21] (σ' := [(4, (.pointer (some ⟨b13, 0, none⟩))), (5, (.pointer (some ⟨b19, 0, none⟩))), (6, (.pointer (some ⟨b25, 0, none⟩))), (20, (.agg #[(.int .u64 0), (.int .u64 0)])), (21, (.agg #[(.int .i64 r33.2.1), (.int .i64 r33.2.2)]))]) (by kernel_rfl) ?_
      refine gv_store (t := 27) (b := b19) (off := 0) (v := (.agg #[(.int .u64 0), (.int .u64 0)])) (t' := 27) (cs := #[(.int .u64 0), (.int .u64 0)]) #[(.int .u64 0), (.int .u64 0)] (by decide) (by rfl) (by rfl) (by kernel_rfl) (by kernel_rfl) (by kernel_rfl) (by intro u hu; simp [Value.cells] at hu; rcases hu with rfl | rfl <;> rfl) (show 0 + 2 ≤ 2 by decide) (by rfl) hk77 ?_
      intro w72 hg73 hb74 hz75
      have hC78 := hC59.grown hg68 (rowm (List.Mem.head _))
      refine ⟨(fun _ => hC78.grown hg73 (rowm (List.Mem.tail _ (List.Mem.head _)))), ?_⟩
      refine gv_sub [4, 5, 6, 21] (σ' := [(4, (.pointer (some ⟨b13, 0, none⟩))), (5, (.pointer (some ⟨b19, 0, none⟩))), (6, (.pointer (some ⟨b25, 0, none⟩))), (21, (.agg #[(.int .i64 r33.2.1), (.int .i64 r33.2.2)]))]) (by kernel_rfl) ?_
      refine gv_nil ?_
      refine gv_goal fun a hd hs hok => ?_
      refine (?_ : RunA Try.prog _ 50 _ _ 1 #[true, true, true, true, true, false] [(4, (.pointer (some ⟨b13, 0, none⟩))), (5, (.pointer (some ⟨b19, 0, none⟩))), (6, (.pointer (some ⟨b25, 0, none⟩))), (21, (.agg #[(.int .i64 r33.2.1), (.int .i64 r33.2.2)]))] w72) a hd hs hok
      clear hd hs hok
      refine gv_stage (fun _ => True) [0, 1, 2, 3, 4, 5] [(5, some false)] #[true, true, true, true, true, true] 0 (by kernel_rfl) (by rfl) trivial ?_
      have hg83 := (grown_trans hg36 hg48)
      have hk84 := hb28.grown hg36 nb
      have ap85 : ¬ (· = b25) b46 := fun hx => Nat.not_lt_of_le ((lowb hbe50) _ rfl) ((fun k (hk : k = b25) => Nat.lt_of_le_of_lt (Nat.le_of_eq hk) hk84.lt) _ hx)
      have hk86 := hb16.grown hg21 nb
      have ap87 : ¬ (· = b25) b13 := fun hx => Nat.not_lt_of_le ((lowb hbe29) _ hx) ((fun k (hk : k = b13) => Nat.lt_of_le_of_lt (Nat.le_of_eq hk) hk86.lt) _ rfl)
      have ap88 : ¬ (· = b25) b19 := fun hx => Nat.not_lt_of_le ((lowb hbe29) _ hx) ((fun k (hk : k = b19) => Nat.lt_of_le_of_lt (Nat.le_of_eq hk) hb22.lt) _ rfl)
      have hk89 := ((((hb28.grown hg83 nb).grown hg53 (rowne ap85)).grown hg58 nb).grown hg68 (rowne ap87)).grown hg73 (rowne ap88)
      refine gv_store (t := 29) (b := b25) (off := 0) (v := (.agg #[(.int .i64 r33.2.1), (.int .i64 r33.2.2)])) (t' := 29) (cs := #[(.int .i64 0), (.int .i64 0)]) #[(.int .i64 r33.2.1), (.int .i64 r33.2.2)] (by decide) (by rfl) (by rfl) (by kernel_rfl) (by kernel_rfl) (by kernel_rfl) (by intro u hu; simp [Value.cells] at hu; rcases hu with rfl | rfl <;> rfl) (show 0 + 2 ≤ 2 by decide) (by rfl) hk89 ?_
      intro w79 hg80 hb81 hz82
      refine ⟨(fun _ => trivial), ?_⟩
      refine gv_sub [4, 5, 6] (σ' := [(4, (.pointer (some ⟨b13, 0, none⟩))), (5, (.pointer (some ⟨b19, 0, none⟩))), (6, (.pointer (some ⟨b25, 0, none⟩)))]) (by kernel_rfl) ?_
      refine gv_nil ?_
      refine gv_goal fun a hd hs hok => ?_
      refine (?_ : RunA Try.prog _ 50 _ _ 0 #[true, true, true, true, true, true] [(4, (.pointer (some ⟨b13, 0, none⟩))), (5, (.pointer (some ⟨b19, 0, none⟩))), (6, (.pointer (some ⟨b25, 0, none⟩)))] w79) a hd hs hok
      clear hd hs hok
      refine gv_stageE (by kernel_rfl) ?_
      refine gv_cret ?_
      have e := Option.some.inj h0; subst e
      have ap90 : ¬ (· = b13) b19 := fun hx => Nat.not_lt_of_le ((lowb hbe23) _ rfl) ((fun k (hk : k = b13) => Nat.lt_of_le_of_lt (Nat.le_of_eq hk) hb16.lt) _ hx)
      have ap91 : ¬ (· = b13) b25 := fun hx => Nat.not_lt_of_le ((lowb hbe29) _ rfl) ((fun k (hk : k = b13) => Nat.lt_of_le_of_lt (Nat.le_of_eq hk) hk86.lt) _ hx)
      have hk92 := (hb69.grown hg73 (rowne ap90)).grown hg80 (rowne ap91)
      have ap93 : ¬ (· = b19) b25 := fun hx => Nat.not_lt_of_le ((lowb hbe29) _ rfl) ((fun k (hk : k = b19) => Nat.lt_of_le_of_lt (Nat.le_of_eq hk) hb22.lt) _ hx)
      have hk94 := hb74.grown hg80 (rowne ap93)
      refine gv_ret (gv_done [(.agg #[(.bool false), (.slice none (List.length ([] : List Int)) 0)]), (.agg #[(.int .u64 0), (.int .u64 0)]), (.agg #[(.int .i64 r33.2.1), (.int .i64 r33.2.2)])] rfl ⟨⟨_, rfl, run_loadVar_row w79 b13 _ 24 _ _ _ hk92 Try.underlying24 rfl (by kernel_rfl)⟩, ⟨_, rfl, run_loadVar_row w79 b19 _ 27 _ _ _ hk94 Try.underlying27 rfl (by kernel_rfl)⟩, ⟨_, rfl, run_loadVar_row w79 b25 _ 29 _ _ _ hb81 Try.underlying29 rfl (by kernel_rfl)⟩, trivial⟩ ?_)
      have hg95 := (grown_trans (grown_trans (grown_trans (grown_trans hg3 hg9) hg15) hg61) hg48)
      have hB96 := below_grown hB0 hg95 hB0.size nb
      have hg97 := (grown_trans (grown_trans (grown_trans hg3 hg9) hg15) hg61)
      have hB98 := below_grown hB0 hg97 hB0.size nb
      have hlo99 : w0.heap.size ≤ b46 := lob hbe50 hB98.size
      have hB100 := below_grown hB96 hg53 hB96.size (rowlo hlo99)
      have hB101 := below_grown hB100 hg58 hB100.size nb
      have hg102 := (grown_trans hg3 hg9)
      have hB103 := below_grown hB0 hg102 hB0.size nb
      have hlo104 : w0.heap.size ≤ b13 := lob hbe17 hB103.size
      have hB105 := below_grown hB101 hg68 hB101.size (rowlo hlo104)
      have hB106 := below_grown hB103 hg15 hB103.size nb
      have hlo107 : w0.heap.size ≤ b19 := lob hbe23 hB106.size
      have hB108 := below_grown hB105 hg73 hB105.size (rowlo hlo107)
      have hB109 := below_grown hB106 hg21 hB106.size nb
      have hlo110 : w0.heap.size ≤ b25 := lob hbe29 hB109.size
      have hB111 := below_grown hB108 hg80 hB108.size (rowlo hlo110)
      exact ⟨grown_of_below hB111, none, 0, rfl, (Own.nil (iE .u32) 76 w79 (fun _ => False)), (fun _ h => by cases h)⟩
    · replace h0 := ite_f hc56 h0
      refine gv_seq ?_
      refine gv_region ?_
      have hg112 := (grown_trans (grown_trans (grown_trans (grown_trans hg15 hg21) hg27) hg36) hg48)
      have hg113 := (grown_trans (grown_trans (grown_trans hg15 hg21) hg27) hg36)
      have hk114 := hb10.grown hg113 nb
      have ap115 : ¬ (· = b7) b46 := fun hx => Nat.not_lt_of_le ((lowb hbe50) _ rfl) ((fun k (hk : k = b7) => Nat.lt_of_le_of_lt (Nat.le_of_eq hk) hk114.lt) _ hx)
      have hk116 := (hb10.grown hg112 nb).grown hg53 (rowne ap115)
      refine gv_loadBox (t := 24) (b := b7) (t' := 24) (fr := (0, 0)) #[(.bool n_1.1), (.slice pa1_0 (List.length n_1.2) pc1_0)] [3, 4, 5, 6, 7, 23] (σ' := [(3, (.pointer (some ⟨b7, 0, none⟩))), (4, (.pointer (some ⟨b13, 0, none⟩))), (5, (.pointer (some ⟨b19, 0, none⟩))), (6, (.pointer (some ⟨b25, 0, none⟩))), (7, (.pointer none)), (23, (.agg #[(.bool n_1.1), (.slice pa1_0 (List.length n_1.2) pc1_0)]))]) (fun e => by cases e) (by rfl) (by rfl) (by rfl) (by kernel_rfl) (by kernel_rfl) (by kernel_rfl) (by kernel_rfl) (inw0 hk116) (by kernel_rfl) ?_
      refine bindE h0 ?_; clear h0; intro r117 hr118 h0
      have hg119 := (grown_trans (grown_trans hg3 hg9) hg112)
      have hB120 := below_grown hB0 hg119 hB0.size nb
      have hg121 := (grown_trans (grown_trans hg3 hg9) hg113)
      have hB122 := below_grown hB0 hg121 hB0.size nb
      have hlo123 : w0.heap.size ≤ b46 := lob hbe50 hB122.size
      have hB124 := below_grown hB120 hg53 hB120.size (rowlo hlo123)
      refine gv_call (f := 36) (vs := [(.agg #[(.bool n_1.1), (.slice pa1_0 (List.length n_1.2) pc1_0)])]) (cap := []) _ (by decide) (by rfl) (by rfl) rfl (by rfl) (by rfl) enters36 (integer_Valid_ok fuel pa1_0 pc1_0 (n_1.1, n_1.2) w52 (fun k => X0 k) (fun k hk => (fun k (hk : X0 k) => Nat.lt_of_lt_of_le (hX0 k hk) hB124.size) k hk) ((hpa1_0.below hB124 hX0).wide (fun k hk => hk)) r117 hr118) ?_
      rintro v127 w125 ⟨hg126, rfl⟩
      refine ⟨(fun e => by cases e), ?_⟩
      refine gv_pure 2 [3, 4, 5, 6, 7, 22] (σ' := [(3, (.pointer (some ⟨b7, 0, none⟩))), (4, (.pointer (some ⟨b13, 0, none⟩))), (5, (.pointer (some ⟨b19, 0, none⟩))), (6, (.pointer (some ⟨b25, 0, none⟩))), (7, (.pointer none)), (22, (.bool (!r117)))]) (by kernel_rfl) ?_
      refine gv_nil ?_
      refine gv_cond (b := (!r117)) (by rfl) (fun hc128 => ?_) (fun hc128 => ?_)
      · replace h0 := ite_t hc128 h0
        refine gv_seq ?_
        refine gv_region ?_
        refine gv_pure 2 [4, 5, 6, 26, 27] (σ' := [(4, (.pointer (some ⟨b13, 0, none⟩))), (5, (.pointer (some ⟨b19, 0, none⟩))), (6, (.pointer (some ⟨b25, 0, none⟩))), (26, (.agg #[(.bool false), (.slice none (List.length ([] : List Int)) 0)])), (27, (.agg #[(.int .u64 0), (.int .u64 0)]))]) (by kernel_rfl) ?_
        refine bindE h0 ?_; clear h0; intro r129 hr130 h0
        refine gv_call (f := 37) (vs := [(.int .i64 6), (.int .i64 (-2))]) (cap := []) _ (by decide) (by rfl) (by rfl) rfl (by rfl) (by rfl) enters37 (random_at_ok fuel 6 (-2) w125  r129 hr130) ?_
        rintro v133 w131 ⟨hg132, rfl⟩
        refine ⟨(fun e => by cases e), ?_⟩
        have hg138 := (grown_trans (grown_trans (grown_trans hg21 hg27) hg36) hg48)
        have hg139 := (grown_trans (grown_trans hg21 hg27) hg36)
        have hk140 := hb16.grown hg139 nb
        have ap141 : ¬ (· = b13) b46 := fun hx => Nat.not_lt_of_le ((lowb hbe50) _ rfl) ((fun k (hk : k = b13) => Nat.lt_of_le_of_lt (Nat.le_of_eq hk) hk140.lt) _ hx)
        have hg142 := (grown_trans hg126 hg132)
        have hk143 := ((hb16.grown hg138 nb).grown hg53 (rowne ap141)).grown hg142 nb
        refine gv_sub [4, 5, 6, 26, 27, 28] (σ' := [(4, (.pointer (some ⟨b13, 0, none⟩))), (5, (.pointer (some ⟨b19, 0, none⟩))), (6, (.pointer (some ⟨b25, 0, none⟩))), (26, (.agg #[(.bool false), (.slice none (List.length ([] : List Int)) 0)])), (27, (.agg #[(.int .u64 0), (.int .u64 0)])), (28, (.agg #[(.int .i64 r129.1), (.int .i64 r129.2)]))]) (by kernel_rfl) ?_
        refine gv_store (t := 24) (b := b13) (off := 0) (v := (.agg #[(.bool false), (.slice none (List.length ([] : List Int)) 0)])) (t' := 24) (cs := #[(.bool false), (.slice none (List.length ([] : List Int)) 0)]) #[(.bool false), (.slice none (List.length ([] : List Int)) 0)] (by decide) (by rfl) (by rfl) (by kernel_rfl) (by kernel_rfl) (by kernel_rfl) (by intro u hu; simp [Value.cells] at hu; rcases hu with rfl | rfl <;> rfl) (show 0 + 2 ≤ 2 by decide) (by rfl) hk143 ?_
        intro w134 hg135 hb136 hz137
        refine ⟨(fun e => by cases e), ?_⟩
        have hg148 := (grown_trans (grown_trans hg27 hg36) hg48)
        have hg149 := (grown_trans hg27 hg36)
        have hk150 := hb22.grown hg149 nb
        have ap151 : ¬ (· = b19) b46 := fun hx => Nat.not_lt_of_le ((lowb hbe50) _ rfl) ((fun k (hk : k = b19) => Nat.lt_of_le_of_lt (Nat.le_of_eq hk) hk150.lt) _ hx)
        have ap152 : ¬ (· = b19) b13 := fun hx => Nat.not_lt_of_le ((lowb hbe23) _ hx) ((fun k (hk : k = b13) => Nat.lt_of_le_of_lt (Nat.le_of_eq hk) hb16.lt) _ rfl)
        have hk153 := (((hb22.grown hg148 nb).grown hg53 (rowne ap151)).grown hg142 nb).grown hg135 (rowne ap152)
        refine gv_sub [4, 5, 6, 27, 28] (σ' := [(4, (.pointer (some ⟨b13, 0, none⟩))), (5, (.pointer (some ⟨b19, 0, none⟩))), (6, (.pointer (some ⟨b25, 0, none⟩))), (27, (.agg #[(.int .u64 0), (.int .u64 0)])), (28, (.agg #[(.int .i64 r129.1), (.int .i64 r129.2)]))]) (by kernel_rfl) ?_
        refine gv_store (t := 27) (b := b19) (off := 0) (v := (.agg #[(.int .u64 0), (.int .u64 0)])) (t' := 27) (cs := #[(.int .u64 0), (.int .u64 0)]) #[(.int .u64 0), (.int .u64 0)] (by decide) (by rfl) (by rfl) (by kernel_rfl) (by kernel_rfl) (by kernel_rfl) (by intro u hu; simp [Value.cells] at hu; rcases hu with rfl | rfl <;> rfl) (show 0 + 2 ≤ 2 by decide) (by rfl) hk153 ?_
        intro w144 hg145 hb146 hz147
        refine ⟨(fun e => by cases e), ?_⟩
        clear hz147 hk153 ap151 hk150 hg149 hg148 hz137 hk143 hg142 ap141 hk140 hg139 hg138 hr130 hc128 hlo123 hB122 hg121 hB120 hg119 hr118 hk116 ap115 hk114 hg113 hg112 hc56 hb54 hg27 hbe11 hb10
        have hg158 := (grown_trans hg36 hg48)
        have hk159 := hb28.grown hg36 nb
        have ap160 : ¬ (· = b25) b46 := fun hx => Nat.not_lt_of_le ((lowb hbe50) _ rfl) ((fun k (hk : k = b25) => Nat.lt_of_le_of_lt (Nat.le_of_eq hk) hk159.lt) _ hx)
        have hg161 := (grown_trans hg126 hg132)
        have hk162 := hb16.grown hg21 nb
        have ap163 : ¬ (· = b25) b13 := fun hx => Nat.not_lt_of_le ((lowb hbe29) _ hx) ((fun k (hk : k = b13) => Nat.lt_of_le_of_lt (Nat.le_of_eq hk) hk162.lt) _ rfl)
        have ap164 : ¬ (· = b25) b19 := fun hx => Nat.not_lt_of_le ((lowb hbe29) _ hx) ((fun k (hk : k = b19) => Nat.lt_of_le_of_lt (Nat.le_of_eq hk) hb22.lt) _ rfl)
        have hk165 := ((((hb28.grown hg158 nb).grown hg53 (rowne ap160)).grown hg161 nb).grown hg135 (rowne ap163)).grown hg145 (rowne ap164)
        refine gv_sub [4, 5, 6, 28] (σ' := [(4, (.pointer (some ⟨b13, 0, none⟩))), (5, (.pointer (some ⟨b19, 0, none⟩))), (6, (.pointer (some ⟨b25, 0, none⟩))), (28, (.agg #[(.int .i64 r129.1), (.int .i64 r129.2)]))]) (by kernel_rfl) ?_
        refine gv_store (t := 29) (b := b25) (off := 0) (v := (.agg #[(.int .i64 r129.1), (.int .i64 r129.2)])) (t' := 29) (cs := #[(.int .i64 0), (.int .i64 0)]) #[(.int .i64 r129.1), (.int .i64 r129.2)] (by decide) (by rfl) (by rfl) (by kernel_rfl) (by kernel_rfl) (by kernel_rfl) (by intro u hu; simp [Value.cells] at hu; rcases hu with rfl | rfl <;> rfl) (show 0 + 2 ≤ 2 by decide) (by rfl) hk165 ?_
        intro w154 hg155 hb156 hz157
        refine ⟨(fun e => by cases e), ?_⟩
        refine gv_sub [4, 5, 6] (σ' := [(4, (.pointer (some ⟨b13, 0, none⟩))), (5, (.pointer (some ⟨b19, 0, none⟩))), (6, (.pointer (some ⟨b25, 0, none⟩)))]) (by kernel_rfl) ?_
        refine gv_nil ?_
        refine gv_cret ?_
        have e := Option.some.inj h0; subst e
        have ap166 : ¬ (· = b13) b19 := fun hx => Nat.not_lt_of_le ((lowb hbe23) _ rfl) ((fun k (hk : k = b13) => Nat.lt_of_le_of_lt (Nat.le_of_eq hk) hb16.lt) _ hx)
        have ap167 : ¬ (· = b13) b25 := fun hx => Nat.not_lt_of_le ((lowb hbe29) _ rfl) ((fun k (hk : k = b13) => Nat.lt_of_le_of_lt (Nat.le_of_eq hk) hk162.lt) _ hx)
        have hk168 := (hb136.grown hg145 (rowne ap166)).grown hg155 (rowne ap167)
        have ap169 : ¬ (· = b19) b25 := fun hx => Nat.not_lt_of_le ((lowb hbe29) _ rfl) ((fun k (hk : k = b19) => Nat.lt_of_le_of_lt (Nat.le_of_eq hk) hb22.lt) _ hx)
        have hk170 := hb146.grown hg155 (rowne ap169)
        refine gv_ret (gv_done [(.agg #[(.bool false), (.slice none (List.length ([] : List Int)) 0)]), (.agg #[(.int .u64 0), (.int .u64 0)]), (.agg #[(.int .i64 r129.1), (.int .i64 r129.2)])] rfl ⟨⟨_, rfl, run_loadVar_row w154 b13 _ 24 _ _ _ hk168 Try.underlying24 rfl (by kernel_rfl)⟩, ⟨_, rfl, run_loadVar_row w154 b19 _ 27 _ _ _ hk170 Try.underlying27 rfl (by kernel_rfl)⟩, ⟨_, rfl, run_loadVar_row w154 b25 _ 29 _ _ _ hb156 Try.underlying29 rfl (by kernel_rfl)⟩, trivial⟩ ?_)
        have hB171 := below_grown hB124 hg161 hB124.size nb
        have hg172 := (grown_trans hg3 hg9)
        have hB173 := below_grown hB0 hg172 hB0.size nb
        have hlo174 : w0.heap.size ≤ b13 := lob hbe17 hB173.size
        have hB175 := below_grown hB171 hg135 hB171.size (rowlo hlo174)
        have hB176 := below_grown hB173 hg15 hB173.size nb
        have hlo177 : w0.heap.size ≤ b19 := lob hbe23 hB176.size
        have hB178 := below_grown hB175 hg145 hB175.size (rowlo hlo177)
        have hB179 := below_grown hB176 hg21 hB176.size nb
        have hlo180 : w0.heap.size ≤ b25 := lob hbe29 hB179.size
        have hB181 := below_grown hB178 hg155 hB178.size (rowlo hlo180)
        exact ⟨grown_of_below hB181, none, 0, rfl, (Own.nil (iE .u32) 76 w154 (fun _ => False)), (fun _ h => by cases h)⟩
      · replace h0 := ite_f hc128 h0
        refine gv_seq ?_
        refine gv_region ?_
        refine bindE h0 ?_; clear h0; intro j182 h1 h0
        refine gv_cut_ops (J := fun a w183 => Below w0.heap.size w0 w183 ∧ w125.heap.size ≤ w183.heap.size ∧ Box w183 b7 24 #[(.bool n_1.1), (.slice pa1_0 (List.length n_1.2) pc1_0)] ∧ Box w183 b13 24 #[(.bool false), (.slice none (List.length ([] : List Int)) 0)] ∧ Box w183 b19 27 #[(.int .u64 0), (.int .u64 0)] ∧ Box w183 b25 29 #[(.int .i64 0), (.int .i64 0)] ∧ a.defers = [] ∧ a.tmps.size = 50 ∧ Ok [(3, (.pointer (some ⟨b7, 0, none⟩))), (4, (.pointer (some ⟨b13, 0, none⟩))), (5, (.pointer (some ⟨b19, 0, none⟩))), (6, (.pointer (some ⟨b25, 0, none⟩))), (7, (.pointer none)), (29, (.bool j182))] a.tmps) ?_ ?_
        · skip
          refine gv_pure 1 [3, 4, 5, 6, 7, 30] (σ' := [(3, (.pointer (some ⟨b7, 0, none⟩))), (4, (.pointer (some ⟨b13, 0, none⟩))), (5, (.pointer (some ⟨b19, 0, none⟩))), (6, (.pointer (some ⟨b25, 0, none⟩))), (7, (.pointer none)), (30, (.pointer (some ⟨b7, 0, none⟩)))]) (by kernel_rfl) ?_
          have hk184 := hk116.grown hg126 nb
          refine gv_load (t := 4) (A := ⟨b7, 0, none⟩) (.bool n_1.1) [3, 4, 5, 6, 7, 31] (σ' := [(3, (.pointer (some ⟨b7, 0, none⟩))), (4, (.pointer (some ⟨b13, 0, none⟩))), (5, (.pointer (some ⟨b19, 0, none⟩))), (6, (.pointer (some ⟨b25, 0, none⟩))), (7, (.pointer none)), (31, (.bool n_1.1))]) (fun e => by cases e) (by rfl) (by rfl) (by rfl) (by kernel_rfl) (by kernel_rfl) (by kernel_rfl) (inw0 (hk184.cell 0 rfl)) (by kernel_rfl) ?_
          refine gv_pure 1 [3, 4, 5, 6, 7, 32] (σ' := [(3, (.pointer (some ⟨b7, 0, none⟩))), (4, (.pointer (some ⟨b13, 0, none⟩))), (5, (.pointer (some ⟨b19, 0, none⟩))), (6, (.pointer (some ⟨b25, 0, none⟩))), (7, (.pointer none)), (32, (.bool n_1.1))]) (by kernel_rfl) ?_
          refine gv_split (s := 32) (g := n_1.1) (by rfl) (fun hc185 => ?_) (fun hc185 => ?_)
          · skip
            replace h1 := ite_t hc185 h1
            refine gv_pure 6 [3, 4, 5, 6, 7, 29] (σ' := [(3, (.pointer (some ⟨b7, 0, none⟩))), (4, (.pointer (some ⟨b13, 0, none⟩))), (5, (.pointer (some ⟨b19, 0, none⟩))), (6, (.pointer (some ⟨b25, 0, none⟩))), (7, (.pointer none)), (29, (.bool true))]) (by kernel_rfl) ?_
            refine gv_nil ?_
            have e := Option.some.inj h1; subst e
            refine gv_goal fun a hd hs hok => ?_
            obtain ⟨q3, q4, q5, q6, q7, q29, _⟩ := hok
            have hB186 := below_grown hB124 hg126 hB124.size nb
            have hg187 := (grown_trans (grown_trans (grown_trans hg21 hg27) hg36) hg48)
            have hg188 := (grown_trans (grown_trans hg21 hg27) hg36)
            have hk189 := hb16.grown hg188 nb
            have ap190 : ¬ (· = b13) b46 := fun hx => Nat.not_lt_of_le ((lowb hbe50) _ rfl) ((fun k (hk : k = b13) => Nat.lt_of_le_of_lt (Nat.le_of_eq hk) hk189.lt) _ hx)
            have hk191 := ((hb16.grown hg187 nb).grown hg53 (rowne ap190)).grown hg126 nb
            have hg192 := (grown_trans (grown_trans hg27 hg36) hg48)
            have hg193 := (grown_trans hg27 hg36)
            have hk194 := hb22.grown hg193 nb
            have ap195 : ¬ (· = b19) b46 := fun hx => Nat.not_lt_of_le ((lowb hbe50) _ rfl) ((fun k (hk : k = b19) => Nat.lt_of_le_of_lt (Nat.le_of_eq hk) hk194.lt) _ hx)
            have hk196 := ((hb22.grown hg192 nb).grown hg53 (rowne ap195)).grown hg126 nb
            have hg197 := (grown_trans hg36 hg48)
            have hk198 := hb28.grown hg36 nb
            have ap199 : ¬ (· = b25) b46 := fun hx => Nat.not_lt_of_le ((lowb hbe50) _ rfl) ((fun k (hk : k = b25) => Nat.lt_of_le_of_lt (Nat.le_of_eq hk) hk198.lt) _ hx)
            have hk200 := ((hb28.grown hg197 nb).grown hg53 (rowne ap199)).grown hg126 nb
            exact ⟨hB186, (Nat.le_refl _), hk184, hk191, hk196, hk200, hd, hs, ⟨q3, q4, q5, q6, q7, q29, trivial⟩⟩
          · skip
            replace h1 := ite_f hc185 h1
            refine gv_pure 1 [3, 4, 5, 6, 7, 32, 33] (σ' := [(3, (.pointer (some ⟨b7, 0, none⟩))), (4, (.pointer (some ⟨b13, 0, none⟩))), (5, (.pointer (some ⟨b19, 0, none⟩))), (6, (.pointer (some ⟨b25, 0, none⟩))), (7, (.pointer none)), (32, (.bool false)), (33, (.pointer (some ⟨b7, 1, none⟩)))]) (by kernel_rfl) ?_
            refine gv_load (t := 22) (A := ⟨b7, 1, none⟩) (.slice pa1_0 (List.length n_1.2) pc1_0) [3, 4, 5, 6, 7, 32, 34] (σ' := [(3, (.pointer (some ⟨b7, 0, none⟩))), (4, (.pointer (some ⟨b13, 0, none⟩))), (5, (.pointer (some ⟨b19, 0, none⟩))), (6, (.pointer (some ⟨b25, 0, none⟩))), (7, (.pointer none)), (32, (.bool false)), (34, (.slice pa1_0 (List.length n_1.2) pc1_0))]) (fun e => by cases e) (by rfl) (by rfl) (by rfl) (by kernel_rfl) (by kernel_rfl) (by kernel_rfl) (inw0 (hk184.cell 1 rfl)) (by kernel_rfl) ?_
            refine gv_pure 4 [3, 4, 5, 6, 7, 29] (σ' := [(3, (.pointer (some ⟨b7, 0, none⟩))), (4, (.pointer (some ⟨b13, 0, none⟩))), (5, (.pointer (some ⟨b19, 0, none⟩))), (6, (.pointer (some ⟨b25, 0, none⟩))), (7, (.pointer none)), (29, (.bool (((List.length n_1.2 : Nat) : Int) == 0)))]) (by kernel_rfl) ?_
            refine gv_nil ?_
            have e := Option.some.inj h1; subst e
            refine gv_goal fun a hd hs hok => ?_
            obtain ⟨q3, q4, q5, q6, q7, q29, _⟩ := hok
            have hB201 := below_grown hB124 hg126 hB124.size nb
            have hg202 := (grown_trans (grown_trans (grown_trans hg21 hg27) hg36) hg48)
            have hg203 := (grown_trans (grown_trans hg21 hg27) hg36)
            have hk204 := hb16.grown hg203 nb
            have ap205 : ¬ (· = b13) b46 := fun hx => Nat.not_lt_of_le ((lowb hbe50) _ rfl) ((fun k (hk : k = b13) => Nat.lt_of_le_of_lt (Nat.le_of_eq hk) hk204.lt) _ hx)
            have hk206 := ((hb16.grown hg202 nb).grown hg53 (rowne ap205)).grown hg126 nb
            have hg207 := (grown_trans (grown_trans hg27 hg36) hg48)
            have hg208 := (grown_trans hg27 hg36)
            have hk209 := hb22.grown hg208 nb
            have ap210 : ¬ (· = b19) b46 := fun hx => Nat.not_lt_of_le ((lowb hbe50) _ rfl) ((fun k (hk : k = b19) => Nat.lt_of_le_of_lt (Nat.le_of_eq hk) hk209.lt) _ hx)
            have hk211 := ((hb22.grown hg207 nb).grown hg53 (rowne ap210)).grown hg126 nb
            have hg212 := (grown_trans hg36 hg48)
            have hk213 := hb28.grown hg36 nb
            have ap214 : ¬ (· = b25) b46 := fun hx => Nat.not_lt_of_le ((lowb hbe50) _ rfl) ((fun k (hk : k = b25) => Nat.lt_of_le_of_lt (Nat.le_of_eq hk) hk213.lt) _ hx)
            have hk215 := ((hb28.grown hg212 nb).grown hg53 (rowne ap214)).grown hg126 nb
            exact ⟨hB201, (Nat.le_refl _), hk184, hk206, hk211, hk215, hd, hs, ⟨q3, q4, q5, q6, q7, q29, trivial⟩⟩
        · rintro a w183 ⟨hB216, hz217, hb218, hb219, hb220, hb221, hd, hs, hok⟩
          refine (?_ : Run Try.prog _ 50 _ .normal [(3, (.pointer (some ⟨b7, 0, none⟩))), (4, (.pointer (some ⟨b13, 0, none⟩))), (5, (.pointer (some ⟨b19, 0, none⟩))), (6, (.pointer (some ⟨b25, 0, none⟩))), (7, (.pointer none)), (29, (.bool j182))] w183) a hd hs hok
          clear hd hs hok
          clear hz217 hc128 hg126 hB124 hlo123 hB122 hg121 hB120 hg119 hr118 hk116 ap115 hk114 hg113 hg112 hc56 hb54 hg53 hbe50 hg48 hg36 hb28 hg27
          refine gv_cond (b := j182) (by rfl) (fun hc222 => ?_) (fun hc222 => ?_)
          · replace h0 := ite_t hc222 h0
            refine gv_seq ?_
            refine gv_region ?_
            refine gv_pure 2 [4, 5, 6, 38, 39] (σ' := [(4, (.pointer (some ⟨b13, 0, none⟩))), (5, (.pointer (some ⟨b19, 0, none⟩))), (6, (.pointer (some ⟨b25, 0, none⟩))), (38, (.agg #[(.bool false), (.slice none (List.length ([] : List Int)) 0)])), (39, (.agg #[(.int .u64 0), (.int .u64 0)]))]) (by kernel_rfl) ?_
            refine bindE h0 ?_; clear h0; intro r223 hr224 h0
            refine gv_call (f := 37) (vs := [(.int .i64 4), (.int .i64 (-2))]) (cap := []) _ (by decide) (by rfl) (by rfl) rfl (by rfl) (by rfl) enters37 (random_at_ok fuel 4 (-2) w183  r223 hr224) ?_
            rintro v227 w225 ⟨hg226, rfl⟩
            refine ⟨(fun e => by cases e), ?_⟩
            have hk232 := hb219.grown hg226 nb
            refine gv_sub [4, 5, 6, 38, 39, 40] (σ' := [(4, (.pointer (some ⟨b13, 0, none⟩))), (5, (.pointer (some ⟨b19, 0, none⟩))), (6, (.pointer (some ⟨b25, 0, none⟩))), (38, (.agg #[(.bool false), (.slice none (List.length ([] : List Int)) 0)])), (39, (.agg #[(.int .u64 0), (.int .u64 0)])), (40, (.agg #[(.int .i64 r223.1), (.int .i64 r223.2)]))]) (by kernel_rfl) ?_
            refine gv_store (t := 24) (b := b13) (off := 0) (v := (.agg #[(.bool false), (.slice none (List.length ([] : List Int)) 0)])) (t' := 24) (cs := #[(.bool false), (.slice none (List.length ([] : List Int)) 0)]) #[(.bool false), (.slice none (List.length ([] : List Int)) 0)] (by decide) (by rfl) (by rfl) (by kernel_rfl) (by kernel_rfl) (by kernel_rfl) (by intro u hu; simp [Value.cells] at hu; rcases hu with rfl | rfl <;> rfl) (show 0 + 2 ≤ 2 by decide) (by rfl) hk232 ?_
            intro w228 hg229 hb230 hz231
            refine ⟨(fun e => by cases e), ?_⟩
            have ap237 : ¬ (· = b19) b13 := fun hx => Nat.not_lt_of_le ((lowb hbe23) _ hx) ((fun k (hk : k = b13) => Nat.lt_of_le_of_lt (Nat.le_of_eq hk) hb16.lt) _ rfl)
            have hk238 := (hb220.grown hg226 nb).grown hg229 (rowne ap237)
            refine gv_sub [4, 5, 6, 39, 40] (σ' := [(4, (.pointer (some ⟨b13, 0, none⟩))), (5, (.pointer (some ⟨b19, 0, none⟩))), (6, (.pointer (some ⟨b25, 0, none⟩))), (39, (.agg #[(.int .u64 0), (.int .u64 0)])), (40, (.agg #[(.int .i64 r223.1), (.int .i64 r223.2)]))]) (by kernel_rfl) ?_
            refine gv_store (t := 27) (b := b19) (off := 0) (v := (.agg #[(.int .u64 0), (.int .u64 0)])) (t' := 27) (cs := #[(.int .u64 0), (.int .u64 0)]) #[(.int .u64 0), (.int .u64 0)] (by decide) (by rfl) (by rfl) (by kernel_rfl) (by kernel_rfl) (by kernel_rfl) (by intro u hu; simp [Value.cells] at hu; rcases hu with rfl | rfl <;> rfl) (show 0 + 2 ≤ 2 by decide) (by rfl) hk238 ?_
            intro w233 hg234 hb235 hz236
            refine ⟨(fun e => by cases e), ?_⟩
            have hk243 := hb16.grown hg21 nb
            have ap244 : ¬ (· = b25) b13 := fun hx => Nat.not_lt_of_le ((lowb hbe29) _ hx) ((fun k (hk : k = b13) => Nat.lt_of_le_of_lt (Nat.le_of_eq hk) hk243.lt) _ rfl)
            have ap245 : ¬ (· = b25) b19 := fun hx => Nat.not_lt_of_le ((lowb hbe29) _ hx) ((fun k (hk : k = b19) => Nat.lt_of_le_of_lt (Nat.le_of_eq hk) hb22.lt) _ rfl)
            have hk246 := ((hb221.grown hg226 nb).grown hg229 (rowne ap244)).grown hg234 (rowne ap245)
            refine gv_sub [4, 5, 6, 40] (σ' := [(4, (.pointer (some ⟨b13, 0, none⟩))), (5, (.pointer (some ⟨b19, 0, none⟩))), (6, (.pointer (some ⟨b25, 0, none⟩))), (40, (.agg #[(.int .i64 r223.1), (.int .i64 r223.2)]))]) (by kernel_rfl) ?_
            refine gv_store (t := 29) (b := b25) (off := 0) (v := (.agg #[(.int .i64 r223.1), (.int .i64 r223.2)])) (t' := 29) (cs := #[(.int .i64 0), (.int .i64 0)]) #[(.int .i64 r223.1), (.int .i64 r223.2)] (by decide) (by rfl) (by rfl) (by kernel_rfl) (by kernel_rfl) (by kernel_rfl) (by intro u hu; simp [Value.cells] at hu; rcases hu with rfl | rfl <;> rfl) (show 0 + 2 ≤ 2 by decide) (by rfl) hk246 ?_
            intro w239 hg240 hb241 hz242
            refine ⟨(fun e => by cases e), ?_⟩
            refine gv_sub [4, 5, 6] (σ' := [(4, (.pointer (some ⟨b13, 0, none⟩))), (5, (.pointer (some ⟨b19, 0, none⟩))), (6, (.pointer (some ⟨b25, 0, none⟩)))]) (by kernel_rfl) ?_
            refine gv_nil ?_
            refine gv_cret ?_
            have e := Option.some.inj h0; subst e
            have ap247 : ¬ (· = b13) b19 := fun hx => Nat.not_lt_of_le ((lowb hbe23) _ rfl) ((fun k (hk : k = b13) => Nat.lt_of_le_of_lt (Nat.le_of_eq hk) hb16.lt) _ hx)
            have ap248 : ¬ (· = b13) b25 := fun hx => Nat.not_lt_of_le ((lowb hbe29) _ rfl) ((fun k (hk : k = b13) => Nat.lt_of_le_of_lt (Nat.le_of_eq hk) hk243.lt) _ hx)
            have hk249 := (hb230.grown hg234 (rowne ap247)).grown hg240 (rowne ap248)
            have ap250 : ¬ (· = b19) b25 := fun hx => Nat.not_lt_of_le ((lowb hbe29) _ rfl) ((fun k (hk : k = b19) => Nat.lt_of_le_of_lt (Nat.le_of_eq hk) hb22.lt) _ hx)
            have hk251 := hb235.grown hg240 (rowne ap250)
            refine gv_ret (gv_done [(.agg #[(.bool false), (.slice none (List.length ([] : List Int)) 0)]), (.agg #[(.int .u64 0), (.int .u64 0)]), (.agg #[(.int .i64 r223.1), (.int .i64 r223.2)])] rfl ⟨⟨_, rfl, run_loadVar_row w239 b13 _ 24 _ _ _ hk249 Try.underlying24 rfl (by kernel_rfl)⟩, ⟨_, rfl, run_loadVar_row w239 b19 _ 27 _ _ _ hk251 Try.underlying27 rfl (by kernel_rfl)⟩, ⟨_, rfl, run_loadVar_row w239 b25 _ 29 _ _ _ hb241 Try.underlying29 rfl (by kernel_rfl)⟩, trivial⟩ ?_)
            have hB252 := below_grown hB216 hg226 hB216.size nb
            have hg253 := (grown_trans hg3 hg9)
            have hB254 := below_grown hB0 hg253 hB0.size nb
            have hlo255 : w0.heap.size ≤ b13 := lob hbe17 hB254.size
            have hB256 := below_grown hB252 hg229 hB252.size (rowlo hlo255)
            have hB257 := below_grown hB254 hg15 hB254.size nb
            have hlo258 : w0.heap.size ≤ b19 := lob hbe23 hB257.size
            have hB259 := below_grown hB256 hg234 hB256.size (rowlo hlo258)
            have hB260 := below_grown hB257 hg21 hB257.size nb
            have hlo261 : w0.heap.size ≤ b25 := lob hbe29 hB260.size
            have hB262 := below_grown hB259 hg240 hB259.size (rowlo hlo261)
            exact ⟨grown_of_below hB262, none, 0, rfl, (Own.nil (iE .u32) 76 w239 (fun _ => False)), (fun _ h => by cases h)⟩
          · replace h0 := ite_f hc222 h0
            refine gv_skip ?_
            refine gv_blk ?_
            refine gv_seq ?_
            refine gv_region ?_
            refine gv_pure 1 [3, 4, 5, 6, 7, 41] (σ' := [(3, (.pointer (some ⟨b7, 0, none⟩))), (4, (.pointer (some ⟨b13, 0, none⟩))), (5, (.pointer (some ⟨b19, 0, none⟩))), (6, (.pointer (some ⟨b25, 0, none⟩))), (7, (.pointer none)), (41, (.pointer none))]) (by kernel_rfl) ?_
            refine gv_loadBox (t := 24) (b := b7) (t' := 24) (fr := (0, 0)) #[(.bool n_1.1), (.slice pa1_0 (List.length n_1.2) pc1_0)] [4, 5, 6, 7, 41, 42] (σ' := [(4, (.pointer (some ⟨b13, 0, none⟩))), (5, (.pointer (some ⟨b19, 0, none⟩))), (6, (.pointer (some ⟨b25, 0, none⟩))), (7, (.pointer none)), (41, (.pointer none)), (42, (.agg #[(.bool n_1.1), (.slice pa1_0 (List.length n_1.2) pc1_0)]))]) (fun e => by cases e) (by rfl) (by rfl) (by rfl) (by kernel_rfl) (by kernel_rfl) (by kernel_rfl) (by kernel_rfl) (inw0 hb218) (by kernel_rfl) ?_
            cases h0
  · skip
    replace h0 := optc_some hn41 h0
    have hg266 := (grown_trans hg3 hg31)
    have hB267 := below_grown hB0 hg266 hB0.size nb
    have hl265 : w0.heap.size ≤ b43 := Nat.le_trans hB267.size hlo45
    refine gv_pure 3 [3, 4, 5, 6, 13, 14] (σ' := [(3, (.pointer (some ⟨b7, 0, none⟩))), (4, (.pointer (some ⟨b13, 0, none⟩))), (5, (.pointer (some ⟨b19, 0, none⟩))), (6, (.pointer (some ⟨b25, 0, none⟩))), (13, (.pointer (some ⟨b43, 0, none⟩))), (14, (.agg #[(.int .i64 r33.2.1), (.int .i64 r33.2.2)]))]) (by kernel_rfl) ?_
    refine gv_new (fun b => .pointer (some ⟨b, 0, none⟩)) #[(.int .i64 0), (.int .i64 0)] 29 (by decide) (by rfl) (by rfl) (by kernel_rfl) (by kernel_rfl) ?_
    intro b268 w269 hg270 hb271 hbe272 hz273
    refine ⟨(fun e => by cases e), ?_⟩
    refine gv_pure 1 [3, 4, 5, 6, 7, 8, 14] (σ' := [(3, (.pointer (some ⟨b7, 0, none⟩))), (4, (.pointer (some ⟨b13, 0, none⟩))), (5, (.pointer (some ⟨b19, 0, none⟩))), (6, (.pointer (some ⟨b25, 0, none⟩))), (7, (.pointer (some ⟨b43, 0, none⟩))), (8, (.pointer (some ⟨b268, 0, none⟩))), (14, (.agg #[(.int .i64 r33.2.1), (.int .i64 r33.2.2)]))]) (by kernel_rfl) ?_
    refine gv_store (t := 29) (b := b268) (off := 0) (v := (.agg #[(.int .i64 r33.2.1), (.int .i64 r33.2.2)])) (t' := 29) (cs := #[(.int .i64 0), (.int .i64 0)]) #[(.int .i64 r33.2.1), (.int .i64 r33.2.2)] (by decide) (by rfl) (by rfl) (by kernel_rfl) (by kernel_rfl) (by kernel_rfl) (by intro u hu; simp [Value.cells] at hu; rcases hu with rfl | rfl <;> rfl) (show 0 + 2 ≤ 2 by decide) (by rfl) hb271 ?_
    intro w274 hg275 hb276 hz277
    refine ⟨(fun e => by cases e), ?_⟩
    refine gv_sub [3, 4, 5, 6, 7, 8] (σ' := [(3, (.pointer (some ⟨b7, 0, none⟩))), (4, (.pointer (some ⟨b13, 0, none⟩))), (5, (.pointer (some ⟨b19, 0, none⟩))), (6, (.pointer (some ⟨b25, 0, none⟩))), (7, (.pointer (some ⟨b43, 0, none⟩))), (8, (.pointer (some ⟨b268, 0, none⟩)))]) (by kernel_rfl) ?_
    refine gv_nil ?_
    refine gv_seq ?_
    refine gv_block ?_
    refine gv_seq ?_
    refine gv_region ?_
    refine gv_pure 1 [3, 4, 5, 6, 7, 8, 16] (σ' := [(3, (.pointer (some ⟨b7, 0, none⟩))), (4, (.pointer (some ⟨b13, 0, none⟩))), (5, (.pointer (some ⟨b19, 0, none⟩))), (6, (.pointer (some ⟨b25, 0, none⟩))), (7, (.pointer (some ⟨b43, 0, none⟩))), (8, (.pointer (some ⟨b268, 0, none⟩))), (16, (.pointer (some ⟨b268, 0, none⟩)))]) (by kernel_rfl) ?_
    refine gv_load (t := 3) (A := ⟨b268, 0, none⟩) (.int .i64 r33.2.1) [3, 4, 5, 6, 7, 8, 17] (σ' := [(3, (.pointer (some ⟨b7, 0, none⟩))), (4, (.pointer (some ⟨b13, 0, none⟩))), (5, (.pointer (some ⟨b19, 0, none⟩))), (6, (.pointer (some ⟨b25, 0, none⟩))), (7, (.pointer (some ⟨b43, 0, none⟩))), (8, (.pointer (some ⟨b268, 0, none⟩))), (17, (.int .i64 r33.2.1))]) (fun e => by cases e) (by rfl) (by rfl) (by rfl) (by kernel_rfl) (by kernel_rfl) (by kernel_rfl) (inw0 (hb276.cell 0 rfl)) (by kernel_rfl) ?_
    refine gv_pure 2 [3, 4, 5, 6, 7, 8, 15] (σ' := [(3, (.pointer (some ⟨b7, 0, none⟩))), (4, (.pointer (some ⟨b13, 0, none⟩))), (5, (.pointer (some ⟨b19, 0, none⟩))), (6, (.pointer (some ⟨b25, 0, none⟩))), (7, (.pointer (some ⟨b43, 0, none⟩))), (8, (.pointer (some ⟨b268, 0, none⟩))), (15, (.bool (r33.2.1 != 0)))]) (by kernel_rfl) ?_
    refine gv_nil ?_
    refine gv_cond (b := (r33.2.1 != 0)) (by rfl) (fun hc278 => ?_) (fun hc278 => ?_)
    · replace h0 := ite_t hc278 h0
      refine gv_seq ?_
      refine gv_drawA (by kernel_rfl) ?_
      intro w279 hg280
      refine gv_pre [0, 1] #[true, true, false, false, false, false] 4 (by kernel_rfl) (by rfl) ?_
      clear hc278 hz277 hz273 hb271 hg266 hr34 hg31 hz30 hz24 hz18 hz12 hz6 hb4
      refine gv_pure 2 [4, 5, 6, 8, 19, 20] (σ' := [(4, (.pointer (some ⟨b13, 0, none⟩))), (5, (.pointer (some ⟨b19, 0, none⟩))), (6, (.pointer (some ⟨b25, 0, none⟩))), (8, (.pointer (some ⟨b268, 0, none⟩))), (19, (.agg #[(.bool false), (.slice none (List.length ([] : List Int)) 0)])), (20, (.agg #[(.int .u64 0), (.int .u64 0)]))]) (by kernel_rfl) ?_
      refine gv_nil ?_
      refine gv_goal fun a hd hs hok => ?_
      refine (?_ : RunA Try.prog _ 50 _ _ 4 #[true, true, false, false, false, false] [(4, (.pointer (some ⟨b13, 0, none⟩))), (5, (.pointer (some ⟨b19, 0, none⟩))), (6, (.pointer (some ⟨b25, 0, none⟩))), (8, (.pointer (some ⟨b268, 0, none⟩))), (19, (.agg #[(.bool false), (.slice none (List.length ([] : List Int)) 0)])), (20, (.agg #[(.int .u64 0), (.int .u64 0)]))] w279) a hd hs hok
      clear hd hs hok
      refine gv_stage (Cls w279 [b13, b19]) [0, 1, 2, 3, 4] [(2, some true), (3, some false), (4, some false)] #[true, true, true, true, true, false] 1 (by kernel_rfl) (by rfl) (Cls.refl _ _) ?_
      have hC281 := Cls.refl w279 [b13, b19]
      have hk282 := hb276.grown hg280 nb
      have hg283 := (grown_trans (grown_trans hg21 hg27) hg36)
      have hk284 := hb16.grown hg283 nb
      have ap285 : ¬ (· = b13) b268 := fun hx => Nat.not_lt_of_le ((lowb hbe272) _ rfl) ((fun k (hk : k = b13) => Nat.lt_of_le_of_lt (Nat.le_of_eq hk) hk284.lt) _ hx)
      have hg286 := (grown_trans hg27 hg36)
      have hk287 := hb22.grown hg286 nb
      have ap288 : ¬ (· = b19) b268 := fun hx => Nat.not_lt_of_le ((lowb hbe272) _ rfl) ((fun k (hk : k = b19) => Nat.lt_of_le_of_lt (Nat.le_of_eq hk) hk287.lt) _ hx)
      refine gv_loadBox (t := 29) (b := b268) (t' := 29) (fr := (0, 0)) #[(.int .i64 r33.2.1), (.int .i64 r33.2.2)] [4, 5, 6, 19, 20, 21] (σ' := [(4, (.pointer (some ⟨b13, 0, none⟩))), (5, (.pointer (some ⟨b19, 0, none⟩))), (6, (.pointer (some ⟨b25, 0, none⟩))), (19, (.agg #[(.bool false), (.slice none (List.length ([] : List Int)) 0)])), (20, (.agg #[(.int .u64 0), (.int .u64 0)])), (21, (.agg #[(.int .i64 r33.2.1), (.int .i64 r33.2.2)]))]) (fun e => by cases e) (by rfl) (by rfl) (by rfl) (by kernel_rfl) (by kernel_rfl) (by kernel_rfl) (by kernel_rfl) (inw1 fun w' hC' => (hC'.box hk282 (nm_cons ap285 (nm_cons ap288 nm_nil)))) (by kernel_rfl) ?_
      have hk293 := ((hk284.grown hg270 nb).grown hg275 (rowne ap285)).grown hg280 nb
      refine gv_store (t := 24) (b := b13) (off := 0) (v := (.agg #[(.bool false), (.slice none (List.length ([] : List Int)) 0)])) (t' := 24) (cs := #[(.bool false), (.slice none (List.length ([] : List Int)) 0)]) #[(.bool false), (.slice none (List.length ([] : List Int)) 0)] (by decide) (by rfl) (by rfl) (by kernel_rfl) (by kernel_rfl) (by kernel_rfl) (by intro u hu; simp [Value.cells] at hu; rcases hu with rfl | rfl <;> rfl) (show 0 + 2 ≤ 2 by decide) (by rfl) hk293 ?_
      intro w289 hg290 hb291 hz292
      refine ⟨(fun _ => hC281.grown hg290 (rowm (List.Mem.head _))), ?_⟩
      have ap298 : ¬ (· = b19) b13 := fun hx => Nat.not_lt_of_le ((lowb hbe23) _ hx) ((fun k (hk : k = b13) => Nat.lt_of_le_of_lt (Nat.le_of_eq hk) hb16.lt) _ rfl)
      have hk299 := (((hk287.grown hg270 nb).grown hg275 (rowne ap288)).grown hg280 nb).grown hg290 (rowne ap298)
      refine gv_sub [4, 5, 6, 20, 21] (σ' := [(4, (.pointer (some ⟨b13, 0, none⟩))), (5, (.pointer (some ⟨b19, 0, none⟩))), (6, (.pointer (some ⟨b25, 0, none⟩))), (20, (.agg #[(.int .u64 0), (.int .u64 0)])), (21, (.agg #[(.int .i64 r33.2.1), (.int .i64 r33.2.2)]))]) (by kernel_rfl) ?_
      refine gv_store (t := 27) (b := b19) (off := 0) (v := (.agg #[(.int .u64 0), (.int .u64 0)])) (t' := 27) (cs := #[(.int .u64 0), (.int .u64 0)]) #[(.int .u64 0), (.int .u64 0)] (by decide) (by rfl) (by rfl) (by kernel_rfl) (by kernel_rfl) (by kernel_rfl) (by intro u hu; simp [Value.cells] at hu; rcases hu with rfl | rfl <;> rfl) (show 0 + 2 ≤ 2 by decide) (by rfl) hk299 ?_
      intro w294 hg295 hb296 hz297
      have hC300 := hC281.grown hg290 (rowm (List.Mem.head _))
      refine ⟨(fun _ => hC300.grown hg295 (rowm (List.Mem.tail _ (List.Mem.head _)))), ?_⟩
      refine gv_sub [4, 5, 6, 21] (σ' := [(4, (.pointer (some ⟨b13, 0, none⟩))), (5, (.pointer (some ⟨b19, 0, none⟩))), (6, (.pointer (some ⟨b25, 0, none⟩))), (21, (.agg #[(.int .i64 r33.2.1), (.int .i64 r33.2.2)]))]) (by kernel_rfl) ?_
      refine gv_nil ?_
      refine gv_goal fun a hd hs hok => ?_
      refine (?_ : RunA Try.prog _ 50 _ _ 1 #[true, true, true, true, true, false] [(4, (.pointer (some ⟨b13, 0, none⟩))), (5, (.pointer (some ⟨b19, 0, none⟩))), (6, (.pointer (some ⟨b25, 0, none⟩))), (21, (.agg #[(.int .i64 r33.2.1), (.int .i64 r33.2.2)]))] w294) a hd hs hok
      clear hd hs hok
      refine gv_stage (fun _ => True) [0, 1, 2, 3, 4, 5] [(5, some false)] #[true, true, true, true, true, true] 0 (by kernel_rfl) (by rfl) trivial ?_
      have hg305 := (grown_trans hg36 hg270)
      have hk306 := hb28.grown hg36 nb
      have ap307 : ¬ (· = b25) b268 := fun hx => Nat.not_lt_of_le ((lowb hbe272) _ rfl) ((fun k (hk : k = b25) => Nat.lt_of_le_of_lt (Nat.le_of_eq hk) hk306.lt) _ hx)
      have hk308 := hb16.grown hg21 nb
      have ap309 : ¬ (· = b25) b13 := fun hx => Nat.not_lt_of_le ((lowb hbe29) _ hx) ((fun k (hk : k = b13) => Nat.lt_of_le_of_lt (Nat.le_of_eq hk) hk308.lt) _ rfl)
      have ap310 : ¬ (· = b25) b19 := fun hx => Nat.not_lt_of_le ((lowb hbe29) _ hx) ((fun k (hk : k = b19) => Nat.lt_of_le_of_lt (Nat.le_of_eq hk) hb22.lt) _ rfl)
      have hk311 := ((((hb28.grown hg305 nb).grown hg275 (rowne ap307)).grown hg280 nb).grown hg290 (rowne ap309)).grown hg295 (rowne ap310)
      refine gv_store (t := 29) (b := b25) (off := 0) (v := (.agg #[(.int .i64 r33.2.1), (.int .i64 r33.2.2)])) (t' := 29) (cs := #[(.int .i64 0), (.int .i64 0)]) #[(.int .i64 r33.2.1), (.int .i64 r33.2.2)] (by decide) (by rfl) (by rfl) (by kernel_rfl) (by kernel_rfl) (by kernel_rfl) (by intro u hu; simp [Value.cells] at hu; rcases hu with rfl | rfl <;> rfl) (show 0 + 2 ≤ 2 by decide) (by rfl) hk311 ?_
      intro w301 hg302 hb303 hz304
      refine ⟨(fun _ => trivial), ?_⟩
      refine gv_sub [4, 5, 6] (σ' := [(4, (.pointer (some ⟨b13, 0, none⟩))), (5, (.pointer (some ⟨b19, 0, none⟩))), (6, (.pointer (some ⟨b25, 0, none⟩)))]) (by kernel_rfl) ?_
      refine gv_nil ?_
      refine gv_goal fun a hd hs hok => ?_
      refine (?_ : RunA Try.prog _ 50 _ _ 0 #[true, true, true, true, true, true] [(4, (.pointer (some ⟨b13, 0, none⟩))), (5, (.pointer (some ⟨b19, 0, none⟩))), (6, (.pointer (some ⟨b25, 0, none⟩)))] w301) a hd hs hok
      clear hd hs hok
      refine gv_stageE (by kernel_rfl) ?_
      refine gv_cret ?_
      have e := Option.some.inj h0; subst e
      have ap312 : ¬ (· = b13) b19 := fun hx => Nat.not_lt_of_le ((lowb hbe23) _ rfl) ((fun k (hk : k = b13) => Nat.lt_of_le_of_lt (Nat.le_of_eq hk) hb16.lt) _ hx)
      have ap313 : ¬ (· = b13) b25 := fun hx => Nat.not_lt_of_le ((lowb hbe29) _ rfl) ((fun k (hk : k = b13) => Nat.lt_of_le_of_lt (Nat.le_of_eq hk) hk308.lt) _ hx)
      have hk314 := (hb291.grown hg295 (rowne ap312)).grown hg302 (rowne ap313)
      have ap315 : ¬ (· = b19) b25 := fun hx => Nat.not_lt_of_le ((lowb hbe29) _ rfl) ((fun k (hk : k = b19) => Nat.lt_of_le_of_lt (Nat.le_of_eq hk) hb22.lt) _ hx)
      have hk316 := hb296.grown hg302 (rowne ap315)
      refine gv_ret (gv_done [(.agg #[(.bool false), (.slice none (List.length ([] : List Int)) 0)]), (.agg #[(.int .u64 0), (.int .u64 0)]), (.agg #[(.int .i64 r33.2.1), (.int .i64 r33.2.2)])] rfl ⟨⟨_, rfl, run_loadVar_row w301 b13 _ 24 _ _ _ hk314 Try.underlying24 rfl (by kernel_rfl)⟩, ⟨_, rfl, run_loadVar_row w301 b19 _ 27 _ _ _ hk316 Try.underlying27 rfl (by kernel_rfl)⟩, ⟨_, rfl, run_loadVar_row w301 b25 _ 29 _ _ _ hb303 Try.underlying29 rfl (by kernel_rfl)⟩, trivial⟩ ?_)
      have hB317 := below_grown hB267 hg305 hB267.size nb
      have hB318 := below_grown hB267 hg36 hB267.size nb
      have hlo319 : w0.heap.size ≤ b268 := lob hbe272 hB318.size
      have hB320 := below_grown hB317 hg275 hB317.size (rowlo hlo319)
      have hB321 := below_grown hB320 hg280 hB320.size nb
      have hg322 := (grown_trans hg3 hg9)
      have hB323 := below_grown hB0 hg322 hB0.size nb
      have hlo324 : w0.heap.size ≤ b13 := lob hbe17 hB323.size
      have hB325 := below_grown hB321 hg290 hB321.size (rowlo hlo324)
      have hB326 := below_grown hB323 hg15 hB323.size nb
      have hlo327 : w0.heap.size ≤ b19 := lob hbe23 hB326.size
      have hB328 := below_grown hB325 hg295 hB325.size (rowlo hlo327)
      have hB329 := below_grown hB326 hg21 hB326.size nb
      have hlo330 : w0.heap.size ≤ b25 := lob hbe29 hB329.size
      have hB331 := below_grown hB328 hg302 hB328.size (rowlo hlo330)
      exact ⟨grown_of_below hB331, none, 0, rfl, (Own.nil (iE .u32) 76 w301 (fun _ => False)), (fun _ h => by cases h)⟩
    · replace h0 := ite_f hc278 h0
      refine gv_seq ?_
      refine gv_region ?_
      have hg332 := (grown_trans (grown_trans (grown_trans (grown_trans hg15 hg21) hg27) hg36) hg270)
      have hg333 := (grown_trans (grown_trans (grown_trans hg15 hg21) hg27) hg36)
      have hk334 := hb10.grown hg333 nb
      have ap335 : ¬ (· = b7) b268 := fun hx => Nat.not_lt_of_le ((lowb hbe272) _ rfl) ((fun k (hk : k = b7) => Nat.lt_of_le_of_lt (Nat.le_of_eq hk) hk334.lt) _ hx)
      have hk336 := (hb10.grown hg332 nb).grown hg275 (rowne ap335)
      refine gv_loadBox (t := 24) (b := b7) (t' := 24) (fr := (0, 0)) #[(.bool n_1.1), (.slice pa1_0 (List.length n_1.2) pc1_0)] [3, 4, 5, 6, 7, 23] (σ' := [(3, (.pointer (some ⟨b7, 0, none⟩))), (4, (.pointer (some ⟨b13, 0, none⟩))), (5, (.pointer (some ⟨b19, 0, none⟩))), (6, (.pointer (some ⟨b25, 0, none⟩))), (7, (.pointer (some ⟨b43, 0, none⟩))), (23, (.agg #[(.bool n_1.1), (.slice pa1_0 (List.length n_1.2) pc1_0)]))]) (fun e => by cases e) (by rfl) (by rfl) (by rfl) (by kernel_rfl) (by kernel_rfl) (by kernel_rfl) (by kernel_rfl) (inw0 hk336) (by kernel_rfl) ?_
      refine bindE h0 ?_; clear h0; intro r337 hr338 h0
      have hg339 := (grown_trans hg36 hg270)
      have hB340 := below_grown hB267 hg339 hB267.size nb
      have hB341 := below_grown hB267 hg36 hB267.size nb
      have hlo342 : w0.heap.size ≤ b268 := lob hbe272 hB341.size
      have hB343 := below_grown hB340 hg275 hB340.size (rowlo hlo342)
      refine gv_call (f := 36) (vs := [(.agg #[(.bool n_1.1), (.slice pa1_0 (List.length n_1.2) pc1_0)])]) (cap := []) _ (by decide) (by rfl) (by rfl) rfl (by rfl) (by rfl) enters36 (integer_Valid_ok fuel pa1_0 pc1_0 (n_1.1, n_1.2) w274 (fun k => X0 k) (fun k hk => (fun k (hk : X0 k) => Nat.lt_of_lt_of_le (hX0 k hk) hB343.size) k hk) ((hpa1_0.below hB343 hX0).wide (fun k hk => hk)) r337 hr338) ?_
      rintro v346 w344 ⟨hg345, rfl⟩
      refine ⟨(fun e => by cases e), ?_⟩
      refine gv_pure 2 [3, 4, 5, 6, 7, 22] (σ' := [(3, (.pointer (some ⟨b7, 0, none⟩))), (4, (.pointer (some ⟨b13, 0, none⟩))), (5, (.pointer (some ⟨b19, 0, none⟩))), (6, (.pointer (some ⟨b25, 0, none⟩))), (7, (.pointer (some ⟨b43, 0, none⟩))), (22, (.bool (!r337)))]) (by kernel_rfl) ?_
      refine gv_nil ?_
      refine gv_cond (b := (!r337)) (by rfl) (fun hc347 => ?_) (fun hc347 => ?_)
      · replace h0 := ite_t hc347 h0
        refine gv_seq ?_
        refine gv_region ?_
        refine gv_pure 2 [4, 5, 6, 26, 27] (σ' := [(4, (.pointer (some ⟨b13, 0, none⟩))), (5, (.pointer (some ⟨b19, 0, none⟩))), (6, (.pointer (some ⟨b25, 0, none⟩))), (26, (.agg #[(.bool false), (.slice none (List.length ([] : List Int)) 0)])), (27, (.agg #[(.int .u64 0), (.int .u64 0)]))]) (by kernel_rfl) ?_
        refine bindE h0 ?_; clear h0; intro r348 hr349 h0
        refine gv_call (f := 37) (vs := [(.int .i64 6), (.int .i64 (-2))]) (cap := []) _ (by decide) (by rfl) (by rfl) rfl (by rfl) (by rfl) enters37 (random_at_ok fuel 6 (-2) w344  r348 hr349) ?_
        rintro v352 w350 ⟨hg351, rfl⟩
        refine ⟨(fun e => by cases e), ?_⟩
        have hg357 := (grown_trans (grown_trans hg21 hg27) hg339)
        have hg358 := (grown_trans (grown_trans hg21 hg27) hg36)
        have hk359 := hb16.grown hg358 nb
        have ap360 : ¬ (· = b13) b268 := fun hx => Nat.not_lt_of_le ((lowb hbe272) _ rfl) ((fun k (hk : k = b13) => Nat.lt_of_le_of_lt (Nat.le_of_eq hk) hk359.lt) _ hx)
        have hg361 := (grown_trans hg345 hg351)
        have hk362 := ((hb16.grown hg357 nb).grown hg275 (rowne ap360)).grown hg361 nb
        refine gv_sub [4, 5, 6, 26, 27, 28] (σ' := [(4, (.pointer (some ⟨b13, 0, none⟩))), (5, (.pointer (some ⟨b19, 0, none⟩))), (6, (.pointer (some ⟨b25, 0, none⟩))), (26, (.agg #[(.bool false), (.slice none (List.length ([] : List Int)) 0)])), (27, (.agg #[(.int .u64 0), (.int .u64 0)])), (28, (.agg #[(.int .i64 r348.1), (.int .i64 r348.2)]))]) (by kernel_rfl) ?_
        refine gv_store (t := 24) (b := b13) (off := 0) (v := (.agg #[(.bool false), (.slice none (List.length ([] : List Int)) 0)])) (t' := 24) (cs := #[(.bool false), (.slice none (List.length ([] : List Int)) 0)]) #[(.bool false), (.slice none (List.length ([] : List Int)) 0)] (by decide) (by rfl) (by rfl) (by kernel_rfl) (by kernel_rfl) (by kernel_rfl) (by intro u hu; simp [Value.cells] at hu; rcases hu with rfl | rfl <;> rfl) (show 0 + 2 ≤ 2 by decide) (by rfl) hk362 ?_
        intro w353 hg354 hb355 hz356
        refine ⟨(fun e => by cases e), ?_⟩
        have hg367 := (grown_trans hg27 hg339)
        have hg368 := (grown_trans hg27 hg36)
        have hk369 := hb22.grown hg368 nb
        have ap370 : ¬ (· = b19) b268 := fun hx => Nat.not_lt_of_le ((lowb hbe272) _ rfl) ((fun k (hk : k = b19) => Nat.lt_of_le_of_lt (Nat.le_of_eq hk) hk369.lt) _ hx)
        have ap371 : ¬ (· = b19) b13 := fun hx => Nat.not_lt_of_le ((lowb hbe23) _ hx) ((fun k (hk : k = b13) => Nat.lt_of_le_of_lt (Nat.le_of_eq hk) hb16.lt) _ rfl)
        have hk372 := (((hb22.grown hg367 nb).grown hg275 (rowne ap370)).grown hg361 nb).grown hg354 (rowne ap371)
        refine gv_sub [4, 5, 6, 27, 28] (σ' := [(4, (.pointer (some ⟨b13, 0, none⟩))), (5, (.pointer (some ⟨b19, 0, none⟩))), (6, (.pointer (some ⟨b25, 0, none⟩))), (27, (.agg #[(.int .u64 0), (.int .u64 0)])), (28, (.agg #[(.int .i64 r348.1), (.int .i64 r348.2)]))]) (by kernel_rfl) ?_
        refine gv_store (t := 27) (b := b19) (off := 0) (v := (.agg #[(.int .u64 0), (.int .u64 0)])) (t' := 27) (cs := #[(.int .u64 0), (.int .u64 0)]) #[(.int .u64 0), (.int .u64 0)] (by decide) (by rfl) (by rfl) (by kernel_rfl) (by kernel_rfl) (by kernel_rfl) (by intro u hu; simp [Value.cells] at hu; rcases hu with rfl | rfl <;> rfl) (show 0 + 2 ≤ 2 by decide) (by rfl) hk372 ?_
        intro w363 hg364 hb365 hz366
        refine ⟨(fun e => by cases e), ?_⟩
        have hk377 := hb28.grown hg36 nb
        have ap378 : ¬ (· = b25) b268 := fun hx => Nat.not_lt_of_le ((lowb hbe272) _ rfl) ((fun k (hk : k = b25) => Nat.lt_of_le_of_lt (Nat.le_of_eq hk) hk377.lt) _ hx)
        have hk379 := hb16.grown hg21 nb
        have ap380 : ¬ (· = b25) b13 := fun hx => Nat.not_lt_of_le ((lowb hbe29) _ hx) ((fun k (hk : k = b13) => Nat.lt_of_le_of_lt (Nat.le_of_eq hk) hk379.lt) _ rfl)
        have ap381 : ¬ (· = b25) b19 := fun hx => Nat.not_lt_of_le ((lowb hbe29) _ hx) ((fun k (hk : k = b19) => Nat.lt_of_le_of_lt (Nat.le_of_eq hk) hb22.lt) _ rfl)
        have hk382 := ((((hb28.grown hg339 nb).grown hg275 (rowne ap378)).grown hg361 nb).grown hg354 (rowne ap380)).grown hg364 (rowne ap381)
        refine gv_sub [4, 5, 6, 28] (σ' := [(4, (.pointer (some ⟨b13, 0, none⟩))), (5, (.pointer (some ⟨b19, 0, none⟩))), (6, (.pointer (some ⟨b25, 0, none⟩))), (28, (.agg #[(.int .i64 r348.1), (.int .i64 r348.2)]))]) (by kernel_rfl) ?_
        refine gv_store (t := 29) (b := b25) (off := 0) (v := (.agg #[(.int .i64 r348.1), (.int .i64 r348.2)])) (t' := 29) (cs := #[(.int .i64 0), (.int .i64 0)]) #[(.int .i64 r348.1), (.int .i64 r348.2)] (by decide) (by rfl) (by rfl) (by kernel_rfl) (by kernel_rfl) (by kernel_rfl) (by intro u hu; simp [Value.cells] at hu; rcases hu with rfl | rfl <;> rfl) (show 0 + 2 ≤ 2 by decide) (by rfl) hk382 ?_
        intro w373 hg374 hb375 hz376
        refine ⟨(fun e => by cases e), ?_⟩
        clear hz376 hk382 ap378 hk377 hz366 hk372 ap370 hk369 hg368 hg367 hz356 hk362 hg361 ap360 hk359 hg358 hg357 hr349 hc347 hlo342 hB341 hB340 hg339 hr338 hk336 ap335 hk334 hg333 hg332 hc278 hz277 hb276 hg275 hz273 hbe272 hb271 hg270 hl265 hB267 hg266 hg36 hr34 hk32 hg31 hz30 hb28 hg27 hz24 hz18 hz12 hbe11 hb10 hz6 hbe5 hb4
        refine gv_sub [4, 5, 6] (σ' := [(4, (.pointer (some ⟨b13, 0, none⟩))), (5, (.pointer (some ⟨b19, 0, none⟩))), (6, (.pointer (some ⟨b25, 0, none⟩)))]) (by kernel_rfl) ?_
        refine gv_nil ?_
        refine gv_cret ?_
        have e := Option.some.inj h0; subst e
        have ap383 : ¬ (· = b13) b19 := fun hx => Nat.not_lt_of_le ((lowb hbe23) _ rfl) ((fun k (hk : k = b13) => Nat.lt_of_le_of_lt (Nat.le_of_eq hk) hb16.lt) _ hx)
        have ap384 : ¬ (· = b13) b25 := fun hx => Nat.not_lt_of_le ((lowb hbe29) _ rfl) ((fun k (hk : k = b13) => Nat.lt_of_le_of_lt (Nat.le_of_eq hk) hk379.lt) _ hx)
        have hk385 := (hb355.grown hg364 (rowne ap383)).grown hg374 (rowne ap384)
        have ap386 : ¬ (· = b19) b25 := fun hx => Nat.not_lt_of_le ((lowb hbe29) _ rfl) ((fun k (hk : k = b19) => Nat.lt_of_le_of_lt (Nat.le_of_eq hk) hb22.lt) _ hx)
        have hk387 := hb365.grown hg374 (rowne ap386)
        refine gv_ret (gv_done [(.agg #[(.bool false), (.slice none (List.length ([] : List Int)) 0)]), (.agg #[(.int .u64 0), (.int .u64 0)]), (.agg #[(.int .i64 r348.1), (.int .i64 r348.2)])] rfl ⟨⟨_, rfl, run_loadVar_row w373 b13 _ 24 _ _ _ hk385 Try.underlying24 rfl (by kernel_rfl)⟩, ⟨_, rfl, run_loadVar_row w373 b19 _ 27 _ _ _ hk387 Try.underlying27 rfl (by kernel_rfl)⟩, ⟨_, rfl, run_loadVar_row w373 b25 _ 29 _ _ _ hb375 Try.underlying29 rfl (by kernel_rfl)⟩, trivial⟩ ?_)
        have hg388 := (grown_trans hg345 hg351)
        have hB389 := below_grown hB343 hg388 hB343.size nb
        have hg390 := (grown_trans hg3 hg9)
        have hB391 := below_grown hB0 hg390 hB0.size nb
        have hlo392 : w0.heap.size ≤ b13 := lob hbe17 hB391.size
        have hB393 := below_grown hB389 hg354 hB389.size (rowlo hlo392)
        have hB394 := below_grown hB391 hg15 hB391.size nb
        have hlo395 : w0.heap.size ≤ b19 := lob hbe23 hB394.size
        have hB396 := below_grown hB393 hg364 hB393.size (rowlo hlo395)
        have hB397 := below_grown hB394 hg21 hB394.size nb
        have hlo398 : w0.heap.size ≤ b25 := lob hbe29 hB397.size
        have hB399 := below_grown hB396 hg374 hB396.size (rowlo hlo398)
        exact ⟨grown_of_below hB399, none, 0, rfl, (Own.nil (iE .u32) 76 w373 (fun _ => False)), (fun _ h => by cases h)⟩
      · replace h0 := ite_f hc347 h0
        refine gv_seq ?_
        refine gv_region ?_
        refine bindE h0 ?_; clear h0; intro j400 h1 h0
        refine gv_cut_ops (J := fun a w401 => Below w0.heap.size w0 w401 ∧ w344.heap.size ≤ w401.heap.size ∧ Box w401 b7 24 #[(.bool n_1.1), (.slice pa1_0 (List.length n_1.2) pc1_0)] ∧ Box w401 b13 24 #[(.bool false), (.slice none (List.length ([] : List Int)) 0)] ∧ Box w401 b19 27 #[(.int .u64 0), (.int .u64 0)] ∧ Box w401 b25 29 #[(.int .i64 0), (.int .i64 0)] ∧ Box w401 b43 81 #[(.int .u64 x42.1), (.int .u64 x42.2)] ∧ a.defers = [] ∧ a.tmps.size = 50 ∧ Ok [(3, (.pointer (some ⟨b7, 0, none⟩))), (4, (.pointer (some ⟨b13, 0, none⟩))), (5, (.pointer (some ⟨b19, 0, none⟩))), (6, (.pointer (some ⟨b25, 0, none⟩))), (7, (.pointer (some ⟨b43, 0, none⟩))), (29, (.bool j400))] a.tmps) ?_ ?_
        · skip
          refine gv_pure 1 [3, 4, 5, 6, 7, 30] (σ' := [(3, (.pointer (some ⟨b7, 0, none⟩))), (4, (.pointer (some ⟨b13, 0, none⟩))), (5, (.pointer (some ⟨b19, 0, none⟩))), (6, (.pointer (some ⟨b25, 0, none⟩))), (7, (.pointer (some ⟨b43, 0, none⟩))), (30, (.pointer (some ⟨b7, 0, none⟩)))]) (by kernel_rfl) ?_
          have hk402 := hk336.grown hg345 nb
          refine gv_load (t := 4) (A := ⟨b7, 0, none⟩) (.bool n_1.1) [3, 4, 5, 6, 7, 31] (σ' := [(3, (.pointer (some ⟨b7, 0, none⟩))), (4, (.pointer (some ⟨b13, 0, none⟩))), (5, (.pointer (some ⟨b19, 0, none⟩))), (6, (.pointer (some ⟨b25, 0, none⟩))), (7, (.pointer (some ⟨b43, 0, none⟩))), (31, (.bool n_1.1))]) (fun e => by cases e) (by rfl) (by rfl) (by rfl) (by kernel_rfl) (by kernel_rfl) (by kernel_rfl) (inw0 (hk402.cell 0 rfl)) (by kernel_rfl) ?_
          refine gv_pure 1 [3, 4, 5, 6, 7, 32] (σ' := [(3, (.pointer (some ⟨b7, 0, none⟩))), (4, (.pointer (some ⟨b13, 0, none⟩))), (5, (.pointer (some ⟨b19, 0, none⟩))), (6, (.pointer (some ⟨b25, 0, none⟩))), (7, (.pointer (some ⟨b43, 0, none⟩))), (32, (.bool n_1.1))]) (by kernel_rfl) ?_
          refine gv_split (s := 32) (g := n_1.1) (by rfl) (fun hc403 => ?_) (fun hc403 => ?_)
          · skip
            replace h1 := ite_t hc403 h1
            refine gv_pure 6 [3, 4, 5, 6, 7, 29] (σ' := [(3, (.pointer (some ⟨b7, 0, none⟩))), (4, (.pointer (some ⟨b13, 0, none⟩))), (5, (.pointer (some ⟨b19, 0, none⟩))), (6, (.pointer (some ⟨b25, 0, none⟩))), (7, (.pointer (some ⟨b43, 0, none⟩))), (29, (.bool true))]) (by kernel_rfl) ?_
            refine gv_nil ?_
            have e := Option.some.inj h1; subst e
            refine gv_goal fun a hd hs hok => ?_
            obtain ⟨q3, q4, q5, q6, q7, q29, _⟩ := hok
            have hB404 := below_grown hB343 hg345 hB343.size nb
            have hg405 := (grown_trans (grown_trans hg21 hg27) hg339)
            have hg406 := (grown_trans (grown_trans hg21 hg27) hg36)
            have hk407 := hb16.grown hg406 nb
            have ap408 : ¬ (· = b13) b268 := fun hx => Nat.not_lt_of_le ((lowb hbe272) _ rfl) ((fun k (hk : k = b13) => Nat.lt_of_le_of_lt (Nat.le_of_eq hk) hk407.lt) _ hx)
            have hk409 := ((hb16.grown hg405 nb).grown hg275 (rowne ap408)).grown hg345 nb
            have hg410 := (grown_trans hg27 hg339)
            have hg411 := (grown_trans hg27 hg36)
            have hk412 := hb22.grown hg411 nb
            have ap413 : ¬ (· = b19) b268 := fun hx => Nat.not_lt_of_le ((lowb hbe272) _ rfl) ((fun k (hk : k = b19) => Nat.lt_of_le_of_lt (Nat.le_of_eq hk) hk412.lt) _ hx)
            have hk414 := ((hb22.grown hg410 nb).grown hg275 (rowne ap413)).grown hg345 nb
            have hk415 := hb28.grown hg36 nb
            have ap416 : ¬ (· = b25) b268 := fun hx => Nat.not_lt_of_le ((lowb hbe272) _ rfl) ((fun k (hk : k = b25) => Nat.lt_of_le_of_lt (Nat.le_of_eq hk) hk415.lt) _ hx)
            have hk417 := ((hb28.grown hg339 nb).grown hg275 (rowne ap416)).grown hg345 nb
            have ap418 : ¬ (· = b43) b268 := fun hx => Nat.not_lt_of_le ((lowb hbe272) _ rfl) ((fun k (hk : k = b43) => Nat.lt_of_le_of_lt (Nat.le_of_eq hk) hb44.lt) _ hx)
            have hk419 := ((hb44.grown hg270 nb).grown hg275 (rowne ap418)).grown hg345 nb
            exact ⟨hB404, (Nat.le_refl _), hk402, hk409, hk414, hk417, hk419, hd, hs, ⟨q3, q4, q5, q6, q7, q29, trivial⟩⟩
          · skip
            replace h1 := ite_f hc403 h1
            refine gv_pure 1 [3, 4, 5, 6, 7, 32, 33] (σ' := [(3, (.pointer (some ⟨b7, 0, none⟩))), (4, (.pointer (some ⟨b13, 0, none⟩))), (5, (.pointer (some ⟨b19, 0, none⟩))), (6, (.pointer (some ⟨b25, 0, none⟩))), (7, (.pointer (some ⟨b43, 0, none⟩))), (32, (.bool false)), (33, (.pointer (some ⟨b7, 1, none⟩)))]) (by kernel_rfl) ?_
            refine gv_load (t := 22) (A := ⟨b7, 1, none⟩) (.slice pa1_0 (List.length n_1.2) pc1_0) [3, 4, 5, 6, 7, 32, 34] (σ' := [(3, (.pointer (some ⟨b7, 0, none⟩))), (4, (.pointer (some ⟨b13, 0, none⟩))), (5, (.pointer (some ⟨b19, 0, none⟩))), (6, (.pointer (some ⟨b25, 0, none⟩))), (7, (.pointer (some ⟨b43, 0, none⟩))), (32, (.bool false)), (34, (.slice pa1_0 (List.length n_1.2) pc1_0))]) (fun e => by cases e) (by rfl) (by rfl) (by rfl) (by kernel_rfl) (by kernel_rfl) (by kernel_rfl) (inw0 (hk402.cell 1 rfl)) (by kernel_rfl) ?_
            refine gv_pure 4 [3, 4, 5, 6, 7, 29] (σ' := [(3, (.pointer (some ⟨b7, 0, none⟩))), (4, (.pointer (some ⟨b13, 0, none⟩))), (5, (.pointer (some ⟨b19, 0, none⟩))), (6, (.pointer (some ⟨b25, 0, none⟩))), (7, (.pointer (some ⟨b43, 0, none⟩))), (29, (.bool (((List.length n_1.2 : Nat) : Int) == 0)))]) (by kernel_rfl) ?_
            refine gv_nil ?_
            have e := Option.some.inj h1; subst e
            refine gv_goal fun a hd hs hok => ?_
            obtain ⟨q3, q4, q5, q6, q7, q29, _⟩ := hok
            have hB420 := below_grown hB343 hg345 hB343.size nb
            have hg421 := (grown_trans (grown_trans hg21 hg27) hg339)
            have hg422 := (grown_trans (grown_trans hg21 hg27) hg36)
            have hk423 := hb16.grown hg422 nb
            have ap424 : ¬ (· = b13) b268 := fun hx => Nat.not_lt_of_le ((lowb hbe272) _ rfl) ((fun k (hk : k = b13) => Nat.lt_of_le_of_lt (Nat.le_of_eq hk) hk423.lt) _ hx)
            have hk425 := ((hb16.grown hg421 nb).grown hg275 (rowne ap424)).grown hg345 nb
            have hg426 := (grown_trans hg27 hg339)
            have hg427 := (grown_trans hg27 hg36)
            have hk428 := hb22.grown hg427 nb
            have ap429 : ¬ (· = b19) b268 := fun hx => Nat.not_lt_of_le ((lowb hbe272) _ rfl) ((fun k (hk : k = b19) => Nat.lt_of_le_of_lt (Nat.le_of_eq hk) hk428.lt) _ hx)
            have hk430 := ((hb22.grown hg426 nb).grown hg275 (rowne ap429)).grown hg345 nb
            have hk431 := hb28.grown hg36 nb
            have ap432 : ¬ (· = b25) b268 := fun hx => Nat.not_lt_of_le ((lowb hbe272) _ rfl) ((fun k (hk : k = b25) => Nat.lt_of_le_of_lt (Nat.le_of_eq hk) hk431.lt) _ hx)
            have hk433 := ((hb28.grown hg339 nb).grown hg275 (rowne ap432)).grown hg345 nb
            have ap434 : ¬ (· = b43) b268 := fun hx => Nat.not_lt_of_le ((lowb hbe272) _ rfl) ((fun k (hk : k = b43) => Nat.lt_of_le_of_lt (Nat.le_of_eq hk) hb44.lt) _ hx)
            have hk435 := ((hb44.grown hg270 nb).grown hg275 (rowne ap434)).grown hg345 nb
            exact ⟨hB420, (Nat.le_refl _), hk402, hk425, hk430, hk433, hk435, hd, hs, ⟨q3, q4, q5, q6, q7, q29, trivial⟩⟩
        · rintro a w401 ⟨hB436, hz437, hb438, hb439, hb440, hb441, hb442, hd, hs, hok⟩
          refine (?_ : Run Try.prog _ 50 _ .normal [(3, (.pointer (some ⟨b7, 0, none⟩))), (4, (.pointer (some ⟨b13, 0, none⟩))), (5, (.pointer (some ⟨b19, 0, none⟩))), (6, (.pointer (some ⟨b25, 0, none⟩))), (7, (.pointer (some ⟨b43, 0, none⟩))), (29, (.bool j400))] w401) a hd hs hok
          clear hd hs hok
          clear hz437 hc347 hg345 hB343 hlo342 hB341 hB340 hg339 hr338 hk336 ap335 hk334 hg333 hg332 hc278 hz277 hb276 hg275 hz273 hbe272 hb271 hg270 hB267 hg266 hg36 hr34 hk32 hg31 hz30 hz24 hz18 hz12 hz6 hbe5 hb4
          refine gv_cond (b := j400) (by rfl) (fun hc443 => ?_) (fun hc443 => ?_)
          · replace h0 := ite_t hc443 h0
            refine gv_seq ?_
            refine gv_region ?_
            refine gv_pure 2 [4, 5, 6, 38, 39] (σ' := [(4, (.pointer (some ⟨b13, 0, none⟩))), (5, (.pointer (some ⟨b19, 0, none⟩))), (6, (.pointer (some ⟨b25, 0, none⟩))), (38, (.agg #[(.bool false), (.slice none (List.length ([] : List Int)) 0)])), (39, (.agg #[(.int .u64 0), (.int .u64 0)]))]) (by kernel_rfl) ?_
            refine bindE h0 ?_; clear h0; intro r444 hr445 h0
            refine gv_call (f := 37) (vs := [(.int .i64 4), (.int .i64 (-2))]) (cap := []) _ (by decide) (by rfl) (by rfl) rfl (by rfl) (by rfl) enters37 (random_at_ok fuel 4 (-2) w401  r444 hr445) ?_
            rintro v448 w446 ⟨hg447, rfl⟩
            refine ⟨(fun e => by cases e), ?_⟩
            have hk453 := hb439.grown hg447 nb
            refine gv_sub [4, 5, 6, 38, 39, 40] (σ' := [(4, (.pointer (some ⟨b13, 0, none⟩))), (5, (.pointer (some ⟨b19, 0, none⟩))), (6, (.pointer (some ⟨b25, 0, none⟩))), (38, (.agg #[(.bool false), (.slice none (List.length ([] : List Int)) 0)])), (39, (.agg #[(.int .u64 0), (.int .u64 0)])), (40, (.agg #[(.int .i64 r444.1), (.int .i64 r444.2)]))]) (by kernel_rfl) ?_
            refine gv_store (t := 24) (b := b13) (off := 0) (v := (.agg #[(.bool false), (.slice none (List.length ([] : List Int)) 0)])) (t' := 24) (cs := #[(.bool false), (.slice none (List.length ([] : List Int)) 0)]) #[(.bool false), (.slice none (List.length ([] : List Int)) 0)] (by decide) (by rfl) (by rfl) (by kernel_rfl) (by kernel_rfl) (by kernel_rfl) (by intro u hu; simp [Value.cells] at hu; rcases hu with rfl | rfl <;> rfl) (show 0 + 2 ≤ 2 by decide) (by rfl) hk453 ?_
            intro w449 hg450 hb451 hz452
            refine ⟨(fun e => by cases e), ?_⟩
            have ap458 : ¬ (· = b19) b13 := fun hx => Nat.not_lt_of_le ((lowb hbe23) _ hx) ((fun k (hk : k = b13) => Nat.lt_of_le_of_lt (Nat.le_of_eq hk) hb16.lt) _ rfl)
            have hk459 := (hb440.grown hg447 nb).grown hg450 (rowne ap458)
            refine gv_sub [4, 5, 6, 39, 40] (σ' := [(4, (.pointer (some ⟨b13, 0, none⟩))), (5, (.pointer (some ⟨b19, 0, none⟩))), (6, (.pointer (some ⟨b25, 0, none⟩))), (39, (.agg #[(.int .u64 0), (.int .u64 0)])), (40, (.agg #[(.int .i64 r444.1), (.int .i64 r444.2)]))]) (by kernel_rfl) ?_
            refine gv_store (t := 27) (b := b19) (off := 0) (v := (.agg #[(.int .u64 0), (.int .u64 0)])) (t' := 27) (cs := #[(.int .u64 0), (.int .u64 0)]) #[(.int .u64 0), (.int .u64 0)] (by decide) (by rfl) (by rfl) (by kernel_rfl) (by kernel_rfl) (by kernel_rfl) (by intro u hu; simp [Value.cells] at hu; rcases hu with rfl | rfl <;> rfl) (show 0 + 2 ≤ 2 by decide) (by rfl) hk459 ?_
            intro w454 hg455 hb456 hz457
            refine ⟨(fun e => by cases e), ?_⟩
            have hk464 := hb16.grown hg21 nb
            have ap465 : ¬ (· = b25) b13 := fun hx => Nat.not_lt_of_le ((lowb hbe29) _ hx) ((fun k (hk : k = b13) => Nat.lt_of_le_of_lt (Nat.le_of_eq hk) hk464.lt) _ rfl)
            have ap466 : ¬ (· = b25) b19 := fun hx => Nat.not_lt_of_le ((lowb hbe29) _ hx) ((fun k (hk : k = b19) => Nat.lt_of_le_of_lt (Nat.le_of_eq hk) hb22.lt) _ rfl)
            have hk467 := ((hb441.grown hg447 nb).grown hg450 (rowne ap465)).grown hg455 (rowne ap466)
            refine gv_sub [4, 5, 6, 40] (σ' := [(4, (.pointer (some ⟨b13, 0, none⟩))), (5, (.pointer (some ⟨b19, 0, none⟩))), (6, (.pointer (some ⟨b25, 0, none⟩))), (40, (.agg #[(.int .i64 r444.1), (.int .i64 r444.2)]))]) (by kernel_rfl) ?_
            refine gv_store (t := 29) (b := b25) (off := 0) (v := (.agg #[(.int .i64 r444.1), (.int .i64 r444.2)])) (t' := 29) (cs := #[(.int .i64 0), (.int .i64 0)]) #[(.int .i64 r444.1), (.int .i64 r444.2)] (by decide) (by rfl) (by rfl) (by kernel_rfl) (by kernel_rfl) (by kernel_rfl) (by intro u hu; simp [Value.cells] at hu; rcases hu with rfl | rfl <;> rfl) (show 0 + 2 ≤ 2 by decide) (by rfl) hk467 ?_
            intro w460 hg461 hb462 hz463
            refine ⟨(fun e => by cases e), ?_⟩
            refine gv_sub [4, 5, 6] (σ' := [(4, (.pointer (some ⟨b13, 0, none⟩))), (5, (.pointer (some ⟨b19, 0, none⟩))), (6, (.pointer (some ⟨b25, 0, none⟩)))]) (by kernel_rfl) ?_
            refine gv_nil ?_
            refine gv_cret ?_
            have e := Option.some.inj h0; subst e
            have ap468 : ¬ (· = b13) b19 := fun hx => Nat.not_lt_of_le ((lowb hbe23) _ rfl) ((fun k (hk : k = b13) => Nat.lt_of_le_of_lt (Nat.le_of_eq hk) hb16.lt) _ hx)
            have ap469 : ¬ (· = b13) b25 := fun hx => Nat.not_lt_of_le ((lowb hbe29) _ rfl) ((fun k (hk : k = b13) => Nat.lt_of_le_of_lt (Nat.le_of_eq hk) hk464.lt) _ hx)
            have hk470 := (hb451.grown hg455 (rowne ap468)).grown hg461 (rowne ap469)
            have ap471 : ¬ (· = b19) b25 := fun hx => Nat.not_lt_of_le ((lowb hbe29) _ rfl) ((fun k (hk : k = b19) => Nat.lt_of_le_of_lt (Nat.le_of_eq hk) hb22.lt) _ hx)
            have hk472 := hb456.grown hg461 (rowne ap471)
            refine gv_ret (gv_done [(.agg #[(.bool false), (.slice none (List.length ([] : List Int)) 0)]), (.agg #[(.int .u64 0), (.int .u64 0)]), (.agg #[(.int .i64 r444.1), (.int .i64 r444.2)])] rfl ⟨⟨_, rfl, run_loadVar_row w460 b13 _ 24 _ _ _ hk470 Try.underlying24 rfl (by kernel_rfl)⟩, ⟨_, rfl, run_loadVar_row w460 b19 _ 27 _ _ _ hk472 Try.underlying27 rfl (by kernel_rfl)⟩, ⟨_, rfl, run_loadVar_row w460 b25 _ 29 _ _ _ hb462 Try.underlying29 rfl (by kernel_rfl)⟩, trivial⟩ ?_)
            have hB473 := below_grown hB436 hg447 hB436.size nb
            have hg474 := (grown_trans hg3 hg9)
            have hB475 := below_grown hB0 hg474 hB0.size nb
            have hlo476 : w0.heap.size ≤ b13 := lob hbe17 hB475.size
            have hB477 := below_grown hB473 hg450 hB473.size (rowlo hlo476)
            have hB478 := below_grown hB475 hg15 hB475.size nb
            have hlo479 : w0.heap.size ≤ b19 := lob hbe23 hB478.size
            have hB480 := below_grown hB477 hg455 hB477.size (rowlo hlo479)
            have hB481 := below_grown hB478 hg21 hB478.size nb
            have hlo482 : w0.heap.size ≤ b25 := lob hbe29 hB481.size
            have hB483 := below_grown hB480 hg461 hB480.size (rowlo hlo482)
            exact ⟨grown_of_below hB483, none, 0, rfl, (Own.nil (iE .u32) 76 w460 (fun _ => False)), (fun _ h => by cases h)⟩
          · replace h0 := ite_f hc443 h0
            refine gv_skip ?_
            refine gv_blk ?_
            refine gv_seq ?_
            refine gv_region ?_
            refine gv_pure 1 [3, 4, 5, 6, 7, 41] (σ' := [(3, (.pointer (some ⟨b7, 0, none⟩))), (4, (.pointer (some ⟨b13, 0, none⟩))), (5, (.pointer (some ⟨b19, 0, none⟩))), (6, (.pointer (some ⟨b25, 0, none⟩))), (7, (.pointer (some ⟨b43, 0, none⟩))), (41, (.pointer (some ⟨b43, 0, none⟩)))]) (by kernel_rfl) ?_
            refine gv_loadBox (t := 24) (b := b7) (t' := 24) (fr := (0, 0)) #[(.bool n_1.1), (.slice pa1_0 (List.length n_1.2) pc1_0)] [4, 5, 6, 7, 41, 42] (σ' := [(4, (.pointer (some ⟨b13, 0, none⟩))), (5, (.pointer (some ⟨b19, 0, none⟩))), (6, (.pointer (some ⟨b25, 0, none⟩))), (7, (.pointer (some ⟨b43, 0, none⟩))), (41, (.pointer (some ⟨b43, 0, none⟩))), (42, (.agg #[(.bool n_1.1), (.slice pa1_0 (List.length n_1.2) pc1_0)]))]) (fun e => by cases e) (by rfl) (by rfl) (by rfl) (by kernel_rfl) (by kernel_rfl) (by kernel_rfl) (by kernel_rfl) (inw0 hb438) (by kernel_rfl) ?_
            refine bindE h0 ?_; clear h0; intro r484 hr485 h0
            refine gv_call (f := 43) (vs := [(.pointer (some ⟨b43, 0, none⟩)), (.agg #[(.bool n_1.1), (.slice pa1_0 (List.length n_1.2) pc1_0)])]) (cap := []) _ (by decide) (by rfl) (by rfl) rfl (by rfl) (by rfl) enters43 (random_source_below_ok fuel b43 (x42.1, x42.2) pa1_0 pc1_0 (n_1.1, n_1.2) w401 (fun k => X0 k) (fun k hk => ⟨(fun k (hk : X0 k) => Nat.lt_of_lt_of_le (hX0 k hk) hB436.size) k hk, fun e => (fun (hx : X0 b43) => Nat.not_lt_of_le hl265 (hX0 _ hx)) (e ▸ hk)⟩) hb442 ((hpa1_0.below hB436 hX0).wide (fun k hk => hk)) r484 hr485) ?_
            rintro v488 w486 ⟨hg487, a489, c490, rfl, ho491, hl492, hb493⟩
            refine ⟨(fun e => by cases e), ?_⟩
            have hl494 : ∀ g, blk a489 = some g → w0.heap.size ≤ g := fun g e => Nat.le_trans hB436.size (hl492 g e)
            refine gv_sub [4, 5, 6, 7, 43] (σ' := [(4, (.pointer (some ⟨b13, 0, none⟩))), (5, (.pointer (some ⟨b19, 0, none⟩))), (6, (.pointer (some ⟨b25, 0, none⟩))), (7, (.pointer (some ⟨b43, 0, none⟩))), (43, (.agg #[(.bool r484.1.1), (.slice a489 (List.length r484.1.2) c490)]))]) (by kernel_rfl) ?_
            refine gv_new (fun b => .pointer (some ⟨b, 0, none⟩)) #[(.bool false), (.slice none (List.length ([] : List Int)) 0)] 24 (by decide) (by rfl) (by rfl) (by kernel_rfl) (by kernel_rfl) ?_
            intro b495 w496 hg497 hb498 hbe499 hz500
            refine ⟨(fun e => by cases e), ?_⟩
            refine gv_sub [4, 5, 6, 7, 9, 43] (σ' := [(4, (.pointer (some ⟨b13, 0, none⟩))), (5, (.pointer (some ⟨b19, 0, none⟩))), (6, (.pointer (some ⟨b25, 0, none⟩))), (7, (.pointer (some ⟨b43, 0, none⟩))), (9, (.pointer (some ⟨b495, 0, none⟩))), (43, (.agg #[(.bool r484.1.1), (.slice a489 (List.length r484.1.2) c490)]))]) (by kernel_rfl) ?_
            refine gv_store (t := 24) (b := b495) (off := 0) (v := (.agg #[(.bool r484.1.1), (.slice a489 (List.length r484.1.2) c490)])) (t' := 24) (cs := #[(.bool false), (.slice none (List.length ([] : List Int)) 0)]) #[(.bool r484.1.1), (.slice a489 (List.length r484.1.2) c490)] (by decide) (by rfl) (by rfl) (by kernel_rfl) (by kernel_rfl) (by kernel_rfl) (by intro u hu; simp [Value.cells] at hu; rcases hu with rfl | rfl <;> rfl) (show 0 + 2 ≤ 2 by decide) (by rfl) hb498 ?_
            intro w501 hg502 hb503 hz504
            refine ⟨(fun e => by cases e), ?_⟩
            refine gv_sub [4, 5, 6, 7, 9] (σ' := [(4, (.pointer (some ⟨b13, 0, none⟩))), (5, (.pointer (some ⟨b19, 0, none⟩))), (6, (.pointer (some ⟨b25, 0, none⟩))), (7, (.pointer (some ⟨b43, 0, none⟩))), (9, (.pointer (some ⟨b495, 0, none⟩)))]) (by kernel_rfl) ?_
            refine gv_nil ?_
            refine gv_seq ?_
            refine gv_drawA (by kernel_rfl) ?_
            intro w505 hg506
            refine gv_pre [1, 2, 3, 5] #[false, true, true, true, false, true, false, false, false] 5 (by kernel_rfl) (by rfl) ?_
            clear hz504 hz500 hb498 hr485 hc443
            refine gv_pure 4 [4, 5, 6, 9, 47, 49] (σ' := [(4, (.pointer (some ⟨b13, 0, none⟩))), (5, (.pointer (some ⟨b19, 0, none⟩))), (6, (.pointer (some ⟨b25, 0, none⟩))), (9, (.pointer (some ⟨b495, 0, none⟩))), (47, (.pointer (some ⟨b43, 0, none⟩))), (49, (.agg #[(.int .i64 0), (.int .i64 0)]))]) (by kernel_rfl) ?_
            refine gv_nil ?_
            refine gv_goal fun a hd hs hok => ?_
            refine (?_ : RunA Try.prog _ 50 _ _ 5 #[false, true, true, true, false, true, false, false, false] [(4, (.pointer (some ⟨b13, 0, none⟩))), (5, (.pointer (some ⟨b19, 0, none⟩))), (6, (.pointer (some ⟨b25, 0, none⟩))), (9, (.pointer (some ⟨b495, 0, none⟩))), (47, (.pointer (some ⟨b43, 0, none⟩))), (49, (.agg #[(.int .i64 0), (.int .i64 0)]))] w505) a hd hs hok
            clear hd hs hok
            refine gv_stage (Cls w505 [b13]) [0, 1, 2, 3, 4, 5, 6] [(0, some true), (4, some true), (6, some false)] #[true, true, true, true, true, true, true, false, false] 2 (by kernel_rfl) (by rfl) (Cls.refl _ _) ?_
            have hC507 := Cls.refl w505 [b13]
            have hk508 := hb503.grown hg506 nb
            have hg509 := (grown_trans hg21 hg27)
            have hk510 := hb16.grown hg509 nb
            have ap511 : ¬ (· = b13) b43 := fun hx => Nat.not_lt_of_le ((lowe hlo45) _ rfl) ((fun k (hk : k = b13) => Nat.lt_of_le_of_lt (Nat.le_of_eq hk) hk510.lt) _ hx)
            have hk512 := hb439.grown hg487 (rowne ap511)
            have ap513 : ¬ (· = b13) b495 := fun hx => Nat.not_lt_of_le ((lowb hbe499) _ rfl) ((fun k (hk : k = b13) => Nat.lt_of_le_of_lt (Nat.le_of_eq hk) hk512.lt) _ hx)
            refine gv_loadBox (t := 24) (b := b495) (t' := 24) (fr := (0, 0)) #[(.bool r484.1.1), (.slice a489 (List.length r484.1.2) c490)] [4, 5, 6, 44, 47, 49] (σ' := [(4, (.pointer (some ⟨b13, 0, none⟩))), (5, (.pointer (some ⟨b19, 0, none⟩))), (6, (.pointer (some ⟨b25, 0, none⟩))), (44, (.agg #[(.bool r484.1.1), (.slice a489 (List.length r484.1.2) c490)])), (47, (.pointer (some ⟨b43, 0, none⟩))), (49, (.agg #[(.int .i64 0), (.int .i64 0)]))]) (fun e => by cases e) (by rfl) (by rfl) (by rfl) (by kernel_rfl) (by kernel_rfl) (by kernel_rfl) (by kernel_rfl) (inw1 fun w' hC' => (hC'.box hk508 (nm_cons ap513 nm_nil))) (by kernel_rfl) ?_
            have ap514 : ¬ (· = b43) b495 := fun hx => Nat.not_lt_of_le ((lowb hbe499) _ rfl) ((fun k (hk : k = b43) => Nat.lt_of_le_of_lt (Nat.le_of_eq hk) hb493.lt) _ hx)
            have hk515 := ((hb493.grown hg497 nb).grown hg502 (rowne ap514)).grown hg506 nb
            refine gv_loadBox (t := 27) (b := b43) (t' := 81) (fr := (0, 0)) #[(.int .u64 r484.2.1), (.int .u64 r484.2.2)] [4, 5, 6, 44, 48, 49] (σ' := [(4, (.pointer (some ⟨b13, 0, none⟩))), (5, (.pointer (some ⟨b19, 0, none⟩))), (6, (.pointer (some ⟨b25, 0, none⟩))), (44, (.agg #[(.bool r484.1.1), (.slice a489 (List.length r484.1.2) c490)])), (48, (.agg #[(.int .u64 r484.2.1), (.int .u64 r484.2.2)])), (49, (.agg #[(.int .i64 0), (.int .i64 0)]))]) (fun e => by cases e) (by rfl) (by rfl) (by rfl) (by kernel_rfl) (by kernel_rfl) (by kernel_rfl) (by kernel_rfl) (inw1 fun w' hC' => (hC'.box hk515 (nm_cons ap511 nm_nil))) (by kernel_rfl) ?_
            have hk520 := ((hk512.grown hg497 nb).grown hg502 (rowne ap513)).grown hg506 nb
            refine gv_store (t := 24) (b := b13) (off := 0) (v := (.agg #[(.bool r484.1.1), (.slice a489 (List.length r484.1.2) c490)])) (t' := 24) (cs := #[(.bool false), (.slice none (List.length ([] : List Int)) 0)]) #[(.bool r484.1.1), (.slice a489 (List.length r484.1.2) c490)] (by decide) (by rfl) (by rfl) (by kernel_rfl) (by kernel_rfl) (by kernel_rfl) (by intro u hu; simp [Value.cells] at hu; rcases hu with rfl | rfl <;> rfl) (show 0 + 2 ≤ 2 by decide) (by rfl) hk520 ?_
            intro w516 hg517 hb518 hz519
            refine ⟨(fun _ => hC507.grown hg517 (rowm (List.Mem.head _))), ?_⟩
            refine gv_sub [4, 5, 6, 48, 49] (σ' := [(4, (.pointer (some ⟨b13, 0, none⟩))), (5, (.pointer (some ⟨b19, 0, none⟩))), (6, (.pointer (some ⟨b25, 0, none⟩))), (48, (.agg #[(.int .u64 r484.2.1), (.int .u64 r484.2.2)])), (49, (.agg #[(.int .i64 0), (.int .i64 0)]))]) (by kernel_rfl) ?_
            refine gv_nil ?_
            refine gv_goal fun a hd hs hok => ?_
            refine (?_ : RunA Try.prog _ 50 _ _ 2 #[true, true, true, true, true, true, true, false, false] [(4, (.pointer (some ⟨b13, 0, none⟩))), (5, (.pointer (some ⟨b19, 0, none⟩))), (6, (.pointer (some ⟨b25, 0, none⟩))), (48, (.agg #[(.int .u64 r484.2.1), (.int .u64 r484.2.2)])), (49, (.agg #[(.int .i64 0), (.int .i64 0)]))] w516) a hd hs hok
            clear hd hs hok
            refine gv_stage (fun _ => True) [0, 1, 2, 3, 4, 5, 6, 7] [(7, some false)] #[true, true, true, true, true, true, true, true, false] 1 (by kernel_rfl) (by rfl) trivial ?_
            have hk525 := hb22.grown hg27 nb
            have ap526 : ¬ (· = b19) b43 := fun hx => Nat.not_lt_of_le ((lowe hlo45) _ rfl) ((fun k (hk : k = b19) => Nat.lt_of_le_of_lt (Nat.le_of_eq hk) hk525.lt) _ hx)
            have hk527 := hb440.grown hg487 (rowne ap526)
            have ap528 : ¬ (· = b19) b495 := fun hx => Nat.not_lt_of_le ((lowb hbe499) _ rfl) ((fun k (hk : k = b19) => Nat.lt_of_le_of_lt (Nat.le_of_eq hk) hk527.lt) _ hx)
            have ap529 : ¬ (· = b19) b13 := fun hx => Nat.not_lt_of_le ((lowb hbe23) _ hx) ((fun k (hk : k = b13) => Nat.lt_of_le_of_lt (Nat.le_of_eq hk) hb16.lt) _ rfl)
            have hk530 := ((((hb440.grown hg487 (rowne ap526)).grown hg497 nb).grown hg502 (rowne ap528)).grown hg506 nb).grown hg517 (rowne ap529)
            refine gv_store (t := 27) (b := b19) (off := 0) (v := (.agg #[(.int .u64 r484.2.1), (.int .u64 r484.2.2)])) (t' := 27) (cs := #[(.int .u64 0), (.int .u64 0)]) #[(.int .u64 r484.2.1), (.int .u64 r484.2.2)] (by decide) (by rfl) (by rfl) (by kernel_rfl) (by kernel_rfl) (by kernel_rfl) (by intro u hu; simp [Value.cells] at hu; rcases hu with rfl | rfl <;> rfl) (show 0 + 2 ≤ 2 by decide) (by rfl) hk530 ?_
            intro w521 hg522 hb523 hz524
            refine ⟨(fun _ => trivial), ?_⟩
            refine gv_sub [4, 5, 6, 49] (σ' := [(4, (.pointer (some ⟨b13, 0, none⟩))), (5, (.pointer (some ⟨b19, 0, none⟩))), (6, (.pointer (some ⟨b25, 0, none⟩))), (49, (.agg #[(.int .i64 0), (.int .i64 0)]))]) (by kernel_rfl) ?_
            refine gv_nil ?_
            refine gv_goal fun a hd hs hok => ?_
            refine (?_ : RunA Try.prog _ 50 _ _ 1 #[true, true, true, true, true, true, true, true, false] [(4, (.pointer (some ⟨b13, 0, none⟩))), (5, (.pointer (some ⟨b19, 0, none⟩))), (6, (.pointer (some ⟨b25, 0, none⟩))), (49, (.agg #[(.int .i64 0), (.int .i64 0)]))] w521) a hd hs hok
            clear hd hs hok
            refine gv_stage (fun _ => True) [0, 1, 2, 3, 4, 5, 6, 7, 8] [(8, some false)] #[true, true, true, true, true, true, true, true, true] 0 (by kernel_rfl) (by rfl) trivial ?_
            have ap535 : ¬ (· = b25) b43 := fun hx => Nat.not_lt_of_le ((lowe hlo45) _ rfl) ((fun k (hk : k = b25) => Nat.lt_of_le_of_lt (Nat.le_of_eq hk) hb28.lt) _ hx)
            have hk536 := hb441.grown hg487 (rowne ap535)
            have ap537 : ¬ (· = b25) b495 := fun hx => Nat.not_lt_of_le ((lowb hbe499) _ rfl) ((fun k (hk : k = b25) => Nat.lt_of_le_of_lt (Nat.le_of_eq hk) hk536.lt) _ hx)
            have hk538 := hb16.grown hg21 nb
            have ap539 : ¬ (· = b25) b13 := fun hx => Nat.not_lt_of_le ((lowb hbe29) _ hx) ((fun k (hk : k = b13) => Nat.lt_of_le_of_lt (Nat.le_of_eq hk) hk538.lt) _ rfl)
            have ap540 : ¬ (· = b25) b19 := fun hx => Nat.not_lt_of_le ((lowb hbe29) _ hx) ((fun k (hk : k = b19) => Nat.lt_of_le_of_lt (Nat.le_of_eq hk) hb22.lt) _ rfl)
            have hk541 := (((((hb441.grown hg487 (rowne ap535)).grown hg497 nb).grown hg502 (rowne ap537)).grown hg506 nb).grown hg517 (rowne ap539)).grown hg522 (rowne ap540)
            refine gv_store (t := 29) (b := b25) (off := 0) (v := (.agg #[(.int .i64 0), (.int .i64 0)])) (t' := 29) (cs := #[(.int .i64 0), (.int .i64 0)]) #[(.int .i64 0), (.int .i64 0)] (by decide) (by rfl) (by rfl) (by kernel_rfl) (by kernel_rfl) (by kernel_rfl) (by intro u hu; simp [Value.cells] at hu; rcases hu with rfl | rfl <;> rfl) (show 0 + 2 ≤ 2 by decide) (by rfl) hk541 ?_
            intro w531 hg532 hb533 hz534
            refine ⟨(fun _ => trivial), ?_⟩
            refine gv_sub [4, 5, 6] (σ' := [(4, (.pointer (some ⟨b13, 0, none⟩))), (5, (.pointer (some ⟨b19, 0, none⟩))), (6, (.pointer (some ⟨b25, 0, none⟩)))]) (by kernel_rfl) ?_
            refine gv_nil ?_
            refine gv_goal fun a hd hs hok => ?_
            refine (?_ : RunA Try.prog _ 50 _ _ 0 #[true, true, true, true, true, true, true, true, true] [(4, (.pointer (some ⟨b13, 0, none⟩))), (5, (.pointer (some ⟨b19, 0, none⟩))), (6, (.pointer (some ⟨b25, 0, none⟩)))] w531) a hd hs hok
            clear hd hs hok
            refine gv_stageE (by kernel_rfl) ?_
            refine gv_cret ?_
            have e := Option.some.inj h0; subst e
            have ap542 : ¬ (· = b13) b19 := fun hx => Nat.not_lt_of_le ((lowb hbe23) _ rfl) ((fun k (hk : k = b13) => Nat.lt_of_le_of_lt (Nat.le_of_eq hk) hb16.lt) _ hx)
            have ap543 : ¬ (· = b13) b25 := fun hx => Nat.not_lt_of_le ((lowb hbe29) _ rfl) ((fun k (hk : k = b13) => Nat.lt_of_le_of_lt (Nat.le_of_eq hk) hk538.lt) _ hx)
            have hk544 := (hb518.grown hg522 (rowne ap542)).grown hg532 (rowne ap543)
            have ap545 : ¬ (· = b19) b25 := fun hx => Nat.not_lt_of_le ((lowb hbe29) _ rfl) ((fun k (hk : k = b19) => Nat.lt_of_le_of_lt (Nat.le_of_eq hk) hb22.lt) _ hx)
            have hk546 := hb523.grown hg532 (rowne ap545)
            refine gv_ret (gv_done [(.agg #[(.bool r484.1.1), (.slice a489 (List.length r484.1.2) c490)]), (.agg #[(.int .u64 r484.2.1), (.int .u64 r484.2.2)]), (.agg #[(.int .i64 0), (.int .i64 0)])] rfl ⟨⟨_, rfl, run_loadVar_row w531 b13 _ 24 _ _ _ hk544 Try.underlying24 rfl (by kernel_rfl)⟩, ⟨_, rfl, run_loadVar_row w531 b19 _ 27 _ _ _ hk546 Try.underlying27 rfl (by kernel_rfl)⟩, ⟨_, rfl, run_loadVar_row w531 b25 _ 29 _ _ _ hb533 Try.underlying29 rfl (by kernel_rfl)⟩, trivial⟩ ?_)
            have hB547 := below_grown hB436 hg487 hB436.size (rowlo hl265)
            have hB548 := below_grown hB547 hg497 hB547.size nb
            have hB549 := below_grown hB436 hg487 hB436.size (rowlo hl265)
            have hlo550 : w0.heap.size ≤ b495 := lob hbe499 hB549.size
            have hB551 := below_grown hB548 hg502 hB548.size (rowlo hlo550)
            have hB552 := below_grown hB551 hg506 hB551.size nb
            have hg553 := (grown_trans hg3 hg9)
            have hB554 := below_grown hB0 hg553 hB0.size nb
            have hlo555 : w0.heap.size ≤ b13 := lob hbe17 hB554.size
            have hB556 := below_grown hB552 hg517 hB552.size (rowlo hlo555)
            have hB557 := below_grown hB554 hg15 hB554.size nb
            have hlo558 : w0.heap.size ≤ b19 := lob hbe23 hB557.size
            have hB559 := below_grown hB556 hg522 hB556.size (rowlo hlo558)
            have hB560 := below_grown hB557 hg21 hB557.size nb
            have hlo561 : w0.heap.size ≤ b25 := lob hbe29 hB560.size
            have hB562 := below_grown hB559 hg532 hB559.size (rowlo hlo561)
            have ap563 : ¬ (fun k => blk a489 = some k) b495 := fun hx => Nat.not_lt_of_le ((lowb hbe499) _ rfl) ((fun k (hk : blk a489 = some k) => ho491.lt k hk) _ hx)
            have ap564 : ¬ (fun k => blk a489 = some k) b13 := fun hx => Nat.not_lt_of_le ((show ∀ k, blk a489 = some k → w401.heap.size ≤ k from hl492) _ hx) ((fun k (hk : k = b13) => Nat.lt_of_le_of_lt (Nat.le_of_eq hk) hb439.lt) _ rfl)
            have ap565 : ¬ (fun k => blk a489 = some k) b19 := fun hx => Nat.not_lt_of_le ((show ∀ k, blk a489 = some k → w401.heap.size ≤ k from hl492) _ hx) ((fun k (hk : k = b19) => Nat.lt_of_le_of_lt (Nat.le_of_eq hk) hb440.lt) _ rfl)
            have ap566 : ¬ (fun k => blk a489 = some k) b25 := fun hx => Nat.not_lt_of_le ((show ∀ k, blk a489 = some k → w401.heap.size ≤ k from hl492) _ hx) ((fun k (hk : k = b25) => Nat.lt_of_le_of_lt (Nat.le_of_eq hk) hb441.lt) _ rfl)
            have hk567 := (((((ho491.grown hg497 (fun _ h => h.elim) nb).grown hg502 (fun _ h => h.elim) (rdnn (rowne ap563))).grown hg506 (fun _ h => h.elim) nb).grown hg517 (fun _ h => h.elim) (rdnn (rowne ap564))).grown hg522 (fun _ h => h.elim) (rdnn (rowne ap565))).grown hg532 (fun _ h => h.elim) (rdnn (rowne ap566))
            exact ⟨grown_of_below hB562, a489, c490, rfl, hk567, hl494⟩

set_option maxHeartbeats 4000000 in
set_option maxRecDepth 100000 in
theorem ref4_Mixed_ok (fuel : Nat) (x_0 : Int) (w0 : World)  (r0 : Int) (h0 : ref4_Mixed fuel x_0 = some r0) :
    Calls Try.prog 42 ([(.int .u64 x_0)] : List Value).toArray w0 (Ret fun v w' => w0.grownBy w' none ∧ v = tup [(.int .u64 r0)]) := by
  have hB0 : Below w0.heap.size w0 w0 := Below.refl _ _
  unfold ref4_Mixed at h0
  refine calls_run Try.func42 rfl Try.ntmps42 (by kernel_rfl) ?_
  refine gv_sub [0] (σ' := [(0, (.int .u64 x_0))]) (by kernel_rfl) ?_
  refine gv_seq ?_
  refine gv_region ?_
  refine gv_pure 1 [0] (σ' := [(0, (.int .u64 x_0))]) (by kernel_rfl) ?_
  refine gv_nil ?_
  refine gv_seq ?_
  refine gv_region ?_
  refine gv_pure 5 [0] (σ' := [(0, (.int .u64 (bwXor .u64 x_0 (IntKind.u64.wrap ((x_0).tdiv 1073741824)))))]) (by kernel_rfl) ?_
  refine bindE h0 ?_; clear h0; intro n1 hn2 h0
  refine gv_name (s := 0) (v := (.int .u64 (bwXor .u64 x_0 (IntKind.u64.wrap ((x_0).tdiv 1073741824))))) (v' := (.int .u64 n1)) (by rfl) (congrArg (Value.int .u64) (Option.some.inj hn2)) ?_
  refine gv_sub [0] (σ' := [(0, (.int .u64 n1))]) (by kernel_rfl) ?_
  refine gv_nil ?_
  refine gv_seq ?_
  refine gv_region ?_
  refine gv_pure 3 [0] (σ' := [(0, (.int .u64 (IntKind.u64.wrap (n1 * 13787848793156543929))))]) (by kernel_rfl) ?_
  refine bindE h0 ?_; clear h0; intro n3 hn4 h0
  refine gv_name (s := 0) (v := (.int .u64 (IntKind.u64.wrap (n1 * 13787848793156543929)))) (v' := (.int .u64 n3)) (by rfl) (congrArg (Value.int .u64) (Option.some.inj hn4)) ?_
  refine gv_sub [0] (σ' := [(0, (.int .u64 n3))]) (by kernel_rfl) ?_
  refine gv_nil ?_
  refine gv_seq ?_
  refine gv_region ?_
  refine gv_pure 5 [0] (σ' := [(0, (.int .u64 (bwXor .u64 n3 (IntKind.u64.wrap ((n3).tdiv 134217728)))))]) (by kernel_rfl) ?_
  refine bindE h0 ?_; clear h0; intro n5 hn6 h0
  refine gv_name (s := 0) (v := (.int .u64 (bwXor .u64 n3 (IntKind.u64.wrap ((n3).tdiv 134217728))))) (v' := (.int .u64 n5)) (by rfl) (congrArg (Value.int .u64) (Option.some.inj hn6)) ?_
  refine gv_sub [0] (σ' := [(0, (.int .u64 n5))]) (by kernel_rfl) ?_
  refine gv_nil ?_
  refine gv_seq ?_
  refine gv_region ?_
  refine gv_pure 3 [0] (σ' := [(0, (.int .u64 (IntKind.u64.wrap (n5 * 10723151780598845931))))]) (by kernel_rfl) ?_
  refine bindE h0 ?_; clear h0; intro n7 hn8 h0
  refine gv_name (s := 0) (v := (.int .u64 (IntKind.u64.wrap (n5 * 10723151780598845931)))) (v' := (.int .u64 n7)) (by rfl) (congrArg (Value.int .u64) (Option.some.inj hn8)) ?_
  refine gv_sub [0] (σ' := [(0, (.int .u64 n7))]) (by kernel_rfl) ?_
  refine gv_nil ?_
  refine gv_seq ?_
  refine gv_region ?_
  refine gv_pure 5 [2] (σ' := [(2, (.int .u64 (bwXor .u64 n7 (IntKind.u64.wrap ((n7).tdiv 2147483648)))))]) (by kernel_rfl) ?_
  refine bindE h0 ?_; clear h0; intro n9 hn10 h0
  refine gv_name (s := 2) (v := (.int .u64 (bwXor .u64 n7 (IntKind.u64.wrap ((n7).tdiv 2147483648))))) (v' := (.int .u64 n9)) (by rfl) (congrArg (Value.int .u64) (Option.some.inj hn10)) ?_
  refine gv_sub [2] (σ' := [(2, (.int .u64 n9))]) (by kernel_rfl) ?_
  refine gv_nil ?_
  refine gv_cret ?_
  have e := Option.some.inj h0; subst e
  refine gv_ret (gv_done [(.int .u64 n9)] rfl ⟨rfl, trivial⟩ ?_)
  exact ⟨grown_of_below hB0, rfl⟩

set_option maxHeartbeats 4000000 in
set_option maxRecDepth 100000 in
theorem ref4_Seeded_ok (fuel : Nat) (pa0_0 : Option Addr) (pc0_0 : Nat) (n_0 : (Bool × (List Int))) (w0 : World) (X0 : Nat → Prop) (hX0 : ∀ k, X0 k → k < w0.heap.size) (hpa0_0 : Rd (iE .u32) w0 X0 pa0_0 pc0_0 n_0.2) (r0 : (Int × Int)) (h0 : ref4_Seeded fuel n_0 = some r0) :
    Calls Try.prog 14 ([(.agg #[(.bool n_0.1), (.slice pa0_0 (List.length n_0.2) pc0_0)])] : List Value).toArray w0 (Ret fun v w' => w0.grownBy w' none ∧ v = tup [(.agg #[(.int .u64 r0.1), (.int .u64 r0.2)])]) := by
  have hB0 : Below w0.heap.size w0 w0 := Below.refl _ _
  unfold ref4_Seeded at h0
  refine calls_run Try.func14 rfl Try.ntmps14 (by kernel_rfl) ?_
  refine gv_sub [0] (σ' := [(0, (.agg #[(.bool n_0.1), (.slice pa0_0 (List.length n_0.2) pc0_0)]))]) (by kernel_rfl) ?_
  refine gv_seq ?_
  refine gv_region ?_
  refine gv_new (fun b => .pointer (some ⟨b, 0, none⟩)) #[(.bool n_0.1), (.slice pa0_0 (List.length n_0.2) pc0_0)] 24 (by decide) (by rfl) (by rfl) (by kernel_rfl) (by kernel_rfl) ?_
  intro b1 w2 hg3 hb4 hbe5 hz6
  refine ⟨(fun e => by cases e), ?_⟩
  refine gv_sub [1] (σ' := [(1, (.pointer (some ⟨b1, 0, none⟩)))]) (by kernel_rfl) ?_
  refine gv_new (fun b => .pointer (some ⟨b, 0, none⟩)) #[(.int .u64 0), (.int .u64 0)] 27 (by decide) (by rfl) (by rfl) (by kernel_rfl) (by kernel_rfl) ?_
  intro b7 w8 hg9 hb10 hbe11 hz12
  refine ⟨(fun e => by cases e), ?_⟩
  refine gv_sub [1, 2] (σ' := [(1, (.pointer (some ⟨b1, 0, none⟩))), (2, (.pointer (some ⟨b7, 0, none⟩)))]) (by kernel_rfl) ?_
  refine gv_nil ?_
  refine gv_seq ?_
  refine gv_region ?_
  refine gv_pure 1 [1, 2, 5] (σ' := [(1, (.pointer (some ⟨b1, 0, none⟩))), (2, (.pointer (some ⟨b7, 0, none⟩))), (5, (.pointer (some ⟨b1, 1, none⟩)))]) (by kernel_rfl) ?_
  have hk13 := hb4.grown hg9 nb
  refine gv_load (t := 22) (A := ⟨b1, 1, none⟩) (.slice pa0_0 (List.length n_0.2) pc0_0) [1, 2, 6] (σ' := [(1, (.pointer (some ⟨b1, 0, none⟩))), (2, (.pointer (some ⟨b7, 0, none⟩))), (6, (.slice pa0_0 (List.length n_0.2) pc0_0))]) (fun e => by cases e) (by rfl) (by rfl) (by rfl) (by kernel_rfl) (by kernel_rfl) (by kernel_rfl) (inw0 (hk13.cell 1 rfl)) (by kernel_rfl) ?_
  refine gv_pure 3 [1, 2, 3] (σ' := [(1, (.pointer (some ⟨b1, 0, none⟩))), (2, (.pointer (some ⟨b7, 0, none⟩))), (3, (.int .u64 (IntKind.u64.wrap (((List.length n_0.2 : Nat) : Int)))))]) (by kernel_rfl) ?_
  refine bindE h0 ?_; clear h0; intro n14 hn15 h0
  refine gv_name (s := 3) (v := (.int .u64 (IntKind.u64.wrap (((List.length n_0.2 : Nat) : Int))))) (v' := (.int .u64 n14)) (by rfl) (congrArg (Value.int .u64) (Option.some.inj hn15)) ?_
  refine gv_sub [1, 2, 3] (σ' := [(1, (.pointer (some ⟨b1, 0, none⟩))), (2, (.pointer (some ⟨b7, 0, none⟩))), (3, (.int .u64 n14))]) (by kernel_rfl) ?_
  refine gv_nil ?_
  refine gv_seq ?_
  refine gv_seq ?_
  refine gv_region ?_
  refine gv_pure 1 [1, 2, 3, 9] (σ' := [(1, (.pointer (some ⟨b1, 0, none⟩))), (2, (.pointer (some ⟨b7, 0, none⟩))), (3, (.int .u64 n14)), (9, (.pointer (some ⟨b1, 0, none⟩)))]) (by kernel_rfl) ?_
  refine gv_load (t := 4) (A := ⟨b1, 0, none⟩) (.bool n_0.1) [1, 2, 3, 10] (σ' := [(1, (.pointer (some ⟨b1, 0, none⟩))), (2, (.pointer (some ⟨b7, 0, none⟩))), (3, (.int .u64 n14)), (10, (.bool n_0.1))]) (fun e => by cases e) (by rfl) (by rfl) (by rfl) (by kernel_rfl) (by kernel_rfl) (by kernel_rfl) (inw0 (hk13.cell 0 rfl)) (by kernel_rfl) ?_
  refine gv_nil ?_
  refine bindE h0 ?_; clear h0; intro j16 h1 h0
  refine gv_cut_code (J := fun a w17 => Below w0.heap.size w0 w17 ∧ w8.heap.size ≤ w17.heap.size ∧ Box w17 b1 24 #[(.bool n_0.1), (.slice pa0_0 (List.length n_0.2) pc0_0)] ∧ Box w17 b7 27 #[(.int .u64 0), (.int .u64 0)] ∧ a.defers = [] ∧ a.tmps.size = 33 ∧ Ok [(1, (.pointer (some ⟨b1, 0, none⟩))), (2, (.pointer (some ⟨b7, 0, none⟩))), (3, (.int .u64 j16))] a.tmps) ?_ ?_
  · skip
    refine gv_cond (b := n_0.1) (by rfl) (fun hc18 => ?_) (fun hc18 => ?_)
    · replace h1 := ite_t hc18 h1
      refine gv_region ?_
      refine gv_pure 3 [1, 2, 3] (σ' := [(1, (.pointer (some ⟨b1, 0, none⟩))), (2, (.pointer (some ⟨b7, 0, none⟩))), (3, (.int .u64 (bwXor .u64 18446744073709551615 n14)))]) (by kernel_rfl) ?_
      refine gv_nil ?_
      have e := Option.some.inj h1; subst e
      refine gv_goal fun a hd hs hok => ?_
      obtain ⟨q1, q2, q3, _⟩ := hok
      have hg19 := (grown_trans hg3 hg9)
      have hB20 := below_grown hB0 hg19 hB0.size nb
      exact ⟨hB20, (Nat.le_refl _), hk13, hb10, hd, hs, ⟨q1, q2, q3, trivial⟩⟩
    · replace h1 := ite_f hc18 h1
      refine gv_skip ?_
      have e := Option.some.inj h1; subst e
      refine gv_goal fun a hd hs hok => ?_
      obtain ⟨q1, q2, q3, q10, _⟩ := hok
      have hg21 := (grown_trans hg3 hg9)
      have hB22 := below_grown hB0 hg21 hB0.size nb
      exact ⟨hB22, (Nat.le_refl _), hk13, hb10, hd, hs, ⟨q1, q2, q3, trivial⟩⟩
  · rintro a w17 ⟨hB23, hz24, hb25, hb26, hd, hs, hok⟩
    refine (?_ : Run Try.prog _ 33 _ .normal [(1, (.pointer (some ⟨b1, 0, none⟩))), (2, (.pointer (some ⟨b7, 0, none⟩))), (3, (.int .u64 j16))] w17) a hd hs hok
    clear hd hs hok
    clear hz24 hn15 hk13 hz12 hb10 hg9 hz6
    refine gv_seq ?_
    refine gv_seq ?_
    refine gv_region ?_
    refine gv_pure 1 [1, 2, 3, 4] (σ' := [(1, (.pointer (some ⟨b1, 0, none⟩))), (2, (.pointer (some ⟨b7, 0, none⟩))), (3, (.int .u64 j16)), (4, (.int .i64 0))]) (by kernel_rfl) ?_
    refine gv_nil ?_
    refine bindE h0 ?_; clear h0; intro j27 h1 h0
    refine gv_cut_code (J := fun a w28 => Below w0.heap.size w0 w28 ∧ w17.heap.size ≤ w28.heap.size ∧ Box w28 b7 27 #[(.int .u64 0), (.int .u64 0)] ∧ a.defers = [] ∧ a.tmps.size = 33 ∧ Ok [(2, (.pointer (some ⟨b7, 0, none⟩))), (3, (.int .u64 j27))] a.tmps) ?_ ?_
    · skip
      refine gv_block ?_
      refine gv_loop (A := fun (s29 : (Int × Int)) a w30 => Below w0.heap.size w0 w30 ∧ w17.heap.size ≤ w30.heap.size ∧ Box w30 b1 24 #[(.bool n_0.1), (.slice pa0_0 (List.length n_0.2) pc0_0)] ∧ Box w30 b7 27 #[(.int .u64 0), (.int .u64 0)] ∧ a.defers = [] ∧ a.tmps.size = 33 ∧ Ok [(1, (.pointer (some ⟨b1, 0, none⟩))), (2, (.pointer (some ⟨b7, 0, none⟩))), (3, (.int .u64 s29.1)), (4, (.int .i64 s29.2))] a.tmps) h1 ?_ ?_
      · intro a hd hs hok
        obtain ⟨q1, q2, q3, q4, _⟩ := hok
        exact ⟨hB23, (Nat.le_refl _), hb25, hb26, hd, hs, ⟨q1, q2, q3, q4, trivial⟩⟩
      · rintro s29 r2 h2 hR2 a w30 ⟨hB31, hz32, hb33, hb34, hd, hs, hok⟩
        refine (?_ : Run Try.prog _ 33 _ .normal [(1, (.pointer (some ⟨b1, 0, none⟩))), (2, (.pointer (some ⟨b7, 0, none⟩))), (3, (.int .u64 s29.1)), (4, (.int .i64 s29.2))] w30) a hd hs hok
        clear hd hs hok
        refine gv_seq ?_
        refine gv_seq ?_
        refine gv_region ?_
        refine gv_pure 2 [1, 2, 3, 4, 13, 14] (σ' := [(1, (.pointer (some ⟨b1, 0, none⟩))), (2, (.pointer (some ⟨b7, 0, none⟩))), (3, (.int .u64 s29.1)), (4, (.int .i64 s29.2)), (13, (.int .i64 s29.2)), (14, (.pointer (some ⟨b1, 1, none⟩)))]) (by kernel_rfl) ?_
        refine gv_load (t := 22) (A := ⟨b1, 1, none⟩) (.slice pa0_0 (List.length n_0.2) pc0_0) [1, 2, 3, 4, 13, 15] (σ' := [(1, (.pointer (some ⟨b1, 0, none⟩))), (2, (.pointer (some ⟨b7, 0, none⟩))), (3, (.int .u64 s29.1)), (4, (.int .i64 s29.2)), (13, (.int .i64 s29.2)), (15, (.slice pa0_0 (List.length n_0.2) pc0_0))]) (fun e => by cases e) (by rfl) (by rfl) (by rfl) (by kernel_rfl) (by kernel_rfl) (by kernel_rfl) (inw0 (hb33.cell 1 rfl)) (by kernel_rfl) ?_
        refine gv_pure 2 [1, 2, 3, 4, 17] (σ' := [(1, (.pointer (some ⟨b1, 0, none⟩))), (2, (.pointer (some ⟨b7, 0, none⟩))), (3, (.int .u64 s29.1)), (4, (.int .i64 s29.2)), (17, (.bool (decide (s29.2 < ((List.length n_0.2 : Nat) : Int)))))]) (by kernel_rfl) ?_
        refine gv_nil ?_
        refine gv_cond (b := (decide (s29.2 < ((List.length n_0.2 : Nat) : Int)))) (by rfl) (fun hc35 => ?_) (fun hc35 => ?_)
        · replace h2 := ite_t hc35 h2
          refine gv_skip ?_
          refine gv_seq ?_
          refine gv_block ?_
          refine gv_region ?_
          refine gv_pure 3 [1, 2, 4, 21, 22] (σ' := [(1, (.pointer (some ⟨b1, 0, none⟩))), (2, (.pointer (some ⟨b7, 0, none⟩))), (4, (.int .i64 s29.2)), (21, (.int .u64 (IntKind.u64.wrap (s29.1 * 6364136223846793005)))), (22, (.pointer (some ⟨b1, 1, none⟩)))]) (by kernel_rfl) ?_
          refine gv_load (t := 22) (A := ⟨b1, 1, none⟩) (.slice pa0_0 (List.length n_0.2) pc0_0) [1, 2, 4, 21, 23] (σ' := [(1, (.pointer (some ⟨b1, 0, none⟩))), (2, (.pointer (some ⟨b7, 0, none⟩))), (4, (.int .i64 s29.2)), (21, (.int .u64 (IntKind.u64.wrap (s29.1 * 6364136223846793005)))), (23, (.slice pa0_0 (List.length n_0.2) pc0_0))]) (fun e => by cases e) (by rfl) (by rfl) (by rfl) (by kernel_rfl) (by kernel_rfl) (by kernel_rfl) (inw0 (hb33.cell 1 rfl)) (by kernel_rfl) ?_
          refine gv_pure 1 [1, 2, 4, 21, 23, 24] (σ' := [(1, (.pointer (some ⟨b1, 0, none⟩))), (2, (.pointer (some ⟨b7, 0, none⟩))), (4, (.int .i64 s29.2)), (21, (.int .u64 (IntKind.u64.wrap (s29.1 * 6364136223846793005)))), (23, (.slice pa0_0 (List.length n_0.2) pc0_0)), (24, (.int .i64 s29.2))]) (by kernel_rfl) ?_
          refine bindE h2 ?_; clear h2; intro x36 hx37 h2
          refine gv_idxaddr (t := 22) (e := 76) (a := pa0_0) (len := List.length n_0.2) (cap := pc0_0) (kk := .i64) (i := s29.2) (sz := 1) [1, 2, 4, 21, 25] (σ' := [(1, (.pointer (some ⟨b1, 0, none⟩))), (2, (.pointer (some ⟨b7, 0, none⟩))), (4, (.int .i64 s29.2)), (21, (.int .u64 (IntKind.u64.wrap (s29.1 * 6364136223846793005)))), (25, (.pointer (some (elemAddr pa0_0 ((s29.2).toNat * 1)))))]) (fun e => by cases e) (by rfl) (by rfl) (by rfl) (by kernel_rfl) (by kernel_rfl) Try.underlying22 (by kernel_rfl) ((hpa0_0.below hB31 hX0).has hx37) (idx_spec hx37).1 (idx_spec hx37).2.1 (by kernel_rfl) ?_
          refine gv_load (t := 76) (A := (elemAddr pa0_0 ((s29.2).toNat * 1))) (.int .u32 x36) [1, 2, 4, 21, 26] (σ' := [(1, (.pointer (some ⟨b1, 0, none⟩))), (2, (.pointer (some ⟨b7, 0, none⟩))), (4, (.int .i64 s29.2)), (21, (.int .u64 (IntKind.u64.wrap (s29.1 * 6364136223846793005)))), (26, (.int .u32 x36))]) (fun e => by cases e) (by rfl) (by rfl) (by rfl) (by kernel_rfl) (by kernel_rfl) (by kernel_rfl) (inw0 ((hpa0_0.below hB31 hX0).cell hx37)) (by kernel_rfl) ?_
          refine gv_pure 3 [1, 2, 4, 29] (σ' := [(1, (.pointer (some ⟨b1, 0, none⟩))), (2, (.pointer (some ⟨b7, 0, none⟩))), (4, (.int .i64 s29.2)), (29, (.int .u64 (IntKind.u64.wrap ((IntKind.u64.wrap ((IntKind.u64.wrap (s29.1 * 6364136223846793005)) + (IntKind.u64.wrap (x36)))) + 1))))]) (by kernel_rfl) ?_
          refine bindE h2 ?_; clear h2; intro r38 hr39 h2
          refine gv_call (f := 42) (vs := [(.int .u64 (IntKind.u64.wrap ((IntKind.u64.wrap ((IntKind.u64.wrap (s29.1 * 6364136223846793005)) + (IntKind.u64.wrap (x36)))) + 1)))]) (cap := []) _ (by decide) (by rfl) (by rfl) rfl (by rfl) (by rfl) enters42 (ref4_Mixed_ok fuel (IntKind.u64.wrap ((IntKind.u64.wrap ((IntKind.u64.wrap (s29.1 * 6364136223846793005)) + (IntKind.u64.wrap (x36)))) + 1)) w30  r38 hr39) ?_
          rintro v42 w40 ⟨hg41, rfl⟩
          refine ⟨(fun e => by cases e), ?_⟩
          refine gv_pure 1 [1, 2, 3, 4] (σ' := [(1, (.pointer (some ⟨b1, 0, none⟩))), (2, (.pointer (some ⟨b7, 0, none⟩))), (3, (.int .u64 r38)), (4, (.int .i64 s29.2))]) (by kernel_rfl) ?_
          refine gv_nil ?_
          refine gv_blk ?_
          refine gv_region ?_
          refine gv_pure 3 [1, 2, 3, 4] (σ' := [(1, (.pointer (some ⟨b1, 0, none⟩))), (2, (.pointer (some ⟨b7, 0, none⟩))), (3, (.int .u64 r38)), (4, (.int .i64 (IntKind.i64.wrap (s29.2 + 1))))]) (by kernel_rfl) ?_
          refine gv_nil ?_
          have e := Option.some.inj h2; subst e
          refine gv_goal fun a hd hs hok => ?_
          obtain ⟨q1, q2, q3, q4, _⟩ := hok
          have hB43 := below_grown hB31 hg41 hB31.size nb
          have hz44 : w17.heap.size ≤ w40.heap.size := (Nat.le_trans hz32 hg41.size)
          have hk45 := hb33.grown hg41 nb
          have hk46 := hb34.grown hg41 nb
          exact ⟨(r38, (IntKind.i64.wrap (s29.2 + 1))), rfl, hB43, hz44, hk45, hk46, hd, hs, ⟨q1, q2, q3, q4, trivial⟩⟩
        · replace h2 := ite_f hc35 h2
          refine gv_cexit ?_
          refine gv_exit rfl ?_
          have e := Option.some.inj h2; subst e
          replace h1 := congrArg some (hR2 _ rfl)
          have e := Option.some.inj h1; subst e
          refine gv_goal fun a hd hs hok => ?_
          obtain ⟨q1, q2, q3, q4, q17, _⟩ := hok
          have hz47 : w17.heap.size ≤ w30.heap.size := hz32
          exact ⟨hB31, hz47, hb34, hd, hs, ⟨q2, q3, trivial⟩⟩
    · rintro a w28 ⟨hB48, hz49, hb50, hd, hs, hok⟩
      refine (?_ : Run Try.prog _ 33 _ .normal [(2, (.pointer (some ⟨b7, 0, none⟩))), (3, (.int .u64 j27))] w28) a hd hs hok
      clear hd hs hok
      clear hz49 hb26 hb25 hB23 hbe5 hb4
      refine gv_seq ?_
      refine gv_region ?_
      refine gv_pure 2 [2, 32] (σ' := [(2, (.pointer (some ⟨b7, 0, none⟩))), (32, (.agg #[(.int .u64 j27), (.int .u64 1442695040888963407)]))]) (by kernel_rfl) ?_
      refine gv_store (t := 27) (b := b7) (off := 0) (v := (.agg #[(.int .u64 j27), (.int .u64 1442695040888963407)])) (t' := 27) (cs := #[(.int .u64 0), (.int .u64 0)]) #[(.int .u64 j27), (.int .u64 1442695040888963407)] (by decide) (by rfl) (by rfl) (by kernel_rfl) (by kernel_rfl) (by kernel_rfl) (by intro u hu; simp [Value.cells] at hu; rcases hu with rfl | rfl <;> rfl) (show 0 + 2 ≤ 2 by decide) (by rfl) hb50 ?_
      intro w51 hg52 hb53 hz54
      refine ⟨(fun e => by cases e), ?_⟩
      refine gv_sub [2] (σ' := [(2, (.pointer (some ⟨b7, 0, none⟩)))]) (by kernel_rfl) ?_
      refine gv_nil ?_
      refine gv_cret ?_
      have e := Option.some.inj h0; subst e
      refine gv_ret (gv_done [(.agg #[(.int .u64 j27), (.int .u64 1442695040888963407)])] rfl ⟨⟨_, rfl, run_loadVar_row w51 b7 _ 27 _ _ _ hb53 Try.underlying27 rfl (by kernel_rfl)⟩, trivial⟩ ?_)
      have hB55 := below_grown hB0 hg3 hB0.size nb
      have hlo56 : w0.heap.size ≤ b7 := lob hbe11 hB55.size
      have hB57 := below_grown hB48 hg52 hB48.size (rowlo hlo56)
      exact ⟨grown_of_below hB57, rfl⟩

set_option maxHeartbeats 4000000 in
set_option maxRecDepth 100000 in
theorem ref4_Random_Draw_ok (fuel : Nat) (pb0 : Nat) (g_0 : ((Int × Int))) (w0 : World) (hp0 : Box w0 pb0 40 #[(.int .u64 g_0.1), (.int .u64 g_0.2)]) (r0 : (Int × ((Int × Int)))) (h0 : ref4_Random_Draw fuel g_0 = some r0) :
    Calls Try.prog 15 ([(.pointer (some ⟨pb0, 0, none⟩))] : List Value).toArray w0 (Ret fun v w' => w0.grownBy w' (some pb0) ∧ v = tup [(.int .u64 r0.1)] ∧ Box w' pb0 40 #[(.int .u64 r0.2.1), (.int .u64 r0.2.2)]) := by
  have hB0 : w0.grownBy w0 (some pb0) := grown_refl _ _
  unfold ref4_Random_Draw at h0
  refine calls_run Try.func15 rfl Try.ntmps15 (by kernel_rfl) ?_
  refine gv_sub [0] (σ' := [(0, (.pointer (some ⟨pb0, 0, none⟩)))]) (by kernel_rfl) ?_
  have hpl0 := hp0.lt
  refine gv_seq ?_
  refine gv_region ?_
  refine gv_pure 1 [0] (σ' := [(0, (.pointer (some ⟨pb0, 0, none⟩)))]) (by kernel_rfl) ?_
  refine gv_nil ?_
  refine gv_seq ?_
  refine gv_drawA (by kernel_rfl) ?_
  intro w1 hg2
  refine gv_pre [0, 1, 2, 3, 4, 7, 8, 9, 10] #[true, true, true, true, true, false, false, true, true, true, true, false, false, false, false, false, false] 8 (by kernel_rfl) (by rfl) ?_
  refine gv_pure 9 [0, 3, 7, 13] (σ' := [(0, (.pointer (some ⟨pb0, 0, none⟩))), (3, (.pointer (some ⟨pb0, 0, none⟩))), (7, (.pointer (some ⟨pb0, 0, none⟩))), (13, (.pointer (some ⟨pb0, 1, none⟩)))]) (by kernel_rfl) ?_
  refine gv_nil ?_
  refine gv_goal fun a hd hs hok => ?_
  refine (?_ : RunA Try.prog _ 25 _ _ 8 #[true, true, true, true, true, false, false, true, true, true, true, false, false, false, false, false, false] [(0, (.pointer (some ⟨pb0, 0, none⟩))), (3, (.pointer (some ⟨pb0, 0, none⟩))), (7, (.pointer (some ⟨pb0, 0, none⟩))), (13, (.pointer (some ⟨pb0, 1, none⟩)))] w1) a hd hs hok
  clear hd hs hok
  refine gv_stage (Cls w1 []) [0, 1, 2, 3, 4, 5, 6, 7, 8, 9, 10, 11] [(5, some true), (6, some true), (11, some true)] #[true, true, true, true, true, true, true, true, true, true, true, true, false, false, false, false, false] 5 (by kernel_rfl) (by rfl) (Cls.refl _ _) ?_
  have hC3 := Cls.refl w1 []
  have hk4 := hp0.grown hg2 nb
  refine gv_load (t := 25) (A := ⟨pb0, 0, none⟩) (.int .u64 g_0.1) [0, 3, 8, 13] (σ' := [(0, (.pointer (some ⟨pb0, 0, none⟩))), (3, (.pointer (some ⟨pb0, 0, none⟩))), (8, (.int .u64 g_0.1)), (13, (.pointer (some ⟨pb0, 1, none⟩)))]) (fun e => by cases e) (by rfl) (by rfl) (by rfl) (by kernel_rfl) (by kernel_rfl) (by kernel_rfl) (inw1 fun w' hC' => ((hC'.box hk4 nm_nil).cell 0 rfl)) (by kernel_rfl) ?_
  refine gv_pure 1 [0, 3, 9, 13] (σ' := [(0, (.pointer (some ⟨pb0, 0, none⟩))), (3, (.pointer (some ⟨pb0, 0, none⟩))), (9, (.int .u64 (IntKind.u64.wrap (g_0.1 * 6364136223846793005)))), (13, (.pointer (some ⟨pb0, 1, none⟩)))]) (by kernel_rfl) ?_
  refine gv_load (t := 25) (A := ⟨pb0, 1, none⟩) (.int .u64 g_0.2) [0, 3, 9, 14] (σ' := [(0, (.pointer (some ⟨pb0, 0, none⟩))), (3, (.pointer (some ⟨pb0, 0, none⟩))), (9, (.int .u64 (IntKind.u64.wrap (g_0.1 * 6364136223846793005)))), (14, (.int .u64 g_0.2))]) (fun e => by cases e) (by rfl) (by rfl) (by rfl) (by kernel_rfl) (by kernel_rfl) (by kernel_rfl) (inw1 fun w' hC' => ((hC'.box hk4 nm_nil).cell 1 rfl)) (by kernel_rfl) ?_
  refine gv_nil ?_
  refine gv_goal fun a hd hs hok => ?_
  refine (?_ : RunA Try.prog _ 25 _ _ 5 #[true, true, true, true, true, true, true, true, true, true, true, true, false, false, false, false, false] [(0, (.pointer (some ⟨pb0, 0, none⟩))), (3, (.pointer (some ⟨pb0, 0, none⟩))), (9, (.int .u64 (IntKind.u64.wrap (g_0.1 * 6364136223846793005)))), (14, (.int .u64 g_0.2))] w1) a hd hs hok
  clear hd hs hok
  refine gv_pre [12, 13, 14, 15] #[true, true, true, true, true, true, true, true, true, true, true, true, true, true, true, true, false] 1 (by kernel_rfl) (by rfl) ?_
  refine gv_pure 4 [0, 15, 18] (σ' := [(0, (.pointer (some ⟨pb0, 0, none⟩))), (15, (.int .u64 (IntKind.u64.wrap ((IntKind.u64.wrap (g_0.1 * 6364136223846793005)) + g_0.2)))), (18, (.pointer (some ⟨pb0, 0, none⟩)))]) (by kernel_rfl) ?_
  refine gv_nil ?_
  refine gv_goal fun a hd hs hok => ?_
  refine (?_ : RunA Try.prog _ 25 _ _ 1 #[true, true, true, true, true, true, true, true, true, true, true, true, true, true, true, true, false] [(0, (.pointer (some ⟨pb0, 0, none⟩))), (15, (.int .u64 (IntKind.u64.wrap ((IntKind.u64.wrap (g_0.1 * 6364136223846793005)) + g_0.2)))), (18, (.pointer (some ⟨pb0, 0, none⟩)))] w1) a hd hs hok
  clear hd hs hok
  refine gv_stage (fun _ => True) [0, 1, 2, 3, 4, 5, 6, 7, 8, 9, 10, 11, 12, 13, 14, 15, 16] [(16, some false)] #[true, true, true, true, true, true, true, true, true, true, true, true, true, true, true, true, true] 0 (by kernel_rfl) (by rfl) trivial ?_
  refine gv_store (t := 25) (b := pb0) (off := 0) (v := (.int .u64 (IntKind.u64.wrap ((IntKind.u64.wrap (g_0.1 * 6364136223846793005)) + g_0.2)))) (t' := 40) (cs := #[(.int .u64 g_0.1), (.int .u64 g_0.2)]) #[(.int .u64 (IntKind.u64.wrap ((IntKind.u64.wrap (g_0.1 * 6364136223846793005)) + g_0.2))), (.int .u64 g_0.2)] (by decide) (by rfl) (by rfl) (by kernel_rfl) (by kernel_rfl) (by kernel_rfl) (by intro u hu; simp [Value.cells] at hu; subst hu; rfl) (show 0 + 1 ≤ 2 by decide) (by rfl) hk4 ?_
  intro w5 hg6 hb7 hz8
  refine ⟨(fun _ => trivial), ?_⟩
  refine gv_sub [0] (σ' := [(0, (.pointer (some ⟨pb0, 0, none⟩)))]) (by kernel_rfl) ?_
  refine gv_nil ?_
  refine gv_goal fun a hd hs hok => ?_
  refine (?_ : RunA Try.prog _ 25 _ _ 0 #[true, true, true, true, true, true, true, true, true, true, true, true, true, true, true, true, true] [(0, (.pointer (some ⟨pb0, 0, none⟩)))] w5) a hd hs hok
  clear hd hs hok
  refine gv_stageE (by kernel_rfl) ?_
  refine gv_seq ?_
  refine gv_region ?_
  refine gv_pure 4 [22] (σ' := [(22, (.pointer (some ⟨pb0, 0, none⟩)))]) (by kernel_rfl) ?_
  refine gv_load (t := 25) (A := ⟨pb0, 0, none⟩) (.int .u64 (IntKind.u64.wrap ((IntKind.u64.wrap (g_0.1 * 6364136223846793005)) + g_0.2))) [23] (σ' := [(23, (.int .u64 (IntKind.u64.wrap ((IntKind.u64.wrap (g_0.1 * 6364136223846793005)) + g_0.2))))]) (fun e => by cases e) (by rfl) (by rfl) (by rfl) (by kernel_rfl) (by kernel_rfl) (by kernel_rfl) (inw0 (hb7.cell 0 rfl)) (by kernel_rfl) ?_
  refine bindE h0 ?_; clear h0; intro r9 hr10 h0
  refine gv_call (f := 42) (vs := [(.int .u64 (IntKind.u64.wrap ((IntKind.u64.wrap (g_0.1 * 6364136223846793005)) + g_0.2)))]) (cap := []) _ (by decide) (by rfl) (by rfl) rfl (by rfl) (by rfl) enters42 (ref4_Mixed_ok fuel (IntKind.u64.wrap ((IntKind.u64.wrap (g_0.1 * 6364136223846793005)) + g_0.2)) w5  r9 hr10) ?_
  rintro v13 w11 ⟨hg12, rfl⟩
  refine ⟨(fun e => by cases e), ?_⟩
  refine gv_pure 1 [2] (σ' := [(2, (.int .u64 r9))]) (by kernel_rfl) ?_
  refine gv_nil ?_
  refine gv_cret ?_
  have e := Option.some.inj h0; subst e
  refine gv_ret (gv_done [(.int .u64 r9)] rfl ⟨rfl, trivial⟩ ?_)
  have hB14 := grown_step hB0 hg2  nb
  have hB15 := grown_step hB14 hg6  rowpp
  have hB16 := grown_step hB15 hg12  nb
  have hk17 := hb7.grown hg12 nb
  exact ⟨hB16, rfl, hk17⟩

set_option maxHeartbeats 4000000 in
set_option maxRecDepth 100000 in
theorem ref3_NoInt_ok (fuel : Nat) (pa0_0 : Option Addr) (pc0_0 : Nat) (a_0 : (Bool × (List Int))) (w0 : World) (X0 : Nat → Prop) (hX0 : ∀ k, X0 k → k < w0.heap.size) (hpa0_0 : Rd (iE .u32) w0 X0 pa0_0 pc0_0 a_0.2) (r0 : Bool) (h0 : ref3_NoInt fuel a_0 = some r0) :
    Calls Try.prog 18 ([(.agg #[(.bool a_0.1), (.slice pa0_0 (List.length a_0.2) pc0_0)])] : List Value).toArray w0 (Ret fun v w' => w0.grownBy w' none ∧ v = tup [(.bool r0)]) := by
  have hB0 : Below w0.heap.size w0 w0 := Below.refl _ _
  unfold ref3_NoInt at h0
  refine calls_run Try.func18 rfl Try.ntmps18 (by kernel_rfl) ?_
  refine gv_sub [0] (σ' := [(0, (.agg #[(.bool a_0.1), (.slice pa0_0 (List.length a_0.2) pc0_0)]))]) (by kernel_rfl) ?_
  refine gv_seq ?_
  refine gv_region ?_
  refine gv_new (fun b => .pointer (some ⟨b, 0, none⟩)) #[(.bool a_0.1), (.slice pa0_0 (List.length a_0.2) pc0_0)] 24 (by decide) (by rfl) (by rfl) (by kernel_rfl) (by kernel_rfl) ?_
  intro b1 w2 hg3 hb4 hbe5 hz6
  refine ⟨(fun e => by cases e), ?_⟩
  refine gv_pure 1 [1] (σ' := [(1, (.pointer (some ⟨b1, 0, none⟩)))]) (by kernel_rfl) ?_
  refine gv_nil ?_
  refine gv_seq ?_
  refine gv_region ?_
  refine bindE h0 ?_; clear h0; intro j7 h1 h0
  refine gv_cut_ops (J := fun a w8 => Below w0.heap.size w0 w8 ∧ w2.heap.size ≤ w8.heap.size ∧ a.defers = [] ∧ a.tmps.size = 12 ∧ Ok [(2, (.bool j7))] a.tmps) ?_ ?_
  · skip
    refine gv_pure 1 [1, 3] (σ' := [(1, (.pointer (some ⟨b1, 0, none⟩))), (3, (.pointer (some ⟨b1, 0, none⟩)))]) (by kernel_rfl) ?_
    refine gv_load (t := 4) (A := ⟨b1, 0, none⟩) (.bool a_0.1) [1, 4] (σ' := [(1, (.pointer (some ⟨b1, 0, none⟩))), (4, (.bool a_0.1))]) (fun e => by cases e) (by rfl) (by rfl) (by rfl) (by kernel_rfl) (by kernel_rfl) (by kernel_rfl) (inw0 (hb4.cell 0 rfl)) (by kernel_rfl) ?_
    refine gv_pure 2 [1, 6] (σ' := [(1, (.pointer (some ⟨b1, 0, none⟩))), (6, (.bool (!a_0.1)))]) (by kernel_rfl) ?_
    refine gv_split (s := 6) (g := (!a_0.1)) (by rfl) (fun hc9 => ?_) (fun hc9 => ?_)
    · skip
      replace h1 := ite_t hc9 h1
      refine gv_pure 1 [6, 7] (σ' := [(6, (.bool true)), (7, (.pointer (some ⟨b1, 1, none⟩)))]) (by kernel_rfl) ?_
      refine gv_load (t := 22) (A := ⟨b1, 1, none⟩) (.slice pa0_0 (List.length a_0.2) pc0_0) [6, 8] (σ' := [(6, (.bool true)), (8, (.slice pa0_0 (List.length a_0.2) pc0_0))]) (fun e => by cases e) (by rfl) (by rfl) (by rfl) (by kernel_rfl) (by kernel_rfl) (by kernel_rfl) (inw0 (hb4.cell 1 rfl)) (by kernel_rfl) ?_
      refine gv_pure 4 [2] (σ' := [(2, (.bool (((List.length a_0.2 : Nat) : Int) == 0)))]) (by kernel_rfl) ?_
      refine gv_nil ?_
      have e := Option.some.inj h1; subst e
      refine gv_goal fun a hd hs hok => ?_
      obtain ⟨q2, _⟩ := hok
      have hB10 := below_grown hB0 hg3 hB0.size nb
      exact ⟨hB10, (Nat.le_refl _), hd, hs, ⟨q2, trivial⟩⟩
    · skip
      replace h1 := ite_f hc9 h1
      refine gv_pure 6 [2] (σ' := [(2, (.bool false))]) (by kernel_rfl) ?_
      refine gv_nil ?_
      have e := Option.some.inj h1; subst e
      refine gv_goal fun a hd hs hok => ?_
      obtain ⟨q2, _⟩ := hok
      have hB11 := below_grown hB0 hg3 hB0.size nb
      exact ⟨hB11, (Nat.le_refl _), hd, hs, ⟨q2, trivial⟩⟩
  · rintro a w8 ⟨hB12, hz13, hd, hs, hok⟩
    refine (?_ : Run Try.prog _ 12 _ .normal [(2, (.bool j7))] w8) a hd hs hok
    clear hd hs hok
    clear hz13 hz6 hbe5 hb4 hg3
    refine gv_cret ?_
    have e := Option.some.inj h0; subst e
    refine gv_ret (gv_done [(.bool j7)] rfl ⟨rfl, trivial⟩ ?_)
    exact ⟨grown_of_below hB12, rfl⟩

set_option maxHeartbeats 4000000 in
set_option maxRecDepth 100000 in
theorem law4_draws_ok (fuel : Nat)  (w0 : World)  (r0 : Bool) (h0 : law4_draws fuel  = some r0) :
    Calls Try.prog 11 ([] : List Value).toArray w0 (Ret fun v w' => w0.grownBy w' none ∧ v = tup [(.bool r0)]) := by
  have hB0 : Below w0.heap.size w0 w0 := Below.refl _ _
  unfold law4_draws at h0
  refine calls_run Try.func11 rfl Try.ntmps11 (by kernel_rfl) ?_
  refine gv_sub [] (σ' := []) (by kernel_rfl) ?_
  refine gv_seq ?_
  refine gv_region ?_
  refine gv_pure 1 [] (σ' := []) (by kernel_rfl) ?_
  refine gv_nil ?_
  refine gv_seq ?_
  refine gv_region ?_
  refine bindE h0 ?_; clear h0; intro r1 hr2 h0
  refine gv_call (f := 41) (vs := [(.int .i64 0)]) (cap := []) _ (by decide) (by rfl) (by rfl) rfl (by rfl) (by rfl) enters41 (law4_whole_ok fuel 0 w0  r1 hr2) ?_
  rintro v5 w3 ⟨hg4, a6, c7, a10, c11, rfl, ho8, hl9, ho12, hl13, ap14⟩
  refine ⟨(fun e => by cases e), ?_⟩
  have hl15 : ∀ g, blk a6 = some g → w0.heap.size ≤ g := fun g e => Nat.le_trans hB0.size (hl9 g e)
  have hl16 : ∀ g, blk a10 = some g → w0.heap.size ≤ g := fun g e => Nat.le_trans hB0.size (hl13 g e)
  refine gv_pure 1 [13] (σ' := [(13, (.agg #[(.bool r1.2.1.1), (.slice a6 (List.length r1.2.1.2) c7)]))]) (by kernel_rfl) ?_
  refine bindE h0 ?_; clear h0; intro r17 hr18 h0
  refine gv_call (f := 8) (vs := [(.agg #[(.bool r1.2.1.1), (.slice a6 (List.length r1.2.1.2) c7)])]) (cap := []) _ (by decide) (by rfl) (by rfl) rfl (by rfl) (by rfl) enters8 (random_Seed_ok fuel a6 c7 (r1.2.1.1, r1.2.1.2) w3 (fun k => (fun k => blk a6 = some k) k) (fun k hk => (fun k (hk : blk a6 = some k) => ho8.lt k hk) k hk) ((ho8.rd (Y := fun k => blk a6 = some k) (fun _ h => h.elim) (fun g e => e)).wide (fun k hk => hk)) r17 hr18) ?_
  rintro v21 w19 ⟨hg20, rfl⟩
  refine ⟨(fun e => by cases e), ?_⟩
  refine gv_pure 3 [15, 16] (σ' := [(15, (.agg #[(.int .u64 r17.1.1), (.int .u64 r17.1.2)])), (16, (.agg #[(.int .i64 r17.2.1), (.int .i64 r17.2.2)]))]) (by kernel_rfl) ?_
  refine gv_new (fun b => .pointer (some ⟨b, 0, none⟩)) #[(.int .u64 0), (.int .u64 0)] 27 (by decide) (by rfl) (by rfl) (by kernel_rfl) (by kernel_rfl) ?_
  intro b22 w23 hg24 hb25 hbe26 hz27
  refine ⟨(fun e => by cases e), ?_⟩
  refine gv_sub [1, 15, 16] (σ' := [(1, (.pointer (some ⟨b22, 0, none⟩))), (15, (.agg #[(.int .u64 r17.1.1), (.int .u64 r17.1.2)])), (16, (.agg #[(.int .i64 r17.2.1), (.int .i64 r17.2.2)]))]) (by kernel_rfl) ?_
  refine gv_new (fun b => .pointer (some ⟨b, 0, none⟩)) #[(.int .i64 0), (.int .i64 0)] 29 (by decide) (by rfl) (by rfl) (by kernel_rfl) (by kernel_rfl) ?_
  intro b28 w29 hg30 hb31 hbe32 hz33
  refine ⟨(fun e => by cases e), ?_⟩
  have hk38 := hb25.grown hg30 nb
  refine gv_sub [1, 2, 15, 16] (σ' := [(1, (.pointer (some ⟨b22, 0, none⟩))), (2, (.pointer (some ⟨b28, 0, none⟩))), (15, (.agg #[(.int .u64 r17.1.1), (.int .u64 r17.1.2)])), (16, (.agg #[(.int .i64 r17.2.1), (.int .i64 r17.2.2)]))]) (by kernel_rfl) ?_
  refine gv_store (t := 27) (b := b22) (off := 0) (v := (.agg #[(.int .u64 r17.1.1), (.int .u64 r17.1.2)])) (t' := 27) (cs := #[(.int .u64 0), (.int .u64 0)]) #[(.int .u64 r17.1.1), (.int .u64 r17.1.2)] (by decide) (by rfl) (by rfl) (by kernel_rfl) (by kernel_rfl) (by kernel_rfl) (by intro u hu; simp [Value.cells] at hu; rcases hu with rfl | rfl <;> rfl) (show 0 + 2 ≤ 2 by decide) (by rfl) hk38 ?_
  intro w34 hg35 hb36 hz37
  refine ⟨(fun e => by cases e), ?_⟩
  have ap43 : ¬ (· = b28) b22 := fun hx => Nat.not_lt_of_le ((lowb hbe32) _ hx) ((fun k (hk : k = b22) => Nat.lt_of_le_of_lt (Nat.le_of_eq hk) hb25.lt) _ rfl)
  have hk44 := hb31.grown hg35 (rowne ap43)
  refine gv_sub [1, 2, 16] (σ' := [(1, (.pointer (some ⟨b22, 0, none⟩))), (2, (.pointer (some ⟨b28, 0, none⟩))), (16, (.agg #[(.int .i64 r17.2.1), (.int .i64 r17.2.2)]))]) (by kernel_rfl) ?_
  refine gv_store (t := 29) (b := b28) (off := 0) (v := (.agg #[(.int .i64 r17.2.1), (.int .i64 r17.2.2)])) (t' := 29) (cs := #[(.int .i64 0), (.int .i64 0)]) #[(.int .i64 r17.2.1), (.int .i64 r17.2.2)] (by decide) (by rfl) (by rfl) (by kernel_rfl) (by kernel_rfl) (by kernel_rfl) (by intro u hu; simp [Value.cells] at hu; rcases hu with rfl | rfl <;> rfl) (show 0 + 2 ≤ 2 by decide) (by rfl) hk44 ?_
  intro w39 hg40 hb41 hz42
  refine ⟨(fun e => by cases e), ?_⟩
  refine gv_sub [1, 2] (σ' := [(1, (.pointer (some ⟨b22, 0, none⟩))), (2, (.pointer (some ⟨b28, 0, none⟩)))]) (by kernel_rfl) ?_
  refine gv_nil ?_
  refine gv_seq ?_
  refine gv_region ?_
  have ap45 : ¬ (· = b22) b28 := fun hx => Nat.not_lt_of_le ((lowb hbe32) _ rfl) ((fun k (hk : k = b22) => Nat.lt_of_le_of_lt (Nat.le_of_eq hk) hb25.lt) _ hx)
  have hk46 := hb36.grown hg40 (rowne ap45)
  refine gv_loadBox (t := 27) (b := b22) (t' := 27) (fr := (0, 0)) #[(.int .u64 r17.1.1), (.int .u64 r17.1.2)] [1, 2, 18] (σ' := [(1, (.pointer (some ⟨b22, 0, none⟩))), (2, (.pointer (some ⟨b28, 0, none⟩))), (18, (.agg #[(.int .u64 r17.1.1), (.int .u64 r17.1.2)]))]) (fun e => by cases e) (by rfl) (by rfl) (by rfl) (by kernel_rfl) (by kernel_rfl) (by kernel_rfl) (by kernel_rfl) (inw0 hk46) (by kernel_rfl) ?_
  refine bindE h0 ?_; clear h0; intro r47 hr48 h0
  refine gv_call (f := 9) (vs := [(.agg #[(.int .u64 r17.1.1), (.int .u64 r17.1.2)])]) (cap := []) _ (by decide) (by rfl) (by rfl) rfl (by rfl) (by rfl) enters9 (random_Next_ok fuel (r17.1.1, r17.1.2) w39  r47 hr48) ?_
  rintro v51 w49 ⟨hg50, rfl⟩
  refine ⟨(fun e => by cases e), ?_⟩
  refine gv_pure 4 [1, 2, 20, 21, 22] (σ' := [(1, (.pointer (some ⟨b22, 0, none⟩))), (2, (.pointer (some ⟨b28, 0, none⟩))), (20, (.int .u64 r47.1)), (21, (.agg #[(.int .u64 r47.2.1.1), (.int .u64 r47.2.1.2)])), (22, (.agg #[(.int .i64 r47.2.2.1), (.int .i64 r47.2.2.2)]))]) (by kernel_rfl) ?_
  refine gv_new (fun b => .pointer (some ⟨b, 0, none⟩)) #[(.int .u64 0), (.int .u64 0)] 27 (by decide) (by rfl) (by rfl) (by kernel_rfl) (by kernel_rfl) ?_
  intro b52 w53 hg54 hb55 hbe56 hz57
  refine ⟨(fun e => by cases e), ?_⟩
  clear hz57 hr48 hz42 hk44 hz37 hb36 hk38 hz33 hb31 hz27 hb25 hr18 hl16 hl15 ap14 hl13 ho12 hl9 ho8 hr2
  refine gv_sub [1, 2, 4, 20, 21, 22] (σ' := [(1, (.pointer (some ⟨b22, 0, none⟩))), (2, (.pointer (some ⟨b28, 0, none⟩))), (4, (.pointer (some ⟨b52, 0, none⟩))), (20, (.int .u64 r47.1)), (21, (.agg #[(.int .u64 r47.2.1.1), (.int .u64 r47.2.1.2)])), (22, (.agg #[(.int .i64 r47.2.2.1), (.int .i64 r47.2.2.2)]))]) (by kernel_rfl) ?_
  refine gv_new (fun b => .pointer (some ⟨b, 0, none⟩)) #[(.int .i64 0), (.int .i64 0)] 29 (by decide) (by rfl) (by rfl) (by kernel_rfl) (by kernel_rfl) ?_
  intro b58 w59 hg60 hb61 hbe62 hz63
  refine ⟨(fun e => by cases e), ?_⟩
  refine gv_pure 1 [1, 2, 3, 4, 5, 21, 22] (σ' := [(1, (.pointer (some ⟨b22, 0, none⟩))), (2, (.pointer (some ⟨b28, 0, none⟩))), (3, (.int .u64 r47.1)), (4, (.pointer (some ⟨b52, 0, none⟩))), (5, (.pointer (some ⟨b58, 0, none⟩))), (21, (.agg #[(.int .u64 r47.2.1.1), (.int .u64 r47.2.1.2)])), (22, (.agg #[(.int .i64 r47.2.2.1), (.int .i64 r47.2.2.2)]))]) (by kernel_rfl) ?_
  have hk68 := hb55.grown hg60 nb
  refine gv_store (t := 27) (b := b52) (off := 0) (v := (.agg #[(.int .u64 r47.2.1.1), (.int .u64 r47.2.1.2)])) (t' := 27) (cs := #[(.int .u64 0), (.int .u64 0)]) #[(.int .u64 r47.2.1.1), (.int .u64 r47.2.1.2)] (by decide) (by rfl) (by rfl) (by kernel_rfl) (by kernel_rfl) (by kernel_rfl) (by intro u hu; simp [Value.cells] at hu; rcases hu with rfl | rfl <;> rfl) (show 0 + 2 ≤ 2 by decide) (by rfl) hk68 ?_
  intro w64 hg65 hb66 hz67
  refine ⟨(fun e => by cases e), ?_⟩
  have ap73 : ¬ (· = b58) b52 := fun hx => Nat.not_lt_of_le ((lowb hbe62) _ hx) ((fun k (hk : k = b52) => Nat.lt_of_le_of_lt (Nat.le_of_eq hk) hb55.lt) _ rfl)
  have hk74 := hb61.grown hg65 (rowne ap73)
  refine gv_sub [1, 2, 3, 4, 5, 22] (σ' := [(1, (.pointer (some ⟨b22, 0, none⟩))), (2, (.pointer (some ⟨b28, 0, none⟩))), (3, (.int .u64 r47.1)), (4, (.pointer (some ⟨b52, 0, none⟩))), (5, (.pointer (some ⟨b58, 0, none⟩))), (22, (.agg #[(.int .i64 r47.2.2.1), (.int .i64 r47.2.2.2)]))]) (by kernel_rfl) ?_
  refine gv_store (t := 29) (b := b58) (off := 0) (v := (.agg #[(.int .i64 r47.2.2.1), (.int .i64 r47.2.2.2)])) (t' := 29) (cs := #[(.int .i64 0), (.int .i64 0)]) #[(.int .i64 r47.2.2.1), (.int .i64 r47.2.2.2)] (by decide) (by rfl) (by rfl) (by kernel_rfl) (by kernel_rfl) (by kernel_rfl) (by intro u hu; simp [Value.cells] at hu; rcases hu with rfl | rfl <;> rfl) (show 0 + 2 ≤ 2 by decide) (by rfl) hk74 ?_
  intro w69 hg70 hb71 hz72
  refine ⟨(fun e => by cases e), ?_⟩
  refine gv_sub [1, 2, 3, 4, 5] (σ' := [(1, (.pointer (some ⟨b22, 0, none⟩))), (2, (.pointer (some ⟨b28, 0, none⟩))), (3, (.int .u64 r47.1)), (4, (.pointer (some ⟨b52, 0, none⟩))), (5, (.pointer (some ⟨b58, 0, none⟩)))]) (by kernel_rfl) ?_
  refine gv_nil ?_
  refine gv_seq ?_
  refine gv_anyM [] (by kernel_rfl) (List.range 14) [] (by kernel_rfl) ?_
  intro w75 hg76
  have hg78 := (grown_trans (grown_trans hg50 hg54) hg60)
  have hk79 := hk46.grown hg50 nb
  have ap80 : ¬ (· = b22) b52 := fun hx => Nat.not_lt_of_le ((lowb hbe56) _ rfl) ((fun k (hk : k = b22) => Nat.lt_of_le_of_lt (Nat.le_of_eq hk) hk79.lt) _ hx)
  have hk81 := hk79.grown hg54 nb
  have ap82 : ¬ (· = b22) b58 := fun hx => Nat.not_lt_of_le ((lowb hbe62) _ rfl) ((fun k (hk : k = b22) => Nat.lt_of_le_of_lt (Nat.le_of_eq hk) hk81.lt) _ hx)
  have hk83 := (((hk46.grown hg78 nb).grown hg65 (rowne ap80)).grown hg70 (rowne ap82)).grown hg76 nb
  have hM77 : ∀ k, (· = b22) k → k < w75.heap.size := (fun k (hk : k = b22) => Nat.lt_of_le_of_lt (Nat.le_of_eq hk) hk83.lt)
  have hk85 := hb41.grown hg50 nb
  have ap86 : ¬ (· = b28) b52 := fun hx => Nat.not_lt_of_le ((lowb hbe56) _ rfl) ((fun k (hk : k = b28) => Nat.lt_of_le_of_lt (Nat.le_of_eq hk) hk85.lt) _ hx)
  have hk87 := hk85.grown hg54 nb
  have ap88 : ¬ (· = b28) b58 := fun hx => Nat.not_lt_of_le ((lowb hbe62) _ rfl) ((fun k (hk : k = b28) => Nat.lt_of_le_of_lt (Nat.le_of_eq hk) hk87.lt) _ hx)
  have hk89 := (((hb41.grown hg78 nb).grown hg65 (rowne ap86)).grown hg70 (rowne ap88)).grown hg76 nb
  have hM84 : ∀ k, (· = b28) k → k < w75.heap.size := (fun k (hk : k = b28) => Nat.lt_of_le_of_lt (Nat.le_of_eq hk) hk89.lt)
  have ap91 : ¬ (· = b52) b58 := fun hx => Nat.not_lt_of_le ((lowb hbe62) _ rfl) ((fun k (hk : k = b52) => Nat.lt_of_le_of_lt (Nat.le_of_eq hk) hb55.lt) _ hx)
  have hk92 := (hb66.grown hg70 (rowne ap91)).grown hg76 nb
  have hM90 : ∀ k, (· = b52) k → k < w75.heap.size := (fun k (hk : k = b52) => Nat.lt_of_le_of_lt (Nat.le_of_eq hk) hk92.lt)
  have hk94 := hb71.grown hg76 nb
  have hM93 : ∀ k, (· = b58) k → k < w75.heap.size := (fun k (hk : k = b58) => Nat.lt_of_le_of_lt (Nat.le_of_eq hk) hk94.lt)
  refine bindE h0 ?_; clear h0; intro r128 hr129 h0
  refine bindE h0 ?_; clear h0; intro r182 hr183 h0
  refine gv_thrs [0] [(1, [2]), (3, [4, 5, 6, 7])] [⟨8, 6, 24, #[(.bool false), (.slice none (List.length ([] : List Int)) 0)], some (11, 28)⟩, ⟨9, 7, 27, #[(.int .u64 0), (.int .u64 0)], some (12, 29)⟩, ⟨10, 8, 29, #[(.int .i64 0), (.int .i64 0)], some (13, 30)⟩] (fun p => match p with | 0 => [1, 2, 3, 4, 5, 24] | 1 => [1, 2, 3, 4, 5, 24, 26] | _ => [1, 2, 3, 4, 5, 28, 29, 30]) (fun p σ B w => match p with | 0 => (σ = [(1, (.pointer (some ⟨b22, 0, none⟩))), (2, (.pointer (some ⟨b28, 0, none⟩))), (3, (.int .u64 r47.1)), (4, (.pointer (some ⟨b52, 0, none⟩))), (5, (.pointer (some ⟨b58, 0, none⟩))), (24, (.agg #[(.int .u64 r17.1.1), (.int .u64 r17.1.2)]))] ∧ Below w0.heap.size w0 w ∧ w75.heap.size ≤ w.heap.size ∧ Box w b22 27 #[(.int .u64 r17.1.1), (.int .u64 r17.1.2)] ∧ Box w b28 29 #[(.int .i64 r17.2.1), (.int .i64 r17.2.2)] ∧ Box w b52 27 #[(.int .u64 r47.2.1.1), (.int .u64 r47.2.1.2)] ∧ Box w b58 29 #[(.int .i64 r47.2.2.1), (.int .i64 r47.2.2.2)]) | 1 => (∃ (a133 : Option Addr), ∃ (c134 : Nat), σ = [(1, (.pointer (some ⟨b22, 0, none⟩))), (2, (.pointer (some ⟨b28, 0, none⟩))), (3, (.int .u64 r47.1)), (4, (.pointer (some ⟨b52, 0, none⟩))), (5, (.pointer (some ⟨b58, 0, none⟩))), (24, (.agg #[(.int .u64 r17.1.1), (.int .u64 r17.1.2)])), (26, (.agg #[(.bool r128.2.1.1), (.slice a133 (List.length r128.2.1.2) c134)]))] ∧ Below w0.heap.size w0 w ∧ w75.heap.size ≤ w.heap.size ∧ Box w b22 27 #[(.int .u64 r17.1.1), (.int .u64 r17.1.2)] ∧ Box w b28 29 #[(.int .i64 r17.2.1), (.int .i64 r17.2.2)] ∧ Box w b52 27 #[(.int .u64 r47.2.1.1), (.int .u64 r47.2.1.2)] ∧ Box w b58 29 #[(.int .i64 r47.2.2.1), (.int .i64 r47.2.2.2)] ∧ Own (iE .u32) 76 w (fun _ => False) a133 c134 r128.2.1.2 ∧ (∀ g, blk a133 = some g → w0.heap.size ≤ g) ∧ (∀ k, (fun k => blk a133 = some k) k → B k → False) ∧ (∀ g, blk a133 = some g → ¬ (· = b22) g) ∧ (¬ (fun k => blk a133 = some k) b22) ∧ (∀ g, blk a133 = some g → ¬ (· = b28) g) ∧ (¬ (fun k => blk a133 = some k) b28) ∧ (∀ g, blk a133 = some g → ¬ (· = b52) g) ∧ (¬ (fun k => blk a133 = some k) b52) ∧ (∀ g, blk a133 = some g → ¬ (· = b58) g) ∧ (¬ (fun k => blk a133 = some k) b58)) | _ => (∃ (a187 : Option Addr), ∃ (c188 : Nat), σ = [(1, (.pointer (some ⟨b22, 0, none⟩))), (2, (.pointer (some ⟨b28, 0, none⟩))), (3, (.int .u64 r47.1)), (4, (.pointer (some ⟨b52, 0, none⟩))), (5, (.pointer (some ⟨b58, 0, none⟩))), (28, (.agg #[(.bool r182.1.1), (.slice a187 (List.length r182.1.2) c188)])), (29, (.agg #[(.int .u64 r182.2.1.1), (.int .u64 r182.2.1.2)])), (30, (.agg #[(.int .i64 r182.2.2.1), (.int .i64 r182.2.2.2)]))] ∧ Below w0.heap.size w0 w ∧ w75.heap.size ≤ w.heap.size ∧ Box w b22 27 #[(.int .u64 r17.1.1), (.int .u64 r17.1.2)] ∧ Box w b28 29 #[(.int .i64 r17.2.1), (.int .i64 r17.2.2)] ∧ Box w b52 27 #[(.int .u64 r47.2.1.1), (.int .u64 r47.2.1.2)] ∧ Box w b58 29 #[(.int .i64 r47.2.2.1), (.int .i64 r47.2.2.2)] ∧ Own (iE .u32) 76 w (fun _ => False) a187 c188 r182.1.2 ∧ (∀ g, blk a187 = some g → w0.heap.size ≤ g) ∧ (∀ k, (fun k => blk a187 = some k) k → B k → False) ∧ (∀ g, blk a187 = some g → ¬ (· = b22) g) ∧ (¬ (fun k => blk a187 = some k) b22) ∧ (∀ g, blk a187 = some g → ¬ (· = b28) g) ∧ (¬ (fun k => blk a187 = some k) b28) ∧ (∀ g, blk a187 = some g → ¬ (· = b52) g) ∧ (¬ (fun k => blk a187 = some k) b52) ∧ (∀ g, blk a187 = some g → ¬ (· = b58) g) ∧ (¬ (fun k => blk a187 = some k) b58))) (by kernel_rfl) (by kernel_rfl) (by decide) ⟨⟨rfl, rfl, by decide, fun _ _ => by kernel_rfl⟩, ⟨rfl, rfl, by decide, fun _ _ => by kernel_rfl⟩, ⟨rfl, rfl, by decide, fun _ _ => by kernel_rfl⟩, trivial⟩ ⟨(fun s x h => by cases h; exact ⟨rfl, rfl, by kernel_rfl, by kernel_rfl, fun b v => ⟨by kernel_rfl, by kernel_rfl⟩⟩), (fun s x h => by cases h; exact ⟨rfl, rfl, by kernel_rfl, by kernel_rfl, fun b v => ⟨by kernel_rfl, by kernel_rfl⟩⟩), (fun s x h => by cases h; exact ⟨rfl, rfl, by kernel_rfl, by kernel_rfl, fun b v => ⟨by kernel_rfl, by kernel_rfl⟩⟩), trivial⟩ ?_ ?_ ?_ ?_ ?_ ?_
  · rintro σ B w ⟨a187, c188, rfl, hB348, hz349, hk350, hk351, hk352, hk353, hk354, hlo355, hnb356, hap357, hap358, hap359, hap360, hap361, hap362, hap363, hap364⟩
    exact ⟨(fun s x h => by cases h; exact ⟨(.agg #[(.bool r182.1.1), (.slice a187 (List.length r182.1.2) c188)]), rfl, rfl, by intro u hu; simp [Value.cells] at hu; rcases hu with rfl | rfl <;> rfl⟩), (fun s x h => by cases h; exact ⟨(.agg #[(.int .u64 r182.2.1.1), (.int .u64 r182.2.1.2)]), rfl, rfl, by intro u hu; simp [Value.cells] at hu; rcases hu with rfl | rfl <;> rfl⟩), (fun s x h => by cases h; exact ⟨(.agg #[(.int .i64 r182.2.2.1), (.int .i64 r182.2.2.2)]), rfl, rfl, by intro u hu; simp [Value.cells] at hu; rcases hu with rfl | rfl <;> rfl⟩), trivial⟩
  · intro p
    rcases p with _ | _ | p
    · rintro σ B209 w207 w208 b211 ⟨rfl, hB215, hz216, hk217, hk218, hk219, hk220⟩ hBl210 hC hbe212 hg213 hz214
      have hB221 := below_grown hB215 hg213 hB215.size nb
      have hz222 : w75.heap.size ≤ w208.heap.size := (Nat.le_trans hz216 hg213.size)
      have hk223 := hk217.grown hg213 nb
      have hk224 := hk218.grown hg213 nb
      have hk225 := hk219.grown hg213 nb
      have hk226 := hk220.grown hg213 nb
      exact ⟨rfl, hB221, hz222, hk223, hk224, hk225, hk226⟩
    · rintro σ B229 w227 w228 b231 ⟨a133, c134, rfl, hB235, hz236, hk237, hk238, hk239, hk240, hk241, hlo242, hnb243, hap244, hap245, hap246, hap247, hap248, hap249, hap250, hap251⟩ hBl230 hC hbe232 hg233 hz234
      have hB252 := below_grown hB235 hg233 hB235.size nb
      have hz253 : w75.heap.size ≤ w228.heap.size := (Nat.le_trans hz236 hg233.size)
      have hk254 := hk237.grown hg233 nb
      have hk255 := hk238.grown hg233 nb
      have hk256 := hk239.grown hg233 nb
      have hk257 := hk240.grown hg233 nb
      have hk258 := hk241.grown hg233 (fun _ h => h.elim) nb
      exact ⟨a133, c134, rfl, hB252, hz253, hk254, hk255, hk256, hk257, hk258, hlo242, (fun k hk hb => hb.elim (fun hb => hnb243 k hk hb) (fun e => Nat.ne_of_lt ((fun k (hk : blk a133 = some k) => hk241.lt k hk) k hk) (e.trans hbe232))), hap244, hap245, hap246, hap247, hap248, hap249, hap250, hap251⟩
    · rintro σ B261 w259 w260 b263 ⟨a187, c188, rfl, hB267, hz268, hk269, hk270, hk271, hk272, hk273, hlo274, hnb275, hap276, hap277, hap278, hap279, hap280, hap281, hap282, hap283⟩ hBl262 hC hbe264 hg265 hz266
      have hB284 := below_grown hB267 hg265 hB267.size nb
      have hz285 : w75.heap.size ≤ w260.heap.size := (Nat.le_trans hz268 hg265.size)
      have hk286 := hk269.grown hg265 nb
      have hk287 := hk270.grown hg265 nb
      have hk288 := hk271.grown hg265 nb
      have hk289 := hk272.grown hg265 nb
      have hk290 := hk273.grown hg265 (fun _ h => h.elim) nb
      exact ⟨a187, c188, rfl, hB284, hz285, hk286, hk287, hk288, hk289, hk290, hlo274, (fun k hk hb => hb.elim (fun hb => hnb275 k hk hb) (fun e => Nat.ne_of_lt ((fun k (hk : blk a187 = some k) => hk273.lt k hk) k hk) (e.trans hbe264))), hap276, hap277, hap278, hap279, hap280, hap281, hap282, hap283⟩
  · rintro σ B293 w291 w292 b295 ⟨a187, c188, rfl, hB299, hz300, hk301, hk302, hk303, hk304, hk305, hlo306, hnb307, hap308, hap309, hap310, hap311, hap312, hap313, hap314, hap315⟩ hBl294 hC hBb296 hg297 hz298
    have hg317 := (grown_trans (grown_trans (grown_trans hg4 hg20) hg24) hg30)
    have hB318 := below_grown hB0 hg317 hB0.size nb
    have hg319 := (grown_trans hg4 hg20)
    have hB320 := below_grown hB0 hg319 hB0.size nb
    have hlo321 : w0.heap.size ≤ b22 := lob hbe26 hB320.size
    have hB322 := below_grown hB318 hg35 hB318.size (rowlo hlo321)
    have hB323 := below_grown hB320 hg24 hB320.size nb
    have hlo324 : w0.heap.size ≤ b28 := lob hbe32 hB323.size
    have hB325 := below_grown hB322 hg40 hB322.size (rowlo hlo324)
    have hB326 := below_grown hB325 hg78 hB325.size nb
    have hB327 := below_grown hB323 hg30 hB323.size nb
    have hB328 := below_grown hB327 hg35 hB327.size (rowlo hlo321)
    have hB329 := below_grown hB328 hg40 hB328.size (rowlo hlo324)
    have hB330 := below_grown hB329 hg50 hB329.size nb
    have hlo331 : w0.heap.size ≤ b52 := lob hbe56 hB330.size
    have hB332 := below_grown hB326 hg65 hB326.size (rowlo hlo331)
    have hB333 := below_grown hB330 hg54 hB330.size nb
    have hlo334 : w0.heap.size ≤ b58 := lob hbe62 hB333.size
    have hB335 := below_grown hB332 hg70 hB332.size (rowlo hlo334)
    have hB336 := below_grown hB335 hg76 hB335.size nb
    have hB316 := below_grown hB299 hg297 hB299.size (rowlo (Nat.le_trans hB336.size (hBl294 _ hBb296).1))
    have : w291.heap.size ≤ w292.heap.size := hg297.size
    have hr337 : ∀ g, some b295 = some g → ¬ (· = b22) g := fun g e h => by cases e; exact (fun k (h : (· = b22) k) (hb : B293 k) => Nat.not_lt_of_le (hBl294 k hb).1 (hM77 k h)) _ h hBb296
    have hk338 := hk301.grown hg297 hr337
    have hr339 : ∀ g, some b295 = some g → ¬ (· = b28) g := fun g e h => by cases e; exact (fun k (h : (· = b28) k) (hb : B293 k) => Nat.not_lt_of_le (hBl294 k hb).1 (hM84 k h)) _ h hBb296
    have hk340 := hk302.grown hg297 hr339
    have hr341 : ∀ g, some b295 = some g → ¬ (· = b52) g := fun g e h => by cases e; exact (fun k (h : (· = b52) k) (hb : B293 k) => Nat.not_lt_of_le (hBl294 k hb).1 (hM90 k h)) _ h hBb296
    have hk342 := hk303.grown hg297 hr341
    have hr343 : ∀ g, some b295 = some g → ¬ (· = b58) g := fun g e h => by cases e; exact (fun k (h : (· = b58) k) (hb : B293 k) => Nat.not_lt_of_le (hBl294 k hb).1 (hM93 k h)) _ h hBb296
    have hk344 := hk304.grown hg297 hr343
    have hr345 : ∀ g, some b295 = some g → ¬ (fun k => blk a187 = some k) g := fun g e h => by cases e; exact hnb307 _ h hBb296
    have hk346 := hk305.grown hg297 (fun _ h => h.elim) (fun g e => ⟨fun h => h, hr345 g e⟩)
    have hz347 : w75.heap.size ≤ w292.heap.size := (Nat.le_trans hz300 hg297.size)
    exact ⟨a187, c188, rfl, hB316, hz347, hk338, hk340, hk342, hk344, hk346, hlo306, hnb307, hap308, hap309, hap310, hap311, hap312, hap313, hap314, hap315⟩
  · intro p m qs' hp
    rcases p with _ | _ | p
    · cases (show some ((1, [2]) : Nat × List Nat) = some (m, qs') from hp)
      rintro σ B118 w117 es119 ⟨rfl, hB122, hz123, hk124, hk125, hk126, hk127⟩ hBl120 hC121
      refine gv_sub [1, 2, 3, 4, 5, 6, 7, 8, 24] (σ' := [(1, (.pointer (some ⟨b22, 0, none⟩))), (2, (.pointer (some ⟨b28, 0, none⟩))), (3, (.int .u64 r47.1)), (4, (.pointer (some ⟨b52, 0, none⟩))), (5, (.pointer (some ⟨b58, 0, none⟩))), (6, (es119 0)), (7, (es119 1)), (8, (es119 2)), (24, (.agg #[(.int .u64 r17.1.1), (.int .u64 r17.1.2)]))]) (by kernel_rfl) ?_
      refine gv_call (f := 41) (vs := [(.int .i64 1)]) (cap := []) _ (by decide) (by rfl) (by rfl) rfl (by rfl) (by rfl) enters41 (law4_whole_ok fuel 1 w117  r128 hr129) ?_
      rintro v132 w130 ⟨hg131, a133, c134, a137, c138, rfl, ho135, hl136, ho139, hl140, ap141⟩
      refine ⟨(fun _ => hC121.grown hg131 nb), ?_⟩
      have hl142 : ∀ g, blk a133 = some g → w0.heap.size ≤ g := fun g e => Nat.le_trans hB122.size (hl136 g e)
      have nb143 : ∀ k, (fun k => blk a133 = some k) k → B118 k → False := fun k hk hb => (fun h => Nat.not_lt_of_le (hl136 k h) (hBl120 k hb).2) hk
      have hl144 : ∀ g, blk a137 = some g → w0.heap.size ≤ g := fun g e => Nat.le_trans hB122.size (hl140 g e)
      have nb145 : ∀ k, (fun k => blk a137 = some k) k → B118 k → False := fun k hk hb => (fun h => Nat.not_lt_of_le (hl140 k h) (hBl120 k hb).2) hk
      refine gv_pure 1 [1, 2, 3, 4, 5, 6, 7, 8, 24, 26] (σ' := [(1, (.pointer (some ⟨b22, 0, none⟩))), (2, (.pointer (some ⟨b28, 0, none⟩))), (3, (.int .u64 r47.1)), (4, (.pointer (some ⟨b52, 0, none⟩))), (5, (.pointer (some ⟨b58, 0, none⟩))), (6, (es119 0)), (7, (es119 1)), (8, (es119 2)), (24, (.agg #[(.int .u64 r17.1.1), (.int .u64 r17.1.2)])), (26, (.agg #[(.bool r128.2.1.1), (.slice a133 (List.length r128.2.1.2) c134)]))]) (by kernel_rfl) ?_
      refine gv_nil ?_
      refine gv_goal fun a hd hs hok => ?_
      obtain ⟨q1, q2, q3, q4, q5, q6, q7, q8, q24, q26, _⟩ := hok
      have hB146 := below_grown hB122 hg131 hB122.size nb
      have hz147 : w75.heap.size ≤ w130.heap.size := (Nat.le_trans hz123 hg131.size)
      have hk148 := hk124.grown hg131 nb
      have hk149 := hk125.grown hg131 nb
      have hk150 := hk126.grown hg131 nb
      have hk151 := hk127.grown hg131 nb
      have ap152 : ∀ g, blk a133 = some g → ¬ (· = b22) g := fun g e hx => Nat.not_lt_of_le ((show ∀ k, blk a133 = some k → w117.heap.size ≤ k from hl136) g e) ((fun k (hk : k = b22) => Nat.lt_of_le_of_lt (Nat.le_of_eq hk) hk124.lt) _ hx)
      have ap153 : ¬ (fun k => blk a133 = some k) b22 := fun hx => Nat.not_lt_of_le ((show ∀ k, blk a133 = some k → w117.heap.size ≤ k from hl136) _ hx) ((fun k (hk : k = b22) => Nat.lt_of_le_of_lt (Nat.le_of_eq hk) hk124.lt) _ rfl)
      have ap154 : ∀ g, blk a133 = some g → ¬ (· = b28) g := fun g e hx => Nat.not_lt_of_le ((show ∀ k, blk a133 = some k → w117.heap.size ≤ k from hl136) g e) ((fun k (hk : k = b28) => Nat.lt_of_le_of_lt (Nat.le_of_eq hk) hk125.lt) _ hx)
      have ap155 : ¬ (fun k => blk a133 = some k) b28 := fun hx => Nat.not_lt_of_le ((show ∀ k, blk a133 = some k → w117.heap.size ≤ k from hl136) _ hx) ((fun k (hk : k = b28) => Nat.lt_of_le_of_lt (Nat.le_of_eq hk) hk125.lt) _ rfl)
      have ap156 : ∀ g, blk a133 = some g → ¬ (· = b52) g := fun g e hx => Nat.not_lt_of_le ((show ∀ k, blk a133 = some k → w117.heap.size ≤ k from hl136) g e) ((fun k (hk : k = b52) => Nat.lt_of_le_of_lt (Nat.le_of_eq hk) hk126.lt) _ hx)
      have ap157 : ¬ (fun k => blk a133 = some k) b52 := fun hx => Nat.not_lt_of_le ((show ∀ k, blk a133 = some k → w117.heap.size ≤ k from hl136) _ hx) ((fun k (hk : k = b52) => Nat.lt_of_le_of_lt (Nat.le_of_eq hk) hk126.lt) _ rfl)
      have ap158 : ∀ g, blk a133 = some g → ¬ (· = b58) g := fun g e hx => Nat.not_lt_of_le ((show ∀ k, blk a133 = some k → w117.heap.size ≤ k from hl136) g e) ((fun k (hk : k = b58) => Nat.lt_of_le_of_lt (Nat.le_of_eq hk) hk127.lt) _ hx)
      have ap159 : ¬ (fun k => blk a133 = some k) b58 := fun hx => Nat.not_lt_of_le ((show ∀ k, blk a133 = some k → w117.heap.size ≤ k from hl136) _ hx) ((fun k (hk : k = b58) => Nat.lt_of_le_of_lt (Nat.le_of_eq hk) hk127.lt) _ rfl)
      exact ⟨⟨_, hg131, fun _ e => by cases e⟩, hd, hs, [(1, (.pointer (some ⟨b22, 0, none⟩))), (2, (.pointer (some ⟨b28, 0, none⟩))), (3, (.int .u64 r47.1)), (4, (.pointer (some ⟨b52, 0, none⟩))), (5, (.pointer (some ⟨b58, 0, none⟩))), (24, (.agg #[(.int .u64 r17.1.1), (.int .u64 r17.1.2)])), (26, (.agg #[(.bool r128.2.1.1), (.slice a133 (List.length r128.2.1.2) c134)]))], rfl, ⟨a133, c134, rfl, hB146, hz147, hk148, hk149, hk150, hk151, ho135, hl142, nb143, ap152, ap153, ap154, ap155, ap156, ap157, ap158, ap159⟩, ⟨q1, q2, q3, q4, q5, q24, q26, q6, q7, q8, trivial⟩⟩
    · cases (show some ((3, [4, 5, 6, 7]) : Nat × List Nat) = some (m, qs') from hp)
      rintro σ B161 w160 es162 ⟨a133, c134, rfl, hB165, hz166, hk167, hk168, hk169, hk170, hk171, hlo172, hnb173, hap174, hap175, hap176, hap177, hap178, hap179, hap180, hap181⟩ hBl163 hC164
      refine gv_sub [1, 2, 3, 4, 5, 6, 7, 8, 24, 26] (σ' := [(1, (.pointer (some ⟨b22, 0, none⟩))), (2, (.pointer (some ⟨b28, 0, none⟩))), (3, (.int .u64 r47.1)), (4, (.pointer (some ⟨b52, 0, none⟩))), (5, (.pointer (some ⟨b58, 0, none⟩))), (6, (es162 0)), (7, (es162 1)), (8, (es162 2)), (24, (.agg #[(.int .u64 r17.1.1), (.int .u64 r17.1.2)])), (26, (.agg #[(.bool r128.2.1.1), (.slice a133 (List.length r128.2.1.2) c134)]))]) (by kernel_rfl) ?_
      refine gv_call (f := 16) (vs := [(.agg #[(.int .u64 r17.1.1), (.int .u64 r17.1.2)]), (.agg #[(.bool r128.2.1.1), (.slice a133 (List.length r128.2.1.2) c134)])]) (cap := []) _ (by decide) (by rfl) (by rfl) rfl (by rfl) (by rfl) enters16 (random_Below_ok fuel (r17.1.1, r17.1.2) a133 c134 (r128.2.1.1, r128.2.1.2) w160 (fun k => (fun k => blk a133 = some k) k) (fun k hk => (fun k (hk : blk a133 = some k) => hk171.lt k hk) k hk) ((hk171.rd (Y := fun k => blk a133 = some k) (fun _ h => h.elim) (fun g e => e)).wide (fun k hk => hk)) r182 hr183) ?_
      rintro v186 w184 ⟨hg185, a187, c188, rfl, ho189, hl190⟩
      refine ⟨(fun _ => hC164.grown hg185 nb), ?_⟩
      have hl191 : ∀ g, blk a187 = some g → w0.heap.size ≤ g := fun g e => Nat.le_trans hB165.size (hl190 g e)
      have nb192 : ∀ k, (fun k => blk a187 = some k) k → B161 k → False := fun k hk hb => (fun h => Nat.not_lt_of_le (hl190 k h) (hBl163 k hb).2) hk
      refine gv_pure 4 [1, 2, 3, 4, 5, 6, 7, 8, 28, 29, 30] (σ' := [(1, (.pointer (some ⟨b22, 0, none⟩))), (2, (.pointer (some ⟨b28, 0, none⟩))), (3, (.int .u64 r47.1)), (4, (.pointer (some ⟨b52, 0, none⟩))), (5, (.pointer (some ⟨b58, 0, none⟩))), (6, (es162 0)), (7, (es162 1)), (8, (es162 2)), (28, (.agg #[(.bool r182.1.1), (.slice a187 (List.length r182.1.2) c188)])), (29, (.agg #[(.int .u64 r182.2.1.1), (.int .u64 r182.2.1.2)])), (30, (.agg #[(.int .i64 r182.2.2.1), (.int .i64 r182.2.2.2)]))]) (by kernel_rfl) ?_
      refine gv_nil ?_
      refine gv_goal fun a hd hs hok => ?_
      obtain ⟨q1, q2, q3, q4, q5, q6, q7, q8, q28, q29, q30, _⟩ := hok
      have hB193 := below_grown hB165 hg185 hB165.size nb
      have hz194 : w75.heap.size ≤ w184.heap.size := (Nat.le_trans hz166 hg185.size)
      have hk195 := hk167.grown hg185 nb
      have hk196 := hk168.grown hg185 nb
      have hk197 := hk169.grown hg185 nb
      have hk198 := hk170.grown hg185 nb
      have ap199 : ∀ g, blk a187 = some g → ¬ (· = b22) g := fun g e hx => Nat.not_lt_of_le ((show ∀ k, blk a187 = some k → w160.heap.size ≤ k from hl190) g e) ((fun k (hk : k = b22) => Nat.lt_of_le_of_lt (Nat.le_of_eq hk) hk167.lt) _ hx)
      have ap200 : ¬ (fun k => blk a187 = some k) b22 := fun hx => Nat.not_lt_of_le ((show ∀ k, blk a187 = some k → w160.heap.size ≤ k from hl190) _ hx) ((fun k (hk : k = b22) => Nat.lt_of_le_of_lt (Nat.le_of_eq hk) hk167.lt) _ rfl)
      have ap201 : ∀ g, blk a187 = some g → ¬ (· = b28) g := fun g e hx => Nat.not_lt_of_le ((show ∀ k, blk a187 = some k → w160.heap.size ≤ k from hl190) g e) ((fun k (hk : k = b28) => Nat.lt_of_le_of_lt (Nat.le_of_eq hk) hk168.lt) _ hx)
      have ap202 : ¬ (fun k => blk a187 = some k) b28 := fun hx => Nat.not_lt_of_le ((show ∀ k, blk a187 = some k → w160.heap.size ≤ k from hl190) _ hx) ((fun k (hk : k = b28) => Nat.lt_of_le_of_lt (Nat.le_of_eq hk) hk168.lt) _ rfl)
      have ap203 : ∀ g, blk a187 = some g → ¬ (· = b52) g := fun g e hx => Nat.not_lt_of_le ((show ∀ k, blk a187 = some k → w160.heap.size ≤ k from hl190) g e) ((fun k (hk : k = b52) => Nat.lt_of_le_of_lt (Nat.le_of_eq hk) hk169.lt) _ hx)
      have ap204 : ¬ (fun k => blk a187 = some k) b52 := fun hx => Nat.not_lt_of_le ((show ∀ k, blk a187 = some k → w160.heap.size ≤ k from hl190) _ hx) ((fun k (hk : k = b52) => Nat.lt_of_le_of_lt (Nat.le_of_eq hk) hk169.lt) _ rfl)
      have ap205 : ∀ g, blk a187 = some g → ¬ (· = b58) g := fun g e hx => Nat.not_lt_of_le ((show ∀ k, blk a187 = some k → w160.heap.size ≤ k from hl190) g e) ((fun k (hk : k = b58) => Nat.lt_of_le_of_lt (Nat.le_of_eq hk) hk170.lt) _ hx)
      have ap206 : ¬ (fun k => blk a187 = some k) b58 := fun hx => Nat.not_lt_of_le ((show ∀ k, blk a187 = some k → w160.heap.size ≤ k from hl190) _ hx) ((fun k (hk : k = b58) => Nat.lt_of_le_of_lt (Nat.le_of_eq hk) hk170.lt) _ rfl)
      exact ⟨⟨_, hg185, fun _ e => by cases e⟩, hd, hs, [(1, (.pointer (some ⟨b22, 0, none⟩))), (2, (.pointer (some ⟨b28, 0, none⟩))), (3, (.int .u64 r47.1)), (4, (.pointer (some ⟨b52, 0, none⟩))), (5, (.pointer (some ⟨b58, 0, none⟩))), (28, (.agg #[(.bool r182.1.1), (.slice a187 (List.length r182.1.2) c188)])), (29, (.agg #[(.int .u64 r182.2.1.1), (.int .u64 r182.2.1.2)])), (30, (.agg #[(.int .i64 r182.2.2.1), (.int .i64 r182.2.2.2)]))], rfl, ⟨a187, c188, rfl, hB193, hz194, hk195, hk196, hk197, hk198, ho189, hl191, nb192, ap199, ap200, ap201, ap202, ap203, ap204, ap205, ap206⟩, ⟨q1, q2, q3, q4, q5, q28, q29, q30, q6, q7, q8, trivial⟩⟩
    · simp at hp
  · skip
    have hC96 := Cls.refl w75 []
    refine gv_sub [1, 2, 3, 4, 5] (σ' := [(1, (.pointer (some ⟨b22, 0, none⟩))), (2, (.pointer (some ⟨b28, 0, none⟩))), (3, (.int .u64 r47.1)), (4, (.pointer (some ⟨b52, 0, none⟩))), (5, (.pointer (some ⟨b58, 0, none⟩)))]) (by kernel_rfl) ?_
    refine gv_loadBox (t := 27) (b := b22) (t' := 27) (fr := (0, 0)) #[(.int .u64 r17.1.1), (.int .u64 r17.1.2)] [1, 2, 3, 4, 5, 24] (σ' := [(1, (.pointer (some ⟨b22, 0, none⟩))), (2, (.pointer (some ⟨b28, 0, none⟩))), (3, (.int .u64 r47.1)), (4, (.pointer (some ⟨b52, 0, none⟩))), (5, (.pointer (some ⟨b58, 0, none⟩))), (24, (.agg #[(.int .u64 r17.1.1), (.int .u64 r17.1.2)]))]) (fun e => by cases e) (by rfl) (by rfl) (by rfl) (by kernel_rfl) (by kernel_rfl) (by kernel_rfl) (by kernel_rfl) (inw1 fun w' hC' => (hC'.box hk83 nm_nil)) (by kernel_rfl) ?_
    refine gv_nil ?_
    refine gv_goal fun a hd hs hok => ?_
    obtain ⟨q1, q2, q3, q4, q5, q24, _⟩ := hok
    have hg97 := (grown_trans (grown_trans (grown_trans hg4 hg20) hg24) hg30)
    have hB98 := below_grown hB0 hg97 hB0.size nb
    have hg99 := (grown_trans hg4 hg20)
    have hB100 := below_grown hB0 hg99 hB0.size nb
    have hlo101 : w0.heap.size ≤ b22 := lob hbe26 hB100.size
    have hB102 := below_grown hB98 hg35 hB98.size (rowlo hlo101)
    have hB103 := below_grown hB100 hg24 hB100.size nb
    have hlo104 : w0.heap.size ≤ b28 := lob hbe32 hB103.size
    have hB105 := below_grown hB102 hg40 hB102.size (rowlo hlo104)
    have hB106 := below_grown hB105 hg78 hB105.size nb
    have hB107 := below_grown hB103 hg30 hB103.size nb
    have hB108 := below_grown hB107 hg35 hB107.size (rowlo hlo101)
    have hB109 := below_grown hB108 hg40 hB108.size (rowlo hlo104)
    have hB110 := below_grown hB109 hg50 hB109.size nb
    have hlo111 : w0.heap.size ≤ b52 := lob hbe56 hB110.size
    have hB112 := below_grown hB106 hg65 hB106.size (rowlo hlo111)
    have hB113 := below_grown hB110 hg54 hB110.size nb
    have hlo114 : w0.heap.size ≤ b58 := lob hbe62 hB113.size
    have hB115 := below_grown hB112 hg70 hB112.size (rowlo hlo114)
    have hB116 := below_grown hB115 hg76 hB115.size nb
    exact ⟨rfl, hd, hs, [(1, (.pointer (some ⟨b22, 0, none⟩))), (2, (.pointer (some ⟨b28, 0, none⟩))), (3, (.int .u64 r47.1)), (4, (.pointer (some ⟨b52, 0, none⟩))), (5, (.pointer (some ⟨b58, 0, none⟩))), (24, (.agg #[(.int .u64 r17.1.1), (.int .u64 r17.1.2)]))], rfl, ⟨rfl, hB116, (Nat.le_refl _), hk83, hk89, hk92, hk94⟩, ⟨q1, q2, q3, q4, q5, q24, trivial⟩⟩
  · rintro σ B366 w365 bf369 ⟨a187, c188, rfl, hB372, hz373, hk374, hk375, hk376, hk377, hk378, hlo379, hnb380, hap381, hap382, hap383, hap384, hap385, hap386, hap387, hap388⟩ hBl367 hC368 hb370 hne371
    obtain ⟨hBb389, hb390⟩ : B366 (bf369 0) ∧ Box w365 (bf369 0) 24 #[(.bool r182.1.1), (.slice a187 (List.length r182.1.2) c188)] := hb370 0 _ rfl
    have hlo391 := (hBl367 _ hBb389).1
    have ap392 : ¬ (· = b22) (bf369 0) := fun h => (fun k (h : (· = b22) k) (hb : B366 k) => Nat.not_lt_of_le (hBl367 k hb).1 (hM77 k h)) _ h hBb389
    have ap393 : ¬ (· = b28) (bf369 0) := fun h => (fun k (h : (· = b28) k) (hb : B366 k) => Nat.not_lt_of_le (hBl367 k hb).1 (hM84 k h)) _ h hBb389
    have ap394 : ¬ (· = b52) (bf369 0) := fun h => (fun k (h : (· = b52) k) (hb : B366 k) => Nat.not_lt_of_le (hBl367 k hb).1 (hM90 k h)) _ h hBb389
    have ap395 : ¬ (· = b58) (bf369 0) := fun h => (fun k (h : (· = b58) k) (hb : B366 k) => Nat.not_lt_of_le (hBl367 k hb).1 (hM93 k h)) _ h hBb389
    have ap396 : ¬ (fun k => blk a187 = some k) (bf369 0) := fun h => hnb380 _ h hBb389
    have ap397 : ∀ g, blk a187 = some g → ¬ (· = (bf369 0)) g := fun g e h => by have h : g = (bf369 0) := h; exact hnb380 g e (h ▸ hBb389)
    obtain ⟨hBb398, hb399⟩ : B366 (bf369 1) ∧ Box w365 (bf369 1) 27 #[(.int .u64 r182.2.1.1), (.int .u64 r182.2.1.2)] := hb370 1 _ rfl
    have hlo400 := (hBl367 _ hBb398).1
    have ap401 : (bf369 0) ≠ (bf369 1) := hne371 0 1 (by decide) (by decide) (by decide)
    have ap402 : ¬ (· = b22) (bf369 1) := fun h => (fun k (h : (· = b22) k) (hb : B366 k) => Nat.not_lt_of_le (hBl367 k hb).1 (hM77 k h)) _ h hBb398
    have ap403 : ¬ (· = b28) (bf369 1) := fun h => (fun k (h : (· = b28) k) (hb : B366 k) => Nat.not_lt_of_le (hBl367 k hb).1 (hM84 k h)) _ h hBb398
    have ap404 : ¬ (· = b52) (bf369 1) := fun h => (fun k (h : (· = b52) k) (hb : B366 k) => Nat.not_lt_of_le (hBl367 k hb).1 (hM90 k h)) _ h hBb398
    have ap405 : ¬ (· = b58) (bf369 1) := fun h => (fun k (h : (· = b58) k) (hb : B366 k) => Nat.not_lt_of_le (hBl367 k hb).1 (hM93 k h)) _ h hBb398
    have ap406 : ¬ (fun k => blk a187 = some k) (bf369 1) := fun h => hnb380 _ h hBb398
    have ap407 : ∀ g, blk a187 = some g → ¬ (· = (bf369 1)) g := fun g e h => by have h : g = (bf369 1) := h; exact hnb380 g e (h ▸ hBb398)
    obtain ⟨hBb408, hb409⟩ : B366 (bf369 2) ∧ Box w365 (bf369 2) 29 #[(.int .i64 r182.2.2.1), (.int .i64 r182.2.2.2)] := hb370 2 _ rfl
    have hlo410 := (hBl367 _ hBb408).1
    have ap411 : (bf369 0) ≠ (bf369 2) := hne371 0 2 (by decide) (by decide) (by decide)
    have ap412 : (bf369 1) ≠ (bf369 2) := hne371 1 2 (by decide) (by decide) (by decide)
    have ap413 : ¬ (· = b22) (bf369 2) := fun h => (fun k (h : (· = b22) k) (hb : B366 k) => Nat.not_lt_of_le (hBl367 k hb).1 (hM77 k h)) _ h hBb408
    have ap414 : ¬ (· = b28) (bf369 2) := fun h => (fun k (h : (· = b28) k) (hb : B366 k) => Nat.not_lt_of_le (hBl367 k hb).1 (hM84 k h)) _ h hBb408
    have ap415 : ¬ (· = b52) (bf369 2) := fun h => (fun k (h : (· = b52) k) (hb : B366 k) => Nat.not_lt_of_le (hBl367 k hb).1 (hM90 k h)) _ h hBb408
    have ap416 : ¬ (· = b58) (bf369 2) := fun h => (fun k (h : (· = b58) k) (hb : B366 k) => Nat.not_lt_of_le (hBl367 k hb).1 (hM93 k h)) _ h hBb408
    have ap417 : ¬ (fun k => blk a187 = some k) (bf369 2) := fun h => hnb380 _ h hBb408
    have ap418 : ∀ g, blk a187 = some g → ¬ (· = (bf369 2)) g := fun g e h => by have h : g = (bf369 2) := h; exact hnb380 g e (h ▸ hBb408)
    have hg420 := (grown_trans (grown_trans (grown_trans hg4 hg20) hg24) hg30)
    have hB421 := below_grown hB0 hg420 hB0.size nb
    have hg422 := (grown_trans hg4 hg20)
    have hB423 := below_grown hB0 hg422 hB0.size nb
    have hlo424 : w0.heap.size ≤ b22 := lob hbe26 hB423.size
    have hB425 := below_grown hB421 hg35 hB421.size (rowlo hlo424)
    have hB426 := below_grown hB423 hg24 hB423.size nb
    have hlo427 : w0.heap.size ≤ b28 := lob hbe32 hB426.size
    have hB428 := below_grown hB425 hg40 hB425.size (rowlo hlo427)
    have hB429 := below_grown hB428 hg78 hB428.size nb
    have hB430 := below_grown hB426 hg30 hB426.size nb
    have hB431 := below_grown hB430 hg35 hB430.size (rowlo hlo424)
    have hB432 := below_grown hB431 hg40 hB431.size (rowlo hlo427)
    have hB433 := below_grown hB432 hg50 hB432.size nb
    have hlo434 : w0.heap.size ≤ b52 := lob hbe56 hB433.size
    have hB435 := below_grown hB429 hg65 hB429.size (rowlo hlo434)
    have hB436 := below_grown hB433 hg54 hB433.size nb
    have hlo437 : w0.heap.size ≤ b58 := lob hbe62 hB436.size
    have hB438 := below_grown hB435 hg70 hB435.size (rowlo hlo437)
    have hB439 := below_grown hB438 hg76 hB438.size nb
    have hz419 := hB439.size
    refine gv_sub [1, 2, 3, 4, 5, 6, 7, 8] (σ' := [(1, (.pointer (some ⟨b22, 0, none⟩))), (2, (.pointer (some ⟨b28, 0, none⟩))), (3, (.int .u64 r47.1)), (4, (.pointer (some ⟨b52, 0, none⟩))), (5, (.pointer (some ⟨b58, 0, none⟩))), (6, (.pointer (some ⟨(bf369 0), 0, none⟩))), (7, (.pointer (some ⟨(bf369 1), 0, none⟩))), (8, (.pointer (some ⟨(bf369 2), 0, none⟩)))]) (by kernel_rfl) ?_
    refine gv_seq ?_
    refine gv_region ?_
    clear hz419 hB438 hB436 hB435 hB433 hB432 hB431 hB430 hB429 hB428 hB426 hB425 hB423 hg422 hB421 hg420 hb370 hC368 hz373 hg78 hg76 hz72 hb71 hg70 hk74 hz67 hb66 hg65 hk68 hz63 hb61 hg60 hb55 hg54 hg50 hk46 hb41 hg40 hg35 hbe32 hg30 hbe26 hg24 hg20 hg4
    refine bindE h0 ?_; clear h0; intro r440 hr441 h0
    refine gv_call (f := 41) (vs := [(.int .i64 0)]) (cap := []) _ (by decide) (by rfl) (by rfl) rfl (by rfl) (by rfl) enters41 (law4_whole_ok fuel 0 w365  r440 hr441) ?_
    rintro v444 w442 ⟨hg443, a445, c446, a449, c450, rfl, ho447, hl448, ho451, hl452, ap453⟩
    refine ⟨(fun e => by cases e), ?_⟩
    have hl454 : ∀ g, blk a445 = some g → w0.heap.size ≤ g := fun g e => Nat.le_trans hB372.size (hl448 g e)
    have hl455 : ∀ g, blk a449 = some g → w0.heap.size ≤ g := fun g e => Nat.le_trans hB372.size (hl452 g e)
    refine gv_pure 1 [1, 2, 3, 4, 5, 6, 7, 8, 32] (σ' := [(1, (.pointer (some ⟨b22, 0, none⟩))), (2, (.pointer (some ⟨b28, 0, none⟩))), (3, (.int .u64 r47.1)), (4, (.pointer (some ⟨b52, 0, none⟩))), (5, (.pointer (some ⟨b58, 0, none⟩))), (6, (.pointer (some ⟨(bf369 0), 0, none⟩))), (7, (.pointer (some ⟨(bf369 1), 0, none⟩))), (8, (.pointer (some ⟨(bf369 2), 0, none⟩))), (32, (.agg #[(.bool r440.2.1.1), (.slice a445 (List.length r440.2.1.2) c446)]))]) (by kernel_rfl) ?_
    refine bindE h0 ?_; clear h0; intro r456 hr457 h0
    refine gv_call (f := 14) (vs := [(.agg #[(.bool r440.2.1.1), (.slice a445 (List.length r440.2.1.2) c446)])]) (cap := []) _ (by decide) (by rfl) (by rfl) rfl (by rfl) (by rfl) enters14 (ref4_Seeded_ok fuel a445 c446 (r440.2.1.1, r440.2.1.2) w442 (fun k => (fun k => blk a445 = some k) k) (fun k hk => (fun k (hk : blk a445 = some k) => ho447.lt k hk) k hk) ((ho447.rd (Y := fun k => blk a445 = some k) (fun _ h => h.elim) (fun g e => e)).wide (fun k hk => hk)) r456 hr457) ?_
    rintro v460 w458 ⟨hg459, rfl⟩
    refine ⟨(fun e => by cases e), ?_⟩
    refine gv_pure 1 [1, 2, 3, 4, 5, 6, 7, 8, 34] (σ' := [(1, (.pointer (some ⟨b22, 0, none⟩))), (2, (.pointer (some ⟨b28, 0, none⟩))), (3, (.int .u64 r47.1)), (4, (.pointer (some ⟨b52, 0, none⟩))), (5, (.pointer (some ⟨b58, 0, none⟩))), (6, (.pointer (some ⟨(bf369 0), 0, none⟩))), (7, (.pointer (some ⟨(bf369 1), 0, none⟩))), (8, (.pointer (some ⟨(bf369 2), 0, none⟩))), (34, (.agg #[(.int .u64 r456.1), (.int .u64 r456.2)]))]) (by kernel_rfl) ?_
    refine gv_new (fun b => .pointer (some ⟨b, 0, none⟩)) #[(.int .u64 0), (.int .u64 0)] 40 (by decide) (by rfl) (by rfl) (by kernel_rfl) (by kernel_rfl) ?_
    intro b461 w462 hg463 hb464 hbe465 hz466
    refine ⟨(fun e => by cases e), ?_⟩
    refine gv_sub [1, 2, 3, 4, 5, 6, 7, 8, 9, 34] (σ' := [(1, (.pointer (some ⟨b22, 0, none⟩))), (2, (.pointer (some ⟨b28, 0, none⟩))), (3, (.int .u64 r47.1)), (4, (.pointer (some ⟨b52, 0, none⟩))), (5, (.pointer (some ⟨b58, 0, none⟩))), (6, (.pointer (some ⟨(bf369 0), 0, none⟩))), (7, (.pointer (some ⟨(bf369 1), 0, none⟩))), (8, (.pointer (some ⟨(bf369 2), 0, none⟩))), (9, (.pointer (some ⟨b461, 0, none⟩))), (34, (.agg #[(.int .u64 r456.1), (.int .u64 r456.2)]))]) (by kernel_rfl) ?_
    refine gv_store (t := 40) (b := b461) (off := 0) (v := (.agg #[(.int .u64 r456.1), (.int .u64 r456.2)])) (t' := 40) (cs := #[(.int .u64 0), (.int .u64 0)]) #[(.int .u64 r456.1), (.int .u64 r456.2)] (by decide) (by rfl) (by rfl) (by kernel_rfl) (by kernel_rfl) (by kernel_rfl) (by intro u hu; simp [Value.cells] at hu; rcases hu with rfl | rfl <;> rfl) (show 0 + 2 ≤ 2 by decide) (by rfl) hb464 ?_
    intro w467 hg468 hb469 hz470
    refine ⟨(fun e => by cases e), ?_⟩
    refine gv_sub [1, 2, 3, 4, 5, 6, 7, 8, 9] (σ' := [(1, (.pointer (some ⟨b22, 0, none⟩))), (2, (.pointer (some ⟨b28, 0, none⟩))), (3, (.int .u64 r47.1)), (4, (.pointer (some ⟨b52, 0, none⟩))), (5, (.pointer (some ⟨b58, 0, none⟩))), (6, (.pointer (some ⟨(bf369 0), 0, none⟩))), (7, (.pointer (some ⟨(bf369 1), 0, none⟩))), (8, (.pointer (some ⟨(bf369 2), 0, none⟩))), (9, (.pointer (some ⟨b461, 0, none⟩)))]) (by kernel_rfl) ?_
    refine gv_nil ?_
    refine gv_seq ?_
    refine gv_region ?_
    refine bindE h0 ?_; clear h0; intro r471 hr472 h0
    refine gv_call (f := 15) (vs := [(.pointer (some ⟨b461, 0, none⟩))]) (cap := []) _ (by decide) (by rfl) (by rfl) rfl (by rfl) (by rfl) enters15 (ref4_Random_Draw_ok fuel b461 (r456.1, r456.2) w467 hb469 r471 hr472) ?_
    rintro v475 w473 ⟨hg474, rfl, hb476⟩
    refine ⟨(fun e => by cases e), ?_⟩
    refine gv_pure 1 [1, 2, 3, 4, 5, 6, 7, 8, 9, 10] (σ' := [(1, (.pointer (some ⟨b22, 0, none⟩))), (2, (.pointer (some ⟨b28, 0, none⟩))), (3, (.int .u64 r47.1)), (4, (.pointer (some ⟨b52, 0, none⟩))), (5, (.pointer (some ⟨b58, 0, none⟩))), (6, (.pointer (some ⟨(bf369 0), 0, none⟩))), (7, (.pointer (some ⟨(bf369 1), 0, none⟩))), (8, (.pointer (some ⟨(bf369 2), 0, none⟩))), (9, (.pointer (some ⟨b461, 0, none⟩))), (10, (.int .u64 r471.1))]) (by kernel_rfl) ?_
    refine gv_nil ?_
    refine gv_seq ?_
    refine gv_region ?_
    refine bindE h0 ?_; clear h0; intro j477 h1 h0
    refine gv_cut_ops (J := fun a w478 => Below w0.heap.size w0 w478 ∧ w473.heap.size ≤ w478.heap.size ∧ a.defers = [] ∧ a.tmps.size = 74 ∧ Ok [(0, (.bool j477))] a.tmps) ?_ ?_
    · skip
      refine gv_pure 1 [1, 3, 4, 5, 6, 7, 8, 9, 10, 36] (σ' := [(1, (.pointer (some ⟨b22, 0, none⟩))), (3, (.int .u64 r47.1)), (4, (.pointer (some ⟨b52, 0, none⟩))), (5, (.pointer (some ⟨b58, 0, none⟩))), (6, (.pointer (some ⟨(bf369 0), 0, none⟩))), (7, (.pointer (some ⟨(bf369 1), 0, none⟩))), (8, (.pointer (some ⟨(bf369 2), 0, none⟩))), (9, (.pointer (some ⟨b461, 0, none⟩))), (10, (.int .u64 r471.1)), (36, (.pointer (some ⟨b28, 0, none⟩)))]) (by kernel_rfl) ?_
      have hg479 := (grown_trans (grown_trans hg443 hg459) hg463)
      have hg480 := (grown_trans hg443 hg459)
      have hk481 := hk375.grown hg480 nb
      have ap482 : ¬ (· = b28) b461 := fun hx => Nat.not_lt_of_le ((lowb hbe465) _ rfl) ((fun k (hk : k = b28) => Nat.lt_of_le_of_lt (Nat.le_of_eq hk) hk481.lt) _ hx)
      have hk483 := ((hk375.grown hg479 nb).grown hg468 (rowne ap482)).grown hg474 (rowne ap482)
      refine gv_load (t := 3) (A := ⟨b28, 0, none⟩) (.int .i64 r17.2.1) [1, 3, 4, 5, 6, 7, 8, 9, 10, 37] (σ' := [(1, (.pointer (some ⟨b22, 0, none⟩))), (3, (.int .u64 r47.1)), (4, (.pointer (some ⟨b52, 0, none⟩))), (5, (.pointer (some ⟨b58, 0, none⟩))), (6, (.pointer (some ⟨(bf369 0), 0, none⟩))), (7, (.pointer (some ⟨(bf369 1), 0, none⟩))), (8, (.pointer (some ⟨(bf369 2), 0, none⟩))), (9, (.pointer (some ⟨b461, 0, none⟩))), (10, (.int .u64 r471.1)), (37, (.int .i64 r17.2.1))]) (fun e => by cases e) (by rfl) (by rfl) (by rfl) (by kernel_rfl) (by kernel_rfl) (by kernel_rfl) (inw0 (hk483.cell 0 rfl)) (by kernel_rfl) ?_
      refine gv_pure 2 [1, 3, 4, 5, 6, 7, 8, 9, 10, 39] (σ' := [(1, (.pointer (some ⟨b22, 0, none⟩))), (3, (.int .u64 r47.1)), (4, (.pointer (some ⟨b52, 0, none⟩))), (5, (.pointer (some ⟨b58, 0, none⟩))), (6, (.pointer (some ⟨(bf369 0), 0, none⟩))), (7, (.pointer (some ⟨(bf369 1), 0, none⟩))), (8, (.pointer (some ⟨(bf369 2), 0, none⟩))), (9, (.pointer (some ⟨b461, 0, none⟩))), (10, (.int .u64 r471.1)), (39, (.bool (r17.2.1 == 0)))]) (by kernel_rfl) ?_
      refine gv_split (s := 39) (g := (r17.2.1 == 0)) (by rfl) (fun hc484 => ?_) (fun hc484 => ?_)
      · skip
        replace h1 := ite_t hc484 h1
        refine gv_pure 1 [1, 3, 4, 6, 7, 8, 9, 10, 39, 40] (σ' := [(1, (.pointer (some ⟨b22, 0, none⟩))), (3, (.int .u64 r47.1)), (4, (.pointer (some ⟨b52, 0, none⟩))), (6, (.pointer (some ⟨(bf369 0), 0, none⟩))), (7, (.pointer (some ⟨(bf369 1), 0, none⟩))), (8, (.pointer (some ⟨(bf369 2), 0, none⟩))), (9, (.pointer (some ⟨b461, 0, none⟩))), (10, (.int .u64 r471.1)), (39, (.bool true)), (40, (.pointer (some ⟨b58, 0, none⟩)))]) (by kernel_rfl) ?_
        have hk485 := hk377.grown hg480 nb
        have ap486 : ¬ (· = b58) b461 := fun hx => Nat.not_lt_of_le ((lowb hbe465) _ rfl) ((fun k (hk : k = b58) => Nat.lt_of_le_of_lt (Nat.le_of_eq hk) hk485.lt) _ hx)
        have hk487 := ((hk377.grown hg479 nb).grown hg468 (rowne ap486)).grown hg474 (rowne ap486)
        refine gv_load (t := 3) (A := ⟨b58, 0, none⟩) (.int .i64 r47.2.2.1) [1, 3, 4, 6, 7, 8, 9, 10, 39, 41] (σ' := [(1, (.pointer (some ⟨b22, 0, none⟩))), (3, (.int .u64 r47.1)), (4, (.pointer (some ⟨b52, 0, none⟩))), (6, (.pointer (some ⟨(bf369 0), 0, none⟩))), (7, (.pointer (some ⟨(bf369 1), 0, none⟩))), (8, (.pointer (some ⟨(bf369 2), 0, none⟩))), (9, (.pointer (some ⟨b461, 0, none⟩))), (10, (.int .u64 r471.1)), (39, (.bool true)), (41, (.int .i64 r47.2.2.1))]) (fun e => by cases e) (by rfl) (by rfl) (by rfl) (by kernel_rfl) (by kernel_rfl) (by kernel_rfl) (inw0 (hk487.cell 0 rfl)) (by kernel_rfl) ?_
        refine gv_pure 3 [1, 3, 4, 6, 7, 8, 9, 10, 44] (σ' := [(1, (.pointer (some ⟨b22, 0, none⟩))), (3, (.int .u64 r47.1)), (4, (.pointer (some ⟨b52, 0, none⟩))), (6, (.pointer (some ⟨(bf369 0), 0, none⟩))), (7, (.pointer (some ⟨(bf369 1), 0, none⟩))), (8, (.pointer (some ⟨(bf369 2), 0, none⟩))), (9, (.pointer (some ⟨b461, 0, none⟩))), (10, (.int .u64 r471.1)), (44, (.bool (r47.2.2.1 == 0)))]) (by kernel_rfl) ?_
        refine gv_split (s := 44) (g := (r47.2.2.1 == 0)) (by rfl) (fun hc488 => ?_) (fun hc488 => ?_)
        · skip
          replace h1 := ite_t hc488 h1
          refine gv_pure 1 [1, 3, 4, 6, 7, 9, 10, 44, 45] (σ' := [(1, (.pointer (some ⟨b22, 0, none⟩))), (3, (.int .u64 r47.1)), (4, (.pointer (some ⟨b52, 0, none⟩))), (6, (.pointer (some ⟨(bf369 0), 0, none⟩))), (7, (.pointer (some ⟨(bf369 1), 0, none⟩))), (9, (.pointer (some ⟨b461, 0, none⟩))), (10, (.int .u64 r471.1)), (44, (.bool true)), (45, (.pointer (some ⟨(bf369 2), 0, none⟩)))]) (by kernel_rfl) ?_
          have hk489 := hb409.grown hg480 nb
          have ap490 : ¬ (· = (bf369 2)) b461 := fun hx => Nat.not_lt_of_le ((lowb hbe465) _ rfl) ((fun k (hk : k = (bf369 2)) => Nat.lt_of_le_of_lt (Nat.le_of_eq hk) hk489.lt) _ hx)
          have hk491 := ((hb409.grown hg479 nb).grown hg468 (rowne ap490)).grown hg474 (rowne ap490)
          refine gv_load (t := 3) (A := ⟨(bf369 2), 0, none⟩) (.int .i64 r182.2.2.1) [1, 3, 4, 6, 7, 9, 10, 44, 46] (σ' := [(1, (.pointer (some ⟨b22, 0, none⟩))), (3, (.int .u64 r47.1)), (4, (.pointer (some ⟨b52, 0, none⟩))), (6, (.pointer (some ⟨(bf369 0), 0, none⟩))), (7, (.pointer (some ⟨(bf369 1), 0, none⟩))), (9, (.pointer (some ⟨b461, 0, none⟩))), (10, (.int .u64 r471.1)), (44, (.bool true)), (46, (.int .i64 r182.2.2.1))]) (fun e => by cases e) (by rfl) (by rfl) (by rfl) (by kernel_rfl) (by kernel_rfl) (by kernel_rfl) (inw0 (hk491.cell 0 rfl)) (by kernel_rfl) ?_
          refine gv_pure 3 [1, 3, 4, 6, 7, 9, 10, 49] (σ' := [(1, (.pointer (some ⟨b22, 0, none⟩))), (3, (.int .u64 r47.1)), (4, (.pointer (some ⟨b52, 0, none⟩))), (6, (.pointer (some ⟨(bf369 0), 0, none⟩))), (7, (.pointer (some ⟨(bf369 1), 0, none⟩))), (9, (.pointer (some ⟨b461, 0, none⟩))), (10, (.int .u64 r471.1)), (49, (.bool (r182.2.2.1 == 0)))]) (by kernel_rfl) ?_
          refine gv_split (s := 49) (g := (r182.2.2.1 == 0)) (by rfl) (fun hc492 => ?_) (fun hc492 => ?_)
          · skip
            replace h1 := ite_t hc492 h1
            refine gv_pure 1 [1, 3, 4, 6, 7, 9, 10, 49, 50] (σ' := [(1, (.pointer (some ⟨b22, 0, none⟩))), (3, (.int .u64 r47.1)), (4, (.pointer (some ⟨b52, 0, none⟩))), (6, (.pointer (some ⟨(bf369 0), 0, none⟩))), (7, (.pointer (some ⟨(bf369 1), 0, none⟩))), (9, (.pointer (some ⟨b461, 0, none⟩))), (10, (.int .u64 r471.1)), (49, (.bool true)), (50, (.pointer (some ⟨b22, 0, none⟩)))]) (by kernel_rfl) ?_
            have hk493 := hk374.grown hg480 nb
            have ap494 : ¬ (· = b22) b461 := fun hx => Nat.not_lt_of_le ((lowb hbe465) _ rfl) ((fun k (hk : k = b22) => Nat.lt_of_le_of_lt (Nat.le_of_eq hk) hk493.lt) _ hx)
            have hk495 := ((hk374.grown hg479 nb).grown hg468 (rowne ap494)).grown hg474 (rowne ap494)
            refine gv_load (t := 25) (A := ⟨b22, 0, none⟩) (.int .u64 r17.1.1) [1, 3, 4, 6, 7, 9, 10, 49, 51] (σ' := [(1, (.pointer (some ⟨b22, 0, none⟩))), (3, (.int .u64 r47.1)), (4, (.pointer (some ⟨b52, 0, none⟩))), (6, (.pointer (some ⟨(bf369 0), 0, none⟩))), (7, (.pointer (some ⟨(bf369 1), 0, none⟩))), (9, (.pointer (some ⟨b461, 0, none⟩))), (10, (.int .u64 r471.1)), (49, (.bool true)), (51, (.int .u64 r17.1.1))]) (fun e => by cases e) (by rfl) (by rfl) (by rfl) (by kernel_rfl) (by kernel_rfl) (by kernel_rfl) (inw0 (hk495.cell 0 rfl)) (by kernel_rfl) ?_
            refine gv_pure 3 [1, 3, 4, 6, 7, 9, 10, 54] (σ' := [(1, (.pointer (some ⟨b22, 0, none⟩))), (3, (.int .u64 r47.1)), (4, (.pointer (some ⟨b52, 0, none⟩))), (6, (.pointer (some ⟨(bf369 0), 0, none⟩))), (7, (.pointer (some ⟨(bf369 1), 0, none⟩))), (9, (.pointer (some ⟨b461, 0, none⟩))), (10, (.int .u64 r471.1)), (54, (.bool (r17.1.1 == 0)))]) (by kernel_rfl) ?_
            refine gv_split (s := 54) (g := (r17.1.1 == 0)) (by rfl) (fun hc496 => ?_) (fun hc496 => ?_)
            · skip
              replace h1 := ite_t hc496 h1
              refine gv_pure 5 [1, 4, 6, 7, 9, 59] (σ' := [(1, (.pointer (some ⟨b22, 0, none⟩))), (4, (.pointer (some ⟨b52, 0, none⟩))), (6, (.pointer (some ⟨(bf369 0), 0, none⟩))), (7, (.pointer (some ⟨(bf369 1), 0, none⟩))), (9, (.pointer (some ⟨b461, 0, none⟩))), (59, (.bool (r47.1 == r471.1)))]) (by kernel_rfl) ?_
              refine gv_split (s := 59) (g := (r47.1 == r471.1)) (by rfl) (fun hc497 => ?_) (fun hc497 => ?_)
              · skip
                replace h1 := ite_t hc497 h1
                have hk498 := hk376.grown hg480 nb
                have ap499 : ¬ (· = b52) b461 := fun hx => Nat.not_lt_of_le ((lowb hbe465) _ rfl) ((fun k (hk : k = b52) => Nat.lt_of_le_of_lt (Nat.le_of_eq hk) hk498.lt) _ hx)
                have hk500 := ((hk376.grown hg479 nb).grown hg468 (rowne ap499)).grown hg474 (rowne ap499)
                refine gv_sub [1, 4, 6, 7, 9, 59] (σ' := [(1, (.pointer (some ⟨b22, 0, none⟩))), (4, (.pointer (some ⟨b52, 0, none⟩))), (6, (.pointer (some ⟨(bf369 0), 0, none⟩))), (7, (.pointer (some ⟨(bf369 1), 0, none⟩))), (9, (.pointer (some ⟨b461, 0, none⟩))), (59, (.bool true))]) (by kernel_rfl) ?_
                refine gv_loadBox (t := 27) (b := b52) (t' := 27) (fr := (0, 0)) #[(.int .u64 r47.2.1.1), (.int .u64 r47.2.1.2)] [1, 6, 7, 9, 59, 60] (σ' := [(1, (.pointer (some ⟨b22, 0, none⟩))), (6, (.pointer (some ⟨(bf369 0), 0, none⟩))), (7, (.pointer (some ⟨(bf369 1), 0, none⟩))), (9, (.pointer (some ⟨b461, 0, none⟩))), (59, (.bool true)), (60, (.agg #[(.int .u64 r47.2.1.1), (.int .u64 r47.2.1.2)]))]) (fun e => by cases e) (by rfl) (by rfl) (by rfl) (by kernel_rfl) (by kernel_rfl) (by kernel_rfl) (by kernel_rfl) (inw0 hk500) (by kernel_rfl) ?_
                refine gv_pure 1 [1, 6, 7, 59, 60, 61] (σ' := [(1, (.pointer (some ⟨b22, 0, none⟩))), (6, (.pointer (some ⟨(bf369 0), 0, none⟩))), (7, (.pointer (some ⟨(bf369 1), 0, none⟩))), (59, (.bool true)), (60, (.agg #[(.int .u64 r47.2.1.1), (.int .u64 r47.2.1.2)])), (61, (.pointer (some ⟨b461, 0, none⟩)))]) (by kernel_rfl) ?_
                refine gv_loadBox (t := 27) (b := b461) (t' := 40) (fr := (0, 0)) #[(.int .u64 r471.2.1), (.int .u64 r471.2.2)] [1, 6, 7, 59, 60, 62] (σ' := [(1, (.pointer (some ⟨b22, 0, none⟩))), (6, (.pointer (some ⟨(bf369 0), 0, none⟩))), (7, (.pointer (some ⟨(bf369 1), 0, none⟩))), (59, (.bool true)), (60, (.agg #[(.int .u64 r47.2.1.1), (.int .u64 r47.2.1.2)])), (62, (.agg #[(.int .u64 r471.2.1), (.int .u64 r471.2.2)]))]) (fun e => by cases e) (by rfl) (by rfl) (by rfl) (by kernel_rfl) (by kernel_rfl) (by kernel_rfl) (by kernel_rfl) (inw0 hb476) (by kernel_rfl) ?_
                refine gv_eqs (t := 27) (op := .eql) (x := (.tmp 60)) (y := (.tmp 62)) (xs := #[(.int .u64 r47.2.1.1), (.int .u64 r47.2.1.2)]) (ys := #[(.int .u64 r471.2.1), (.int .u64 r471.2.2)]) ((r47.2.1.1 == r471.2.1) && (r47.2.1.2 == r471.2.2)) [1, 6, 7, 59, 63] (σ' := [(1, (.pointer (some ⟨b22, 0, none⟩))), (6, (.pointer (some ⟨(bf369 0), 0, none⟩))), (7, (.pointer (some ⟨(bf369 1), 0, none⟩))), (59, (.bool true)), (63, (.bool ((r47.2.1.1 == r471.2.1) && (r47.2.1.2 == r471.2.2))))]) (fun e => by cases e) (by rfl) (by rfl) (by rfl) (by kernel_rfl) (by kernel_rfl) (fun w' => eqs27eql r47.2.1.1 r47.2.1.2 r471.2.1 r471.2.2 _ _ w') (by kernel_rfl) ?_
                refine gv_pure 2 [1, 6, 7, 65] (σ' := [(1, (.pointer (some ⟨b22, 0, none⟩))), (6, (.pointer (some ⟨(bf369 0), 0, none⟩))), (7, (.pointer (some ⟨(bf369 1), 0, none⟩))), (65, (.bool ((r47.2.1.1 == r471.2.1) && (r47.2.1.2 == r471.2.2))))]) (by kernel_rfl) ?_
                refine gv_split (s := 65) (g := ((r47.2.1.1 == r471.2.1) && (r47.2.1.2 == r471.2.2))) (by rfl) (fun hc501 => ?_) (fun hc501 => ?_)
                · skip
                  replace h1 := ite_t hc501 h1
                  have hk502 := hb390.grown hg480 nb
                  have ap503 : ¬ (· = (bf369 0)) b461 := fun hx => Nat.not_lt_of_le ((lowb hbe465) _ rfl) ((fun k (hk : k = (bf369 0)) => Nat.lt_of_le_of_lt (Nat.le_of_eq hk) hk502.lt) _ hx)
                  have hk504 := ((hb390.grown hg479 nb).grown hg468 (rowne ap503)).grown hg474 (rowne ap503)
                  refine gv_sub [1, 6, 7, 65] (σ' := [(1, (.pointer (some ⟨b22, 0, none⟩))), (6, (.pointer (some ⟨(bf369 0), 0, none⟩))), (7, (.pointer (some ⟨(bf369 1), 0, none⟩))), (65, (.bool true))]) (by kernel_rfl) ?_
                  refine gv_loadBox (t := 24) (b := (bf369 0)) (t' := 24) (fr := (0, 0)) #[(.bool r182.1.1), (.slice a187 (List.length r182.1.2) c188)] [1, 7, 65, 66] (σ' := [(1, (.pointer (some ⟨b22, 0, none⟩))), (7, (.pointer (some ⟨(bf369 1), 0, none⟩))), (65, (.bool true)), (66, (.agg #[(.bool r182.1.1), (.slice a187 (List.length r182.1.2) c188)]))]) (fun e => by cases e) (by rfl) (by rfl) (by rfl) (by kernel_rfl) (by kernel_rfl) (by kernel_rfl) (by kernel_rfl) (inw0 hk504) (by kernel_rfl) ?_
                  refine bindE h1 ?_; clear h1; intro r505 hr506 h1
                  have hk507 := hk378.grown hg480 (fun _ h => h.elim) nb
                  have ap508 : ¬ (fun k => blk a187 = some k) b461 := fun hx => Nat.not_lt_of_le ((lowb hbe465) _ rfl) ((fun k (hk : blk a187 = some k) => hk507.lt k hk) _ hx)
                  have hk509 := ((hk378.grown hg479 (fun _ h => h.elim) nb).grown hg468 (fun _ h => h.elim) (rdnn (rowne ap508))).grown hg474 (fun _ h => h.elim) (rdnn (rowne ap508))
                  refine gv_call (f := 18) (vs := [(.agg #[(.bool r182.1.1), (.slice a187 (List.length r182.1.2) c188)])]) (cap := []) _ (by decide) (by rfl) (by rfl) rfl (by rfl) (by rfl) enters18 (ref3_NoInt_ok fuel a187 c188 (r182.1.1, r182.1.2) w473 (fun k => (fun k => blk a187 = some k) k) (fun k hk => (fun k (hk : blk a187 = some k) => hk509.lt k hk) k hk) ((hk509.rd (Y := fun k => blk a187 = some k) (fun _ h => h.elim) (fun g e => e)).wide (fun k hk => hk)) r505 hr506) ?_
                  rintro v512 w510 ⟨hg511, rfl⟩
                  refine ⟨(fun e => by cases e), ?_⟩
                  refine gv_pure 2 [1, 7, 69] (σ' := [(1, (.pointer (some ⟨b22, 0, none⟩))), (7, (.pointer (some ⟨(bf369 1), 0, none⟩))), (69, (.bool r505))]) (by kernel_rfl) ?_
                  refine gv_split (s := 69) (g := r505) (by rfl) (fun hc513 => ?_) (fun hc513 => ?_)
                  · skip
                    replace h1 := ite_t hc513 h1
                    have hk514 := hb399.grown hg480 nb
                    have ap515 : ¬ (· = (bf369 1)) b461 := fun hx => Nat.not_lt_of_le ((lowb hbe465) _ rfl) ((fun k (hk : k = (bf369 1)) => Nat.lt_of_le_of_lt (Nat.le_of_eq hk) hk514.lt) _ hx)
                    have hk516 := (((hb399.grown hg479 nb).grown hg468 (rowne ap515)).grown hg474 (rowne ap515)).grown hg511 nb
                    refine gv_sub [1, 7, 69] (σ' := [(1, (.pointer (some ⟨b22, 0, none⟩))), (7, (.pointer (some ⟨(bf369 1), 0, none⟩))), (69, (.bool true))]) (by kernel_rfl) ?_
                    refine gv_loadBox (t := 27) (b := (bf369 1)) (t' := 27) (fr := (0, 0)) #[(.int .u64 r182.2.1.1), (.int .u64 r182.2.1.2)] [1, 69, 70] (σ' := [(1, (.pointer (some ⟨b22, 0, none⟩))), (69, (.bool true)), (70, (.agg #[(.int .u64 r182.2.1.1), (.int .u64 r182.2.1.2)]))]) (fun e => by cases e) (by rfl) (by rfl) (by rfl) (by kernel_rfl) (by kernel_rfl) (by kernel_rfl) (by kernel_rfl) (inw0 hk516) (by kernel_rfl) ?_
                    have hk517 := hk495.grown hg511 nb
                    refine gv_loadBox (t := 27) (b := b22) (t' := 27) (fr := (0, 0)) #[(.int .u64 r17.1.1), (.int .u64 r17.1.2)] [69, 70, 71] (σ' := [(69, (.bool true)), (70, (.agg #[(.int .u64 r182.2.1.1), (.int .u64 r182.2.1.2)])), (71, (.agg #[(.int .u64 r17.1.1), (.int .u64 r17.1.2)]))]) (fun e => by cases e) (by rfl) (by rfl) (by rfl) (by kernel_rfl) (by kernel_rfl) (by kernel_rfl) (by kernel_rfl) (inw0 hk517) (by kernel_rfl) ?_
                    refine gv_eqs (t := 27) (op := .eql) (x := (.tmp 70)) (y := (.tmp 71)) (xs := #[(.int .u64 r182.2.1.1), (.int .u64 r182.2.1.2)]) (ys := #[(.int .u64 r17.1.1), (.int .u64 r17.1.2)]) ((r182.2.1.1 == r17.1.1) && (r182.2.1.2 == r17.1.2)) [69, 72] (σ' := [(69, (.bool true)), (72, (.bool ((r182.2.1.1 == r17.1.1) && (r182.2.1.2 == r17.1.2))))]) (fun e => by cases e) (by rfl) (by rfl) (by rfl) (by kernel_rfl) (by kernel_rfl) (fun w' => eqs27eql r182.2.1.1 r182.2.1.2 r17.1.1 r17.1.2 _ _ w') (by kernel_rfl) ?_
                    refine gv_pure 2 [0] (σ' := [(0, (.bool ((r182.2.1.1 == r17.1.1) && (r182.2.1.2 == r17.1.2))))]) (by kernel_rfl) ?_
                    refine bindE h1 ?_; clear h1; intro n518 hn519 h1
                    refine gv_name (s := 0) (v := (.bool ((r182.2.1.1 == r17.1.1) && (r182.2.1.2 == r17.1.2)))) (v' := (.bool n518)) (by rfl) (congrArg (Value.bool) (Option.some.inj hn519)) ?_
                    refine gv_sub [0] (σ' := [(0, (.bool n518))]) (by kernel_rfl) ?_
                    refine gv_nil ?_
                    have e := Option.some.inj h1; subst e
                    refine gv_goal fun a hd hs hok => ?_
                    obtain ⟨q0, _⟩ := hok
                    have hB520 := below_grown hB372 hg479 hB372.size nb
                    have hB521 := below_grown hB372 hg480 hB372.size nb
                    have hlo522 : w0.heap.size ≤ b461 := lob hbe465 hB521.size
                    have hB523 := below_grown hB520 hg468 hB520.size (rowlo hlo522)
                    have hB524 := below_grown hB523 hg474 hB523.size (rowlo hlo522)
                    have hB525 := below_grown hB524 hg511 hB524.size nb
                    have hz526 : w473.heap.size ≤ w510.heap.size := hg511.size
                    exact ⟨hB525, hz526, hd, hs, ⟨q0, trivial⟩⟩
                  · skip
                    replace h1 := ite_f hc513 h1
                    refine gv_pure 5 [0] (σ' := [(0, (.bool false))]) (by kernel_rfl) ?_
                    refine gv_nil ?_
                    have e := Option.some.inj h1; subst e
                    refine gv_goal fun a hd hs hok => ?_
                    obtain ⟨q0, _⟩ := hok
                    have hB527 := below_grown hB372 hg479 hB372.size nb
                    have hB528 := below_grown hB372 hg480 hB372.size nb
                    have hlo529 : w0.heap.size ≤ b461 := lob hbe465 hB528.size
                    have hB530 := below_grown hB527 hg468 hB527.size (rowlo hlo529)
                    have hB531 := below_grown hB530 hg474 hB530.size (rowlo hlo529)
                    have hB532 := below_grown hB531 hg511 hB531.size nb
                    have hz533 : w473.heap.size ≤ w510.heap.size := hg511.size
                    exact ⟨hB532, hz533, hd, hs, ⟨q0, trivial⟩⟩
                · skip
                  replace h1 := ite_f hc501 h1
                  refine gv_pure 9 [0] (σ' := [(0, (.bool false))]) (by kernel_rfl) ?_
                  refine gv_nil ?_
                  have e := Option.some.inj h1; subst e
                  refine gv_goal fun a hd hs hok => ?_
                  obtain ⟨q0, _⟩ := hok
                  have hB534 := below_grown hB372 hg479 hB372.size nb
                  have hB535 := below_grown hB372 hg480 hB372.size nb
                  have hlo536 : w0.heap.size ≤ b461 := lob hbe465 hB535.size
                  have hB537 := below_grown hB534 hg468 hB534.size (rowlo hlo536)
                  have hB538 := below_grown hB537 hg474 hB537.size (rowlo hlo536)
                  exact ⟨hB538, (Nat.le_refl _), hd, hs, ⟨q0, trivial⟩⟩
              · skip
                replace h1 := ite_f hc497 h1
                refine gv_pure 15 [0] (σ' := [(0, (.bool false))]) (by kernel_rfl) ?_
                refine gv_nil ?_
                have e := Option.some.inj h1; subst e
                refine gv_goal fun a hd hs hok => ?_
                obtain ⟨q0, _⟩ := hok
                have hB539 := below_grown hB372 hg479 hB372.size nb
                have hB540 := below_grown hB372 hg480 hB372.size nb
                have hlo541 : w0.heap.size ≤ b461 := lob hbe465 hB540.size
                have hB542 := below_grown hB539 hg468 hB539.size (rowlo hlo541)
                have hB543 := below_grown hB542 hg474 hB542.size (rowlo hlo541)
                exact ⟨hB543, (Nat.le_refl _), hd, hs, ⟨q0, trivial⟩⟩
            · skip
              replace h1 := ite_f hc496 h1
              refine gv_pure 20 [0] (σ' := [(0, (.bool false))]) (by kernel_rfl) ?_
              refine gv_nil ?_
              have e := Option.some.inj h1; subst e
              refine gv_goal fun a hd hs hok => ?_
              obtain ⟨q0, _⟩ := hok
              have hB544 := below_grown hB372 hg479 hB372.size nb
              have hB545 := below_grown hB372 hg480 hB372.size nb
              have hlo546 : w0.heap.size ≤ b461 := lob hbe465 hB545.size
              have hB547 := below_grown hB544 hg468 hB544.size (rowlo hlo546)
              have hB548 := below_grown hB547 hg474 hB547.size (rowlo hlo546)
              exact ⟨hB548, (Nat.le_refl _), hd, hs, ⟨q0, trivial⟩⟩
          · skip
            replace h1 := ite_f hc492 h1
            refine gv_pure 25 [0] (σ' := [(0, (.bool false))]) (by kernel_rfl) ?_
            refine gv_nil ?_
            have e := Option.some.inj h1; subst e
            refine gv_goal fun a hd hs hok => ?_
            obtain ⟨q0, _⟩ := hok
            have hB549 := below_grown hB372 hg479 hB372.size nb
            have hB550 := below_grown hB372 hg480 hB372.size nb
            have hlo551 : w0.heap.size ≤ b461 := lob hbe465 hB550.size
            have hB552 := below_grown hB549 hg468 hB549.size (rowlo hlo551)
            have hB553 := below_grown hB552 hg474 hB552.size (rowlo hlo551)
            exact ⟨hB553, (Nat.le_refl _), hd, hs, ⟨q0, trivial⟩⟩
        · skip
          replace h1 := ite_f hc488 h1
          refine gv_pure 30 [0] (σ' := [(0, (.bool false))]) (by kernel_rfl) ?_
          refine gv_nil ?_
          have e := Option.some.inj h1; subst e
          refine gv_goal fun a hd hs hok => ?_
          obtain ⟨q0, _⟩ := hok
          have hB554 := below_grown hB372 hg479 hB372.size nb
          have hB555 := below_grown hB372 hg480 hB372.size nb
          have hlo556 : w0.heap.size ≤ b461 := lob hbe465 hB555.size
          have hB557 := below_grown hB554 hg468 hB554.size (rowlo hlo556)
          have hB558 := below_grown hB557 hg474 hB557.size (rowlo hlo556)
          exact ⟨hB558, (Nat.le_refl _), hd, hs, ⟨q0, trivial⟩⟩
      · skip
        replace h1 := ite_f hc484 h1
        refine gv_pure 35 [0] (σ' := [(0, (.bool false))]) (by kernel_rfl) ?_
        refine gv_nil ?_
        have e := Option.some.inj h1; subst e
        refine gv_goal fun a hd hs hok => ?_
        obtain ⟨q0, _⟩ := hok
        have hB559 := below_grown hB372 hg479 hB372.size nb
        have hB560 := below_grown hB372 hg480 hB372.size nb
        have hlo561 : w0.heap.size ≤ b461 := lob hbe465 hB560.size
        have hB562 := below_grown hB559 hg468 hB559.size (rowlo hlo561)
        have hB563 := below_grown hB562 hg474 hB562.size (rowlo hlo561)
        exact ⟨hB563, (Nat.le_refl _), hd, hs, ⟨q0, trivial⟩⟩
    · rintro a w478 ⟨hB564, hz565, hd, hs, hok⟩
      refine (?_ : Run Try.prog _ 74 _ .normal [(0, (.bool j477))] w478) a hd hs hok
      clear hd hs hok
      clear hz565 hb476 hg474 hr472 hz470 hb469 hg468 hz466 hbe465 hb464 hg463 hg459 hr457 hl455 hl454 ap453 hl452 ho451 hl448 ho447 hg443 hr441 ap418 ap417 ap416 ap415 ap414 ap413 ap412 ap411 hlo410 hb409 ap407 ap406 ap405 ap404 ap403 ap402 ap401 hlo400 hb399 ap397 ap396 ap395 ap394 ap393 ap392 hlo391 hb390 hlo379 hk378 hk377 hk376 hk375 hk374 hB372 ap91 ap88 hk87 ap86 hk85 ap82 hk81 ap80 hk79 ap73 hbe62 hbe56 ap45 ap43
      refine gv_cret ?_
      have e := Option.some.inj h0; subst e
      refine gv_ret (gv_done [(.bool j477)] rfl ⟨rfl, trivial⟩ ?_)
      exact ⟨grown_of_below hB564, rfl⟩

set_option maxHeartbeats 4000000 in
set_option maxRecDepth 100000 in
theorem random_Bytes_ok (fuel : Nat) (g_0 : (Int × Int)) (n_1 : Int) (w0 : World)  (r0 : ((List UInt8) × (Int × Int) × (Int × Int))) (h0 : random_Bytes fuel g_0 n_1 = some r0) :
    Calls Try.prog 27 ([(.agg #[(.int .u64 g_0.1), (.int .u64 g_0.2)]), (.int .i64 n_1)] : List Value).toArray w0 (Ret fun v w' => w0.grownBy w' none ∧ ∃ (a0_0r : Option Addr) (c0_0r : Nat), v = tup [(.slice a0_0r (List.length r0.1) c0_0r), (.agg #[(.int .u64 r0.2.1.1), (.int .u64 r0.2.1.2)]), (.agg #[(.int .i64 r0.2.2.1), (.int .i64 r0.2.2.2)])] ∧ Own bE 5 w' (fun _ => False) a0_0r c0_0r r0.1 ∧ (∀ g, blk a0_0r = some g → w0.heap.size ≤ g)) := by
  have hB0 : Below w0.heap.size w0 w0 := Below.refl _ _
  unfold random_Bytes at h0
  refine calls_run Try.func27 rfl Try.ntmps27 (by kernel_rfl) ?_
  refine gv_sub [0, 1] (σ' := [(0, (.agg #[(.int .u64 g_0.1), (.int .u64 g_0.2)])), (1, (.int .i64 n_1))]) (by kernel_rfl) ?_
  refine gv_seq ?_
  refine gv_region ?_
  refine gv_new (fun b => .pointer (some ⟨b, 0, none⟩)) #[(.int .u64 g_0.1), (.int .u64 g_0.2)] 27 (by decide) (by rfl) (by rfl) (by kernel_rfl) (by kernel_rfl) ?_
  intro b1 w2 hg3 hb4 hbe5 hz6
  refine ⟨(fun e => by cases e), ?_⟩
  refine gv_pure 1 [1, 2] (σ' := [(1, (.int .i64 n_1)), (2, (.pointer (some ⟨b1, 0, none⟩)))]) (by kernel_rfl) ?_
  refine gv_new (fun b => .pointer (some ⟨b, 0, none⟩)) #[(.int .u64 0), (.int .u64 0)] 27 (by decide) (by rfl) (by rfl) (by kernel_rfl) (by kernel_rfl) ?_
  intro b7 w8 hg9 hb10 hbe11 hz12
  refine ⟨(fun e => by cases e), ?_⟩
  refine gv_sub [1, 2, 5] (σ' := [(1, (.int .i64 n_1)), (2, (.pointer (some ⟨b1, 0, none⟩))), (5, (.pointer (some ⟨b7, 0, none⟩)))]) (by kernel_rfl) ?_
  refine gv_new (fun b => .pointer (some ⟨b, 0, none⟩)) #[(.int .i64 0), (.int .i64 0)] 29 (by decide) (by rfl) (by rfl) (by kernel_rfl) (by kernel_rfl) ?_
  intro b13 w14 hg15 hb16 hbe17 hz18
  refine ⟨(fun e => by cases e), ?_⟩
  refine gv_sub [1, 2, 5, 6] (σ' := [(1, (.int .i64 n_1)), (2, (.pointer (some ⟨b1, 0, none⟩))), (5, (.pointer (some ⟨b7, 0, none⟩))), (6, (.pointer (some ⟨b13, 0, none⟩)))]) (by kernel_rfl) ?_
  refine gv_nil ?_
  refine gv_seq ?_
  refine gv_region ?_
  have hg19 := (grown_trans hg9 hg15)
  have hk20 := hb4.grown hg19 nb
  refine gv_loadBox (t := 27) (b := b1) (t' := 27) (fr := (0, 0)) #[(.int .u64 g_0.1), (.int .u64 g_0.2)] [1, 5, 6, 13] (σ' := [(1, (.int .i64 n_1)), (5, (.pointer (some ⟨b7, 0, none⟩))), (6, (.pointer (some ⟨b13, 0, none⟩))), (13, (.agg #[(.int .u64 g_0.1), (.int .u64 g_0.2)]))]) (fun e => by cases e) (by rfl) (by rfl) (by rfl) (by kernel_rfl) (by kernel_rfl) (by kernel_rfl) (by kernel_rfl) (inw0 hk20) (by kernel_rfl) ?_
  refine bindE h0 ?_; clear h0; intro r21 hr22 h0
  refine gv_call (f := 39) (vs := [(.agg #[(.int .u64 g_0.1), (.int .u64 g_0.2)])]) (cap := []) _ (by decide) (by rfl) (by rfl) rfl (by rfl) (by rfl) enters39 (random_open_ok fuel (g_0.1, g_0.2) w14  r21 hr22) ?_
  rintro v25 w23 ⟨hg24, p26, rfl, hp27⟩
  refine ⟨(fun e => by cases e), ?_⟩
  rcases hp27 with ⟨hn28, rfl⟩ | ⟨x30, b31, hn29, rfl, hb32, hlo33⟩
  · skip
    replace h0 := optc_none hn28 h0
    refine gv_pure 3 [1, 5, 6, 15, 16] (σ' := [(1, (.int .i64 n_1)), (5, (.pointer (some ⟨b7, 0, none⟩))), (6, (.pointer (some ⟨b13, 0, none⟩))), (15, (.pointer none)), (16, (.agg #[(.int .i64 r21.2.1), (.int .i64 r21.2.2)]))]) (by kernel_rfl) ?_
    refine gv_new (fun b => .pointer (some ⟨b, 0, none⟩)) #[(.int .i64 0), (.int .i64 0)] 29 (by decide) (by rfl) (by rfl) (by kernel_rfl) (by kernel_rfl) ?_
    intro b34 w35 hg36 hb37 hbe38 hz39
    refine ⟨(fun e => by cases e), ?_⟩
    refine gv_pure 1 [1, 5, 6, 7, 8, 16] (σ' := [(1, (.int .i64 n_1)), (5, (.pointer (some ⟨b7, 0, none⟩))), (6, (.pointer (some ⟨b13, 0, none⟩))), (7, (.pointer none)), (8, (.pointer (some ⟨b34, 0, none⟩))), (16, (.agg #[(.int .i64 r21.2.1), (.int .i64 r21.2.2)]))]) (by kernel_rfl) ?_
    refine gv_store (t := 29) (b := b34) (off := 0) (v := (.agg #[(.int .i64 r21.2.1), (.int .i64 r21.2.2)])) (t' := 29) (cs := #[(.int .i64 0), (.int .i64 0)]) #[(.int .i64 r21.2.1), (.int .i64 r21.2.2)] (by decide) (by rfl) (by rfl) (by kernel_rfl) (by kernel_rfl) (by kernel_rfl) (by intro u hu; simp [Value.cells] at hu; rcases hu with rfl | rfl <;> rfl) (show 0 + 2 ≤ 2 by decide) (by rfl) hb37 ?_
    intro w40 hg41 hb42 hz43
    refine ⟨(fun e => by cases e), ?_⟩
    refine gv_sub [1, 5, 6, 7, 8] (σ' := [(1, (.int .i64 n_1)), (5, (.pointer (some ⟨b7, 0, none⟩))), (6, (.pointer (some ⟨b13, 0, none⟩))), (7, (.pointer none)), (8, (.pointer (some ⟨b34, 0, none⟩)))]) (by kernel_rfl) ?_
    refine gv_nil ?_
    refine gv_seq ?_
    refine gv_block ?_
    refine gv_seq ?_
    refine gv_region ?_
    refine gv_pure 1 [1, 5, 6, 7, 8, 18] (σ' := [(1, (.int .i64 n_1)), (5, (.pointer (some ⟨b7, 0, none⟩))), (6, (.pointer (some ⟨b13, 0, none⟩))), (7, (.pointer none)), (8, (.pointer (some ⟨b34, 0, none⟩))), (18, (.pointer (some ⟨b34, 0, none⟩)))]) (by kernel_rfl) ?_
    refine gv_load (t := 3) (A := ⟨b34, 0, none⟩) (.int .i64 r21.2.1) [1, 5, 6, 7, 8, 19] (σ' := [(1, (.int .i64 n_1)), (5, (.pointer (some ⟨b7, 0, none⟩))), (6, (.pointer (some ⟨b13, 0, none⟩))), (7, (.pointer none)), (8, (.pointer (some ⟨b34, 0, none⟩))), (19, (.int .i64 r21.2.1))]) (fun e => by cases e) (by rfl) (by rfl) (by rfl) (by kernel_rfl) (by kernel_rfl) (by kernel_rfl) (inw0 (hb42.cell 0 rfl)) (by kernel_rfl) ?_
    refine gv_pure 2 [1, 5, 6, 7, 8, 17] (σ' := [(1, (.int .i64 n_1)), (5, (.pointer (some ⟨b7, 0, none⟩))), (6, (.pointer (some ⟨b13, 0, none⟩))), (7, (.pointer none)), (8, (.pointer (some ⟨b34, 0, none⟩))), (17, (.bool (r21.2.1 != 0)))]) (by kernel_rfl) ?_
    refine gv_nil ?_
    refine gv_cond (b := (r21.2.1 != 0)) (by rfl) (fun hc44 => ?_) (fun hc44 => ?_)
    · replace h0 := ite_t hc44 h0
      refine gv_seq ?_
      refine gv_drawA (by kernel_rfl) ?_
      intro w45 hg46
      refine gv_pre [0, 2] #[true, false, true, false, false] 3 (by kernel_rfl) (by rfl) ?_
      refine gv_pure 2 [4, 5, 6, 8, 21] (σ' := [(4, (.slice none (List.length ([] : List UInt8)) 0)), (5, (.pointer (some ⟨b7, 0, none⟩))), (6, (.pointer (some ⟨b13, 0, none⟩))), (8, (.pointer (some ⟨b34, 0, none⟩))), (21, (.agg #[(.int .u64 0), (.int .u64 0)]))]) (by kernel_rfl) ?_
      refine gv_nil ?_
      refine gv_goal fun a hd hs hok => ?_
      refine (?_ : RunA Try.prog _ 62 _ _ 3 #[true, false, true, false, false] [(4, (.slice none (List.length ([] : List UInt8)) 0)), (5, (.pointer (some ⟨b7, 0, none⟩))), (6, (.pointer (some ⟨b13, 0, none⟩))), (8, (.pointer (some ⟨b34, 0, none⟩))), (21, (.agg #[(.int .u64 0), (.int .u64 0)]))] w45) a hd hs hok
      clear hd hs hok
      refine gv_stage (Cls w45 [b7]) [0, 1, 2, 3] [(1, some true), (3, some false)] #[true, true, true, true, false] 1 (by kernel_rfl) (by rfl) (Cls.refl _ _) ?_
      have hC47 := Cls.refl w45 [b7]
      have hk48 := hb42.grown hg46 nb
      have hg49 := (grown_trans hg15 hg24)
      have hk50 := hb10.grown hg49 nb
      have ap51 : ¬ (· = b7) b34 := fun hx => Nat.not_lt_of_le ((lowb hbe38) _ rfl) ((fun k (hk : k = b7) => Nat.lt_of_le_of_lt (Nat.le_of_eq hk) hk50.lt) _ hx)
      refine gv_loadBox (t := 29) (b := b34) (t' := 29) (fr := (0, 0)) #[(.int .i64 r21.2.1), (.int .i64 r21.2.2)] [4, 5, 6, 21, 22] (σ' := [(4, (.slice none (List.length ([] : List UInt8)) 0)), (5, (.pointer (some ⟨b7, 0, none⟩))), (6, (.pointer (some ⟨b13, 0, none⟩))), (21, (.agg #[(.int .u64 0), (.int .u64 0)])), (22, (.agg #[(.int .i64 r21.2.1), (.int .i64 r21.2.2)]))]) (fun e => by cases e) (by rfl) (by rfl) (by rfl) (by kernel_rfl) (by kernel_rfl) (by kernel_rfl) (by kernel_rfl) (inw1 fun w' hC' => (hC'.box hk48 (nm_cons ap51 nm_nil))) (by kernel_rfl) ?_
      have hk56 := ((hk50.grown hg36 nb).grown hg41 (rowne ap51)).grown hg46 nb
      refine gv_store (t := 27) (b := b7) (off := 0) (v := (.agg #[(.int .u64 0), (.int .u64 0)])) (t' := 27) (cs := #[(.int .u64 0), (.int .u64 0)]) #[(.int .u64 0), (.int .u64 0)] (by decide) (by rfl) (by rfl) (by kernel_rfl) (by kernel_rfl) (by kernel_rfl) (by intro u hu; simp [Value.cells] at hu; rcases hu with rfl | rfl <;> rfl) (show 0 + 2 ≤ 2 by decide) (by rfl) hk56 ?_
      intro w52 hg53 hb54 hz55
      refine ⟨(fun _ => hC47.grown hg53 (rowm (List.Mem.head _))), ?_⟩
      clear hz55 ap51 hk50 hg49 hc44 hz43 hb42 hz39 hb37 hr22 hg19 hz18 hz12 hz6 hb4
      refine gv_sub [4, 5, 6, 22] (σ' := [(4, (.slice none (List.length ([] : List UInt8)) 0)), (5, (.pointer (some ⟨b7, 0, none⟩))), (6, (.pointer (some ⟨b13, 0, none⟩))), (22, (.agg #[(.int .i64 r21.2.1), (.int .i64 r21.2.2)]))]) (by kernel_rfl) ?_
      refine gv_nil ?_
      refine gv_goal fun a hd hs hok => ?_
      refine (?_ : RunA Try.prog _ 62 _ _ 1 #[true, true, true, true, false] [(4, (.slice none (List.length ([] : List UInt8)) 0)), (5, (.pointer (some ⟨b7, 0, none⟩))), (6, (.pointer (some ⟨b13, 0, none⟩))), (22, (.agg #[(.int .i64 r21.2.1), (.int .i64 r21.2.2)]))] w52) a hd hs hok
      clear hd hs hok
      refine gv_stage (fun _ => True) [0, 1, 2, 3, 4] [(4, some false)] #[true, true, true, true, true] 0 (by kernel_rfl) (by rfl) trivial ?_
      have hg61 := (grown_trans hg24 hg36)
      have hk62 := hb16.grown hg24 nb
      have ap63 : ¬ (· = b13) b34 := fun hx => Nat.not_lt_of_le ((lowb hbe38) _ rfl) ((fun k (hk : k = b13) => Nat.lt_of_le_of_lt (Nat.le_of_eq hk) hk62.lt) _ hx)
      have ap64 : ¬ (· = b13) b7 := fun hx => Nat.not_lt_of_le ((lowb hbe17) _ hx) ((fun k (hk : k = b7) => Nat.lt_of_le_of_lt (Nat.le_of_eq hk) hb10.lt) _ rfl)
      have hk65 := (((hb16.grown hg61 nb).grown hg41 (rowne ap63)).grown hg46 nb).grown hg53 (rowne ap64)
      refine gv_store (t := 29) (b := b13) (off := 0) (v := (.agg #[(.int .i64 r21.2.1), (.int .i64 r21.2.2)])) (t' := 29) (cs := #[(.int .i64 0), (.int .i64 0)]) #[(.int .i64 r21.2.1), (.int .i64 r21.2.2)] (by decide) (by rfl) (by rfl) (by kernel_rfl) (by kernel_rfl) (by kernel_rfl) (by intro u hu; simp [Value.cells] at hu; rcases hu with rfl | rfl <;> rfl) (show 0 + 2 ≤ 2 by decide) (by rfl) hk65 ?_
      intro w57 hg58 hb59 hz60
      refine ⟨(fun _ => trivial), ?_⟩
      refine gv_sub [4, 5, 6] (σ' := [(4, (.slice none (List.length ([] : List UInt8)) 0)), (5, (.pointer (some ⟨b7, 0, none⟩))), (6, (.pointer (some ⟨b13, 0, none⟩)))]) (by kernel_rfl) ?_
      refine gv_nil ?_
      refine gv_goal fun a hd hs hok => ?_
      refine (?_ : RunA Try.prog _ 62 _ _ 0 #[true, true, true, true, true] [(4, (.slice none (List.length ([] : List UInt8)) 0)), (5, (.pointer (some ⟨b7, 0, none⟩))), (6, (.pointer (some ⟨b13, 0, none⟩)))] w57) a hd hs hok
      clear hd hs hok
      refine gv_stageE (by kernel_rfl) ?_
      refine gv_cret ?_
      have e := Option.some.inj h0; subst e
      have ap66 : ¬ (· = b7) b13 := fun hx => Nat.not_lt_of_le ((lowb hbe17) _ rfl) ((fun k (hk : k = b7) => Nat.lt_of_le_of_lt (Nat.le_of_eq hk) hb10.lt) _ hx)
      have hk67 := hb54.grown hg58 (rowne ap66)
      refine gv_ret (gv_done [(.slice none (List.length ([] : List UInt8)) 0), (.agg #[(.int .u64 0), (.int .u64 0)]), (.agg #[(.int .i64 r21.2.1), (.int .i64 r21.2.2)])] rfl ⟨rfl, ⟨_, rfl, run_loadVar_row w57 b7 _ 27 _ _ _ hk67 Try.underlying27 rfl (by kernel_rfl)⟩, ⟨_, rfl, run_loadVar_row w57 b13 _ 29 _ _ _ hb59 Try.underlying29 rfl (by kernel_rfl)⟩, trivial⟩ ?_)
      have hg68 := (grown_trans (grown_trans (grown_trans hg3 hg9) hg15) hg61)
      have hB69 := below_grown hB0 hg68 hB0.size nb
      have hg70 := (grown_trans (grown_trans (grown_trans hg3 hg9) hg15) hg24)
      have hB71 := below_grown hB0 hg70 hB0.size nb
      have hlo72 : w0.heap.size ≤ b34 := lob hbe38 hB71.size
      have hB73 := below_grown hB69 hg41 hB69.size (rowlo hlo72)
      have hB74 := below_grown hB73 hg46 hB73.size nb
      have hB75 := below_grown hB0 hg3 hB0.size nb
      have hlo76 : w0.heap.size ≤ b7 := lob hbe11 hB75.size
      have hB77 := below_grown hB74 hg53 hB74.size (rowlo hlo76)
      have hB78 := below_grown hB75 hg9 hB75.size nb
      have hlo79 : w0.heap.size ≤ b13 := lob hbe17 hB78.size
      have hB80 := below_grown hB77 hg58 hB77.size (rowlo hlo79)
      exact ⟨grown_of_below hB80, none, 0, rfl, (Own.nil bE 5 w57 (fun _ => False)), (fun _ h => by cases h)⟩
    · replace h0 := ite_f hc44 h0
      refine gv_seq ?_
      refine gv_region ?_
      refine gv_cut_ops (J := fun a w81 => w40 = w81 ∧ a.defers = [] ∧ a.tmps.size = 62 ∧ Ok [(1, (.int .i64 n_1)), (5, (.pointer (some ⟨b7, 0, none⟩))), (6, (.pointer (some ⟨b13, 0, none⟩))), (7, (.pointer none)), (23, (.bool ((decide (n_1 < 0)) || (decide (n_1 > 4000)))))] a.tmps) ?_ ?_
      · skip
        refine gv_pure 3 [1, 5, 6, 7, 26] (σ' := [(1, (.int .i64 n_1)), (5, (.pointer (some ⟨b7, 0, none⟩))), (6, (.pointer (some ⟨b13, 0, none⟩))), (7, (.pointer none)), (26, (.bool (decide (n_1 < 0))))]) (by kernel_rfl) ?_
        refine gv_split (s := 26) (g := (decide (n_1 < 0))) (by rfl) (fun hc82 => ?_) (fun hc82 => ?_)
        · skip
          refine gv_pure 4 [1, 5, 6, 7, 23] (σ' := [(1, (.int .i64 n_1)), (5, (.pointer (some ⟨b7, 0, none⟩))), (6, (.pointer (some ⟨b13, 0, none⟩))), (7, (.pointer none)), (23, (.bool true))]) (by kernel_rfl) ?_
          refine gv_nil ?_
          refine gv_goal fun a hd hs hok => ⟨rfl, hd, hs, ?_⟩
          obtain ⟨q1, q5, q6, q7, q23, _⟩ := hok
          exact ⟨q1, q5, q6, q7, (by rw [hc82]; exact q23), trivial⟩
        · skip
          refine gv_pure 4 [1, 5, 6, 7, 23] (σ' := [(1, (.int .i64 n_1)), (5, (.pointer (some ⟨b7, 0, none⟩))), (6, (.pointer (some ⟨b13, 0, none⟩))), (7, (.pointer none)), (23, (.bool (decide (n_1 > 4000))))]) (by kernel_rfl) ?_
          refine gv_nil ?_
          refine gv_goal fun a hd hs hok => ⟨rfl, hd, hs, ?_⟩
          obtain ⟨q1, q5, q6, q7, q23, _⟩ := hok
          exact ⟨q1, q5, q6, q7, (by rw [hc82]; exact q23), trivial⟩
      · rintro a w81 ⟨e, hd, hs, hok⟩; subst e
        refine (?_ : Run Try.prog _ 62 _ .normal [(1, (.int .i64 n_1)), (5, (.pointer (some ⟨b7, 0, none⟩))), (6, (.pointer (some ⟨b13, 0, none⟩))), (7, (.pointer none)), (23, (.bool ((decide (n_1 < 0)) || (decide (n_1 > 4000)))))] w40) a hd hs hok
        clear hd hs hok
        refine gv_cond (b := ((decide (n_1 < 0)) || (decide (n_1 > 4000)))) (by rfl) (fun hc83 => ?_) (fun hc83 => ?_)
        · replace h0 := ite_t hc83 h0
          refine gv_seq ?_
          refine gv_region ?_
          refine gv_pure 1 [5, 6, 30] (σ' := [(5, (.pointer (some ⟨b7, 0, none⟩))), (6, (.pointer (some ⟨b13, 0, none⟩))), (30, (.agg #[(.int .u64 0), (.int .u64 0)]))]) (by kernel_rfl) ?_
          refine bindE h0 ?_; clear h0; intro r84 hr85 h0
          refine gv_call (f := 37) (vs := [(.int .i64 4), (.int .i64 (-2))]) (cap := []) _ (by decide) (by rfl) (by rfl) rfl (by rfl) (by rfl) enters37 (random_at_ok fuel 4 (-2) w40  r84 hr85) ?_
          rintro v88 w86 ⟨hg87, rfl⟩
          refine ⟨(fun e => by cases e), ?_⟩
          refine gv_pure 1 [4, 5, 6, 30, 31] (σ' := [(4, (.slice none (List.length ([] : List UInt8)) 0)), (5, (.pointer (some ⟨b7, 0, none⟩))), (6, (.pointer (some ⟨b13, 0, none⟩))), (30, (.agg #[(.int .u64 0), (.int .u64 0)])), (31, (.agg #[(.int .i64 r84.1), (.int .i64 r84.2)]))]) (by kernel_rfl) ?_
          have hg93 := (grown_trans (grown_trans hg15 hg24) hg36)
          have hg94 := (grown_trans hg15 hg24)
          have hk95 := hb10.grown hg94 nb
          have ap96 : ¬ (· = b7) b34 := fun hx => Nat.not_lt_of_le ((lowb hbe38) _ rfl) ((fun k (hk : k = b7) => Nat.lt_of_le_of_lt (Nat.le_of_eq hk) hk95.lt) _ hx)
          have hk97 := ((hb10.grown hg93 nb).grown hg41 (rowne ap96)).grown hg87 nb
          refine gv_store (t := 27) (b := b7) (off := 0) (v := (.agg #[(.int .u64 0), (.int .u64 0)])) (t' := 27) (cs := #[(.int .u64 0), (.int .u64 0)]) #[(.int .u64 0), (.int .u64 0)] (by decide) (by rfl) (by rfl) (by kernel_rfl) (by kernel_rfl) (by kernel_rfl) (by intro u hu; simp [Value.cells] at hu; rcases hu with rfl | rfl <;> rfl) (show 0 + 2 ≤ 2 by decide) (by rfl) hk97 ?_
          intro w89 hg90 hb91 hz92
          refine ⟨(fun e => by cases e), ?_⟩
          have hg102 := (grown_trans hg24 hg36)
          have hk103 := hb16.grown hg24 nb
          have ap104 : ¬ (· = b13) b34 := fun hx => Nat.not_lt_of_le ((lowb hbe38) _ rfl) ((fun k (hk : k = b13) => Nat.lt_of_le_of_lt (Nat.le_of_eq hk) hk103.lt) _ hx)
          have ap105 : ¬ (· = b13) b7 := fun hx => Nat.not_lt_of_le ((lowb hbe17) _ hx) ((fun k (hk : k = b7) => Nat.lt_of_le_of_lt (Nat.le_of_eq hk) hb10.lt) _ rfl)
          have hk106 := (((hb16.grown hg102 nb).grown hg41 (rowne ap104)).grown hg87 nb).grown hg90 (rowne ap105)
          refine gv_sub [4, 5, 6, 31] (σ' := [(4, (.slice none (List.length ([] : List UInt8)) 0)), (5, (.pointer (some ⟨b7, 0, none⟩))), (6, (.pointer (some ⟨b13, 0, none⟩))), (31, (.agg #[(.int .i64 r84.1), (.int .i64 r84.2)]))]) (by kernel_rfl) ?_
          refine gv_store (t := 29) (b := b13) (off := 0) (v := (.agg #[(.int .i64 r84.1), (.int .i64 r84.2)])) (t' := 29) (cs := #[(.int .i64 0), (.int .i64 0)]) #[(.int .i64 r84.1), (.int .i64 r84.2)] (by decide) (by rfl) (by rfl) (by kernel_rfl) (by kernel_rfl) (by kernel_rfl) (by intro u hu; simp [Value.cells] at hu; rcases hu with rfl | rfl <;> rfl) (show 0 + 2 ≤ 2 by decide) (by rfl) hk106 ?_
          intro w98 hg99 hb100 hz101
          refine ⟨(fun e => by cases e), ?_⟩
          refine gv_sub [4, 5, 6] (σ' := [(4, (.slice none (List.length ([] : List UInt8)) 0)), (5, (.pointer (some ⟨b7, 0, none⟩))), (6, (.pointer (some ⟨b13, 0, none⟩)))]) (by kernel_rfl) ?_
          refine gv_nil ?_
          refine gv_cret ?_
          have e := Option.some.inj h0; subst e
          have ap107 : ¬ (· = b7) b13 := fun hx => Nat.not_lt_of_le ((lowb hbe17) _ rfl) ((fun k (hk : k = b7) => Nat.lt_of_le_of_lt (Nat.le_of_eq hk) hb10.lt) _ hx)
          have hk108 := hb91.grown hg99 (rowne ap107)
          refine gv_ret (gv_done [(.slice none (List.length ([] : List UInt8)) 0), (.agg #[(.int .u64 0), (.int .u64 0)]), (.agg #[(.int .i64 r84.1), (.int .i64 r84.2)])] rfl ⟨rfl, ⟨_, rfl, run_loadVar_row w98 b7 _ 27 _ _ _ hk108 Try.underlying27 rfl (by kernel_rfl)⟩, ⟨_, rfl, run_loadVar_row w98 b13 _ 29 _ _ _ hb100 Try.underlying29 rfl (by kernel_rfl)⟩, trivial⟩ ?_)
          have hg109 := (grown_trans (grown_trans hg3 hg19) hg102)
          have hB110 := below_grown hB0 hg109 hB0.size nb
          have hg111 := (grown_trans (grown_trans hg3 hg19) hg24)
          have hB112 := below_grown hB0 hg111 hB0.size nb
          have hlo113 : w0.heap.size ≤ b34 := lob hbe38 hB112.size
          have hB114 := below_grown hB110 hg41 hB110.size (rowlo hlo113)
          have hB115 := below_grown hB114 hg87 hB114.size nb
          have hB116 := below_grown hB0 hg3 hB0.size nb
          have hlo117 : w0.heap.size ≤ b7 := lob hbe11 hB116.size
          have hB118 := below_grown hB115 hg90 hB115.size (rowlo hlo117)
          have hB119 := below_grown hB116 hg9 hB116.size nb
          have hlo120 : w0.heap.size ≤ b13 := lob hbe17 hB119.size
          have hB121 := below_grown hB118 hg99 hB118.size (rowlo hlo120)
          exact ⟨grown_of_below hB121, none, 0, rfl, (Own.nil bE 5 w98 (fun _ => False)), (fun _ h => by cases h)⟩
        · replace h0 := ite_f hc83 h0
          refine gv_skip ?_
          refine gv_blk ?_
          refine gv_seq ?_
          refine gv_region ?_
          refine gv_pure 1 [1, 5, 6, 7, 9] (σ' := [(1, (.int .i64 n_1)), (5, (.pointer (some ⟨b7, 0, none⟩))), (6, (.pointer (some ⟨b13, 0, none⟩))), (7, (.pointer none)), (9, (.slice none (List.length ([] : List UInt8)) 0))]) (by kernel_rfl) ?_
          refine gv_nil ?_
          refine gv_seq ?_
          refine bindE h0 ?_; clear h0; intro j122 h1 h0
          refine gv_cut_code (J := fun a w123 => ∃ (a9_0j : Option Addr) (c9_0j : Nat), Below w0.heap.size w0 w123 ∧ w40.heap.size ≤ w123.heap.size ∧ Own bE 5 w123 (fun _ => False) a9_0j c9_0j j122 ∧ (∀ g, blk a9_0j = some g → w0.heap.size ≤ g) ∧ (∀ g, blk a9_0j = some g → ¬ (· = b7) g) ∧ (∀ g, blk a9_0j = some g → ¬ (· = b13) g) ∧ ¬ (fun k => blk a9_0j = some k) b7 ∧ ¬ (fun k => blk a9_0j = some k) b13 ∧ Box w123 b7 27 #[(.int .u64 0), (.int .u64 0)] ∧ Box w123 b13 29 #[(.int .i64 0), (.int .i64 0)] ∧ a.defers = [] ∧ a.tmps.size = 62 ∧ Ok [(5, (.pointer (some ⟨b7, 0, none⟩))), (6, (.pointer (some ⟨b13, 0, none⟩))), (7, (.pointer none)), (9, (.slice a9_0j (List.length j122) c9_0j))] a.tmps) ?_ ?_
          · skip
            refine gv_block ?_
            refine gv_loop (A := fun (s124 : (List UInt8)) a w125 => ∃ (a9_0j : Option Addr) (c9_0j : Nat), Below w0.heap.size w0 w125 ∧ w40.heap.size ≤ w125.heap.size ∧ Own bE 5 w125 (fun _ => False) a9_0j c9_0j s124 ∧ (∀ g, blk a9_0j = some g → w0.heap.size ≤ g) ∧ (∀ g, blk a9_0j = some g → ¬ (· = b7) g) ∧ (∀ g, blk a9_0j = some g → ¬ (· = b13) g) ∧ ¬ (fun k => blk a9_0j = some k) b7 ∧ ¬ (fun k => blk a9_0j = some k) b13 ∧ Box w125 b7 27 #[(.int .u64 0), (.int .u64 0)] ∧ Box w125 b13 29 #[(.int .i64 0), (.int .i64 0)] ∧ a.defers = [] ∧ a.tmps.size = 62 ∧ Ok [(1, (.int .i64 n_1)), (5, (.pointer (some ⟨b7, 0, none⟩))), (6, (.pointer (some ⟨b13, 0, none⟩))), (7, (.pointer none)), (9, (.slice a9_0j (List.length s124) c9_0j))] a.tmps) h1 ?_ ?_
            · intro a hd hs hok
              obtain ⟨q1, q5, q6, q7, q9, _⟩ := hok
              have hg126 := (grown_trans (grown_trans (grown_trans hg3 hg19) hg24) hg36)
              have hB127 := below_grown hB0 hg126 hB0.size nb
              have hg128 := (grown_trans (grown_trans hg3 hg19) hg24)
              have hB129 := below_grown hB0 hg128 hB0.size nb
              have hlo130 : w0.heap.size ≤ b34 := lob hbe38 hB129.size
              have hB131 := below_grown hB127 hg41 hB127.size (rowlo hlo130)
              have hg132 := (grown_trans (grown_trans hg15 hg24) hg36)
              have hg133 := (grown_trans hg15 hg24)
              have hk134 := hb10.grown hg133 nb
              have ap135 : ¬ (· = b7) b34 := fun hx => Nat.not_lt_of_le ((lowb hbe38) _ rfl) ((fun k (hk : k = b7) => Nat.lt_of_le_of_lt (Nat.le_of_eq hk) hk134.lt) _ hx)
              have hk136 := (hb10.grown hg132 nb).grown hg41 (rowne ap135)
              have hg137 := (grown_trans hg24 hg36)
              have hk138 := hb16.grown hg24 nb
              have ap139 : ¬ (· = b13) b34 := fun hx => Nat.not_lt_of_le ((lowb hbe38) _ rfl) ((fun k (hk : k = b13) => Nat.lt_of_le_of_lt (Nat.le_of_eq hk) hk138.lt) _ hx)
              have hk140 := (hb16.grown hg137 nb).grown hg41 (rowne ap139)
              exact ⟨none, 0, hB131, (Nat.le_refl _), (Own.nil bE 5 w40 (fun _ => False)), (fun _ h => by cases h), (fun _ h => by cases h), (fun _ h => by cases h), (fun h => by cases h), (fun h => by cases h), hk136, hk140, hd, hs, ⟨q1, q5, q6, q7, q9, trivial⟩⟩
            · rintro s124 r2 h2 hR2 a w125 ⟨a143, c144, hB141, hz142, ho145, hl146, ap147, ap148, ap149, ap150, hb151, hb152, hd, hs, hok⟩
              refine (?_ : Run Try.prog _ 62 _ .normal [(1, (.int .i64 n_1)), (5, (.pointer (some ⟨b7, 0, none⟩))), (6, (.pointer (some ⟨b13, 0, none⟩))), (7, (.pointer none)), (9, (.slice a143 (List.length s124) c144))] w125) a hd hs hok
              clear hd hs hok
              clear hc83 hc44 hz43 hb42 hg41 hz39 hbe38 hb37 hg36 hg24 hr22 hk20 hg19 hz18 hb16 hg15 hz12 hz6 hbe5 hb4
              refine gv_seq ?_
              refine gv_seq ?_
              refine gv_region ?_
              refine gv_pure 4 [1, 5, 6, 7, 9, 35] (σ' := [(1, (.int .i64 n_1)), (5, (.pointer (some ⟨b7, 0, none⟩))), (6, (.pointer (some ⟨b13, 0, none⟩))), (7, (.pointer none)), (9, (.slice a143 (List.length s124) c144)), (35, (.bool (decide (((List.length s124 : Nat) : Int) < n_1))))]) (by kernel_rfl) ?_
              refine gv_nil ?_
              refine gv_cond (b := (decide (((List.length s124 : Nat) : Int) < n_1))) (by rfl) (fun hc153 => ?_) (fun hc153 => ?_)
              · replace h2 := ite_t hc153 h2
                refine gv_skip ?_
                refine gv_block ?_
                refine gv_seq ?_
                refine gv_region ?_
                refine gv_pure 1 [1, 5, 6, 7, 9, 36] (σ' := [(1, (.int .i64 n_1)), (5, (.pointer (some ⟨b7, 0, none⟩))), (6, (.pointer (some ⟨b13, 0, none⟩))), (7, (.pointer none)), (9, (.slice a143 (List.length s124) c144)), (36, (.pointer none))]) (by kernel_rfl) ?_
                cases h2
              · replace h2 := ite_f hc153 h2
                refine gv_cexit ?_
                refine gv_exit rfl ?_
                have e := Option.some.inj h2; subst e
                replace h1 := congrArg some (hR2 _ rfl)
                have e := Option.some.inj h1; subst e
                refine gv_goal fun a hd hs hok => ?_
                obtain ⟨q1, q5, q6, q7, q9, q35, _⟩ := hok
                have hz156 : w40.heap.size ≤ w125.heap.size := hz142
                exact ⟨a143, c144, hB141, hz156, ho145, hl146, ap147, ap148, ap149, ap150, hb151, hb152, hd, hs, ⟨q5, q6, q7, q9, trivial⟩⟩
          · rintro a w123 ⟨a159, c160, hB157, hz158, ho161, hl162, ap163, ap164, ap165, ap166, hb167, hb168, hd, hs, hok⟩
            refine (?_ : Run Try.prog _ 62 _ .normal [(5, (.pointer (some ⟨b7, 0, none⟩))), (6, (.pointer (some ⟨b13, 0, none⟩))), (7, (.pointer none)), (9, (.slice a159 (List.length j122) c160))] w123) a hd hs hok
            clear hd hs hok
            clear hz158 hc83 hc44 hz43 hb42 hg41 hz39 hbe38 hb37 hg36 hg24 hr22 hk20 hg19 hz18 hb16 hg15 hz12 hz6 hbe5 hb4
            refine gv_seq ?_
            refine gv_drawA (by kernel_rfl) ?_
            intro w169 hg170
            refine gv_pre [0, 1, 2, 3, 5, 6] #[true, true, true, true, false, true, true, false, false] 3 (by kernel_rfl) (by rfl) ?_
            refine gv_pure 2 [5, 6, 56, 57] (σ' := [(5, (.pointer (some ⟨b7, 0, none⟩))), (6, (.pointer (some ⟨b13, 0, none⟩))), (56, (.slice a159 (List.length j122) c160)), (57, (.pointer none))]) (by kernel_rfl) ?_
            cases h0
  · skip
    replace h0 := optc_some hn29 h0
    have hg172 := (grown_trans hg3 hg19)
    have hB173 := below_grown hB0 hg172 hB0.size nb
    have hl171 : w0.heap.size ≤ b31 := Nat.le_trans hB173.size hlo33
    refine gv_pure 3 [1, 5, 6, 15, 16] (σ' := [(1, (.int .i64 n_1)), (5, (.pointer (some ⟨b7, 0, none⟩))), (6, (.pointer (some ⟨b13, 0, none⟩))), (15, (.pointer (some ⟨b31, 0, none⟩))), (16, (.agg #[(.int .i64 r21.2.1), (.int .i64 r21.2.2)]))]) (by kernel_rfl) ?_
    refine gv_new (fun b => .pointer (some ⟨b, 0, none⟩)) #[(.int .i64 0), (.int .i64 0)] 29 (by decide) (by rfl) (by rfl) (by kernel_rfl) (by kernel_rfl) ?_
    intro b174 w175 hg176 hb177 hbe178 hz179
    refine ⟨(fun e => by cases e), ?_⟩
    refine gv_pure 1 [1, 5, 6, 7, 8, 16] (σ' := [(1, (.int .i64 n_1)), (5, (.pointer (some ⟨b7, 0, none⟩))), (6, (.pointer (some ⟨b13, 0, none⟩))), (7, (.pointer (some ⟨b31, 0, none⟩))), (8, (.pointer (some ⟨b174, 0, none⟩))), (16, (.agg #[(.int .i64 r21.2.1), (.int .i64 r21.2.2)]))]) (by kernel_rfl) ?_
    refine gv_store (t := 29) (b := b174) (off := 0) (v := (.agg #[(.int .i64 r21.2.1), (.int .i64 r21.2.2)])) (t' := 29) (cs := #[(.int .i64 0), (.int .i64 0)]) #[(.int .i64 r21.2.1), (.int .i64 r21.2.2)] (by decide) (by rfl) (by rfl) (by kernel_rfl) (by kernel_rfl) (by kernel_rfl) (by intro u hu; simp [Value.cells] at hu; rcases hu with rfl | rfl <;> rfl) (show 0 + 2 ≤ 2 by decide) (by rfl) hb177 ?_
    intro w180 hg181 hb182 hz183
    refine ⟨(fun e => by cases e), ?_⟩
    refine gv_sub [1, 5, 6, 7, 8] (σ' := [(1, (.int .i64 n_1)), (5, (.pointer (some ⟨b7, 0, none⟩))), (6, (.pointer (some ⟨b13, 0, none⟩))), (7, (.pointer (some ⟨b31, 0, none⟩))), (8, (.pointer (some ⟨b174, 0, none⟩)))]) (by kernel_rfl) ?_
    refine gv_nil ?_
    refine gv_seq ?_
    refine gv_block ?_
    refine gv_seq ?_
    refine gv_region ?_
    refine gv_pure 1 [1, 5, 6, 7, 8, 18] (σ' := [(1, (.int .i64 n_1)), (5, (.pointer (some ⟨b7, 0, none⟩))), (6, (.pointer (some ⟨b13, 0, none⟩))), (7, (.pointer (some ⟨b31, 0, none⟩))), (8, (.pointer (some ⟨b174, 0, none⟩))), (18, (.pointer (some ⟨b174, 0, none⟩)))]) (by kernel_rfl) ?_
    refine gv_load (t := 3) (A := ⟨b174, 0, none⟩) (.int .i64 r21.2.1) [1, 5, 6, 7, 8, 19] (σ' := [(1, (.int .i64 n_1)), (5, (.pointer (some ⟨b7, 0, none⟩))), (6, (.pointer (some ⟨b13, 0, none⟩))), (7, (.pointer (some ⟨b31, 0, none⟩))), (8, (.pointer (some ⟨b174, 0, none⟩))), (19, (.int .i64 r21.2.1))]) (fun e => by cases e) (by rfl) (by rfl) (by rfl) (by kernel_rfl) (by kernel_rfl) (by kernel_rfl) (inw0 (hb182.cell 0 rfl)) (by kernel_rfl) ?_
    refine gv_pure 2 [1, 5, 6, 7, 8, 17] (σ' := [(1, (.int .i64 n_1)), (5, (.pointer (some ⟨b7, 0, none⟩))), (6, (.pointer (some ⟨b13, 0, none⟩))), (7, (.pointer (some ⟨b31, 0, none⟩))), (8, (.pointer (some ⟨b174, 0, none⟩))), (17, (.bool (r21.2.1 != 0)))]) (by kernel_rfl) ?_
    refine gv_nil ?_
    refine gv_cond (b := (r21.2.1 != 0)) (by rfl) (fun hc184 => ?_) (fun hc184 => ?_)
    · replace h0 := ite_t hc184 h0
      refine gv_seq ?_
      refine gv_drawA (by kernel_rfl) ?_
      intro w185 hg186
      refine gv_pre [0, 2] #[true, false, true, false, false] 3 (by kernel_rfl) (by rfl) ?_
      clear hc184 hz183 hz179 hb177 hg172 hr22 hg19 hz18 hz12 hz6 hb4
      refine gv_pure 2 [4, 5, 6, 8, 21] (σ' := [(4, (.slice none (List.length ([] : List UInt8)) 0)), (5, (.pointer (some ⟨b7, 0, none⟩))), (6, (.pointer (some ⟨b13, 0, none⟩))), (8, (.pointer (some ⟨b174, 0, none⟩))), (21, (.agg #[(.int .u64 0), (.int .u64 0)]))]) (by kernel_rfl) ?_
      refine gv_nil ?_
      refine gv_goal fun a hd hs hok => ?_
      refine (?_ : RunA Try.prog _ 62 _ _ 3 #[true, false, true, false, false] [(4, (.slice none (List.length ([] : List UInt8)) 0)), (5, (.pointer (some ⟨b7, 0, none⟩))), (6, (.pointer (some ⟨b13, 0, none⟩))), (8, (.pointer (some ⟨b174, 0, none⟩))), (21, (.agg #[(.int .u64 0), (.int .u64 0)]))] w185) a hd hs hok
      clear hd hs hok
      refine gv_stage (Cls w185 [b7]) [0, 1, 2, 3] [(1, some true), (3, some false)] #[true, true, true, true, false] 1 (by kernel_rfl) (by rfl) (Cls.refl _ _) ?_
      have hC187 := Cls.refl w185 [b7]
      have hk188 := hb182.grown hg186 nb
      have hg189 := (grown_trans hg15 hg24)
      have hk190 := hb10.grown hg189 nb
      have ap191 : ¬ (· = b7) b174 := fun hx => Nat.not_lt_of_le ((lowb hbe178) _ rfl) ((fun k (hk : k = b7) => Nat.lt_of_le_of_lt (Nat.le_of_eq hk) hk190.lt) _ hx)
      refine gv_loadBox (t := 29) (b := b174) (t' := 29) (fr := (0, 0)) #[(.int .i64 r21.2.1), (.int .i64 r21.2.2)] [4, 5, 6, 21, 22] (σ' := [(4, (.slice none (List.length ([] : List UInt8)) 0)), (5, (.pointer (some ⟨b7, 0, none⟩))), (6, (.pointer (some ⟨b13, 0, none⟩))), (21, (.agg #[(.int .u64 0), (.int .u64 0)])), (22, (.agg #[(.int .i64 r21.2.1), (.int .i64 r21.2.2)]))]) (fun e => by cases e) (by rfl) (by rfl) (by rfl) (by kernel_rfl) (by kernel_rfl) (by kernel_rfl) (by kernel_rfl) (inw1 fun w' hC' => (hC'.box hk188 (nm_cons ap191 nm_nil))) (by kernel_rfl) ?_
      have hk196 := ((hk190.grown hg176 nb).grown hg181 (rowne ap191)).grown hg186 nb
      refine gv_store (t := 27) (b := b7) (off := 0) (v := (.agg #[(.int .u64 0), (.int .u64 0)])) (t' := 27) (cs := #[(.int .u64 0), (.int .u64 0)]) #[(.int .u64 0), (.int .u64 0)] (by decide) (by rfl) (by rfl) (by kernel_rfl) (by kernel_rfl) (by kernel_rfl) (by intro u hu; simp [Value.cells] at hu; rcases hu with rfl | rfl <;> rfl) (show 0 + 2 ≤ 2 by decide) (by rfl) hk196 ?_
      intro w192 hg193 hb194 hz195
      refine ⟨(fun _ => hC187.grown hg193 (rowm (List.Mem.head _))), ?_⟩
      refine gv_sub [4, 5, 6, 22] (σ' := [(4, (.slice none (List.length ([] : List UInt8)) 0)), (5, (.pointer (some ⟨b7, 0, none⟩))), (6, (.pointer (some ⟨b13, 0, none⟩))), (22, (.agg #[(.int .i64 r21.2.1), (.int .i64 r21.2.2)]))]) (by kernel_rfl) ?_
      refine gv_nil ?_
      refine gv_goal fun a hd hs hok => ?_
      refine (?_ : RunA Try.prog _ 62 _ _ 1 #[true, true, true, true, false] [(4, (.slice none (List.length ([] : List UInt8)) 0)), (5, (.pointer (some ⟨b7, 0, none⟩))), (6, (.pointer (some ⟨b13, 0, none⟩))), (22, (.agg #[(.int .i64 r21.2.1), (.int .i64 r21.2.2)]))] w192) a hd hs hok
      clear hd hs hok
      refine gv_stage (fun _ => True) [0, 1, 2, 3, 4] [(4, some false)] #[true, true, true, true, true] 0 (by kernel_rfl) (by rfl) trivial ?_
      have hg201 := (grown_trans hg24 hg176)
      have hk202 := hb16.grown hg24 nb
      have ap203 : ¬ (· = b13) b174 := fun hx => Nat.not_lt_of_le ((lowb hbe178) _ rfl) ((fun k (hk : k = b13) => Nat.lt_of_le_of_lt (Nat.le_of_eq hk) hk202.lt) _ hx)
      have ap204 : ¬ (· = b13) b7 := fun hx => Nat.not_lt_of_le ((lowb hbe17) _ hx) ((fun k (hk : k = b7) => Nat.lt_of_le_of_lt (Nat.le_of_eq hk) hb10.lt) _ rfl)
      have hk205 := (((hb16.grown hg201 nb).grown hg181 (rowne ap203)).grown hg186 nb).grown hg193 (rowne ap204)
      refine gv_store (t := 29) (b := b13) (off := 0) (v := (.agg #[(.int .i64 r21.2.1), (.int .i64 r21.2.2)])) (t' := 29) (cs := #[(.int .i64 0), (.int .i64 0)]) #[(.int .i64 r21.2.1), (.int .i64 r21.2.2)] (by decide) (by rfl) (by rfl) (by kernel_rfl) (by kernel_rfl) (by kernel_rfl) (by intro u hu; simp [Value.cells] at hu; rcases hu with rfl | rfl <;> rfl) (show 0 + 2 ≤ 2 by decide) (by rfl) hk205 ?_
      intro w197 hg198 hb199 hz200
      refine ⟨(fun _ => trivial), ?_⟩
      refine gv_sub [4, 5, 6] (σ' := [(4, (.slice none (List.length ([] : List UInt8)) 0)), (5, (.pointer (some ⟨b7, 0, none⟩))), (6, (.pointer (some ⟨b13, 0, none⟩)))]) (by kernel_rfl) ?_
      refine gv_nil ?_
      refine gv_goal fun a hd hs hok => ?_
      refine (?_ : RunA Try.prog _ 62 _ _ 0 #[true, true, true, true, true] [(4, (.slice none (List.length ([] : List UInt8)) 0)), (5, (.pointer (some ⟨b7, 0, none⟩))), (6, (.pointer (some ⟨b13, 0, none⟩)))] w197) a hd hs hok
      clear hd hs hok
      refine gv_stageE (by kernel_rfl) ?_
      refine gv_cret ?_
      have e := Option.some.inj h0; subst e
      have ap206 : ¬ (· = b7) b13 := fun hx => Nat.not_lt_of_le ((lowb hbe17) _ rfl) ((fun k (hk : k = b7) => Nat.lt_of_le_of_lt (Nat.le_of_eq hk) hb10.lt) _ hx)
      have hk207 := hb194.grown hg198 (rowne ap206)
      refine gv_ret (gv_done [(.slice none (List.length ([] : List UInt8)) 0), (.agg #[(.int .u64 0), (.int .u64 0)]), (.agg #[(.int .i64 r21.2.1), (.int .i64 r21.2.2)])] rfl ⟨rfl, ⟨_, rfl, run_loadVar_row w197 b7 _ 27 _ _ _ hk207 Try.underlying27 rfl (by kernel_rfl)⟩, ⟨_, rfl, run_loadVar_row w197 b13 _ 29 _ _ _ hb199 Try.underlying29 rfl (by kernel_rfl)⟩, trivial⟩ ?_)
      have hB208 := below_grown hB173 hg201 hB173.size nb
      have hB209 := below_grown hB173 hg24 hB173.size nb
      have hlo210 : w0.heap.size ≤ b174 := lob hbe178 hB209.size
      have hB211 := below_grown hB208 hg181 hB208.size (rowlo hlo210)
      have hB212 := below_grown hB211 hg186 hB211.size nb
      have hB213 := below_grown hB0 hg3 hB0.size nb
      have hlo214 : w0.heap.size ≤ b7 := lob hbe11 hB213.size
      have hB215 := below_grown hB212 hg193 hB212.size (rowlo hlo214)
      have hB216 := below_grown hB213 hg9 hB213.size nb
      have hlo217 : w0.heap.size ≤ b13 := lob hbe17 hB216.size
      have hB218 := below_grown hB215 hg198 hB215.size (rowlo hlo217)
      exact ⟨grown_of_below hB218, none, 0, rfl, (Own.nil bE 5 w197 (fun _ => False)), (fun _ h => by cases h)⟩
    · replace h0 := ite_f hc184 h0
      refine gv_seq ?_
      refine gv_region ?_
      refine gv_cut_ops (J := fun a w219 => w180 = w219 ∧ a.defers = [] ∧ a.tmps.size = 62 ∧ Ok [(1, (.int .i64 n_1)), (5, (.pointer (some ⟨b7, 0, none⟩))), (6, (.pointer (some ⟨b13, 0, none⟩))), (7, (.pointer (some ⟨b31, 0, none⟩))), (23, (.bool ((decide (n_1 < 0)) || (decide (n_1 > 4000)))))] a.tmps) ?_ ?_
      · skip
        refine gv_pure 3 [1, 5, 6, 7, 26] (σ' := [(1, (.int .i64 n_1)), (5, (.pointer (some ⟨b7, 0, none⟩))), (6, (.pointer (some ⟨b13, 0, none⟩))), (7, (.pointer (some ⟨b31, 0, none⟩))), (26, (.bool (decide (n_1 < 0))))]) (by kernel_rfl) ?_
        refine gv_split (s := 26) (g := (decide (n_1 < 0))) (by rfl) (fun hc220 => ?_) (fun hc220 => ?_)
        · skip
          refine gv_pure 4 [1, 5, 6, 7, 23] (σ' := [(1, (.int .i64 n_1)), (5, (.pointer (some ⟨b7, 0, none⟩))), (6, (.pointer (some ⟨b13, 0, none⟩))), (7, (.pointer (some ⟨b31, 0, none⟩))), (23, (.bool true))]) (by kernel_rfl) ?_
          refine gv_nil ?_
          refine gv_goal fun a hd hs hok => ⟨rfl, hd, hs, ?_⟩
          obtain ⟨q1, q5, q6, q7, q23, _⟩ := hok
          exact ⟨q1, q5, q6, q7, (by rw [hc220]; exact q23), trivial⟩
        · skip
          refine gv_pure 4 [1, 5, 6, 7, 23] (σ' := [(1, (.int .i64 n_1)), (5, (.pointer (some ⟨b7, 0, none⟩))), (6, (.pointer (some ⟨b13, 0, none⟩))), (7, (.pointer (some ⟨b31, 0, none⟩))), (23, (.bool (decide (n_1 > 4000))))]) (by kernel_rfl) ?_
          refine gv_nil ?_
          refine gv_goal fun a hd hs hok => ⟨rfl, hd, hs, ?_⟩
          obtain ⟨q1, q5, q6, q7, q23, _⟩ := hok
          exact ⟨q1, q5, q6, q7, (by rw [hc220]; exact q23), trivial⟩
      · rintro a w219 ⟨e, hd, hs, hok⟩; subst e
        refine (?_ : Run Try.prog _ 62 _ .normal [(1, (.int .i64 n_1)), (5, (.pointer (some ⟨b7, 0, none⟩))), (6, (.pointer (some ⟨b13, 0, none⟩))), (7, (.pointer (some ⟨b31, 0, none⟩))), (23, (.bool ((decide (n_1 < 0)) || (decide (n_1 > 4000)))))] w180) a hd hs hok
        clear hd hs hok
        refine gv_cond (b := ((decide (n_1 < 0)) || (decide (n_1 > 4000)))) (by rfl) (fun hc221 => ?_) (fun hc221 => ?_)
        · replace h0 := ite_t hc221 h0
          refine gv_seq ?_
          refine gv_region ?_
          refine gv_pure 1 [5, 6, 30] (σ' := [(5, (.pointer (some ⟨b7, 0, none⟩))), (6, (.pointer (some ⟨b13, 0, none⟩))), (30, (.agg #[(.int .u64 0), (.int .u64 0)]))]) (by kernel_rfl) ?_
          refine bindE h0 ?_; clear h0; intro r222 hr223 h0
          refine gv_call (f := 37) (vs := [(.int .i64 4), (.int .i64 (-2))]) (cap := []) _ (by decide) (by rfl) (by rfl) rfl (by rfl) (by rfl) enters37 (random_at_ok fuel 4 (-2) w180  r222 hr223) ?_
          rintro v226 w224 ⟨hg225, rfl⟩
          refine ⟨(fun e => by cases e), ?_⟩
          refine gv_pure 1 [4, 5, 6, 30, 31] (σ' := [(4, (.slice none (List.length ([] : List UInt8)) 0)), (5, (.pointer (some ⟨b7, 0, none⟩))), (6, (.pointer (some ⟨b13, 0, none⟩))), (30, (.agg #[(.int .u64 0), (.int .u64 0)])), (31, (.agg #[(.int .i64 r222.1), (.int .i64 r222.2)]))]) (by kernel_rfl) ?_
          have hg231 := (grown_trans (grown_trans hg15 hg24) hg176)
          have hg232 := (grown_trans hg15 hg24)
          have hk233 := hb10.grown hg232 nb
          have ap234 : ¬ (· = b7) b174 := fun hx => Nat.not_lt_of_le ((lowb hbe178) _ rfl) ((fun k (hk : k = b7) => Nat.lt_of_le_of_lt (Nat.le_of_eq hk) hk233.lt) _ hx)
          have hk235 := ((hb10.grown hg231 nb).grown hg181 (rowne ap234)).grown hg225 nb
          refine gv_store (t := 27) (b := b7) (off := 0) (v := (.agg #[(.int .u64 0), (.int .u64 0)])) (t' := 27) (cs := #[(.int .u64 0), (.int .u64 0)]) #[(.int .u64 0), (.int .u64 0)] (by decide) (by rfl) (by rfl) (by kernel_rfl) (by kernel_rfl) (by kernel_rfl) (by intro u hu; simp [Value.cells] at hu; rcases hu with rfl | rfl <;> rfl) (show 0 + 2 ≤ 2 by decide) (by rfl) hk235 ?_
          intro w227 hg228 hb229 hz230
          refine ⟨(fun e => by cases e), ?_⟩
          have hg240 := (grown_trans hg24 hg176)
          have hk241 := hb16.grown hg24 nb
          have ap242 : ¬ (· = b13) b174 := fun hx => Nat.not_lt_of_le ((lowb hbe178) _ rfl) ((fun k (hk : k = b13) => Nat.lt_of_le_of_lt (Nat.le_of_eq hk) hk241.lt) _ hx)
          have ap243 : ¬ (· = b13) b7 := fun hx => Nat.not_lt_of_le ((lowb hbe17) _ hx) ((fun k (hk : k = b7) => Nat.lt_of_le_of_lt (Nat.le_of_eq hk) hb10.lt) _ rfl)
          have hk244 := (((hb16.grown hg240 nb).grown hg181 (rowne ap242)).grown hg225 nb).grown hg228 (rowne ap243)
          refine gv_sub [4, 5, 6, 31] (σ' := [(4, (.slice none (List.length ([] : List UInt8)) 0)), (5, (.pointer (some ⟨b7, 0, none⟩))), (6, (.pointer (some ⟨b13, 0, none⟩))), (31, (.agg #[(.int .i64 r222.1), (.int .i64 r222.2)]))]) (by kernel_rfl) ?_
          refine gv_store (t := 29) (b := b13) (off := 0) (v := (.agg #[(.int .i64 r222.1), (.int .i64 r222.2)])) (t' := 29) (cs := #[(.int .i64 0), (.int .i64 0)]) #[(.int .i64 r222.1), (.int .i64 r222.2)] (by decide) (by rfl) (by rfl) (by kernel_rfl) (by kernel_rfl) (by kernel_rfl) (by intro u hu; simp [Value.cells] at hu; rcases hu with rfl | rfl <;> rfl) (show 0 + 2 ≤ 2 by decide) (by rfl) hk244 ?_
          intro w236 hg237 hb238 hz239
          refine ⟨(fun e => by cases e), ?_⟩
          refine gv_sub [4, 5, 6] (σ' := [(4, (.slice none (List.length ([] : List UInt8)) 0)), (5, (.pointer (some ⟨b7, 0, none⟩))), (6, (.pointer (some ⟨b13, 0, none⟩)))]) (by kernel_rfl) ?_
          refine gv_nil ?_
          refine gv_cret ?_
          have e := Option.some.inj h0; subst e
          have ap245 : ¬ (· = b7) b13 := fun hx => Nat.not_lt_of_le ((lowb hbe17) _ rfl) ((fun k (hk : k = b7) => Nat.lt_of_le_of_lt (Nat.le_of_eq hk) hb10.lt) _ hx)
          have hk246 := hb229.grown hg237 (rowne ap245)
          refine gv_ret (gv_done [(.slice none (List.length ([] : List UInt8)) 0), (.agg #[(.int .u64 0), (.int .u64 0)]), (.agg #[(.int .i64 r222.1), (.int .i64 r222.2)])] rfl ⟨rfl, ⟨_, rfl, run_loadVar_row w236 b7 _ 27 _ _ _ hk246 Try.underlying27 rfl (by kernel_rfl)⟩, ⟨_, rfl, run_loadVar_row w236 b13 _ 29 _ _ _ hb238 Try.underlying29 rfl (by kernel_rfl)⟩, trivial⟩ ?_)
          have hB247 := below_grown hB173 hg240 hB173.size nb
          have hB248 := below_grown hB173 hg24 hB173.size nb
          have hlo249 : w0.heap.size ≤ b174 := lob hbe178 hB248.size
          have hB250 := below_grown hB247 hg181 hB247.size (rowlo hlo249)
          have hB251 := below_grown hB250 hg225 hB250.size nb
          have hB252 := below_grown hB0 hg3 hB0.size nb
          have hlo253 : w0.heap.size ≤ b7 := lob hbe11 hB252.size
          have hB254 := below_grown hB251 hg228 hB251.size (rowlo hlo253)
          have hB255 := below_grown hB252 hg9 hB252.size nb
          have hlo256 : w0.heap.size ≤ b13 := lob hbe17 hB255.size
          have hB257 := below_grown hB254 hg237 hB254.size (rowlo hlo256)
          exact ⟨grown_of_below hB257, none, 0, rfl, (Own.nil bE 5 w236 (fun _ => False)), (fun _ h => by cases h)⟩
        · replace h0 := ite_f hc221 h0
          refine gv_skip ?_
          refine gv_blk ?_
          refine gv_seq ?_
          refine gv_region ?_
          refine gv_pure 1 [1, 5, 6, 7, 9] (σ' := [(1, (.int .i64 n_1)), (5, (.pointer (some ⟨b7, 0, none⟩))), (6, (.pointer (some ⟨b13, 0, none⟩))), (7, (.pointer (some ⟨b31, 0, none⟩))), (9, (.slice none (List.length ([] : List UInt8)) 0))]) (by kernel_rfl) ?_
          refine gv_nil ?_
          refine gv_seq ?_
          refine bindE h0 ?_; clear h0; intro j258 h1 h0
          refine gv_cut_code (J := fun a w259 => ∃ (a9_0j : Option Addr) (c9_0j : Nat), Below w0.heap.size w0 w259 ∧ w180.heap.size ≤ w259.heap.size ∧ Own bE 5 w259 (fun _ => False) a9_0j c9_0j j258.1 ∧ (∀ g, blk a9_0j = some g → w0.heap.size ≤ g) ∧ (∀ g, blk a9_0j = some g → ¬ (· = b7) g) ∧ (∀ g, blk a9_0j = some g → ¬ (· = b13) g) ∧ (∀ g, blk a9_0j = some g → ¬ (· = b31) g) ∧ ¬ (fun k => blk a9_0j = some k) b7 ∧ ¬ (fun k => blk a9_0j = some k) b13 ∧ ¬ (fun k => blk a9_0j = some k) b31 ∧ Box w259 b7 27 #[(.int .u64 0), (.int .u64 0)] ∧ Box w259 b13 29 #[(.int .i64 0), (.int .i64 0)] ∧ Box w259 b31 81 #[(.int .u64 j258.2.1), (.int .u64 j258.2.2)] ∧ a.defers = [] ∧ a.tmps.size = 62 ∧ Ok [(5, (.pointer (some ⟨b7, 0, none⟩))), (6, (.pointer (some ⟨b13, 0, none⟩))), (7, (.pointer (some ⟨b31, 0, none⟩))), (9, (.slice a9_0j (List.length j258.1) c9_0j))] a.tmps) ?_ ?_
          · skip
            refine gv_block ?_
            refine gv_loop (A := fun (s260 : ((List UInt8) × ((Int × Int)))) a w261 => ∃ (a9_0j : Option Addr) (c9_0j : Nat), Below w0.heap.size w0 w261 ∧ w180.heap.size ≤ w261.heap.size ∧ Own bE 5 w261 (fun _ => False) a9_0j c9_0j s260.1 ∧ (∀ g, blk a9_0j = some g → w0.heap.size ≤ g) ∧ (∀ g, blk a9_0j = some g → ¬ (· = b7) g) ∧ (∀ g, blk a9_0j = some g → ¬ (· = b13) g) ∧ (∀ g, blk a9_0j = some g → ¬ (· = b31) g) ∧ ¬ (fun k => blk a9_0j = some k) b7 ∧ ¬ (fun k => blk a9_0j = some k) b13 ∧ ¬ (fun k => blk a9_0j = some k) b31 ∧ Box w261 b7 27 #[(.int .u64 0), (.int .u64 0)] ∧ Box w261 b13 29 #[(.int .i64 0), (.int .i64 0)] ∧ Box w261 b31 81 #[(.int .u64 s260.2.1), (.int .u64 s260.2.2)] ∧ a.defers = [] ∧ a.tmps.size = 62 ∧ Ok [(1, (.int .i64 n_1)), (5, (.pointer (some ⟨b7, 0, none⟩))), (6, (.pointer (some ⟨b13, 0, none⟩))), (7, (.pointer (some ⟨b31, 0, none⟩))), (9, (.slice a9_0j (List.length s260.1) c9_0j))] a.tmps) h1 ?_ ?_
            · intro a hd hs hok
              obtain ⟨q1, q5, q6, q7, q9, _⟩ := hok
              have hg262 := (grown_trans hg24 hg176)
              have hB263 := below_grown hB173 hg262 hB173.size nb
              have hB264 := below_grown hB173 hg24 hB173.size nb
              have hlo265 : w0.heap.size ≤ b174 := lob hbe178 hB264.size
              have hB266 := below_grown hB263 hg181 hB263.size (rowlo hlo265)
              have hg267 := (grown_trans hg15 hg262)
              have hg268 := (grown_trans hg15 hg24)
              have hk269 := hb10.grown hg268 nb
              have ap270 : ¬ (· = b7) b174 := fun hx => Nat.not_lt_of_le ((lowb hbe178) _ rfl) ((fun k (hk : k = b7) => Nat.lt_of_le_of_lt (Nat.le_of_eq hk) hk269.lt) _ hx)
              have hk271 := (hb10.grown hg267 nb).grown hg181 (rowne ap270)
              have hk272 := hb16.grown hg24 nb
              have ap273 : ¬ (· = b13) b174 := fun hx => Nat.not_lt_of_le ((lowb hbe178) _ rfl) ((fun k (hk : k = b13) => Nat.lt_of_le_of_lt (Nat.le_of_eq hk) hk272.lt) _ hx)
              have hk274 := (hb16.grown hg262 nb).grown hg181 (rowne ap273)
              have ap275 : ¬ (· = b31) b174 := fun hx => Nat.not_lt_of_le ((lowb hbe178) _ rfl) ((fun k (hk : k = b31) => Nat.lt_of_le_of_lt (Nat.le_of_eq hk) hb32.lt) _ hx)
              have hk276 := (hb32.grown hg176 nb).grown hg181 (rowne ap275)
              exact ⟨none, 0, hB266, (Nat.le_refl _), (Own.nil bE 5 w180 (fun _ => False)), (fun _ h => by cases h), (fun _ h => by cases h), (fun _ h => by cases h), (fun _ h => by cases h), (fun h => by cases h), (fun h => by cases h), (fun h => by cases h), hk271, hk274, hk276, hd, hs, ⟨q1, q5, q6, q7, q9, trivial⟩⟩
            · rintro s260 r2 h2 hR2 a w261 ⟨a279, c280, hB277, hz278, ho281, hl282, ap283, ap284, ap285, ap286, ap287, ap288, hb289, hb290, hb291, hd, hs, hok⟩
              refine (?_ : Run Try.prog _ 62 _ .normal [(1, (.int .i64 n_1)), (5, (.pointer (some ⟨b7, 0, none⟩))), (6, (.pointer (some ⟨b13, 0, none⟩))), (7, (.pointer (some ⟨b31, 0, none⟩))), (9, (.slice a279 (List.length s260.1) c280))] w261) a hd hs hok
              clear hd hs hok
              clear hc221 hc184 hz183 hb182 hg181 hz179 hbe178 hb177 hg176 hB173 hg172 hg24 hr22 hk20 hg19 hz18 hz12 hz6 hbe5 hb4
              refine gv_seq ?_
              refine gv_seq ?_
              refine gv_region ?_
              refine gv_pure 4 [1, 5, 6, 7, 9, 35] (σ' := [(1, (.int .i64 n_1)), (5, (.pointer (some ⟨b7, 0, none⟩))), (6, (.pointer (some ⟨b13, 0, none⟩))), (7, (.pointer (some ⟨b31, 0, none⟩))), (9, (.slice a279 (List.length s260.1) c280)), (35, (.bool (decide (((List.length s260.1 : Nat) : Int) < n_1))))]) (by kernel_rfl) ?_
              refine gv_nil ?_
              refine gv_cond (b := (decide (((List.length s260.1 : Nat) : Int) < n_1))) (by rfl) (fun hc292 => ?_) (fun hc292 => ?_)
              · replace h2 := ite_t hc292 h2
                refine gv_skip ?_
                refine gv_block ?_
                refine gv_seq ?_
                refine gv_region ?_
                refine gv_pure 1 [1, 5, 6, 7, 9, 36] (σ' := [(1, (.int .i64 n_1)), (5, (.pointer (some ⟨b7, 0, none⟩))), (6, (.pointer (some ⟨b13, 0, none⟩))), (7, (.pointer (some ⟨b31, 0, none⟩))), (9, (.slice a279 (List.length s260.1) c280)), (36, (.pointer (some ⟨b31, 0, none⟩)))]) (by kernel_rfl) ?_
                refine bindE h2 ?_; clear h2; intro r293 hr294 h2
                refine gv_call (f := 40) (vs := [(.pointer (some ⟨b31, 0, none⟩))]) (cap := []) _ (by decide) (by rfl) (by rfl) rfl (by rfl) (by rfl) enters40 (random_source_next_ok fuel b31 (s260.2.1, s260.2.2) w261 hb291 r293 hr294) ?_
                rintro v297 w295 ⟨hg296, rfl, hb298⟩
                refine ⟨(fun e => by cases e), ?_⟩
                refine gv_pure 1 [1, 5, 6, 7, 9, 10] (σ' := [(1, (.int .i64 n_1)), (5, (.pointer (some ⟨b7, 0, none⟩))), (6, (.pointer (some ⟨b13, 0, none⟩))), (7, (.pointer (some ⟨b31, 0, none⟩))), (9, (.slice a279 (List.length s260.1) c280)), (10, (.int .u64 r293.1))]) (by kernel_rfl) ?_
                refine gv_nil ?_
                refine gv_seq ?_
                refine gv_region ?_
                refine gv_pure 1 [1, 5, 6, 7, 9, 10, 11] (σ' := [(1, (.int .i64 n_1)), (5, (.pointer (some ⟨b7, 0, none⟩))), (6, (.pointer (some ⟨b13, 0, none⟩))), (7, (.pointer (some ⟨b31, 0, none⟩))), (9, (.slice a279 (List.length s260.1) c280)), (10, (.int .u64 r293.1)), (11, (.int .i64 0))]) (by kernel_rfl) ?_
                refine gv_nil ?_
                refine bindE h2 ?_; clear h2; intro j299 h3 h2
                refine gv_cut_code (J := fun a w300 => ∃ (a9_0j : Option Addr) (c9_0j : Nat), Below w0.heap.size w0 w300 ∧ w295.heap.size ≤ w300.heap.size ∧ Own bE 5 w300 (fun _ => False) a9_0j c9_0j j299 ∧ (∀ g, blk a9_0j = some g → w0.heap.size ≤ g) ∧ (∀ g, blk a9_0j = some g → ¬ (· = b7) g) ∧ (∀ g, blk a9_0j = some g → ¬ (· = b13) g) ∧ (∀ g, blk a9_0j = some g → ¬ (· = b31) g) ∧ ¬ (fun k => blk a9_0j = some k) b7 ∧ ¬ (fun k => blk a9_0j = some k) b13 ∧ ¬ (fun k => blk a9_0j = some k) b31 ∧ Box w300 b7 27 #[(.int .u64 0), (.int .u64 0)] ∧ Box w300 b13 29 #[(.int .i64 0), (.int .i64 0)] ∧ Box w300 b31 81 #[(.int .u64 r293.2.1), (.int .u64 r293.2.2)] ∧ a.defers = [] ∧ a.tmps.size = 62 ∧ Ok [(1, (.int .i64 n_1)), (5, (.pointer (some ⟨b7, 0, none⟩))), (6, (.pointer (some ⟨b13, 0, none⟩))), (7, (.pointer (some ⟨b31, 0, none⟩))), (9, (.slice a9_0j (List.length j299) c9_0j))] a.tmps) ?_ ?_
                · skip
                  refine gv_block ?_
                  refine gv_loop (A := fun (s301 : ((List UInt8) × Int)) a w302 => ∃ (a9_0j : Option Addr) (c9_0j : Nat), Below w0.heap.size w0 w302 ∧ w295.heap.size ≤ w302.heap.size ∧ Own bE 5 w302 (fun _ => False) a9_0j c9_0j s301.1 ∧ (∀ g, blk a9_0j = some g → w0.heap.size ≤ g) ∧ (∀ g, blk a9_0j = some g → ¬ (· = b7) g) ∧ (∀ g, blk a9_0j = some g → ¬ (· = b13) g) ∧ (∀ g, blk a9_0j = some g → ¬ (· = b31) g) ∧ ¬ (fun k => blk a9_0j = some k) b7 ∧ ¬ (fun k => blk a9_0j = some k) b13 ∧ ¬ (fun k => blk a9_0j = some k) b31 ∧ Box w302 b7 27 #[(.int .u64 0), (.int .u64 0)] ∧ Box w302 b13 29 #[(.int .i64 0), (.int .i64 0)] ∧ Box w302 b31 81 #[(.int .u64 r293.2.1), (.int .u64 r293.2.2)] ∧ a.defers = [] ∧ a.tmps.size = 62 ∧ Ok [(1, (.int .i64 n_1)), (5, (.pointer (some ⟨b7, 0, none⟩))), (6, (.pointer (some ⟨b13, 0, none⟩))), (7, (.pointer (some ⟨b31, 0, none⟩))), (9, (.slice a9_0j (List.length s301.1) c9_0j)), (10, (.int .u64 r293.1)), (11, (.int .i64 s301.2))] a.tmps) h3 ?_ ?_
                  · intro a hd hs hok
                    obtain ⟨q1, q5, q6, q7, q9, q10, q11, _⟩ := hok
                    have hB303 := below_grown hB277 hg296 hB277.size (rowlo hl171)
                    have hk304 := ho281.grown hg296 (fun _ h => h.elim) (rdnn (rowne ap288))
                    have hk305 := hb10.grown hg15 nb
                    have ap306 : ¬ (· = b7) b31 := fun hx => Nat.not_lt_of_le ((lowe hlo33) _ rfl) ((fun k (hk : k = b7) => Nat.lt_of_le_of_lt (Nat.le_of_eq hk) hk305.lt) _ hx)
                    have hk307 := hb289.grown hg296 (rowne ap306)
                    have ap308 : ¬ (· = b13) b31 := fun hx => Nat.not_lt_of_le ((lowe hlo33) _ rfl) ((fun k (hk : k = b13) => Nat.lt_of_le_of_lt (Nat.le_of_eq hk) hb16.lt) _ hx)
                    have hk309 := hb290.grown hg296 (rowne ap308)
                    exact ⟨a279, c280, hB303, (Nat.le_refl _), hk304, hl282, ap283, ap284, ap285, ap286, ap287, ap288, hk307, hk309, hb298, hd, hs, ⟨q1, q5, q6, q7, q9, q10, q11, trivial⟩⟩
                  · rintro s301 r4 h4 hR4 a w302 ⟨a312, c313, hB310, hz311, ho314, hl315, ap316, ap317, ap318, ap319, ap320, ap321, hb322, hb323, hb324, hd, hs, hok⟩
                    refine (?_ : Run Try.prog _ 62 _ .normal [(1, (.int .i64 n_1)), (5, (.pointer (some ⟨b7, 0, none⟩))), (6, (.pointer (some ⟨b13, 0, none⟩))), (7, (.pointer (some ⟨b31, 0, none⟩))), (9, (.slice a312 (List.length s301.1) c313)), (10, (.int .u64 r293.1)), (11, (.int .i64 s301.2))] w302) a hd hs hok
                    clear hd hs hok
                    have hz325 : w180.heap.size ≤ w295.heap.size := (Nat.le_trans hz278 hg296.size)
                    clear hb298 hg296 hr294 hc292 hb291 hb290 hb289 ap288 ap287 ap286 ap285 ap284 ap283 hl282 ho281 hz278 hB277
                    refine gv_seq ?_
                    refine gv_seq ?_
                    refine gv_region ?_
                    refine gv_cut_ops (J := fun a w326 => w302 = w326 ∧ a.defers = [] ∧ a.tmps.size = 62 ∧ Ok [(1, (.int .i64 n_1)), (5, (.pointer (some ⟨b7, 0, none⟩))), (6, (.pointer (some ⟨b13, 0, none⟩))), (7, (.pointer (some ⟨b31, 0, none⟩))), (9, (.slice a312 (List.length s301.1) c313)), (10, (.int .u64 r293.1)), (11, (.int .i64 s301.2)), (45, (.bool ((decide (s301.2 < 8)) && (decide (((List.length s301.1 : Nat) : Int) < n_1)))))] a.tmps) ?_ ?_
                    · skip
                      refine gv_pure 3 [1, 5, 6, 7, 9, 10, 11, 40] (σ' := [(1, (.int .i64 n_1)), (5, (.pointer (some ⟨b7, 0, none⟩))), (6, (.pointer (some ⟨b13, 0, none⟩))), (7, (.pointer (some ⟨b31, 0, none⟩))), (9, (.slice a312 (List.length s301.1) c313)), (10, (.int .u64 r293.1)), (11, (.int .i64 s301.2)), (40, (.bool (decide (s301.2 < 8))))]) (by kernel_rfl) ?_
                      refine gv_split (s := 40) (g := (decide (s301.2 < 8))) (by rfl) (fun hc327 => ?_) (fun hc327 => ?_)
                      · skip
                        refine gv_pure 5 [1, 5, 6, 7, 9, 10, 11, 45] (σ' := [(1, (.int .i64 n_1)), (5, (.pointer (some ⟨b7, 0, none⟩))), (6, (.pointer (some ⟨b13, 0, none⟩))), (7, (.pointer (some ⟨b31, 0, none⟩))), (9, (.slice a312 (List.length s301.1) c313)), (10, (.int .u64 r293.1)), (11, (.int .i64 s301.2)), (45, (.bool (decide (((List.length s301.1 : Nat) : Int) < n_1))))]) (by kernel_rfl) ?_
                        refine gv_nil ?_
                        refine gv_goal fun a hd hs hok => ⟨rfl, hd, hs, ?_⟩
                        obtain ⟨q1, q5, q6, q7, q9, q10, q11, q45, _⟩ := hok
                        exact ⟨q1, q5, q6, q7, q9, q10, q11, (by rw [hc327]; exact q45), trivial⟩
                      · skip
                        refine gv_pure 5 [1, 5, 6, 7, 9, 10, 11, 45] (σ' := [(1, (.int .i64 n_1)), (5, (.pointer (some ⟨b7, 0, none⟩))), (6, (.pointer (some ⟨b13, 0, none⟩))), (7, (.pointer (some ⟨b31, 0, none⟩))), (9, (.slice a312 (List.length s301.1) c313)), (10, (.int .u64 r293.1)), (11, (.int .i64 s301.2)), (45, (.bool false))]) (by kernel_rfl) ?_
                        refine gv_nil ?_
                        refine gv_goal fun a hd hs hok => ⟨rfl, hd, hs, ?_⟩
                        obtain ⟨q1, q5, q6, q7, q9, q10, q11, q45, _⟩ := hok
                        exact ⟨q1, q5, q6, q7, q9, q10, q11, (by rw [hc327]; exact q45), trivial⟩
                    · rintro a w326 ⟨e, hd, hs, hok⟩; subst e
                      refine (?_ : Run Try.prog _ 62 _ .normal [(1, (.int .i64 n_1)), (5, (.pointer (some ⟨b7, 0, none⟩))), (6, (.pointer (some ⟨b13, 0, none⟩))), (7, (.pointer (some ⟨b31, 0, none⟩))), (9, (.slice a312 (List.length s301.1) c313)), (10, (.int .u64 r293.1)), (11, (.int .i64 s301.2)), (45, (.bool ((decide (s301.2 < 8)) && (decide (((List.length s301.1 : Nat) : Int) < n_1)))))] w302) a hd hs hok
                      clear hd hs hok
                      refine gv_cond (b := ((decide (s301.2 < 8)) && (decide (((List.length s301.1 : Nat) : Int) < n_1)))) (by rfl) (fun hc328 => ?_) (fun hc328 => ?_)
                      · replace h4 := ite_t hc328 h4
                        refine gv_skip ?_
                        refine gv_seq ?_
                        refine gv_block ?_
                        refine gv_region ?_
                        refine gv_pure 4 [1, 5, 6, 7, 10, 11, 48, 49, 51] (σ' := [(1, (.int .i64 n_1)), (5, (.pointer (some ⟨b7, 0, none⟩))), (6, (.pointer (some ⟨b13, 0, none⟩))), (7, (.pointer (some ⟨b31, 0, none⟩))), (10, (.int .u64 r293.1)), (11, (.int .i64 s301.2)), (48, (.slice a312 (List.length s301.1) c313)), (49, (.int .u64 r293.1)), (51, (.int .i64 (IntKind.i64.wrap (8 * s301.2))))]) (by kernel_rfl) ?_
                        refine bindE h4 ?_; clear h4; intro _ hx329 h4
                        refine gv_shift .shr (t := 25) (kk := .u64) (ky := .i64) (x := r293.1) (y := (IntKind.i64.wrap (8 * s301.2))) (shrI .u64 r293.1 (IntKind.i64.wrap (8 * s301.2))) [1, 5, 6, 7, 10, 11, 48, 52] (σ' := [(1, (.int .i64 n_1)), (5, (.pointer (some ⟨b7, 0, none⟩))), (6, (.pointer (some ⟨b13, 0, none⟩))), (7, (.pointer (some ⟨b31, 0, none⟩))), (10, (.int .u64 r293.1)), (11, (.int .i64 s301.2)), (48, (.slice a312 (List.length s301.1) c313)), (52, (.int .u64 (shrI .u64 r293.1 (IntKind.i64.wrap (8 * s301.2)))))]) (fun e => by cases e) (by rfl) (by rfl) (by rfl) (by kernel_rfl) (by kernel_rfl) (nn_spec hx329) (.inr ⟨rfl, rfl⟩) (by kernel_rfl) ?_
                        refine gv_pure 1 [1, 5, 6, 7, 10, 11, 48, 53] (σ' := [(1, (.int .i64 n_1)), (5, (.pointer (some ⟨b7, 0, none⟩))), (6, (.pointer (some ⟨b13, 0, none⟩))), (7, (.pointer (some ⟨b31, 0, none⟩))), (10, (.int .u64 r293.1)), (11, (.int .i64 s301.2)), (48, (.slice a312 (List.length s301.1) c313)), (53, (.int .u8 (IntKind.u8.wrap ((shrI .u64 r293.1 (IntKind.i64.wrap (8 * s301.2)))))))]) (by kernel_rfl) ?_
                        refine bindE h4 ?_; clear h4; intro b330 hb331 h4
                        have hu332 := u8_spec hb331
                        refine gv_new (fun b => .slice (some ⟨b, 0, none⟩) 1 1) #[(.int .u8 (IntKind.u8.wrap ((shrI .u64 r293.1 (IntKind.i64.wrap (8 * s301.2))))))] 5 (by decide) (by rfl) (by rfl) (by kernel_rfl) (by kernel_rfl) ?_
                        intro b333 w334 hg335 hb336 hbe337 hz338
                        refine ⟨(fun e => by cases e), ?_⟩
                        have ho339 : Own bE 5 w334 (fun _ => False) (some ⟨b333, 0, none⟩) 1 ([b330] : List UInt8) := Box.ownE hb336 ⟨[(.int .u8 (IntKind.u8.wrap ((shrI .u64 r293.1 (IntKind.i64.wrap (8 * s301.2))))))], [], rfl, (by simp only [bE, flat, hu332]), rfl⟩ (show 1 ≤ maxLen by decide) (fun h => h)
                        have hl340 : ∀ g, blk (some ⟨b333, 0, none⟩) = some g → w0.heap.size ≤ g := loo hbe337 hB310.size
                        refine gv_sub [1, 5, 6, 7, 10, 11, 48, 54] (σ' := [(1, (.int .i64 n_1)), (5, (.pointer (some ⟨b7, 0, none⟩))), (6, (.pointer (some ⟨b13, 0, none⟩))), (7, (.pointer (some ⟨b31, 0, none⟩))), (10, (.int .u64 r293.1)), (11, (.int .i64 s301.2)), (48, (.slice a312 (List.length s301.1) c313)), (54, (.slice (some ⟨b333, 0, none⟩) (List.length ([b330] : List UInt8)) 1))]) (by kernel_rfl) ?_
                        refine bindE h4 ?_; clear h4; intro l344 hx345 h4
                        have hk352 := ho314.grown hg335 (fun _ h => h.elim) nb
                        refine gv_append bE (t := 60) (ty := 60) (e := 5) (a := a312) (ax := (some ⟨b333, 0, none⟩)) (cap := c313) (cx := 1) (xs := s301.1) (ys := ([b330] : List UInt8)) l344 (X := (fun _ => False)) (Y := (fun k => blk (some ⟨b333, 0, none⟩) = some k)) (by decide) (by rfl) (by rfl) (by kernel_rfl) (by kernel_rfl) Try.underlying60 info5 hk352 (ho339.rd (Y := fun k => blk (some ⟨b333, 0, none⟩) = some k) (fun _ h => h.elim) (fun g e => e)) hx345 (.inr fun _ _ _ _ _ h => h) (fun _ h => h.elim) ?_
                        intro a346 c347 w348 hg349 ho350 hk351
                        refine ⟨(fun e => by cases e), ?_⟩
                        have hB354 := below_grown hB310 hg335 hB310.size nb
                        have hl353 : ∀ g, blk a346 = some g → w0.heap.size ≤ g := blk_step hk351 hl315 hB354.size
                        have hk356 := hb322.grown hg335 nb
                        have ap355 : ∀ g, blk a346 = some g → ¬ (· = b7) g := blk_neX hk351 ap316 (fun k (hk : k = b7) => Nat.lt_of_le_of_lt (Nat.le_of_eq hk) hk356.lt)
                        have ap357 : ¬ (fun k => blk a346 = some k) b7 := fun h => blk_rev hk351 (fun h => (ap319) h) (hk356.lt) h
                        have hk359 := hb323.grown hg335 nb
                        have ap358 : ∀ g, blk a346 = some g → ¬ (· = b13) g := blk_neX hk351 ap317 (fun k (hk : k = b13) => Nat.lt_of_le_of_lt (Nat.le_of_eq hk) hk359.lt)
                        have ap360 : ¬ (fun k => blk a346 = some k) b13 := fun h => blk_rev hk351 (fun h => (ap320) h) (hk359.lt) h
                        have hk362 := hb324.grown hg335 nb
                        have ap361 : ∀ g, blk a346 = some g → ¬ (· = b31) g := blk_neX hk351 ap318 (fun k (hk : k = b31) => Nat.lt_of_le_of_lt (Nat.le_of_eq hk) hk362.lt)
                        have ap363 : ¬ (fun k => blk a346 = some k) b31 := fun h => blk_rev hk351 (fun h => (ap321) h) (hk362.lt) h
                        have ap365 : ∀ g, blk a312 = some g → ¬ (fun k => blk (some ⟨b333, 0, none⟩) = some k) g := fun g e hx => Nat.not_lt_of_le ((lowo hbe337) _ hx) ((fun k (hk : blk a312 = some k) => ho314.lt k hk) g e)
                        have ap364 : ∀ g, blk a346 = some g → ¬ (fun k => blk (some ⟨b333, 0, none⟩) = some k) g := blk_neX hk351 ap365 (fun k (hk : blk (some ⟨b333, 0, none⟩) = some k) => ho339.lt k hk)
                        have ap367 : ∀ g, blk (some ⟨b333, 0, none⟩) = some g → ¬ (fun k => blk a312 = some k) g := fun g e hx => Nat.not_lt_of_le ((lowo hbe337) g e) ((fun k (hk : blk a312 = some k) => ho314.lt k hk) _ hx)
                        have ap366 : ∀ g, blk (some ⟨b333, 0, none⟩) = some g → ¬ (fun k => blk a346 = some k) g := fun g e h => blk_rev hk351 (fun h => ((ap367) g e) h) (ho339.lt g e) h
                        have hz368 : w295.heap.size ≤ w348.heap.size := (Nat.le_trans (Nat.le_trans hz311 hg335.size) hg349.size)
                        clear ap366 ap367 ap364 ap365 hk351 hk352 hx345 hl340 ho339 hz338 hbe337 hb336 hg335 hu332 hb331 hx329 hc328 hb324 hb323 hb322 ap321 ap320 ap319 ho314 hz311 hB310
                        refine gv_pure 1 [1, 5, 6, 7, 9, 10, 11] (σ' := [(1, (.int .i64 n_1)), (5, (.pointer (some ⟨b7, 0, none⟩))), (6, (.pointer (some ⟨b13, 0, none⟩))), (7, (.pointer (some ⟨b31, 0, none⟩))), (9, (.slice a346 (List.length l344) c347)), (10, (.int .u64 r293.1)), (11, (.int .i64 s301.2))]) (by kernel_rfl) ?_
                        refine gv_nil ?_
                        refine gv_blk ?_
                        refine gv_region ?_
                        refine gv_pure 3 [1, 5, 6, 7, 9, 10, 11] (σ' := [(1, (.int .i64 n_1)), (5, (.pointer (some ⟨b7, 0, none⟩))), (6, (.pointer (some ⟨b13, 0, none⟩))), (7, (.pointer (some ⟨b31, 0, none⟩))), (9, (.slice a346 (List.length l344) c347)), (10, (.int .u64 r293.1)), (11, (.int .i64 (IntKind.i64.wrap (s301.2 + 1))))]) (by kernel_rfl) ?_
                        refine gv_nil ?_
                        have e := Option.some.inj h4; subst e
                        refine gv_goal fun a hd hs hok => ?_
                        obtain ⟨q1, q5, q6, q7, q9, q10, q11, _⟩ := hok
                        have hB369 := below_grown hB354 hg349 hB354.size hl315
                        have hz370 : w295.heap.size ≤ w348.heap.size := hz368
                        have hk371 := hk356.grown hg349 ap316
                        have hk372 := hk359.grown hg349 ap317
                        have hk373 := hk362.grown hg349 ap318
                        exact ⟨(l344, (IntKind.i64.wrap (s301.2 + 1))), rfl, a346, c347, hB369, hz370, ho350, hl353, ap355, ap358, ap361, ap357, ap360, ap363, hk371, hk372, hk373, hd, hs, ⟨q1, q5, q6, q7, q9, q10, q11, trivial⟩⟩
                      · replace h4 := ite_f hc328 h4
                        refine gv_cexit ?_
                        refine gv_exit rfl ?_
                        have e := Option.some.inj h4; subst e
                        replace h3 := congrArg some (hR4 _ rfl)
                        have e := Option.some.inj h3; subst e
                        refine gv_goal fun a hd hs hok => ?_
                        obtain ⟨q1, q5, q6, q7, q9, q10, q11, q45, _⟩ := hok
                        have hz374 : w295.heap.size ≤ w302.heap.size := hz311
                        exact ⟨a312, c313, hB310, hz374, ho314, hl315, ap316, ap317, ap318, ap319, ap320, ap321, hb322, hb323, hb324, hd, hs, ⟨q1, q5, q6, q7, q9, trivial⟩⟩
                · rintro a w300 ⟨a377, c378, hB375, hz376, ho379, hl380, ap381, ap382, ap383, ap384, ap385, ap386, hb387, hb388, hb389, hd, hs, hok⟩
                  refine (?_ : Run Try.prog _ 62 _ .normal [(1, (.int .i64 n_1)), (5, (.pointer (some ⟨b7, 0, none⟩))), (6, (.pointer (some ⟨b13, 0, none⟩))), (7, (.pointer (some ⟨b31, 0, none⟩))), (9, (.slice a377 (List.length j299) c378))] w300) a hd hs hok
                  clear hd hs hok
                  have hz390 : w180.heap.size ≤ w300.heap.size := (Nat.le_trans (Nat.le_trans hz278 hg296.size) hz376)
                  clear hz376 hb298 hg296 hr294 hc292 hb291 hb290 hb289 ap288 ap287 ap286 ap285 ap284 ap283 hl282 ho281 hz278 hB277
                  refine gv_blk ?_
                  have e := Option.some.inj h2; subst e
                  refine gv_goal fun a hd hs hok => ?_
                  obtain ⟨q1, q5, q6, q7, q9, _⟩ := hok
                  have hz391 : w180.heap.size ≤ w300.heap.size := hz390
                  exact ⟨(j299, (r293.2.1, r293.2.2)), rfl, a377, c378, hB375, hz391, ho379, hl380, ap381, ap382, ap383, ap384, ap385, ap386, hb387, hb388, hb389, hd, hs, ⟨q1, q5, q6, q7, q9, trivial⟩⟩
              · replace h2 := ite_f hc292 h2
                refine gv_cexit ?_
                refine gv_exit rfl ?_
                have e := Option.some.inj h2; subst e
                replace h1 := congrArg some (hR2 _ rfl)
                have e := Option.some.inj h1; subst e
                refine gv_goal fun a hd hs hok => ?_
                obtain ⟨q1, q5, q6, q7, q9, q35, _⟩ := hok
                have hz392 : w180.heap.size ≤ w261.heap.size := hz278
                exact ⟨a279, c280, hB277, hz392, ho281, hl282, ap283, ap284, ap285, ap286, ap287, ap288, hb289, hb290, hb291, hd, hs, ⟨q5, q6, q7, q9, trivial⟩⟩
          · rintro a w259 ⟨a395, c396, hB393, hz394, ho397, hl398, ap399, ap400, ap401, ap402, ap403, ap404, hb405, hb406, hb407, hd, hs, hok⟩
            refine (?_ : Run Try.prog _ 62 _ .normal [(5, (.pointer (some ⟨b7, 0, none⟩))), (6, (.pointer (some ⟨b13, 0, none⟩))), (7, (.pointer (some ⟨b31, 0, none⟩))), (9, (.slice a395 (List.length j258.1) c396))] w259) a hd hs hok
            clear hd hs hok
            clear hz394 hc221 hc184 hz183 hb182 hg181 hz179 hbe178 hb177 hg176 hB173 hg172 hg24 hr22 hk20 hg19 hz18 hz12 hz6 hbe5 hb4
            refine gv_seq ?_
            refine gv_drawA (by kernel_rfl) ?_
            intro w408 hg409
            refine gv_pre [0, 1, 2, 3, 5, 6] #[true, true, true, true, false, true, true, false, false] 3 (by kernel_rfl) (by rfl) ?_
            refine gv_pure 6 [4, 5, 6, 59, 61] (σ' := [(4, (.slice a395 (List.length j258.1) c396)), (5, (.pointer (some ⟨b7, 0, none⟩))), (6, (.pointer (some ⟨b13, 0, none⟩))), (59, (.pointer (some ⟨b31, 0, none⟩))), (61, (.agg #[(.int .i64 0), (.int .i64 0)]))]) (by kernel_rfl) ?_
            refine gv_nil ?_
            refine gv_goal fun a hd hs hok => ?_
            refine (?_ : RunA Try.prog _ 62 _ _ 3 #[true, true, true, true, false, true, true, false, false] [(4, (.slice a395 (List.length j258.1) c396)), (5, (.pointer (some ⟨b7, 0, none⟩))), (6, (.pointer (some ⟨b13, 0, none⟩))), (59, (.pointer (some ⟨b31, 0, none⟩))), (61, (.agg #[(.int .i64 0), (.int .i64 0)]))] w408) a hd hs hok
            clear hd hs hok
            refine gv_stage (Cls w408 []) [0, 1, 2, 3, 4, 5, 6] [(4, some true)] #[true, true, true, true, true, true, true, false, false] 2 (by kernel_rfl) (by rfl) (Cls.refl _ _) ?_
            have hC410 := Cls.refl w408 []
            have hk411 := hb407.grown hg409 nb
            refine gv_loadBox (t := 27) (b := b31) (t' := 81) (fr := (0, 0)) #[(.int .u64 j258.2.1), (.int .u64 j258.2.2)] [4, 5, 6, 60, 61] (σ' := [(4, (.slice a395 (List.length j258.1) c396)), (5, (.pointer (some ⟨b7, 0, none⟩))), (6, (.pointer (some ⟨b13, 0, none⟩))), (60, (.agg #[(.int .u64 j258.2.1), (.int .u64 j258.2.2)])), (61, (.agg #[(.int .i64 0), (.int .i64 0)]))]) (fun e => by cases e) (by rfl) (by rfl) (by rfl) (by kernel_rfl) (by kernel_rfl) (by kernel_rfl) (by kernel_rfl) (inw1 fun w' hC' => (hC'.box hk411 nm_nil)) (by kernel_rfl) ?_
            refine gv_nil ?_
            refine gv_goal fun a hd hs hok => ?_
            refine (?_ : RunA Try.prog _ 62 _ _ 2 #[true, true, true, true, true, true, true, false, false] [(4, (.slice a395 (List.length j258.1) c396)), (5, (.pointer (some ⟨b7, 0, none⟩))), (6, (.pointer (some ⟨b13, 0, none⟩))), (60, (.agg #[(.int .u64 j258.2.1), (.int .u64 j258.2.2)])), (61, (.agg #[(.int .i64 0), (.int .i64 0)]))] w408) a hd hs hok
            clear hd hs hok
            refine gv_stage (fun _ => True) [0, 1, 2, 3, 4, 5, 6, 7] [(7, some false)] #[true, true, true, true, true, true, true, true, false] 1 (by kernel_rfl) (by rfl) trivial ?_
            have hk416 := hb405.grown hg409 nb
            refine gv_store (t := 27) (b := b7) (off := 0) (v := (.agg #[(.int .u64 j258.2.1), (.int .u64 j258.2.2)])) (t' := 27) (cs := #[(.int .u64 0), (.int .u64 0)]) #[(.int .u64 j258.2.1), (.int .u64 j258.2.2)] (by decide) (by rfl) (by rfl) (by kernel_rfl) (by kernel_rfl) (by kernel_rfl) (by intro u hu; simp [Value.cells] at hu; rcases hu with rfl | rfl <;> rfl) (show 0 + 2 ≤ 2 by decide) (by rfl) hk416 ?_
            intro w412 hg413 hb414 hz415
            refine ⟨(fun _ => trivial), ?_⟩
            refine gv_sub [4, 5, 6, 61] (σ' := [(4, (.slice a395 (List.length j258.1) c396)), (5, (.pointer (some ⟨b7, 0, none⟩))), (6, (.pointer (some ⟨b13, 0, none⟩))), (61, (.agg #[(.int .i64 0), (.int .i64 0)]))]) (by kernel_rfl) ?_
            refine gv_nil ?_
            refine gv_goal fun a hd hs hok => ?_
            refine (?_ : RunA Try.prog _ 62 _ _ 1 #[true, true, true, true, true, true, true, true, false] [(4, (.slice a395 (List.length j258.1) c396)), (5, (.pointer (some ⟨b7, 0, none⟩))), (6, (.pointer (some ⟨b13, 0, none⟩))), (61, (.agg #[(.int .i64 0), (.int .i64 0)]))] w412) a hd hs hok
            clear hd hs hok
            refine gv_stage (fun _ => True) [0, 1, 2, 3, 4, 5, 6, 7, 8] [(8, some false)] #[true, true, true, true, true, true, true, true, true] 0 (by kernel_rfl) (by rfl) trivial ?_
            have ap421 : ¬ (· = b13) b7 := fun hx => Nat.not_lt_of_le ((lowb hbe17) _ hx) ((fun k (hk : k = b7) => Nat.lt_of_le_of_lt (Nat.le_of_eq hk) hb10.lt) _ rfl)
            have hk422 := (hb406.grown hg409 nb).grown hg413 (rowne ap421)
            refine gv_store (t := 29) (b := b13) (off := 0) (v := (.agg #[(.int .i64 0), (.int .i64 0)])) (t' := 29) (cs := #[(.int .i64 0), (.int .i64 0)]) #[(.int .i64 0), (.int .i64 0)] (by decide) (by rfl) (by rfl) (by kernel_rfl) (by kernel_rfl) (by kernel_rfl) (by intro u hu; simp [Value.cells] at hu; rcases hu with rfl | rfl <;> rfl) (show 0 + 2 ≤ 2 by decide) (by rfl) hk422 ?_
            intro w417 hg418 hb419 hz420
            refine ⟨(fun _ => trivial), ?_⟩
            refine gv_sub [4, 5, 6] (σ' := [(4, (.slice a395 (List.length j258.1) c396)), (5, (.pointer (some ⟨b7, 0, none⟩))), (6, (.pointer (some ⟨b13, 0, none⟩)))]) (by kernel_rfl) ?_
            refine gv_nil ?_
            refine gv_goal fun a hd hs hok => ?_
            refine (?_ : RunA Try.prog _ 62 _ _ 0 #[true, true, true, true, true, true, true, true, true] [(4, (.slice a395 (List.length j258.1) c396)), (5, (.pointer (some ⟨b7, 0, none⟩))), (6, (.pointer (some ⟨b13, 0, none⟩)))] w417) a hd hs hok
            clear hd hs hok
            refine gv_stageE (by kernel_rfl) ?_
            refine gv_cret ?_
            have e := Option.some.inj h0; subst e
            have ap423 : ¬ (· = b7) b13 := fun hx => Nat.not_lt_of_le ((lowb hbe17) _ rfl) ((fun k (hk : k = b7) => Nat.lt_of_le_of_lt (Nat.le_of_eq hk) hb10.lt) _ hx)
            have hk424 := hb414.grown hg418 (rowne ap423)
            refine gv_ret (gv_done [(.slice a395 (List.length j258.1) c396), (.agg #[(.int .u64 j258.2.1), (.int .u64 j258.2.2)]), (.agg #[(.int .i64 0), (.int .i64 0)])] rfl ⟨rfl, ⟨_, rfl, run_loadVar_row w417 b7 _ 27 _ _ _ hk424 Try.underlying27 rfl (by kernel_rfl)⟩, ⟨_, rfl, run_loadVar_row w417 b13 _ 29 _ _ _ hb419 Try.underlying29 rfl (by kernel_rfl)⟩, trivial⟩ ?_)
            have hB425 := below_grown hB393 hg409 hB393.size nb
            have hB426 := below_grown hB0 hg3 hB0.size nb
            have hlo427 : w0.heap.size ≤ b7 := lob hbe11 hB426.size
            have hB428 := below_grown hB425 hg413 hB425.size (rowlo hlo427)
            have hB429 := below_grown hB426 hg9 hB426.size nb
            have hlo430 : w0.heap.size ≤ b13 := lob hbe17 hB429.size
            have hB431 := below_grown hB428 hg418 hB428.size (rowlo hlo430)
            have hk432 := ((ho397.grown hg409 (fun _ h => h.elim) nb).grown hg413 (fun _ h => h.elim) (rdnn (rowne ap402))).grown hg418 (fun _ h => h.elim) (rdnn (rowne ap403))
            exact ⟨grown_of_below hB431, a395, c396, rfl, hk432, hl398⟩

end Go.Proofs.Ytenjigdaaeiklaa
