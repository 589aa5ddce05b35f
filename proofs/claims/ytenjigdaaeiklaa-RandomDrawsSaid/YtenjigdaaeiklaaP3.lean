import Derived.Test.YtenjigdaaeiklaaP2
set_option linter.all false
/- Own work, printed by a program of mine: the walk of each function: a call returns what the plain function says. -/
namespace Go.Proofs.Ytenjigdaaeiklaa
open Go.Gv Go.Gv.D Go.RowKit
set_option maxHeartbeats 4000000 in
set_option maxRecDepth 100000 in
theorem law4_RandomDraws_ok (fuel : Nat) (pa0_0 : Option Addr) (pc0_0 : Nat) (seed_0 : (Bool × (List Int))) (g_1 : (Int × Int)) (n_2 : Int) (m_3 : Int) (w0 : World) (X0 : Nat → Prop) (hX0 : ∀ k, X0 k → k < w0.heap.size) (hpa0_0 : Rd (iE .u32) w0 X0 pa0_0 pc0_0 seed_0.2) (r0 : Bool) (h0 : law4_RandomDraws fuel seed_0 g_1 n_2 m_3 = some r0) :
    Calls Try.prog 3 ([(.agg #[(.bool seed_0.1), (.slice pa0_0 (List.length seed_0.2) pc0_0)]), (.agg #[(.int .u64 g_1.1), (.int .u64 g_1.2)]), (.int .u64 n_2), (.int .u64 m_3)] : List Value).toArray w0 (Ret fun v w' => w0.grownBy w' none ∧ v = tup [(.bool r0)]) := by
  have hB0 : Below w0.heap.size w0 w0 := Below.refl _ _
  unfold law4_RandomDraws at h0
  refine calls_run Try.func3 rfl Try.ntmps3 (by kernel_rfl) ?_
  refine gv_sub [0, 1, 2, 3] (σ' := [(0, (.agg #[(.bool seed_0.1), (.slice pa0_0 (List.length seed_0.2) pc0_0)])), (1, (.agg #[(.int .u64 g_1.1), (.int .u64 g_1.2)])), (2, (.int .u64 n_2)), (3, (.int .u64 m_3))]) (by kernel_rfl) ?_
  refine gv_seq ?_
  refine gv_region ?_
  refine gv_new (fun b => .pointer (some ⟨b, 0, none⟩)) #[(.bool seed_0.1), (.slice pa0_0 (List.length seed_0.2) pc0_0)] 24 (by decide) (by rfl) (by rfl) (by kernel_rfl) (by kernel_rfl) ?_
  intro b1 w2 hg3 hb4 hbe5 hz6
  refine ⟨(fun e => by cases e), ?_⟩
  refine gv_sub [1, 2, 3, 4] (σ' := [(1, (.agg #[(.int .u64 g_1.1), (.int .u64 g_1.2)])), (2, (.int .u64 n_2)), (3, (.int .u64 m_3)), (4, (.pointer (some ⟨b1, 0, none⟩)))]) (by kernel_rfl) ?_
  refine gv_new (fun b => .pointer (some ⟨b, 0, none⟩)) #[(.int .u64 g_1.1), (.int .u64 g_1.2)] 27 (by decide) (by rfl) (by rfl) (by kernel_rfl) (by kernel_rfl) ?_
  intro b7 w8 hg9 hb10 hbe11 hz12
  refine ⟨(fun e => by cases e), ?_⟩
  refine gv_pure 1 [2, 3, 4, 5] (σ' := [(2, (.int .u64 n_2)), (3, (.int .u64 m_3)), (4, (.pointer (some ⟨b1, 0, none⟩))), (5, (.pointer (some ⟨b7, 0, none⟩)))]) (by kernel_rfl) ?_
  refine gv_nil ?_
  refine gv_seq ?_
  refine gv_region ?_
  have hk13 := hb4.grown hg9 nb
  refine gv_loadBox (t := 24) (b := b1) (t' := 24) (fr := (0, 0)) #[(.bool seed_0.1), (.slice pa0_0 (List.length seed_0.2) pc0_0)] [2, 3, 4, 5, 32] (σ' := [(2, (.int .u64 n_2)), (3, (.int .u64 m_3)), (4, (.pointer (some ⟨b1, 0, none⟩))), (5, (.pointer (some ⟨b7, 0, none⟩))), (32, (.agg #[(.bool seed_0.1), (.slice pa0_0 (List.length seed_0.2) pc0_0)]))]) (fun e => by cases e) (by rfl) (by rfl) (by rfl) (by kernel_rfl) (by kernel_rfl) (by kernel_rfl) (by kernel_rfl) (inw0 hk13) (by kernel_rfl) ?_
  refine bindE h0 ?_; clear h0; intro r14 hr15 h0
  have hg16 := (grown_trans hg3 hg9)
  have hB17 := below_grown hB0 hg16 hB0.size nb
  refine gv_call (f := 8) (vs := [(.agg #[(.bool seed_0.1), (.slice pa0_0 (List.length seed_0.2) pc0_0)])]) (cap := []) _ (by decide) (by rfl) (by rfl) rfl (by rfl) (by rfl) enters8 (random_Seed_ok fuel pa0_0 pc0_0 (seed_0.1, seed_0.2) w8 (fun k => X0 k) (fun k hk => (fun k (hk : X0 k) => Nat.lt_of_lt_of_le (hX0 k hk) hB17.size) k hk) ((hpa0_0.below hB17 hX0).wide (fun k hk => hk)) r14 hr15) ?_
  rintro v20 w18 ⟨hg19, rfl⟩
  refine ⟨(fun e => by cases e), ?_⟩
  refine gv_pure 3 [2, 3, 4, 5, 34, 35] (σ' := [(2, (.int .u64 n_2)), (3, (.int .u64 m_3)), (4, (.pointer (some ⟨b1, 0, none⟩))), (5, (.pointer (some ⟨b7, 0, none⟩))), (34, (.agg #[(.int .u64 r14.1.1), (.int .u64 r14.1.2)])), (35, (.agg #[(.int .i64 r14.2.1), (.int .i64 r14.2.2)]))]) (by kernel_rfl) ?_
  refine gv_new (fun b => .pointer (some ⟨b, 0, none⟩)) #[(.int .u64 0), (.int .u64 0)] 27 (by decide) (by rfl) (by rfl) (by kernel_rfl) (by kernel_rfl) ?_
  intro b21 w22 hg23 hb24 hbe25 hz26
  refine ⟨(fun e => by cases e), ?_⟩
  refine gv_sub [2, 3, 4, 5, 9, 34, 35] (σ' := [(2, (.int .u64 n_2)), (3, (.int .u64 m_3)), (4, (.pointer (some ⟨b1, 0, none⟩))), (5, (.pointer (some ⟨b7, 0, none⟩))), (9, (.pointer (some ⟨b21, 0, none⟩))), (34, (.agg #[(.int .u64 r14.1.1), (.int .u64 r14.1.2)])), (35, (.agg #[(.int .i64 r14.2.1), (.int .i64 r14.2.2)]))]) (by kernel_rfl) ?_
  refine gv_new (fun b => .pointer (some ⟨b, 0, none⟩)) #[(.int .i64 0), (.int .i64 0)] 29 (by decide) (by rfl) (by rfl) (by kernel_rfl) (by kernel_rfl) ?_
  intro b27 w28 hg29 hb30 hbe31 hz32
  refine ⟨(fun e => by cases e), ?_⟩
  have hk37 := hb24.grown hg29 nb
  refine gv_sub [2, 3, 4, 5, 9, 10, 34, 35] (σ' := [(2, (.int .u64 n_2)), (3, (.int .u64 m_3)), (4, (.pointer (some ⟨b1, 0, none⟩))), (5, (.pointer (some ⟨b7, 0, none⟩))), (9, (.pointer (some ⟨b21, 0, none⟩))), (10, (.pointer (some ⟨b27, 0, none⟩))), (34, (.agg #[(.int .u64 r14.1.1), (.int .u64 r14.1.2)])), (35, (.agg #[(.int .i64 r14.2.1), (.int .i64 r14.2.2)]))]) (by kernel_rfl) ?_
  refine gv_store (t := 27) (b := b21) (off := 0) (v := (.agg #[(.int .u64 r14.1.1), (.int .u64 r14.1.2)])) (t' := 27) (cs := #[(.int .u64 0), (.int .u64 0)]) #[(.int .u64 r14.1.1), (.int .u64 r14.1.2)] (by decide) (by rfl) (by rfl) (by kernel_rfl) (by kernel_rfl) (by kernel_rfl) (by intro u hu; simp [Value.cells] at hu; rcases hu with rfl | rfl <;> rfl) (show 0 + 2 ≤ 2 by decide) (by rfl) hk37 ?_
  intro w33 hg34 hb35 hz36
  refine ⟨(fun e => by cases e), ?_⟩
  have ap42 : ¬ (· = b27) b21 := fun hx => Nat.not_lt_of_le ((lowb hbe31) _ hx) ((fun k (hk : k = b21) => Nat.lt_of_le_of_lt (Nat.le_of_eq hk) hb24.lt) _ rfl)
  have hk43 := hb30.grown hg34 (rowne ap42)
  refine gv_sub [2, 3, 4, 5, 9, 10, 35] (σ' := [(2, (.int .u64 n_2)), (3, (.int .u64 m_3)), (4, (.pointer (some ⟨b1, 0, none⟩))), (5, (.pointer (some ⟨b7, 0, none⟩))), (9, (.pointer (some ⟨b21, 0, none⟩))), (10, (.pointer (some ⟨b27, 0, none⟩))), (35, (.agg #[(.int .i64 r14.2.1), (.int .i64 r14.2.2)]))]) (by kernel_rfl) ?_
  refine gv_store (t := 29) (b := b27) (off := 0) (v := (.agg #[(.int .i64 r14.2.1), (.int .i64 r14.2.2)])) (t' := 29) (cs := #[(.int .i64 0), (.int .i64 0)]) #[(.int .i64 r14.2.1), (.int .i64 r14.2.2)] (by decide) (by rfl) (by rfl) (by kernel_rfl) (by kernel_rfl) (by kernel_rfl) (by intro u hu; simp [Value.cells] at hu; rcases hu with rfl | rfl <;> rfl) (show 0 + 2 ≤ 2 by decide) (by rfl) hk43 ?_
  intro w38 hg39 hb40 hz41
  refine ⟨(fun e => by cases e), ?_⟩
  refine gv_sub [2, 3, 4, 5, 9, 10] (σ' := [(2, (.int .u64 n_2)), (3, (.int .u64 m_3)), (4, (.pointer (some ⟨b1, 0, none⟩))), (5, (.pointer (some ⟨b7, 0, none⟩))), (9, (.pointer (some ⟨b21, 0, none⟩))), (10, (.pointer (some ⟨b27, 0, none⟩)))]) (by kernel_rfl) ?_
  refine gv_nil ?_
  refine gv_seq ?_
  refine gv_region ?_
  have hg44 := (grown_trans (grown_trans hg19 hg23) hg29)
  have hk45 := hb10.grown hg19 nb
  have ap46 : ¬ (· = b7) b21 := fun hx => Nat.not_lt_of_le ((lowb hbe25) _ rfl) ((fun k (hk : k = b7) => Nat.lt_of_le_of_lt (Nat.le_of_eq hk) hk45.lt) _ hx)
  have hk47 := hk45.grown hg23 nb
  have ap48 : ¬ (· = b7) b27 := fun hx => Nat.not_lt_of_le ((lowb hbe31) _ rfl) ((fun k (hk : k = b7) => Nat.lt_of_le_of_lt (Nat.le_of_eq hk) hk47.lt) _ hx)
  have hk49 := ((hb10.grown hg44 nb).grown hg34 (rowne ap46)).grown hg39 (rowne ap48)
  refine gv_loadBox (t := 27) (b := b7) (t' := 27) (fr := (0, 0)) #[(.int .u64 g_1.1), (.int .u64 g_1.2)] [2, 3, 4, 5, 9, 10, 37] (σ' := [(2, (.int .u64 n_2)), (3, (.int .u64 m_3)), (4, (.pointer (some ⟨b1, 0, none⟩))), (5, (.pointer (some ⟨b7, 0, none⟩))), (9, (.pointer (some ⟨b21, 0, none⟩))), (10, (.pointer (some ⟨b27, 0, none⟩))), (37, (.agg #[(.int .u64 g_1.1), (.int .u64 g_1.2)]))]) (fun e => by cases e) (by rfl) (by rfl) (by rfl) (by kernel_rfl) (by kernel_rfl) (by kernel_rfl) (by kernel_rfl) (inw0 hk49) (by kernel_rfl) ?_
  refine bindE h0 ?_; clear h0; intro r50 hr51 h0
  refine gv_call (f := 9) (vs := [(.agg #[(.int .u64 g_1.1), (.int .u64 g_1.2)])]) (cap := []) _ (by decide) (by rfl) (by rfl) rfl (by rfl) (by rfl) enters9 (random_Next_ok fuel (g_1.1, g_1.2) w38  r50 hr51) ?_
  rintro v54 w52 ⟨hg53, rfl⟩
  refine ⟨(fun e => by cases e), ?_⟩
  clear hr51 hg44 hz41 hk43 hz36 hk37 hz32 hb30 hz26 hg16 hr15 hz12 hb10 hg9 hz6
  refine gv_pure 4 [2, 3, 4, 5, 9, 10, 39, 40, 41] (σ' := [(2, (.int .u64 n_2)), (3, (.int .u64 m_3)), (4, (.pointer (some ⟨b1, 0, none⟩))), (5, (.pointer (some ⟨b7, 0, none⟩))), (9, (.pointer (some ⟨b21, 0, none⟩))), (10, (.pointer (some ⟨b27, 0, none⟩))), (39, (.int .u64 r50.1)), (40, (.agg #[(.int .u64 r50.2.1.1), (.int .u64 r50.2.1.2)])), (41, (.agg #[(.int .i64 r50.2.2.1), (.int .i64 r50.2.2.2)]))]) (by kernel_rfl) ?_
  refine gv_new (fun b => .pointer (some ⟨b, 0, none⟩)) #[(.int .u64 0), (.int .u64 0)] 27 (by decide) (by rfl) (by rfl) (by kernel_rfl) (by kernel_rfl) ?_
  intro b55 w56 hg57 hb58 hbe59 hz60
  refine ⟨(fun e => by cases e), ?_⟩
  refine gv_sub [2, 3, 4, 5, 9, 10, 12, 39, 40, 41] (σ' := [(2, (.int .u64 n_2)), (3, (.int .u64 m_3)), (4, (.pointer (some ⟨b1, 0, none⟩))), (5, (.pointer (some ⟨b7, 0, none⟩))), (9, (.pointer (some ⟨b21, 0, none⟩))), (10, (.pointer (some ⟨b27, 0, none⟩))), (12, (.pointer (some ⟨b55, 0, none⟩))), (39, (.int .u64 r50.1)), (40, (.agg #[(.int .u64 r50.2.1.1), (.int .u64 r50.2.1.2)])), (41, (.agg #[(.int .i64 r50.2.2.1), (.int .i64 r50.2.2.2)]))]) (by kernel_rfl) ?_
  refine gv_new (fun b => .pointer (some ⟨b, 0, none⟩)) #[(.int .i64 0), (.int .i64 0)] 29 (by decide) (by rfl) (by rfl) (by kernel_rfl) (by kernel_rfl) ?_
  intro b61 w62 hg63 hb64 hbe65 hz66
  refine ⟨(fun e => by cases e), ?_⟩
  refine gv_pure 1 [2, 3, 4, 5, 9, 10, 11, 12, 13, 40, 41] (σ' := [(2, (.int .u64 n_2)), (3, (.int .u64 m_3)), (4, (.pointer (some ⟨b1, 0, none⟩))), (5, (.pointer (some ⟨b7, 0, none⟩))), (9, (.pointer (some ⟨b21, 0, none⟩))), (10, (.pointer (some ⟨b27, 0, none⟩))), (11, (.int .u64 r50.1)), (12, (.pointer (some ⟨b55, 0, none⟩))), (13, (.pointer (some ⟨b61, 0, none⟩))), (40, (.agg #[(.int .u64 r50.2.1.1), (.int .u64 r50.2.1.2)])), (41, (.agg #[(.int .i64 r50.2.2.1), (.int .i64 r50.2.2.2)]))]) (by kernel_rfl) ?_
  have hk71 := hb58.grown hg63 nb
  refine gv_store (t := 27) (b := b55) (off := 0) (v := (.agg #[(.int .u64 r50.2.1.1), (.int .u64 r50.2.1.2)])) (t' := 27) (cs := #[(.int .u64 0), (.int .u64 0)]) #[(.int .u64 r50.2.1.1), (.int .u64 r50.2.1.2)] (by decide) (by rfl) (by rfl) (by kernel_rfl) (by kernel_rfl) (by kernel_rfl) (by intro u hu; simp [Value.cells] at hu; rcases hu with rfl | rfl <;> rfl) (show 0 + 2 ≤ 2 by decide) (by rfl) hk71 ?_
  intro w67 hg68 hb69 hz70
  refine ⟨(fun e => by cases e), ?_⟩
  have ap76 : ¬ (· = b61) b55 := fun hx => Nat.not_lt_of_le ((lowb hbe65) _ hx) ((fun k (hk : k = b55) => Nat.lt_of_le_of_lt (Nat.le_of_eq hk) hb58.lt) _ rfl)
  have hk77 := hb64.grown hg68 (rowne ap76)
  refine gv_sub [2, 3, 4, 5, 9, 10, 11, 12, 13, 41] (σ' := [(2, (.int .u64 n_2)), (3, (.int .u64 m_3)), (4, (.pointer (some ⟨b1, 0, none⟩))), (5, (.pointer (some ⟨b7, 0, none⟩))), (9, (.pointer (some ⟨b21, 0, none⟩))), (10, (.pointer (some ⟨b27, 0, none⟩))), (11, (.int .u64 r50.1)), (12, (.pointer (some ⟨b55, 0, none⟩))), (13, (.pointer (some ⟨b61, 0, none⟩))), (41, (.agg #[(.int .i64 r50.2.2.1), (.int .i64 r50.2.2.2)]))]) (by kernel_rfl) ?_
  refine gv_store (t := 29) (b := b61) (off := 0) (v := (.agg #[(.int .i64 r50.2.2.1), (.int .i64 r50.2.2.2)])) (t' := 29) (cs := #[(.int .i64 0), (.int .i64 0)]) #[(.int .i64 r50.2.2.1), (.int .i64 r50.2.2.2)] (by decide) (by rfl) (by rfl) (by kernel_rfl) (by kernel_rfl) (by kernel_rfl) (by intro u hu; simp [Value.cells] at hu; rcases hu with rfl | rfl <;> rfl) (show 0 + 2 ≤ 2 by decide) (by rfl) hk77 ?_
  intro w72 hg73 hb74 hz75
  refine ⟨(fun e => by cases e), ?_⟩
  refine gv_sub [2, 3, 4, 5, 9, 10, 11, 12, 13] (σ' := [(2, (.int .u64 n_2)), (3, (.int .u64 m_3)), (4, (.pointer (some ⟨b1, 0, none⟩))), (5, (.pointer (some ⟨b7, 0, none⟩))), (9, (.pointer (some ⟨b21, 0, none⟩))), (10, (.pointer (some ⟨b27, 0, none⟩))), (11, (.int .u64 r50.1)), (12, (.pointer (some ⟨b55, 0, none⟩))), (13, (.pointer (some ⟨b61, 0, none⟩)))]) (by kernel_rfl) ?_
  refine gv_nil ?_
  refine gv_seq ?_
  refine gv_region ?_
  have hg78 := (grown_trans (grown_trans hg53 hg57) hg63)
  have hk79 := hk49.grown hg53 nb
  have ap80 : ¬ (· = b7) b55 := fun hx => Nat.not_lt_of_le ((lowb hbe59) _ rfl) ((fun k (hk : k = b7) => Nat.lt_of_le_of_lt (Nat.le_of_eq hk) hk79.lt) _ hx)
  have hk81 := hk79.grown hg57 nb
  have ap82 : ¬ (· = b7) b61 := fun hx => Nat.not_lt_of_le ((lowb hbe65) _ rfl) ((fun k (hk : k = b7) => Nat.lt_of_le_of_lt (Nat.le_of_eq hk) hk81.lt) _ hx)
  have hk83 := ((hk49.grown hg78 nb).grown hg68 (rowne ap80)).grown hg73 (rowne ap82)
  refine gv_loadBox (t := 27) (b := b7) (t' := 27) (fr := (0, 0)) #[(.int .u64 g_1.1), (.int .u64 g_1.2)] [2, 3, 4, 5, 9, 10, 11, 12, 13, 43] (σ' := [(2, (.int .u64 n_2)), (3, (.int .u64 m_3)), (4, (.pointer (some ⟨b1, 0, none⟩))), (5, (.pointer (some ⟨b7, 0, none⟩))), (9, (.pointer (some ⟨b21, 0, none⟩))), (10, (.pointer (some ⟨b27, 0, none⟩))), (11, (.int .u64 r50.1)), (12, (.pointer (some ⟨b55, 0, none⟩))), (13, (.pointer (some ⟨b61, 0, none⟩))), (43, (.agg #[(.int .u64 g_1.1), (.int .u64 g_1.2)]))]) (fun e => by cases e) (by rfl) (by rfl) (by rfl) (by kernel_rfl) (by kernel_rfl) (by kernel_rfl) (by kernel_rfl) (inw0 hk83) (by kernel_rfl) ?_
  refine gv_pure 2 [2, 3, 4, 5, 9, 10, 11, 12, 13, 43, 45] (σ' := [(2, (.int .u64 n_2)), (3, (.int .u64 m_3)), (4, (.pointer (some ⟨b1, 0, none⟩))), (5, (.pointer (some ⟨b7, 0, none⟩))), (9, (.pointer (some ⟨b21, 0, none⟩))), (10, (.pointer (some ⟨b27, 0, none⟩))), (11, (.int .u64 r50.1)), (12, (.pointer (some ⟨b55, 0, none⟩))), (13, (.pointer (some ⟨b61, 0, none⟩))), (43, (.agg #[(.int .u64 g_1.1), (.int .u64 g_1.2)])), (45, (.int .u64 ((n_2).tmod 5000)))]) (by kernel_rfl) ?_
  refine bindE h0 ?_; clear h0; intro r84 hr85 h0
  refine gv_call (f := 10) (vs := [(.agg #[(.int .u64 g_1.1), (.int .u64 g_1.2)]), (.int .u64 ((n_2).tmod 5000))]) (cap := []) _ (by decide) (by rfl) (by rfl) rfl (by rfl) (by rfl) enters10 (random_Skip_ok fuel (g_1.1, g_1.2) ((n_2).tmod 5000) w72  r84 hr85) ?_
  rintro v88 w86 ⟨hg87, rfl⟩
  refine ⟨(fun e => by cases e), ?_⟩
  refine gv_pure 3 [2, 3, 4, 5, 9, 10, 11, 12, 13, 47, 48] (σ' := [(2, (.int .u64 n_2)), (3, (.int .u64 m_3)), (4, (.pointer (some ⟨b1, 0, none⟩))), (5, (.pointer (some ⟨b7, 0, none⟩))), (9, (.pointer (some ⟨b21, 0, none⟩))), (10, (.pointer (some ⟨b27, 0, none⟩))), (11, (.int .u64 r50.1)), (12, (.pointer (some ⟨b55, 0, none⟩))), (13, (.pointer (some ⟨b61, 0, none⟩))), (47, (.agg #[(.int .u64 r84.1.1), (.int .u64 r84.1.2)])), (48, (.agg #[(.int .i64 r84.2.1), (.int .i64 r84.2.2)]))]) (by kernel_rfl) ?_
  refine gv_new (fun b => .pointer (some ⟨b, 0, none⟩)) #[(.int .u64 0), (.int .u64 0)] 27 (by decide) (by rfl) (by rfl) (by kernel_rfl) (by kernel_rfl) ?_
  intro b89 w90 hg91 hb92 hbe93 hz94
  refine ⟨(fun e => by cases e), ?_⟩
  refine gv_sub [2, 3, 4, 5, 9, 10, 11, 12, 13, 14, 47, 48] (σ' := [(2, (.int .u64 n_2)), (3, (.int .u64 m_3)), (4, (.pointer (some ⟨b1, 0, none⟩))), (5, (.pointer (some ⟨b7, 0, none⟩))), (9, (.pointer (some ⟨b21, 0, none⟩))), (10, (.pointer (some ⟨b27, 0, none⟩))), (11, (.int .u64 r50.1)), (12, (.pointer (some ⟨b55, 0, none⟩))), (13, (.pointer (some ⟨b61, 0, none⟩))), (14, (.pointer (some ⟨b89, 0, none⟩))), (47, (.agg #[(.int .u64 r84.1.1), (.int .u64 r84.1.2)])), (48, (.agg #[(.int .i64 r84.2.1), (.int .i64 r84.2.2)]))]) (by kernel_rfl) ?_
  refine gv_new (fun b => .pointer (some ⟨b, 0, none⟩)) #[(.int .i64 0), (.int .i64 0)] 29 (by decide) (by rfl) (by rfl) (by kernel_rfl) (by kernel_rfl) ?_
  intro b95 w96 hg97 hb98 hbe99 hz100
  refine ⟨(fun e => by cases e), ?_⟩
  have hk105 := hb92.grown hg97 nb
  refine gv_sub [2, 3, 4, 5, 9, 10, 11, 12, 13, 14, 15, 47, 48] (σ' := [(2, (.int .u64 n_2)), (3, (.int .u64 m_3)), (4, (.pointer (some ⟨b1, 0, none⟩))), (5, (.pointer (some ⟨b7, 0, none⟩))), (9, (.pointer (some ⟨b21, 0, none⟩))), (10, (.pointer (some ⟨b27, 0, none⟩))), (11, (.int .u64 r50.1)), (12, (.pointer (some ⟨b55, 0, none⟩))), (13, (.pointer (some ⟨b61, 0, none⟩))), (14, (.pointer (some ⟨b89, 0, none⟩))), (15, (.pointer (some ⟨b95, 0, none⟩))), (47, (.agg #[(.int .u64 r84.1.1), (.int .u64 r84.1.2)])), (48, (.agg #[(.int .i64 r84.2.1), (.int .i64 r84.2.2)]))]) (by kernel_rfl) ?_
  refine gv_store (t := 27) (b := b89) (off := 0) (v := (.agg #[(.int .u64 r84.1.1), (.int .u64 r84.1.2)])) (t' := 27) (cs := #[(.int .u64 0), (.int .u64 0)]) #[(.int .u64 r84.1.1), (.int .u64 r84.1.2)] (by decide) (by rfl) (by rfl) (by kernel_rfl) (by kernel_rfl) (by kernel_rfl) (by intro u hu; simp [Value.cells] at hu; rcases hu with rfl | rfl <;> rfl) (show 0 + 2 ≤ 2 by decide) (by rfl) hk105 ?_
  intro w101 hg102 hb103 hz104
  refine ⟨(fun e => by cases e), ?_⟩
  clear hz104 hk105 hz100 hz94 hr85 hg78 hz75 hk77 hz70 hk71 hz66 hb64 hz60 hk49
  have ap110 : ¬ (· = b95) b89 := fun hx => Nat.not_lt_of_le ((lowb hbe99) _ hx) ((fun k (hk : k = b89) => Nat.lt_of_le_of_lt (Nat.le_of_eq hk) hb92.lt) _ rfl)
  have hk111 := hb98.grown hg102 (rowne ap110)
  refine gv_sub [2, 3, 4, 5, 9, 10, 11, 12, 13, 14, 15, 48] (σ' := [(2, (.int .u64 n_2)), (3, (.int .u64 m_3)), (4, (.pointer (some ⟨b1, 0, none⟩))), (5, (.pointer (some ⟨b7, 0, none⟩))), (9, (.pointer (some ⟨b21, 0, none⟩))), (10, (.pointer (some ⟨b27, 0, none⟩))), (11, (.int .u64 r50.1)), (12, (.pointer (some ⟨b55, 0, none⟩))), (13, (.pointer (some ⟨b61, 0, none⟩))), (14, (.pointer (some ⟨b89, 0, none⟩))), (15, (.pointer (some ⟨b95, 0, none⟩))), (48, (.agg #[(.int .i64 r84.2.1), (.int .i64 r84.2.2)]))]) (by kernel_rfl) ?_
  refine gv_store (t := 29) (b := b95) (off := 0) (v := (.agg #[(.int .i64 r84.2.1), (.int .i64 r84.2.2)])) (t' := 29) (cs := #[(.int .i64 0), (.int .i64 0)]) #[(.int .i64 r84.2.1), (.int .i64 r84.2.2)] (by decide) (by rfl) (by rfl) (by kernel_rfl) (by kernel_rfl) (by kernel_rfl) (by intro u hu; simp [Value.cells] at hu; rcases hu with rfl | rfl <;> rfl) (show 0 + 2 ≤ 2 by decide) (by rfl) hk111 ?_
  intro w106 hg107 hb108 hz109
  refine ⟨(fun e => by cases e), ?_⟩
  refine gv_sub [2, 3, 4, 5, 9, 10, 11, 12, 13, 14, 15] (σ' := [(2, (.int .u64 n_2)), (3, (.int .u64 m_3)), (4, (.pointer (some ⟨b1, 0, none⟩))), (5, (.pointer (some ⟨b7, 0, none⟩))), (9, (.pointer (some ⟨b21, 0, none⟩))), (10, (.pointer (some ⟨b27, 0, none⟩))), (11, (.int .u64 r50.1)), (12, (.pointer (some ⟨b55, 0, none⟩))), (13, (.pointer (some ⟨b61, 0, none⟩))), (14, (.pointer (some ⟨b89, 0, none⟩))), (15, (.pointer (some ⟨b95, 0, none⟩)))]) (by kernel_rfl) ?_
  refine gv_nil ?_
  refine gv_seq ?_
  refine gv_region ?_
  have hg112 := (grown_trans (grown_trans hg87 hg91) hg97)
  have hk113 := hk83.grown hg87 nb
  have ap114 : ¬ (· = b7) b89 := fun hx => Nat.not_lt_of_le ((lowb hbe93) _ rfl) ((fun k (hk : k = b7) => Nat.lt_of_le_of_lt (Nat.le_of_eq hk) hk113.lt) _ hx)
  have hk115 := hk113.grown hg91 nb
  have ap116 : ¬ (· = b7) b95 := fun hx => Nat.not_lt_of_le ((lowb hbe99) _ rfl) ((fun k (hk : k = b7) => Nat.lt_of_le_of_lt (Nat.le_of_eq hk) hk115.lt) _ hx)
  have hk117 := ((hk83.grown hg112 nb).grown hg102 (rowne ap114)).grown hg107 (rowne ap116)
  refine gv_loadBox (t := 27) (b := b7) (t' := 27) (fr := (0, 0)) #[(.int .u64 g_1.1), (.int .u64 g_1.2)] [2, 3, 4, 5, 9, 10, 11, 12, 13, 14, 15, 50] (σ' := [(2, (.int .u64 n_2)), (3, (.int .u64 m_3)), (4, (.pointer (some ⟨b1, 0, none⟩))), (5, (.pointer (some ⟨b7, 0, none⟩))), (9, (.pointer (some ⟨b21, 0, none⟩))), (10, (.pointer (some ⟨b27, 0, none⟩))), (11, (.int .u64 r50.1)), (12, (.pointer (some ⟨b55, 0, none⟩))), (13, (.pointer (some ⟨b61, 0, none⟩))), (14, (.pointer (some ⟨b89, 0, none⟩))), (15, (.pointer (some ⟨b95, 0, none⟩))), (50, (.agg #[(.int .u64 g_1.1), (.int .u64 g_1.2)]))]) (fun e => by cases e) (by rfl) (by rfl) (by rfl) (by kernel_rfl) (by kernel_rfl) (by kernel_rfl) (by kernel_rfl) (inw0 hk117) (by kernel_rfl) ?_
  refine gv_pure 1 [2, 3, 4, 5, 9, 10, 11, 12, 13, 14, 15, 50, 51] (σ' := [(2, (.int .u64 n_2)), (3, (.int .u64 m_3)), (4, (.pointer (some ⟨b1, 0, none⟩))), (5, (.pointer (some ⟨b7, 0, none⟩))), (9, (.pointer (some ⟨b21, 0, none⟩))), (10, (.pointer (some ⟨b27, 0, none⟩))), (11, (.int .u64 r50.1)), (12, (.pointer (some ⟨b55, 0, none⟩))), (13, (.pointer (some ⟨b61, 0, none⟩))), (14, (.pointer (some ⟨b89, 0, none⟩))), (15, (.pointer (some ⟨b95, 0, none⟩))), (50, (.agg #[(.int .u64 g_1.1), (.int .u64 g_1.2)])), (51, (.int .u64 n_2))]) (by kernel_rfl) ?_
  refine bindE h0 ?_; clear h0; intro r118 hr119 h0
  refine gv_call (f := 10) (vs := [(.agg #[(.int .u64 g_1.1), (.int .u64 g_1.2)]), (.int .u64 n_2)]) (cap := []) _ (by decide) (by rfl) (by rfl) rfl (by rfl) (by rfl) enters10 (random_Skip_ok fuel (g_1.1, g_1.2) n_2 w106  r118 hr119) ?_
  rintro v122 w120 ⟨hg121, rfl⟩
  refine ⟨(fun e => by cases e), ?_⟩
  refine gv_pure 3 [2, 3, 4, 5, 9, 10, 11, 12, 13, 14, 15, 53, 54] (σ' := [(2, (.int .u64 n_2)), (3, (.int .u64 m_3)), (4, (.pointer (some ⟨b1, 0, none⟩))), (5, (.pointer (some ⟨b7, 0, none⟩))), (9, (.pointer (some ⟨b21, 0, none⟩))), (10, (.pointer (some ⟨b27, 0, none⟩))), (11, (.int .u64 r50.1)), (12, (.pointer (some ⟨b55, 0, none⟩))), (13, (.pointer (some ⟨b61, 0, none⟩))), (14, (.pointer (some ⟨b89, 0, none⟩))), (15, (.pointer (some ⟨b95, 0, none⟩))), (53, (.agg #[(.int .u64 r118.1.1), (.int .u64 r118.1.2)])), (54, (.agg #[(.int .i64 r118.2.1), (.int .i64 r118.2.2)]))]) (by kernel_rfl) ?_
  refine gv_new (fun b => .pointer (some ⟨b, 0, none⟩)) #[(.int .u64 0), (.int .u64 0)] 27 (by decide) (by rfl) (by rfl) (by kernel_rfl) (by kernel_rfl) ?_
  intro b123 w124 hg125 hb126 hbe127 hz128
  refine ⟨(fun e => by cases e), ?_⟩
  refine gv_sub [2, 3, 4, 5, 9, 10, 11, 12, 13, 14, 15, 16, 53, 54] (σ' := [(2, (.int .u64 n_2)), (3, (.int .u64 m_3)), (4, (.pointer (some ⟨b1, 0, none⟩))), (5, (.pointer (some ⟨b7, 0, none⟩))), (9, (.pointer (some ⟨b21, 0, none⟩))), (10, (.pointer (some ⟨b27, 0, none⟩))), (11, (.int .u64 r50.1)), (12, (.pointer (some ⟨b55, 0, none⟩))), (13, (.pointer (some ⟨b61, 0, none⟩))), (14, (.pointer (some ⟨b89, 0, none⟩))), (15, (.pointer (some ⟨b95, 0, none⟩))), (16, (.pointer (some ⟨b123, 0, none⟩))), (53, (.agg #[(.int .u64 r118.1.1), (.int .u64 r118.1.2)])), (54, (.agg #[(.int .i64 r118.2.1), (.int .i64 r118.2.2)]))]) (by kernel_rfl) ?_
  refine gv_new (fun b => .pointer (some ⟨b, 0, none⟩)) #[(.int .i64 0), (.int .i64 0)] 29 (by decide) (by rfl) (by rfl) (by kernel_rfl) (by kernel_rfl) ?_
  intro b129 w130 hg131 hb132 hbe133 hz134
  refine ⟨(fun e => by cases e), ?_⟩
  have hk139 := hb126.grown hg131 nb
  refine gv_sub [2, 3, 4, 5, 9, 10, 11, 12, 13, 14, 15, 16, 17, 53, 54] (σ' := [(2, (.int .u64 n_2)), (3, (.int .u64 m_3)), (4, (.pointer (some ⟨b1, 0, none⟩))), (5, (.pointer (some ⟨b7, 0, none⟩))), (9, (.pointer (some ⟨b21, 0, none⟩))), (10, (.pointer (some ⟨b27, 0, none⟩))), (11, (.int .u64 r50.1)), (12, (.pointer (some ⟨b55, 0, none⟩))), (13, (.pointer (some ⟨b61, 0, none⟩))), (14, (.pointer (some ⟨b89, 0, none⟩))), (15, (.pointer (some ⟨b95, 0, none⟩))), (16, (.pointer (some ⟨b123, 0, none⟩))), (17, (.pointer (some ⟨b129, 0, none⟩))), (53, (.agg #[(.int .u64 r118.1.1), (.int .u64 r118.1.2)])), (54, (.agg #[(.int .i64 r118.2.1), (.int .i64 r118.2.2)]))]) (by kernel_rfl) ?_
  refine gv_store (t := 27) (b := b123) (off := 0) (v := (.agg #[(.int .u64 r118.1.1), (.int .u64 r118.1.2)])) (t' := 27) (cs := #[(.int .u64 0), (.int .u64 0)]) #[(.int .u64 r118.1.1), (.int .u64 r118.1.2)] (by decide) (by rfl) (by rfl) (by kernel_rfl) (by kernel_rfl) (by kernel_rfl) (by intro u hu; simp [Value.cells] at hu; rcases hu with rfl | rfl <;> rfl) (show 0 + 2 ≤ 2 by decide) (by rfl) hk139 ?_
  intro w135 hg136 hb137 hz138
  refine ⟨(fun e => by cases e), ?_⟩
  have ap144 : ¬ (· = b129) b123 := fun hx => Nat.not_lt_of_le ((lowb hbe133) _ hx) ((fun k (hk : k = b123) => Nat.lt_of_le_of_lt (Nat.le_of_eq hk) hb126.lt) _ rfl)
  have hk145 := hb132.grown hg136 (rowne ap144)
  refine gv_sub [2, 3, 4, 5, 9, 10, 11, 12, 13, 14, 15, 16, 17, 54] (σ' := [(2, (.int .u64 n_2)), (3, (.int .u64 m_3)), (4, (.pointer (some ⟨b1, 0, none⟩))), (5, (.pointer (some ⟨b7, 0, none⟩))), (9, (.pointer (some ⟨b21, 0, none⟩))), (10, (.pointer (some ⟨b27, 0, none⟩))), (11, (.int .u64 r50.1)), (12, (.pointer (some ⟨b55, 0, none⟩))), (13, (.pointer (some ⟨b61, 0, none⟩))), (14, (.pointer (some ⟨b89, 0, none⟩))), (15, (.pointer (some ⟨b95, 0, none⟩))), (16, (.pointer (some ⟨b123, 0, none⟩))), (17, (.pointer (some ⟨b129, 0, none⟩))), (54, (.agg #[(.int .i64 r118.2.1), (.int .i64 r118.2.2)]))]) (by kernel_rfl) ?_
  refine gv_store (t := 29) (b := b129) (off := 0) (v := (.agg #[(.int .i64 r118.2.1), (.int .i64 r118.2.2)])) (t' := 29) (cs := #[(.int .i64 0), (.int .i64 0)]) #[(.int .i64 r118.2.1), (.int .i64 r118.2.2)] (by decide) (by rfl) (by rfl) (by kernel_rfl) (by kernel_rfl) (by kernel_rfl) (by intro u hu; simp [Value.cells] at hu; rcases hu with rfl | rfl <;> rfl) (show 0 + 2 ≤ 2 by decide) (by rfl) hk145 ?_
  intro w140 hg141 hb142 hz143
  refine ⟨(fun e => by cases e), ?_⟩
  refine gv_sub [2, 3, 4, 5, 9, 10, 11, 12, 13, 14, 15, 16, 17] (σ' := [(2, (.int .u64 n_2)), (3, (.int .u64 m_3)), (4, (.pointer (some ⟨b1, 0, none⟩))), (5, (.pointer (some ⟨b7, 0, none⟩))), (9, (.pointer (some ⟨b21, 0, none⟩))), (10, (.pointer (some ⟨b27, 0, none⟩))), (11, (.int .u64 r50.1)), (12, (.pointer (some ⟨b55, 0, none⟩))), (13, (.pointer (some ⟨b61, 0, none⟩))), (14, (.pointer (some ⟨b89, 0, none⟩))), (15, (.pointer (some ⟨b95, 0, none⟩))), (16, (.pointer (some ⟨b123, 0, none⟩))), (17, (.pointer (some ⟨b129, 0, none⟩)))]) (by kernel_rfl) ?_
  refine gv_nil ?_
  refine gv_seq ?_
  refine gv_seq ?_
  refine gv_region ?_
  refine bindE h0 ?_; clear h0; intro r146 hr147 h0
  refine gv_call (f := 11) (vs := []) (cap := []) _ (by decide) (by rfl) (by rfl) rfl (by rfl) (by rfl) enters11 (law4_draws_ok fuel  w140  r146 hr147) ?_
  rintro v150 w148 ⟨hg149, rfl⟩
  refine ⟨(fun e => by cases e), ?_⟩
  refine gv_pure 1 [2, 3, 4, 5, 9, 10, 11, 12, 13, 14, 15, 16, 17, 56] (σ' := [(2, (.int .u64 n_2)), (3, (.int .u64 m_3)), (4, (.pointer (some ⟨b1, 0, none⟩))), (5, (.pointer (some ⟨b7, 0, none⟩))), (9, (.pointer (some ⟨b21, 0, none⟩))), (10, (.pointer (some ⟨b27, 0, none⟩))), (11, (.int .u64 r50.1)), (12, (.pointer (some ⟨b55, 0, none⟩))), (13, (.pointer (some ⟨b61, 0, none⟩))), (14, (.pointer (some ⟨b89, 0, none⟩))), (15, (.pointer (some ⟨b95, 0, none⟩))), (16, (.pointer (some ⟨b123, 0, none⟩))), (17, (.pointer (some ⟨b129, 0, none⟩))), (56, (.bool (!r146)))]) (by kernel_rfl) ?_
  refine gv_nil ?_
  refine gv_cond (b := (!r146)) (by rfl) (fun hc151 => ?_) (fun hc151 => ?_)
  · replace h0 := ite_t hc151 h0
    refine gv_seq ?_
    refine gv_region ?_
    refine gv_pure 1 [8] (σ' := [(8, (.bool false))]) (by kernel_rfl) ?_
    refine gv_nil ?_
    refine gv_cret ?_
    have e := Option.some.inj h0; subst e
    refine gv_ret (gv_done [(.bool false)] rfl ⟨rfl, trivial⟩ ?_)
    have hg152 := (grown_trans (grown_trans hg19 hg23) hg29)
    have hB153 := below_grown hB17 hg152 hB17.size nb
    have hB154 := below_grown hB17 hg19 hB17.size nb
    have hlo155 : w0.heap.size ≤ b21 := lob hbe25 hB154.size
    have hB156 := below_grown hB153 hg34 hB153.size (rowlo hlo155)
    have hB157 := below_grown hB154 hg23 hB154.size nb
    have hlo158 : w0.heap.size ≤ b27 := lob hbe31 hB157.size
    have hB159 := below_grown hB156 hg39 hB156.size (rowlo hlo158)
    have hg160 := (grown_trans (grown_trans hg53 hg57) hg63)
    have hB161 := below_grown hB159 hg160 hB159.size nb
    have hB162 := below_grown hB157 hg29 hB157.size nb
    have hB163 := below_grown hB162 hg34 hB162.size (rowlo hlo155)
    have hB164 := below_grown hB163 hg39 hB163.size (rowlo hlo158)
    have hB165 := below_grown hB164 hg53 hB164.size nb
    have hlo166 : w0.heap.size ≤ b55 := lob hbe59 hB165.size
    have hB167 := below_grown hB161 hg68 hB161.size (rowlo hlo166)
    have hB168 := below_grown hB165 hg57 hB165.size nb
    have hlo169 : w0.heap.size ≤ b61 := lob hbe65 hB168.size
    have hB170 := below_grown hB167 hg73 hB167.size (rowlo hlo169)
    have hB171 := below_grown hB170 hg112 hB170.size nb
    have hB172 := below_grown hB168 hg63 hB168.size nb
    have hB173 := below_grown hB172 hg68 hB172.size (rowlo hlo166)
    have hB174 := below_grown hB173 hg73 hB173.size (rowlo hlo169)
    have hB175 := below_grown hB174 hg87 hB174.size nb
    have hlo176 : w0.heap.size ≤ b89 := lob hbe93 hB175.size
    have hB177 := below_grown hB171 hg102 hB171.size (rowlo hlo176)
    have hB178 := below_grown hB175 hg91 hB175.size nb
    have hlo179 : w0.heap.size ≤ b95 := lob hbe99 hB178.size
    have hB180 := below_grown hB177 hg107 hB177.size (rowlo hlo179)
    have hg181 := (grown_trans (grown_trans hg121 hg125) hg131)
    have hB182 := below_grown hB180 hg181 hB180.size nb
    have hB183 := below_grown hB178 hg97 hB178.size nb
    have hB184 := below_grown hB183 hg102 hB183.size (rowlo hlo176)
    have hB185 := below_grown hB184 hg107 hB184.size (rowlo hlo179)
    have hB186 := below_grown hB185 hg121 hB185.size nb
    have hlo187 : w0.heap.size ≤ b123 := lob hbe127 hB186.size
    have hB188 := below_grown hB182 hg136 hB182.size (rowlo hlo187)
    have hB189 := below_grown hB186 hg125 hB186.size nb
    have hlo190 : w0.heap.size ≤ b129 := lob hbe133 hB189.size
    have hB191 := below_grown hB188 hg141 hB188.size (rowlo hlo190)
    have hB192 := below_grown hB191 hg149 hB191.size nb
    exact ⟨grown_of_below hB192, rfl⟩
  · replace h0 := ite_f hc151 h0
    refine gv_skip ?_
    refine gv_seq ?_
    refine gv_seq ?_
    refine gv_region ?_
    have hg193 := (grown_trans (grown_trans hg19 hg23) hg29)
    have hk194 := hk13.grown hg19 nb
    have ap195 : ¬ (· = b1) b21 := fun hx => Nat.not_lt_of_le ((lowb hbe25) _ rfl) ((fun k (hk : k = b1) => Nat.lt_of_le_of_lt (Nat.le_of_eq hk) hk194.lt) _ hx)
    have hk196 := hk194.grown hg23 nb
    have ap197 : ¬ (· = b1) b27 := fun hx => Nat.not_lt_of_le ((lowb hbe31) _ rfl) ((fun k (hk : k = b1) => Nat.lt_of_le_of_lt (Nat.le_of_eq hk) hk196.lt) _ hx)
    have hg198 := (grown_trans (grown_trans hg53 hg57) hg63)
    have hk199 := (((hk196.grown hg29 nb).grown hg34 (rowne ap195)).grown hg39 (rowne ap197)).grown hg53 nb
    have ap200 : ¬ (· = b1) b55 := fun hx => Nat.not_lt_of_le ((lowb hbe59) _ rfl) ((fun k (hk : k = b1) => Nat.lt_of_le_of_lt (Nat.le_of_eq hk) hk199.lt) _ hx)
    have hk201 := hk199.grown hg57 nb
    have ap202 : ¬ (· = b1) b61 := fun hx => Nat.not_lt_of_le ((lowb hbe65) _ rfl) ((fun k (hk : k = b1) => Nat.lt_of_le_of_lt (Nat.le_of_eq hk) hk201.lt) _ hx)
    have hk203 := (((hk201.grown hg63 nb).grown hg68 (rowne ap200)).grown hg73 (rowne ap202)).grown hg87 nb
    have ap204 : ¬ (· = b1) b89 := fun hx => Nat.not_lt_of_le ((lowb hbe93) _ rfl) ((fun k (hk : k = b1) => Nat.lt_of_le_of_lt (Nat.le_of_eq hk) hk203.lt) _ hx)
    have hk205 := hk203.grown hg91 nb
    have ap206 : ¬ (· = b1) b95 := fun hx => Nat.not_lt_of_le ((lowb hbe99) _ rfl) ((fun k (hk : k = b1) => Nat.lt_of_le_of_lt (Nat.le_of_eq hk) hk205.lt) _ hx)
    have hg207 := (grown_trans (grown_trans hg121 hg125) hg131)
    have hk208 := (((hk205.grown hg97 nb).grown hg102 (rowne ap204)).grown hg107 (rowne ap206)).grown hg121 nb
    have ap209 : ¬ (· = b1) b123 := fun hx => Nat.not_lt_of_le ((lowb hbe127) _ rfl) ((fun k (hk : k = b1) => Nat.lt_of_le_of_lt (Nat.le_of_eq hk) hk208.lt) _ hx)
    have hk210 := hk208.grown hg125 nb
    have ap211 : ¬ (· = b1) b129 := fun hx => Nat.not_lt_of_le ((lowb hbe133) _ rfl) ((fun k (hk : k = b1) => Nat.lt_of_le_of_lt (Nat.le_of_eq hk) hk210.lt) _ hx)
    have hk212 := ((((((((((((hk13.grown hg193 nb).grown hg34 (rowne ap195)).grown hg39 (rowne ap197)).grown hg198 nb).grown hg68 (rowne ap200)).grown hg73 (rowne ap202)).grown hg112 nb).grown hg102 (rowne ap204)).grown hg107 (rowne ap206)).grown hg207 nb).grown hg136 (rowne ap209)).grown hg141 (rowne ap211)).grown hg149 nb
    refine gv_loadBox (t := 24) (b := b1) (t' := 24) (fr := (0, 0)) #[(.bool seed_0.1), (.slice pa0_0 (List.length seed_0.2) pc0_0)] [2, 3, 4, 5, 9, 10, 11, 12, 13, 14, 15, 16, 17, 57] (σ' := [(2, (.int .u64 n_2)), (3, (.int .u64 m_3)), (4, (.pointer (some ⟨b1, 0, none⟩))), (5, (.pointer (some ⟨b7, 0, none⟩))), (9, (.pointer (some ⟨b21, 0, none⟩))), (10, (.pointer (some ⟨b27, 0, none⟩))), (11, (.int .u64 r50.1)), (12, (.pointer (some ⟨b55, 0, none⟩))), (13, (.pointer (some ⟨b61, 0, none⟩))), (14, (.pointer (some ⟨b89, 0, none⟩))), (15, (.pointer (some ⟨b95, 0, none⟩))), (16, (.pointer (some ⟨b123, 0, none⟩))), (17, (.pointer (some ⟨b129, 0, none⟩))), (57, (.agg #[(.bool seed_0.1), (.slice pa0_0 (List.length seed_0.2) pc0_0)]))]) (fun e => by cases e) (by rfl) (by rfl) (by rfl) (by kernel_rfl) (by kernel_rfl) (by kernel_rfl) (by kernel_rfl) (inw0 hk212) (by kernel_rfl) ?_
    refine bindE h0 ?_; clear h0; intro r213 hr214 h0
    have hB215 := below_grown hB17 hg193 hB17.size nb
    have hB216 := below_grown hB17 hg19 hB17.size nb
    have hlo217 : w0.heap.size ≤ b21 := lob hbe25 hB216.size
    have hB218 := below_grown hB215 hg34 hB215.size (rowlo hlo217)
    have hB219 := below_grown hB216 hg23 hB216.size nb
    have hlo220 : w0.heap.size ≤ b27 := lob hbe31 hB219.size
    have hB221 := below_grown hB218 hg39 hB218.size (rowlo hlo220)
    have hB222 := below_grown hB221 hg198 hB221.size nb
    have hB223 := below_grown hB219 hg29 hB219.size nb
    have hB224 := below_grown hB223 hg34 hB223.size (rowlo hlo217)
    have hB225 := below_grown hB224 hg39 hB224.size (rowlo hlo220)
    have hB226 := below_grown hB225 hg53 hB225.size nb
    have hlo227 : w0.heap.size ≤ b55 := lob hbe59 hB226.size
    have hB228 := below_grown hB222 hg68 hB222.size (rowlo hlo227)
    have hB229 := below_grown hB226 hg57 hB226.size nb
    have hlo230 : w0.heap.size ≤ b61 := lob hbe65 hB229.size
    have hB231 := below_grown hB228 hg73 hB228.size (rowlo hlo230)
    have hB232 := below_grown hB231 hg112 hB231.size nb
    have hB233 := below_grown hB229 hg63 hB229.size nb
    have hB234 := below_grown hB233 hg68 hB233.size (rowlo hlo227)
    have hB235 := below_grown hB234 hg73 hB234.size (rowlo hlo230)
    have hB236 := below_grown hB235 hg87 hB235.size nb
    have hlo237 : w0.heap.size ≤ b89 := lob hbe93 hB236.size
    have hB238 := below_grown hB232 hg102 hB232.size (rowlo hlo237)
    have hB239 := below_grown hB236 hg91 hB236.size nb
    have hlo240 : w0.heap.size ≤ b95 := lob hbe99 hB239.size
    have hB241 := below_grown hB238 hg107 hB238.size (rowlo hlo240)
    have hB242 := below_grown hB241 hg207 hB241.size nb
    have hB243 := below_grown hB239 hg97 hB239.size nb
    have hB244 := below_grown hB243 hg102 hB243.size (rowlo hlo237)
    have hB245 := below_grown hB244 hg107 hB244.size (rowlo hlo240)
    have hB246 := below_grown hB245 hg121 hB245.size nb
    have hlo247 : w0.heap.size ≤ b123 := lob hbe127 hB246.size
    have hB248 := below_grown hB242 hg136 hB242.size (rowlo hlo247)
    have hB249 := below_grown hB246 hg125 hB246.size nb
    have hlo250 : w0.heap.size ≤ b129 := lob hbe133 hB249.size
    have hB251 := below_grown hB248 hg141 hB248.size (rowlo hlo250)
    have hB252 := below_grown hB251 hg149 hB251.size nb
    refine gv_call (f := 12) (vs := [(.agg #[(.bool seed_0.1), (.slice pa0_0 (List.length seed_0.2) pc0_0)])]) (cap := []) _ (by decide) (by rfl) (by rfl) rfl (by rfl) (by rfl) enters12 (ref3_IntOk_ok fuel pa0_0 pc0_0 (seed_0.1, seed_0.2) w148 (fun k => X0 k) (fun k hk => (fun k (hk : X0 k) => Nat.lt_of_lt_of_le (hX0 k hk) hB252.size) k hk) ((hpa0_0.below hB252 hX0).wide (fun k hk => hk)) r213 hr214) ?_
    rintro v255 w253 ⟨hg254, rfl⟩
    refine ⟨(fun e => by cases e), ?_⟩
    clear hB251 hB249 hB248 hB246 hB245 hB244 hB243 hB242 hB241 hB239 hB238 hB236 hB235 hB234 hB233 hB232 hB231 hB229 hB228 hB226 hB225 hB224 hB223 hB222 hB221 hB219 hB218 hB216 hB215 hr214 hg207 hg198 hg193 hc151 hr147 hz143 hk145 hz138 hk139 hz134 hb132 hz128 hr119 hg112 hz109 hk111 hb98 hk83 hg34 hg29 hg23 hg19 hB17 hk13
    refine gv_pure 1 [2, 3, 4, 5, 9, 10, 11, 12, 13, 14, 15, 16, 17, 59] (σ' := [(2, (.int .u64 n_2)), (3, (.int .u64 m_3)), (4, (.pointer (some ⟨b1, 0, none⟩))), (5, (.pointer (some ⟨b7, 0, none⟩))), (9, (.pointer (some ⟨b21, 0, none⟩))), (10, (.pointer (some ⟨b27, 0, none⟩))), (11, (.int .u64 r50.1)), (12, (.pointer (some ⟨b55, 0, none⟩))), (13, (.pointer (some ⟨b61, 0, none⟩))), (14, (.pointer (some ⟨b89, 0, none⟩))), (15, (.pointer (some ⟨b95, 0, none⟩))), (16, (.pointer (some ⟨b123, 0, none⟩))), (17, (.pointer (some ⟨b129, 0, none⟩))), (59, (.bool (!r213)))]) (by kernel_rfl) ?_
    refine gv_nil ?_
    refine bindE h0 ?_; clear h0; intro j256 h1 h0
    refine gv_cut_code (J := fun a w258 => ∃ s257 : Unit, j256 = .inl s257 ∧ Below w0.heap.size w0 w258 ∧ w253.heap.size ≤ w258.heap.size ∧ Box w258 b7 27 #[(.int .u64 g_1.1), (.int .u64 g_1.2)] ∧ Box w258 b55 27 #[(.int .u64 r50.2.1.1), (.int .u64 r50.2.1.2)] ∧ Box w258 b61 29 #[(.int .i64 r50.2.2.1), (.int .i64 r50.2.2.2)] ∧ Box w258 b89 27 #[(.int .u64 r84.1.1), (.int .u64 r84.1.2)] ∧ Box w258 b95 29 #[(.int .i64 r84.2.1), (.int .i64 r84.2.2)] ∧ Box w258 b123 27 #[(.int .u64 r118.1.1), (.int .u64 r118.1.2)] ∧ Box w258 b129 29 #[(.int .i64 r118.2.1), (.int .i64 r118.2.2)] ∧ a.defers = [] ∧ a.tmps.size = 221 ∧ Ok [(2, (.int .u64 n_2)), (3, (.int .u64 m_3)), (5, (.pointer (some ⟨b7, 0, none⟩))), (11, (.int .u64 r50.1)), (12, (.pointer (some ⟨b55, 0, none⟩))), (13, (.pointer (some ⟨b61, 0, none⟩))), (14, (.pointer (some ⟨b89, 0, none⟩))), (15, (.pointer (some ⟨b95, 0, none⟩))), (16, (.pointer (some ⟨b123, 0, none⟩))), (17, (.pointer (some ⟨b129, 0, none⟩)))] a.tmps) ?_ ?_
    · skip
      refine gv_cond (b := (!r213)) (by rfl) (fun hc259 => ?_) (fun hc259 => ?_)
      · replace h1 := ite_t hc259 h1
        refine gv_seq ?_
        refine bindE h1 ?_; clear h1; intro j260 h2 h1
        refine gv_cut_code (J := fun a w261 => Below w0.heap.size w0 w261 ∧ w253.heap.size ≤ w261.heap.size ∧ Box w261 b7 27 #[(.int .u64 g_1.1), (.int .u64 g_1.2)] ∧ Box w261 b55 27 #[(.int .u64 r50.2.1.1), (.int .u64 r50.2.1.2)] ∧ Box w261 b61 29 #[(.int .i64 r50.2.2.1), (.int .i64 r50.2.2.2)] ∧ Box w261 b89 27 #[(.int .u64 r84.1.1), (.int .u64 r84.1.2)] ∧ Box w261 b95 29 #[(.int .i64 r84.2.1), (.int .i64 r84.2.2)] ∧ Box w261 b123 27 #[(.int .u64 r118.1.1), (.int .u64 r118.1.2)] ∧ Box w261 b129 29 #[(.int .i64 r118.2.1), (.int .i64 r118.2.2)] ∧ a.defers = [] ∧ a.tmps.size = 221 ∧ Ok [(2, (.int .u64 n_2)), (3, (.int .u64 m_3)), (5, (.pointer (some ⟨b7, 0, none⟩))), (11, (.int .u64 r50.1)), (12, (.pointer (some ⟨b55, 0, none⟩))), (13, (.pointer (some ⟨b61, 0, none⟩))), (14, (.pointer (some ⟨b89, 0, none⟩))), (15, (.pointer (some ⟨b95, 0, none⟩))), (16, (.pointer (some ⟨b123, 0, none⟩))), (17, (.pointer (some ⟨b129, 0, none⟩))), (67, (.bool j260))] a.tmps) ?_ ?_
        · skip
          refine gv_drawA (by kernel_rfl) ?_
          intro w262 hg263
          refine gv_stage (Cls w262 []) [0, 1] [(0, some true), (1, some false)] #[true, true, false, false, false, false, false, false] 6 (by kernel_rfl) (by rfl) (Cls.refl _ _) ?_
          have hC264 := Cls.refl w262 []
          have hg265 := (grown_trans (grown_trans hg53 hg57) hg63)
          have hk266 := hb40.grown hg53 nb
          have ap267 : ¬ (· = b27) b55 := fun hx => Nat.not_lt_of_le ((lowb hbe59) _ rfl) ((fun k (hk : k = b27) => Nat.lt_of_le_of_lt (Nat.le_of_eq hk) hk266.lt) _ hx)
          have hk268 := hk266.grown hg57 nb
          have ap269 : ¬ (· = b27) b61 := fun hx => Nat.not_lt_of_le ((lowb hbe65) _ rfl) ((fun k (hk : k = b27) => Nat.lt_of_le_of_lt (Nat.le_of_eq hk) hk268.lt) _ hx)
          have hg270 := (grown_trans (grown_trans hg87 hg91) hg97)
          have hk271 := (((hk268.grown hg63 nb).grown hg68 (rowne ap267)).grown hg73 (rowne ap269)).grown hg87 nb
          have ap272 : ¬ (· = b27) b89 := fun hx => Nat.not_lt_of_le ((lowb hbe93) _ rfl) ((fun k (hk : k = b27) => Nat.lt_of_le_of_lt (Nat.le_of_eq hk) hk271.lt) _ hx)
          have hk273 := hk271.grown hg91 nb
          have ap274 : ¬ (· = b27) b95 := fun hx => Nat.not_lt_of_le ((lowb hbe99) _ rfl) ((fun k (hk : k = b27) => Nat.lt_of_le_of_lt (Nat.le_of_eq hk) hk273.lt) _ hx)
          have hg275 := (grown_trans (grown_trans hg121 hg125) hg131)
          have hk276 := (((hk273.grown hg97 nb).grown hg102 (rowne ap272)).grown hg107 (rowne ap274)).grown hg121 nb
          have ap277 : ¬ (· = b27) b123 := fun hx => Nat.not_lt_of_le ((lowb hbe127) _ rfl) ((fun k (hk : k = b27) => Nat.lt_of_le_of_lt (Nat.le_of_eq hk) hk276.lt) _ hx)
          have hk278 := hk276.grown hg125 nb
          have ap279 : ¬ (· = b27) b129 := fun hx => Nat.not_lt_of_le ((lowb hbe133) _ rfl) ((fun k (hk : k = b27) => Nat.lt_of_le_of_lt (Nat.le_of_eq hk) hk278.lt) _ hx)
          have hg280 := (grown_trans (grown_trans hg149 hg254) hg263)
          have hk281 := (((((((((hb40.grown hg265 nb).grown hg68 (rowne ap267)).grown hg73 (rowne ap269)).grown hg270 nb).grown hg102 (rowne ap272)).grown hg107 (rowne ap274)).grown hg275 nb).grown hg136 (rowne ap277)).grown hg141 (rowne ap279)).grown hg280 nb
          refine gv_loadBox (t := 29) (b := b27) (t' := 29) (fr := (0, 0)) #[(.int .i64 r14.2.1), (.int .i64 r14.2.2)] [2, 3, 5, 9, 11, 12, 13, 14, 15, 16, 17, 60] (σ' := [(2, (.int .u64 n_2)), (3, (.int .u64 m_3)), (5, (.pointer (some ⟨b7, 0, none⟩))), (9, (.pointer (some ⟨b21, 0, none⟩))), (11, (.int .u64 r50.1)), (12, (.pointer (some ⟨b55, 0, none⟩))), (13, (.pointer (some ⟨b61, 0, none⟩))), (14, (.pointer (some ⟨b89, 0, none⟩))), (15, (.pointer (some ⟨b95, 0, none⟩))), (16, (.pointer (some ⟨b123, 0, none⟩))), (17, (.pointer (some ⟨b129, 0, none⟩))), (60, (.agg #[(.int .i64 r14.2.1), (.int .i64 r14.2.2)]))]) (fun e => by cases e) (by rfl) (by rfl) (by rfl) (by kernel_rfl) (by kernel_rfl) (by kernel_rfl) (by kernel_rfl) (inw1 fun w' hC' => (hC'.box hk281 nm_nil)) (by kernel_rfl) ?_
          refine bindE h2 ?_; clear h2; intro r282 hr283 h2
          refine gv_call (f := 13) (vs := [(.int .i64 6), (.int .i64 (-1))]) (cap := []) _ (by decide) (by rfl) (by rfl) rfl (by rfl) (by rfl) enters13 (ref4_At_ok fuel 6 (-1) w262  r282 hr283) ?_
          rintro v286 w284 ⟨hg285, rfl⟩
          refine ⟨(fun _ => hC264.grown hg285 nb), ?_⟩
          refine gv_sub [2, 3, 5, 9, 11, 12, 13, 14, 15, 16, 17, 60, 61] (σ' := [(2, (.int .u64 n_2)), (3, (.int .u64 m_3)), (5, (.pointer (some ⟨b7, 0, none⟩))), (9, (.pointer (some ⟨b21, 0, none⟩))), (11, (.int .u64 r50.1)), (12, (.pointer (some ⟨b55, 0, none⟩))), (13, (.pointer (some ⟨b61, 0, none⟩))), (14, (.pointer (some ⟨b89, 0, none⟩))), (15, (.pointer (some ⟨b95, 0, none⟩))), (16, (.pointer (some ⟨b123, 0, none⟩))), (17, (.pointer (some ⟨b129, 0, none⟩))), (60, (.agg #[(.int .i64 r14.2.1), (.int .i64 r14.2.2)])), (61, (.agg #[(.int .i64 r282.1), (.int .i64 r282.2)]))]) (by kernel_rfl) ?_
          refine gv_nil ?_
          refine gv_goal fun a hd hs hok => ?_
          refine (?_ : RunA Try.prog _ 221 _ _ 6 #[true, true, false, false, false, false, false, false] [(2, (.int .u64 n_2)), (3, (.int .u64 m_3)), (5, (.pointer (some ⟨b7, 0, none⟩))), (9, (.pointer (some ⟨b21, 0, none⟩))), (11, (.int .u64 r50.1)), (12, (.pointer (some ⟨b55, 0, none⟩))), (13, (.pointer (some ⟨b61, 0, none⟩))), (14, (.pointer (some ⟨b89, 0, none⟩))), (15, (.pointer (some ⟨b95, 0, none⟩))), (16, (.pointer (some ⟨b123, 0, none⟩))), (17, (.pointer (some ⟨b129, 0, none⟩))), (60, (.agg #[(.int .i64 r14.2.1), (.int .i64 r14.2.2)])), (61, (.agg #[(.int .i64 r282.1), (.int .i64 r282.2)]))] w284) a hd hs hok
          clear hd hs hok
          refine gv_pre [2, 3, 5] #[true, true, true, true, false, true, false, false] 3 (by kernel_rfl) (by rfl) ?_
          refine gv_eqs (t := 29) (op := .neq) (x := (.tmp 60)) (y := (.tmp 61)) (xs := #[(.int .i64 r14.2.1), (.int .i64 r14.2.2)]) (ys := #[(.int .i64 r282.1), (.int .i64 r282.2)]) (!((r14.2.1 == r282.1) && (r14.2.2 == r282.2))) [2, 3, 5, 9, 11, 12, 13, 14, 15, 16, 17, 62] (σ' := [(2, (.int .u64 n_2)), (3, (.int .u64 m_3)), (5, (.pointer (some ⟨b7, 0, none⟩))), (9, (.pointer (some ⟨b21, 0, none⟩))), (11, (.int .u64 r50.1)), (12, (.pointer (some ⟨b55, 0, none⟩))), (13, (.pointer (some ⟨b61, 0, none⟩))), (14, (.pointer (some ⟨b89, 0, none⟩))), (15, (.pointer (some ⟨b95, 0, none⟩))), (16, (.pointer (some ⟨b123, 0, none⟩))), (17, (.pointer (some ⟨b129, 0, none⟩))), (62, (.bool (!((r14.2.1 == r282.1) && (r14.2.2 == r282.2)))))]) (fun e => by cases e) (by rfl) (by rfl) (by rfl) (by kernel_rfl) (by kernel_rfl) (fun w' => eqs29neq r14.2.1 r14.2.2 r282.1 r282.2 _ _ w') (by kernel_rfl) ?_
          refine gv_pure 1 [2, 3, 5, 9, 11, 12, 13, 14, 15, 16, 17, 63] (σ' := [(2, (.int .u64 n_2)), (3, (.int .u64 m_3)), (5, (.pointer (some ⟨b7, 0, none⟩))), (9, (.pointer (some ⟨b21, 0, none⟩))), (11, (.int .u64 r50.1)), (12, (.pointer (some ⟨b55, 0, none⟩))), (13, (.pointer (some ⟨b61, 0, none⟩))), (14, (.pointer (some ⟨b89, 0, none⟩))), (15, (.pointer (some ⟨b95, 0, none⟩))), (16, (.pointer (some ⟨b123, 0, none⟩))), (17, (.pointer (some ⟨b129, 0, none⟩))), (63, (.bool (!((r14.2.1 == r282.1) && (r14.2.2 == r282.2)))))]) (by kernel_rfl) ?_
          refine gv_split (s := 63) (g := (!((r14.2.1 == r282.1) && (r14.2.2 == r282.2)))) (by rfl) (fun hc287 => ?_) (fun hc287 => ?_)
          · skip
            replace h2 := ite_t hc287 h2
            refine gv_pure 1 [2, 3, 5, 9, 11, 12, 13, 14, 15, 16, 17, 63, 65] (σ' := [(2, (.int .u64 n_2)), (3, (.int .u64 m_3)), (5, (.pointer (some ⟨b7, 0, none⟩))), (9, (.pointer (some ⟨b21, 0, none⟩))), (11, (.int .u64 r50.1)), (12, (.pointer (some ⟨b55, 0, none⟩))), (13, (.pointer (some ⟨b61, 0, none⟩))), (14, (.pointer (some ⟨b89, 0, none⟩))), (15, (.pointer (some ⟨b95, 0, none⟩))), (16, (.pointer (some ⟨b123, 0, none⟩))), (17, (.pointer (some ⟨b129, 0, none⟩))), (63, (.bool true)), (65, undef)]) (by kernel_rfl) ?_
            refine gv_nil ?_
            refine gv_goal fun a hd hs hok => ?_
            refine (?_ : RunA Try.prog _ 221 _ _ 3 #[true, true, true, true, false, true, false, false] [(2, (.int .u64 n_2)), (3, (.int .u64 m_3)), (5, (.pointer (some ⟨b7, 0, none⟩))), (9, (.pointer (some ⟨b21, 0, none⟩))), (11, (.int .u64 r50.1)), (12, (.pointer (some ⟨b55, 0, none⟩))), (13, (.pointer (some ⟨b61, 0, none⟩))), (14, (.pointer (some ⟨b89, 0, none⟩))), (15, (.pointer (some ⟨b95, 0, none⟩))), (16, (.pointer (some ⟨b123, 0, none⟩))), (17, (.pointer (some ⟨b129, 0, none⟩))), (63, (.bool true)), (65, undef)] w284) a hd hs hok
            clear hd hs hok
            refine gv_stage (Cls w284 []) [0, 1, 2, 3, 4, 5] [(4, some true)] #[true, true, true, true, true, true, false, false] 2 (by kernel_rfl) (by rfl) (Cls.refl _ _) ?_
            have hC288 := Cls.refl w284 []
            refine gv_pure 1 [2, 3, 5, 11, 12, 13, 14, 15, 16, 17, 63, 64, 65] (σ' := [(2, (.int .u64 n_2)), (3, (.int .u64 m_3)), (5, (.pointer (some ⟨b7, 0, none⟩))), (11, (.int .u64 r50.1)), (12, (.pointer (some ⟨b55, 0, none⟩))), (13, (.pointer (some ⟨b61, 0, none⟩))), (14, (.pointer (some ⟨b89, 0, none⟩))), (15, (.pointer (some ⟨b95, 0, none⟩))), (16, (.pointer (some ⟨b123, 0, none⟩))), (17, (.pointer (some ⟨b129, 0, none⟩))), (63, (.bool true)), (64, undef), (65, undef)]) (by kernel_rfl) ?_
            refine gv_nil ?_
            refine gv_goal fun a hd hs hok => ?_
            refine (?_ : RunA Try.prog _ 221 _ _ 2 #[true, true, true, true, true, true, false, false] [(2, (.int .u64 n_2)), (3, (.int .u64 m_3)), (5, (.pointer (some ⟨b7, 0, none⟩))), (11, (.int .u64 r50.1)), (12, (.pointer (some ⟨b55, 0, none⟩))), (13, (.pointer (some ⟨b61, 0, none⟩))), (14, (.pointer (some ⟨b89, 0, none⟩))), (15, (.pointer (some ⟨b95, 0, none⟩))), (16, (.pointer (some ⟨b123, 0, none⟩))), (17, (.pointer (some ⟨b129, 0, none⟩))), (63, (.bool true)), (64, undef), (65, undef)] w284) a hd hs hok
            clear hd hs hok
            refine gv_pre [6, 7] #[true, true, true, true, true, true, true, true] 0 (by kernel_rfl) (by rfl) ?_
            refine gv_pure 2 [2, 3, 5, 11, 12, 13, 14, 15, 16, 17, 67] (σ' := [(2, (.int .u64 n_2)), (3, (.int .u64 m_3)), (5, (.pointer (some ⟨b7, 0, none⟩))), (11, (.int .u64 r50.1)), (12, (.pointer (some ⟨b55, 0, none⟩))), (13, (.pointer (some ⟨b61, 0, none⟩))), (14, (.pointer (some ⟨b89, 0, none⟩))), (15, (.pointer (some ⟨b95, 0, none⟩))), (16, (.pointer (some ⟨b123, 0, none⟩))), (17, (.pointer (some ⟨b129, 0, none⟩))), (67, (.bool true))]) (by kernel_rfl) ?_
            refine gv_nil ?_
            refine gv_goal fun a hd hs hok => ?_
            refine (?_ : RunA Try.prog _ 221 _ _ 0 #[true, true, true, true, true, true, true, true] [(2, (.int .u64 n_2)), (3, (.int .u64 m_3)), (5, (.pointer (some ⟨b7, 0, none⟩))), (11, (.int .u64 r50.1)), (12, (.pointer (some ⟨b55, 0, none⟩))), (13, (.pointer (some ⟨b61, 0, none⟩))), (14, (.pointer (some ⟨b89, 0, none⟩))), (15, (.pointer (some ⟨b95, 0, none⟩))), (16, (.pointer (some ⟨b123, 0, none⟩))), (17, (.pointer (some ⟨b129, 0, none⟩))), (67, (.bool true))] w284) a hd hs hok
            clear hd hs hok
            refine gv_stageE (by kernel_rfl) ?_
            have e := Option.some.inj h2; subst e
            refine gv_goal fun a hd hs hok => ?_
            obtain ⟨q2, q3, q5, q11, q12, q13, q14, q15, q16, q17, q67, _⟩ := hok
            have hg289 := (grown_trans (grown_trans hg254 hg263) hg285)
            have hB290 := below_grown hB252 hg289 hB252.size nb
            have hz291 : w253.heap.size ≤ w284.heap.size := (Nat.le_trans hg263.size hg285.size)
            have hk292 := hk117.grown hg121 nb
            have ap293 : ¬ (· = b7) b123 := fun hx => Nat.not_lt_of_le ((lowb hbe127) _ rfl) ((fun k (hk : k = b7) => Nat.lt_of_le_of_lt (Nat.le_of_eq hk) hk292.lt) _ hx)
            have hk294 := hk292.grown hg125 nb
            have ap295 : ¬ (· = b7) b129 := fun hx => Nat.not_lt_of_le ((lowb hbe133) _ rfl) ((fun k (hk : k = b7) => Nat.lt_of_le_of_lt (Nat.le_of_eq hk) hk294.lt) _ hx)
            have hg296 := (grown_trans hg280 hg285)
            have hk297 := (((hk117.grown hg275 nb).grown hg136 (rowne ap293)).grown hg141 (rowne ap295)).grown hg296 nb
            have ap298 : ¬ (· = b55) b61 := fun hx => Nat.not_lt_of_le ((lowb hbe65) _ rfl) ((fun k (hk : k = b55) => Nat.lt_of_le_of_lt (Nat.le_of_eq hk) hb58.lt) _ hx)
            have hk299 := (hb69.grown hg73 (rowne ap298)).grown hg87 nb
            have ap300 : ¬ (· = b55) b89 := fun hx => Nat.not_lt_of_le ((lowb hbe93) _ rfl) ((fun k (hk : k = b55) => Nat.lt_of_le_of_lt (Nat.le_of_eq hk) hk299.lt) _ hx)
            have hk301 := hk299.grown hg91 nb
            have ap302 : ¬ (· = b55) b95 := fun hx => Nat.not_lt_of_le ((lowb hbe99) _ rfl) ((fun k (hk : k = b55) => Nat.lt_of_le_of_lt (Nat.le_of_eq hk) hk301.lt) _ hx)
            have hk303 := (((hk301.grown hg97 nb).grown hg102 (rowne ap300)).grown hg107 (rowne ap302)).grown hg121 nb
            have ap304 : ¬ (· = b55) b123 := fun hx => Nat.not_lt_of_le ((lowb hbe127) _ rfl) ((fun k (hk : k = b55) => Nat.lt_of_le_of_lt (Nat.le_of_eq hk) hk303.lt) _ hx)
            have hk305 := hk303.grown hg125 nb
            have ap306 : ¬ (· = b55) b129 := fun hx => Nat.not_lt_of_le ((lowb hbe133) _ rfl) ((fun k (hk : k = b55) => Nat.lt_of_le_of_lt (Nat.le_of_eq hk) hk305.lt) _ hx)
            have hk307 := (((((((hb69.grown hg73 (rowne ap298)).grown hg270 nb).grown hg102 (rowne ap300)).grown hg107 (rowne ap302)).grown hg275 nb).grown hg136 (rowne ap304)).grown hg141 (rowne ap306)).grown hg296 nb
            have hk308 := hb74.grown hg87 nb
            have ap309 : ¬ (· = b61) b89 := fun hx => Nat.not_lt_of_le ((lowb hbe93) _ rfl) ((fun k (hk : k = b61) => Nat.lt_of_le_of_lt (Nat.le_of_eq hk) hk308.lt) _ hx)
            have hk310 := hk308.grown hg91 nb
            have ap311 : ¬ (· = b61) b95 := fun hx => Nat.not_lt_of_le ((lowb hbe99) _ rfl) ((fun k (hk : k = b61) => Nat.lt_of_le_of_lt (Nat.le_of_eq hk) hk310.lt) _ hx)
            have hk312 := (((hk310.grown hg97 nb).grown hg102 (rowne ap309)).grown hg107 (rowne ap311)).grown hg121 nb
            have ap313 : ¬ (· = b61) b123 := fun hx => Nat.not_lt_of_le ((lowb hbe127) _ rfl) ((fun k (hk : k = b61) => Nat.lt_of_le_of_lt (Nat.le_of_eq hk) hk312.lt) _ hx)
            have hk314 := hk312.grown hg125 nb
            have ap315 : ¬ (· = b61) b129 := fun hx => Nat.not_lt_of_le ((lowb hbe133) _ rfl) ((fun k (hk : k = b61) => Nat.lt_of_le_of_lt (Nat.le_of_eq hk) hk314.lt) _ hx)
            have hk316 := ((((((hb74.grown hg270 nb).grown hg102 (rowne ap309)).grown hg107 (rowne ap311)).grown hg275 nb).grown hg136 (rowne ap313)).grown hg141 (rowne ap315)).grown hg296 nb
            have ap317 : ¬ (· = b89) b95 := fun hx => Nat.not_lt_of_le ((lowb hbe99) _ rfl) ((fun k (hk : k = b89) => Nat.lt_of_le_of_lt (Nat.le_of_eq hk) hb92.lt) _ hx)
            have hk318 := (hb103.grown hg107 (rowne ap317)).grown hg121 nb
            have ap319 : ¬ (· = b89) b123 := fun hx => Nat.not_lt_of_le ((lowb hbe127) _ rfl) ((fun k (hk : k = b89) => Nat.lt_of_le_of_lt (Nat.le_of_eq hk) hk318.lt) _ hx)
            have hk320 := hk318.grown hg125 nb
            have ap321 : ¬ (· = b89) b129 := fun hx => Nat.not_lt_of_le ((lowb hbe133) _ rfl) ((fun k (hk : k = b89) => Nat.lt_of_le_of_lt (Nat.le_of_eq hk) hk320.lt) _ hx)
            have hk322 := ((((hb103.grown hg107 (rowne ap317)).grown hg275 nb).grown hg136 (rowne ap319)).grown hg141 (rowne ap321)).grown hg296 nb
            have hk323 := hb108.grown hg121 nb
            have ap324 : ¬ (· = b95) b123 := fun hx => Nat.not_lt_of_le ((lowb hbe127) _ rfl) ((fun k (hk : k = b95) => Nat.lt_of_le_of_lt (Nat.le_of_eq hk) hk323.lt) _ hx)
            have hk325 := hk323.grown hg125 nb
            have ap326 : ¬ (· = b95) b129 := fun hx => Nat.not_lt_of_le ((lowb hbe133) _ rfl) ((fun k (hk : k = b95) => Nat.lt_of_le_of_lt (Nat.le_of_eq hk) hk325.lt) _ hx)
            have hk327 := (((hb108.grown hg275 nb).grown hg136 (rowne ap324)).grown hg141 (rowne ap326)).grown hg296 nb
            have ap328 : ¬ (· = b123) b129 := fun hx => Nat.not_lt_of_le ((lowb hbe133) _ rfl) ((fun k (hk : k = b123) => Nat.lt_of_le_of_lt (Nat.le_of_eq hk) hb126.lt) _ hx)
            have hk329 := (hb137.grown hg141 (rowne ap328)).grown hg296 nb
            have hk330 := hb142.grown hg296 nb
            exact ⟨hB290, hz291, hk297, hk307, hk316, hk322, hk327, hk329, hk330, hd, hs, ⟨q2, q3, q5, q11, q12, q13, q14, q15, q16, q17, q67, trivial⟩⟩
          · skip
            replace h2 := ite_f hc287 h2
            refine gv_pure 1 [2, 3, 5, 9, 11, 12, 13, 14, 15, 16, 17, 63, 65] (σ' := [(2, (.int .u64 n_2)), (3, (.int .u64 m_3)), (5, (.pointer (some ⟨b7, 0, none⟩))), (9, (.pointer (some ⟨b21, 0, none⟩))), (11, (.int .u64 r50.1)), (12, (.pointer (some ⟨b55, 0, none⟩))), (13, (.pointer (some ⟨b61, 0, none⟩))), (14, (.pointer (some ⟨b89, 0, none⟩))), (15, (.pointer (some ⟨b95, 0, none⟩))), (16, (.pointer (some ⟨b123, 0, none⟩))), (17, (.pointer (some ⟨b129, 0, none⟩))), (63, (.bool false)), (65, (.agg #[(.int .u64 0), (.int .u64 0)]))]) (by kernel_rfl) ?_
            refine gv_nil ?_
            refine gv_goal fun a hd hs hok => ?_
            refine (?_ : RunA Try.prog _ 221 _ _ 3 #[true, true, true, true, false, true, false, false] [(2, (.int .u64 n_2)), (3, (.int .u64 m_3)), (5, (.pointer (some ⟨b7, 0, none⟩))), (9, (.pointer (some ⟨b21, 0, none⟩))), (11, (.int .u64 r50.1)), (12, (.pointer (some ⟨b55, 0, none⟩))), (13, (.pointer (some ⟨b61, 0, none⟩))), (14, (.pointer (some ⟨b89, 0, none⟩))), (15, (.pointer (some ⟨b95, 0, none⟩))), (16, (.pointer (some ⟨b123, 0, none⟩))), (17, (.pointer (some ⟨b129, 0, none⟩))), (63, (.bool false)), (65, (.agg #[(.int .u64 0), (.int .u64 0)]))] w284) a hd hs hok
            clear hd hs hok
            refine gv_stage (Cls w284 []) [0, 1, 2, 3, 4, 5] [(4, some true)] #[true, true, true, true, true, true, false, false] 2 (by kernel_rfl) (by rfl) (Cls.refl _ _) ?_
            have hC331 := Cls.refl w284 []
            have ap332 : ¬ (· = b21) b27 := fun hx => Nat.not_lt_of_le ((lowb hbe31) _ rfl) ((fun k (hk : k = b21) => Nat.lt_of_le_of_lt (Nat.le_of_eq hk) hb24.lt) _ hx)
            have hk333 := (hb35.grown hg39 (rowne ap332)).grown hg53 nb
            have ap334 : ¬ (· = b21) b55 := fun hx => Nat.not_lt_of_le ((lowb hbe59) _ rfl) ((fun k (hk : k = b21) => Nat.lt_of_le_of_lt (Nat.le_of_eq hk) hk333.lt) _ hx)
            have hk335 := hk333.grown hg57 nb
            have ap336 : ¬ (· = b21) b61 := fun hx => Nat.not_lt_of_le ((lowb hbe65) _ rfl) ((fun k (hk : k = b21) => Nat.lt_of_le_of_lt (Nat.le_of_eq hk) hk335.lt) _ hx)
            have hk337 := (((hk335.grown hg63 nb).grown hg68 (rowne ap334)).grown hg73 (rowne ap336)).grown hg87 nb
            have ap338 : ¬ (· = b21) b89 := fun hx => Nat.not_lt_of_le ((lowb hbe93) _ rfl) ((fun k (hk : k = b21) => Nat.lt_of_le_of_lt (Nat.le_of_eq hk) hk337.lt) _ hx)
            have hk339 := hk337.grown hg91 nb
            have ap340 : ¬ (· = b21) b95 := fun hx => Nat.not_lt_of_le ((lowb hbe99) _ rfl) ((fun k (hk : k = b21) => Nat.lt_of_le_of_lt (Nat.le_of_eq hk) hk339.lt) _ hx)
            have hk341 := (((hk339.grown hg97 nb).grown hg102 (rowne ap338)).grown hg107 (rowne ap340)).grown hg121 nb
            have ap342 : ¬ (· = b21) b123 := fun hx => Nat.not_lt_of_le ((lowb hbe127) _ rfl) ((fun k (hk : k = b21) => Nat.lt_of_le_of_lt (Nat.le_of_eq hk) hk341.lt) _ hx)
            have hk343 := hk341.grown hg125 nb
            have ap344 : ¬ (· = b21) b129 := fun hx => Nat.not_lt_of_le ((lowb hbe133) _ rfl) ((fun k (hk : k = b21) => Nat.lt_of_le_of_lt (Nat.le_of_eq hk) hk343.lt) _ hx)
            have hg345 := (grown_trans hg280 hg285)
            have hk346 := ((((((((((hb35.grown hg39 (rowne ap332)).grown hg265 nb).grown hg68 (rowne ap334)).grown hg73 (rowne ap336)).grown hg270 nb).grown hg102 (rowne ap338)).grown hg107 (rowne ap340)).grown hg275 nb).grown hg136 (rowne ap342)).grown hg141 (rowne ap344)).grown hg345 nb
            refine gv_loadBox (t := 27) (b := b21) (t' := 27) (fr := (0, 0)) #[(.int .u64 r14.1.1), (.int .u64 r14.1.2)] [2, 3, 5, 11, 12, 13, 14, 15, 16, 17, 63, 64, 65] (σ' := [(2, (.int .u64 n_2)), (3, (.int .u64 m_3)), (5, (.pointer (some ⟨b7, 0, none⟩))), (11, (.int .u64 r50.1)), (12, (.pointer (some ⟨b55, 0, none⟩))), (13, (.pointer (some ⟨b61, 0, none⟩))), (14, (.pointer (some ⟨b89, 0, none⟩))), (15, (.pointer (some ⟨b95, 0, none⟩))), (16, (.pointer (some ⟨b123, 0, none⟩))), (17, (.pointer (some ⟨b129, 0, none⟩))), (63, (.bool false)), (64, (.agg #[(.int .u64 r14.1.1), (.int .u64 r14.1.2)])), (65, (.agg #[(.int .u64 0), (.int .u64 0)]))]) (fun e => by cases e) (by rfl) (by rfl) (by rfl) (by kernel_rfl) (by kernel_rfl) (by kernel_rfl) (by kernel_rfl) (inw1 fun w' hC' => (hC'.box hk346 nm_nil)) (by kernel_rfl) ?_
            refine gv_nil ?_
            refine gv_goal fun a hd hs hok => ?_
            refine (?_ : RunA Try.prog _ 221 _ _ 2 #[true, true, true, true, true, true, false, false] [(2, (.int .u64 n_2)), (3, (.int .u64 m_3)), (5, (.pointer (some ⟨b7, 0, none⟩))), (11, (.int .u64 r50.1)), (12, (.pointer (some ⟨b55, 0, none⟩))), (13, (.pointer (some ⟨b61, 0, none⟩))), (14, (.pointer (some ⟨b89, 0, none⟩))), (15, (.pointer (some ⟨b95, 0, none⟩))), (16, (.pointer (some ⟨b123, 0, none⟩))), (17, (.pointer (some ⟨b129, 0, none⟩))), (63, (.bool false)), (64, (.agg #[(.int .u64 r14.1.1), (.int .u64 r14.1.2)])), (65, (.agg #[(.int .u64 0), (.int .u64 0)]))] w284) a hd hs hok
            clear hd hs hok
            refine gv_pre [6, 7] #[true, true, true, true, true, true, true, true] 0 (by kernel_rfl) (by rfl) ?_
            refine gv_eqs (t := 27) (op := .neq) (x := (.tmp 64)) (y := (.tmp 65)) (xs := #[(.int .u64 r14.1.1), (.int .u64 r14.1.2)]) (ys := #[(.int .u64 0), (.int .u64 0)]) (!((r14.1.1 == 0) && (r14.1.2 == 0))) [2, 3, 5, 11, 12, 13, 14, 15, 16, 17, 63, 66] (σ' := [(2, (.int .u64 n_2)), (3, (.int .u64 m_3)), (5, (.pointer (some ⟨b7, 0, none⟩))), (11, (.int .u64 r50.1)), (12, (.pointer (some ⟨b55, 0, none⟩))), (13, (.pointer (some ⟨b61, 0, none⟩))), (14, (.pointer (some ⟨b89, 0, none⟩))), (15, (.pointer (some ⟨b95, 0, none⟩))), (16, (.pointer (some ⟨b123, 0, none⟩))), (17, (.pointer (some ⟨b129, 0, none⟩))), (63, (.bool false)), (66, (.bool (!((r14.1.1 == 0) && (r14.1.2 == 0)))))]) (fun e => by cases e) (by rfl) (by rfl) (by rfl) (by kernel_rfl) (by kernel_rfl) (fun w' => eqs27neq r14.1.1 r14.1.2 0 0 _ _ w') (by kernel_rfl) ?_
            refine gv_pure 1 [2, 3, 5, 11, 12, 13, 14, 15, 16, 17, 67] (σ' := [(2, (.int .u64 n_2)), (3, (.int .u64 m_3)), (5, (.pointer (some ⟨b7, 0, none⟩))), (11, (.int .u64 r50.1)), (12, (.pointer (some ⟨b55, 0, none⟩))), (13, (.pointer (some ⟨b61, 0, none⟩))), (14, (.pointer (some ⟨b89, 0, none⟩))), (15, (.pointer (some ⟨b95, 0, none⟩))), (16, (.pointer (some ⟨b123, 0, none⟩))), (17, (.pointer (some ⟨b129, 0, none⟩))), (67, (.bool (!((r14.1.1 == 0) && (r14.1.2 == 0)))))]) (by kernel_rfl) ?_
            refine gv_nil ?_
            refine gv_goal fun a hd hs hok => ?_
            refine (?_ : RunA Try.prog _ 221 _ _ 0 #[true, true, true, true, true, true, true, true] [(2, (.int .u64 n_2)), (3, (.int .u64 m_3)), (5, (.pointer (some ⟨b7, 0, none⟩))), (11, (.int .u64 r50.1)), (12, (.pointer (some ⟨b55, 0, none⟩))), (13, (.pointer (some ⟨b61, 0, none⟩))), (14, (.pointer (some ⟨b89, 0, none⟩))), (15, (.pointer (some ⟨b95, 0, none⟩))), (16, (.pointer (some ⟨b123, 0, none⟩))), (17, (.pointer (some ⟨b129, 0, none⟩))), (67, (.bool (!((r14.1.1 == 0) && (r14.1.2 == 0)))))] w284) a hd hs hok
            clear hd hs hok
            refine gv_stageE (by kernel_rfl) ?_
            have e := Option.some.inj h2; subst e
            refine gv_goal fun a hd hs hok => ?_
            obtain ⟨q2, q3, q5, q11, q12, q13, q14, q15, q16, q17, q67, _⟩ := hok
            have hg347 := (grown_trans (grown_trans hg254 hg263) hg285)
            have hB348 := below_grown hB252 hg347 hB252.size nb
            have hz349 : w253.heap.size ≤ w284.heap.size := (Nat.le_trans hg263.size hg285.size)
            have hk350 := hk117.grown hg121 nb
            have ap351 : ¬ (· = b7) b123 := fun hx => Nat.not_lt_of_le ((lowb hbe127) _ rfl) ((fun k (hk : k = b7) => Nat.lt_of_le_of_lt (Nat.le_of_eq hk) hk350.lt) _ hx)
            have hk352 := hk350.grown hg125 nb
            have ap353 : ¬ (· = b7) b129 := fun hx => Nat.not_lt_of_le ((lowb hbe133) _ rfl) ((fun k (hk : k = b7) => Nat.lt_of_le_of_lt (Nat.le_of_eq hk) hk352.lt) _ hx)
            have hk354 := (((hk117.grown hg275 nb).grown hg136 (rowne ap351)).grown hg141 (rowne ap353)).grown hg345 nb
            have ap355 : ¬ (· = b55) b61 := fun hx => Nat.not_lt_of_le ((lowb hbe65) _ rfl) ((fun k (hk : k = b55) => Nat.lt_of_le_of_lt (Nat.le_of_eq hk) hb58.lt) _ hx)
            have hk356 := (hb69.grown hg73 (rowne ap355)).grown hg87 nb
            have ap357 : ¬ (· = b55) b89 := fun hx => Nat.not_lt_of_le ((lowb hbe93) _ rfl) ((fun k (hk : k = b55) => Nat.lt_of_le_of_lt (Nat.le_of_eq hk) hk356.lt) _ hx)
            have hk358 := hk356.grown hg91 nb
            have ap359 : ¬ (· = b55) b95 := fun hx => Nat.not_lt_of_le ((lowb hbe99) _ rfl) ((fun k (hk : k = b55) => Nat.lt_of_le_of_lt (Nat.le_of_eq hk) hk358.lt) _ hx)
            have hk360 := (((hk358.grown hg97 nb).grown hg102 (rowne ap357)).grown hg107 (rowne ap359)).grown hg121 nb
            have ap361 : ¬ (· = b55) b123 := fun hx => Nat.not_lt_of_le ((lowb hbe127) _ rfl) ((fun k (hk : k = b55) => Nat.lt_of_le_of_lt (Nat.le_of_eq hk) hk360.lt) _ hx)
            have hk362 := hk360.grown hg125 nb
            have ap363 : ¬ (· = b55) b129 := fun hx => Nat.not_lt_of_le ((lowb hbe133) _ rfl) ((fun k (hk : k = b55) => Nat.lt_of_le_of_lt (Nat.le_of_eq hk) hk362.lt) _ hx)
            have hk364 := (((((((hb69.grown hg73 (rowne ap355)).grown hg270 nb).grown hg102 (rowne ap357)).grown hg107 (rowne ap359)).grown hg275 nb).grown hg136 (rowne ap361)).grown hg141 (rowne ap363)).grown hg345 nb
            have hk365 := hb74.grown hg87 nb
            have ap366 : ¬ (· = b61) b89 := fun hx => Nat.not_lt_of_le ((lowb hbe93) _ rfl) ((fun k (hk : k = b61) => Nat.lt_of_le_of_lt (Nat.le_of_eq hk) hk365.lt) _ hx)
            have hk367 := hk365.grown hg91 nb
            have ap368 : ¬ (· = b61) b95 := fun hx => Nat.not_lt_of_le ((lowb hbe99) _ rfl) ((fun k (hk : k = b61) => Nat.lt_of_le_of_lt (Nat.le_of_eq hk) hk367.lt) _ hx)
            have hk369 := (((hk367.grown hg97 nb).grown hg102 (rowne ap366)).grown hg107 (rowne ap368)).grown hg121 nb
            have ap370 : ¬ (· = b61) b123 := fun hx => Nat.not_lt_of_le ((lowb hbe127) _ rfl) ((fun k (hk : k = b61) => Nat.lt_of_le_of_lt (Nat.le_of_eq hk) hk369.lt) _ hx)
            have hk371 := hk369.grown hg125 nb
            have ap372 : ¬ (· = b61) b129 := fun hx => Nat.not_lt_of_le ((lowb hbe133) _ rfl) ((fun k (hk : k = b61) => Nat.lt_of_le_of_lt (Nat.le_of_eq hk) hk371.lt) _ hx)
            have hk373 := ((((((hb74.grown hg270 nb).grown hg102 (rowne ap366)).grown hg107 (rowne ap368)).grown hg275 nb).grown hg136 (rowne ap370)).grown hg141 (rowne ap372)).grown hg345 nb
            have ap374 : ¬ (· = b89) b95 := fun hx => Nat.not_lt_of_le ((lowb hbe99) _ rfl) ((fun k (hk : k = b89) => Nat.lt_of_le_of_lt (Nat.le_of_eq hk) hb92.lt) _ hx)
            have hk375 := (hb103.grown hg107 (rowne ap374)).grown hg121 nb
            have ap376 : ¬ (· = b89) b123 := fun hx => Nat.not_lt_of_le ((lowb hbe127) _ rfl) ((fun k (hk : k = b89) => Nat.lt_of_le_of_lt (Nat.le_of_eq hk) hk375.lt) _ hx)
            have hk377 := hk375.grown hg125 nb
            have ap378 : ¬ (· = b89) b129 := fun hx => Nat.not_lt_of_le ((lowb hbe133) _ rfl) ((fun k (hk : k = b89) => Nat.lt_of_le_of_lt (Nat.le_of_eq hk) hk377.lt) _ hx)
            have hk379 := ((((hb103.grown hg107 (rowne ap374)).grown hg275 nb).grown hg136 (rowne ap376)).grown hg141 (rowne ap378)).grown hg345 nb
            have hk380 := hb108.grown hg121 nb
            have ap381 : ¬ (· = b95) b123 := fun hx => Nat.not_lt_of_le ((lowb hbe127) _ rfl) ((fun k (hk : k = b95) => Nat.lt_of_le_of_lt (Nat.le_of_eq hk) hk380.lt) _ hx)
            have hk382 := hk380.grown hg125 nb
            have ap383 : ¬ (· = b95) b129 := fun hx => Nat.not_lt_of_le ((lowb hbe133) _ rfl) ((fun k (hk : k = b95) => Nat.lt_of_le_of_lt (Nat.le_of_eq hk) hk382.lt) _ hx)
            have hk384 := (((hb108.grown hg275 nb).grown hg136 (rowne ap381)).grown hg141 (rowne ap383)).grown hg345 nb
            have ap385 : ¬ (· = b123) b129 := fun hx => Nat.not_lt_of_le ((lowb hbe133) _ rfl) ((fun k (hk : k = b123) => Nat.lt_of_le_of_lt (Nat.le_of_eq hk) hb126.lt) _ hx)
            have hk386 := (hb137.grown hg141 (rowne ap385)).grown hg345 nb
            have hk387 := hb142.grown hg345 nb
            exact ⟨hB348, hz349, hk354, hk364, hk373, hk379, hk384, hk386, hk387, hd, hs, ⟨q2, q3, q5, q11, q12, q13, q14, q15, q16, q17, q67, trivial⟩⟩
        · rintro a w261 ⟨hB388, hz389, hb390, hb391, hb392, hb393, hb394, hb395, hb396, hd, hs, hok⟩
          refine (?_ : Run Try.prog _ 221 _ .normal [(2, (.int .u64 n_2)), (3, (.int .u64 m_3)), (5, (.pointer (some ⟨b7, 0, none⟩))), (11, (.int .u64 r50.1)), (12, (.pointer (some ⟨b55, 0, none⟩))), (13, (.pointer (some ⟨b61, 0, none⟩))), (14, (.pointer (some ⟨b89, 0, none⟩))), (15, (.pointer (some ⟨b95, 0, none⟩))), (16, (.pointer (some ⟨b123, 0, none⟩))), (17, (.pointer (some ⟨b129, 0, none⟩))), (67, (.bool j260))] w261) a hd hs hok
          clear hd hs hok
          clear hc259 hg254 hB252 hlo220 hlo217 hk212 ap211 hk210 ap209 hk208 ap206 hk205 ap204 hk203 ap202 hk201 ap200 hk199 ap197 hk196 ap195 hk194 hg149 hb142 hg141 hb137 hg136 hg131 hg68 hg63 hg57 hg53 ap48 hk47 ap46 hk45 hb40 hg39 ap42 hb35 hbe31 hbe25 hb24 hbe5 hb4
          refine gv_cond (b := j260) (by rfl) (fun hc397 => ?_) (fun hc397 => ?_)
          · replace h1 := ite_t hc397 h1
            refine gv_seq ?_
            refine gv_region ?_
            refine gv_pure 1 [8] (σ' := [(8, (.bool false))]) (by kernel_rfl) ?_
            refine gv_nil ?_
            refine gv_cret ?_
            have e := Option.some.inj h1; subst e
            replace h0 := cont_inr h0
            have e := Option.some.inj h0; subst e
            refine gv_ret (gv_done [(.bool false)] rfl ⟨rfl, trivial⟩ ?_)
            exact ⟨grown_of_below hB388, rfl⟩
          · replace h1 := ite_f hc397 h1
            refine gv_skip ?_
            have e := Option.some.inj h1; subst e
            refine gv_goal fun a hd hs hok => ?_
            obtain ⟨q2, q3, q5, q11, q12, q13, q14, q15, q16, q17, q67, _⟩ := hok
            have hz398 : w253.heap.size ≤ w261.heap.size := hz389
            exact ⟨(), rfl, hB388, hz398, hb390, hb391, hb392, hb393, hb394, hb395, hb396, hd, hs, ⟨q2, q3, q5, q11, q12, q13, q14, q15, q16, q17, trivial⟩⟩
      · replace h1 := ite_f hc259 h1
        refine gv_seq ?_
        refine bindE h1 ?_; clear h1; intro j399 h2 h1
        refine gv_cut_code (J := fun a w400 => Below w0.heap.size w0 w400 ∧ w253.heap.size ≤ w400.heap.size ∧ Box w400 b7 27 #[(.int .u64 g_1.1), (.int .u64 g_1.2)] ∧ Box w400 b55 27 #[(.int .u64 r50.2.1.1), (.int .u64 r50.2.1.2)] ∧ Box w400 b61 29 #[(.int .i64 r50.2.2.1), (.int .i64 r50.2.2.2)] ∧ Box w400 b89 27 #[(.int .u64 r84.1.1), (.int .u64 r84.1.2)] ∧ Box w400 b95 29 #[(.int .i64 r84.2.1), (.int .i64 r84.2.2)] ∧ Box w400 b123 27 #[(.int .u64 r118.1.1), (.int .u64 r118.1.2)] ∧ Box w400 b129 29 #[(.int .i64 r118.2.1), (.int .i64 r118.2.2)] ∧ a.defers = [] ∧ a.tmps.size = 221 ∧ Ok [(2, (.int .u64 n_2)), (3, (.int .u64 m_3)), (5, (.pointer (some ⟨b7, 0, none⟩))), (11, (.int .u64 r50.1)), (12, (.pointer (some ⟨b55, 0, none⟩))), (13, (.pointer (some ⟨b61, 0, none⟩))), (14, (.pointer (some ⟨b89, 0, none⟩))), (15, (.pointer (some ⟨b95, 0, none⟩))), (16, (.pointer (some ⟨b123, 0, none⟩))), (17, (.pointer (some ⟨b129, 0, none⟩))), (76, (.bool j399))] a.tmps) ?_ ?_
        · skip
          refine gv_drawA (by kernel_rfl) ?_
          intro w401 hg402
          refine gv_pre [0] #[true, false, false, false, false, false, false, false, false] 8 (by kernel_rfl) (by rfl) ?_
          refine gv_pure 1 [2, 3, 4, 5, 9, 11, 12, 13, 14, 15, 16, 17, 68] (σ' := [(2, (.int .u64 n_2)), (3, (.int .u64 m_3)), (4, (.pointer (some ⟨b1, 0, none⟩))), (5, (.pointer (some ⟨b7, 0, none⟩))), (9, (.pointer (some ⟨b21, 0, none⟩))), (11, (.int .u64 r50.1)), (12, (.pointer (some ⟨b55, 0, none⟩))), (13, (.pointer (some ⟨b61, 0, none⟩))), (14, (.pointer (some ⟨b89, 0, none⟩))), (15, (.pointer (some ⟨b95, 0, none⟩))), (16, (.pointer (some ⟨b123, 0, none⟩))), (17, (.pointer (some ⟨b129, 0, none⟩))), (68, (.pointer (some ⟨b27, 0, none⟩)))]) (by kernel_rfl) ?_
          refine gv_nil ?_
          refine gv_goal fun a hd hs hok => ?_
          refine (?_ : RunA Try.prog _ 221 _ _ 8 #[true, false, false, false, false, false, false, false, false] [(2, (.int .u64 n_2)), (3, (.int .u64 m_3)), (4, (.pointer (some ⟨b1, 0, none⟩))), (5, (.pointer (some ⟨b7, 0, none⟩))), (9, (.pointer (some ⟨b21, 0, none⟩))), (11, (.int .u64 r50.1)), (12, (.pointer (some ⟨b55, 0, none⟩))), (13, (.pointer (some ⟨b61, 0, none⟩))), (14, (.pointer (some ⟨b89, 0, none⟩))), (15, (.pointer (some ⟨b95, 0, none⟩))), (16, (.pointer (some ⟨b123, 0, none⟩))), (17, (.pointer (some ⟨b129, 0, none⟩))), (68, (.pointer (some ⟨b27, 0, none⟩)))] w401) a hd hs hok
          clear hd hs hok
          refine gv_stage (Cls w401 []) [0, 1] [(1, some true)] #[true, true, false, false, false, false, false, false, false] 7 (by kernel_rfl) (by rfl) (Cls.refl _ _) ?_
          have hC403 := Cls.refl w401 []
          have hg404 := (grown_trans (grown_trans hg53 hg57) hg63)
          have hk405 := hb40.grown hg53 nb
          have ap406 : ¬ (· = b27) b55 := fun hx => Nat.not_lt_of_le ((lowb hbe59) _ rfl) ((fun k (hk : k = b27) => Nat.lt_of_le_of_lt (Nat.le_of_eq hk) hk405.lt) _ hx)
          have hk407 := hk405.grown hg57 nb
          have ap408 : ¬ (· = b27) b61 := fun hx => Nat.not_lt_of_le ((lowb hbe65) _ rfl) ((fun k (hk : k = b27) => Nat.lt_of_le_of_lt (Nat.le_of_eq hk) hk407.lt) _ hx)
          have hg409 := (grown_trans (grown_trans hg87 hg91) hg97)
          have hk410 := (((hk407.grown hg63 nb).grown hg68 (rowne ap406)).grown hg73 (rowne ap408)).grown hg87 nb
          have ap411 : ¬ (· = b27) b89 := fun hx => Nat.not_lt_of_le ((lowb hbe93) _ rfl) ((fun k (hk : k = b27) => Nat.lt_of_le_of_lt (Nat.le_of_eq hk) hk410.lt) _ hx)
          have hk412 := hk410.grown hg91 nb
          have ap413 : ¬ (· = b27) b95 := fun hx => Nat.not_lt_of_le ((lowb hbe99) _ rfl) ((fun k (hk : k = b27) => Nat.lt_of_le_of_lt (Nat.le_of_eq hk) hk412.lt) _ hx)
          have hg414 := (grown_trans (grown_trans hg121 hg125) hg131)
          have hk415 := (((hk412.grown hg97 nb).grown hg102 (rowne ap411)).grown hg107 (rowne ap413)).grown hg121 nb
          have ap416 : ¬ (· = b27) b123 := fun hx => Nat.not_lt_of_le ((lowb hbe127) _ rfl) ((fun k (hk : k = b27) => Nat.lt_of_le_of_lt (Nat.le_of_eq hk) hk415.lt) _ hx)
          have hk417 := hk415.grown hg125 nb
          have ap418 : ¬ (· = b27) b129 := fun hx => Nat.not_lt_of_le ((lowb hbe133) _ rfl) ((fun k (hk : k = b27) => Nat.lt_of_le_of_lt (Nat.le_of_eq hk) hk417.lt) _ hx)
          have hg419 := (grown_trans (grown_trans hg149 hg254) hg402)
          have hk420 := (((((((((hb40.grown hg404 nb).grown hg68 (rowne ap406)).grown hg73 (rowne ap408)).grown hg409 nb).grown hg102 (rowne ap411)).grown hg107 (rowne ap413)).grown hg414 nb).grown hg136 (rowne ap416)).grown hg141 (rowne ap418)).grown hg419 nb
          refine gv_load (t := 3) (A := ⟨b27, 0, none⟩) (.int .i64 r14.2.1) [2, 3, 4, 5, 9, 11, 12, 13, 14, 15, 16, 17, 69] (σ' := [(2, (.int .u64 n_2)), (3, (.int .u64 m_3)), (4, (.pointer (some ⟨b1, 0, none⟩))), (5, (.pointer (some ⟨b7, 0, none⟩))), (9, (.pointer (some ⟨b21, 0, none⟩))), (11, (.int .u64 r50.1)), (12, (.pointer (some ⟨b55, 0, none⟩))), (13, (.pointer (some ⟨b61, 0, none⟩))), (14, (.pointer (some ⟨b89, 0, none⟩))), (15, (.pointer (some ⟨b95, 0, none⟩))), (16, (.pointer (some ⟨b123, 0, none⟩))), (17, (.pointer (some ⟨b129, 0, none⟩))), (69, (.int .i64 r14.2.1))]) (fun e => by cases e) (by rfl) (by rfl) (by rfl) (by kernel_rfl) (by kernel_rfl) (by kernel_rfl) (inw1 fun w' hC' => ((hC'.box hk420 nm_nil).cell 0 rfl)) (by kernel_rfl) ?_
          refine gv_nil ?_
          refine gv_goal fun a hd hs hok => ?_
          refine (?_ : RunA Try.prog _ 221 _ _ 7 #[true, true, false, false, false, false, false, false, false] [(2, (.int .u64 n_2)), (3, (.int .u64 m_3)), (4, (.pointer (some ⟨b1, 0, none⟩))), (5, (.pointer (some ⟨b7, 0, none⟩))), (9, (.pointer (some ⟨b21, 0, none⟩))), (11, (.int .u64 r50.1)), (12, (.pointer (some ⟨b55, 0, none⟩))), (13, (.pointer (some ⟨b61, 0, none⟩))), (14, (.pointer (some ⟨b89, 0, none⟩))), (15, (.pointer (some ⟨b95, 0, none⟩))), (16, (.pointer (some ⟨b123, 0, none⟩))), (17, (.pointer (some ⟨b129, 0, none⟩))), (69, (.int .i64 r14.2.1))] w401) a hd hs hok
          clear hd hs hok
          refine gv_pre [2, 3] #[true, true, true, true, false, false, false, false, false] 5 (by kernel_rfl) (by rfl) ?_
          refine gv_pure 2 [2, 3, 4, 5, 9, 11, 12, 13, 14, 15, 16, 17, 71] (σ' := [(2, (.int .u64 n_2)), (3, (.int .u64 m_3)), (4, (.pointer (some ⟨b1, 0, none⟩))), (5, (.pointer (some ⟨b7, 0, none⟩))), (9, (.pointer (some ⟨b21, 0, none⟩))), (11, (.int .u64 r50.1)), (12, (.pointer (some ⟨b55, 0, none⟩))), (13, (.pointer (some ⟨b61, 0, none⟩))), (14, (.pointer (some ⟨b89, 0, none⟩))), (15, (.pointer (some ⟨b95, 0, none⟩))), (16, (.pointer (some ⟨b123, 0, none⟩))), (17, (.pointer (some ⟨b129, 0, none⟩))), (71, (.bool (r14.2.1 != 0)))]) (by kernel_rfl) ?_
          refine gv_nil ?_
          refine gv_goal fun a hd hs hok => ?_
          refine (?_ : RunA Try.prog _ 221 _ _ 5 #[true, true, true, true, false, false, false, false, false] [(2, (.int .u64 n_2)), (3, (.int .u64 m_3)), (4, (.pointer (some ⟨b1, 0, none⟩))), (5, (.pointer (some ⟨b7, 0, none⟩))), (9, (.pointer (some ⟨b21, 0, none⟩))), (11, (.int .u64 r50.1)), (12, (.pointer (some ⟨b55, 0, none⟩))), (13, (.pointer (some ⟨b61, 0, none⟩))), (14, (.pointer (some ⟨b89, 0, none⟩))), (15, (.pointer (some ⟨b95, 0, none⟩))), (16, (.pointer (some ⟨b123, 0, none⟩))), (17, (.pointer (some ⟨b129, 0, none⟩))), (71, (.bool (r14.2.1 != 0)))] w401) a hd hs hok
          clear hd hs hok
          refine gv_stage (Cls w401 []) [0, 1, 2, 3, 4, 5, 6] [(4, some true), (5, some true), (6, some false)] #[true, true, true, true, true, true, true, false, false] 2 (by kernel_rfl) (by rfl) (Cls.refl _ _) ?_
          have hC421 := Cls.refl w401 []
          refine gv_split (s := 71) (g := (r14.2.1 != 0)) (by rfl) (fun hc422 => ?_) (fun hc422 => ?_)
          · skip
            replace h2 := ite_t hc422 h2
            refine gv_pureC hC421 3 [2, 3, 5, 11, 12, 13, 14, 15, 16, 17, 71, 72, 74] (σ' := [(2, (.int .u64 n_2)), (3, (.int .u64 m_3)), (5, (.pointer (some ⟨b7, 0, none⟩))), (11, (.int .u64 r50.1)), (12, (.pointer (some ⟨b55, 0, none⟩))), (13, (.pointer (some ⟨b61, 0, none⟩))), (14, (.pointer (some ⟨b89, 0, none⟩))), (15, (.pointer (some ⟨b95, 0, none⟩))), (16, (.pointer (some ⟨b123, 0, none⟩))), (17, (.pointer (some ⟨b129, 0, none⟩))), (71, (.bool true)), (72, undef), (74, undef)]) (by kernel_rfl) ?_
            refine gv_nil ?_
            refine gv_goal fun a hd hs hok => ?_
            refine (?_ : RunA Try.prog _ 221 _ _ 2 #[true, true, true, true, true, true, true, false, false] [(2, (.int .u64 n_2)), (3, (.int .u64 m_3)), (5, (.pointer (some ⟨b7, 0, none⟩))), (11, (.int .u64 r50.1)), (12, (.pointer (some ⟨b55, 0, none⟩))), (13, (.pointer (some ⟨b61, 0, none⟩))), (14, (.pointer (some ⟨b89, 0, none⟩))), (15, (.pointer (some ⟨b95, 0, none⟩))), (16, (.pointer (some ⟨b123, 0, none⟩))), (17, (.pointer (some ⟨b129, 0, none⟩))), (71, (.bool true)), (72, undef), (74, undef)] w401) a hd hs hok
            clear hd hs hok
            refine gv_pre [7, 8] #[true, true, true, true, true, true, true, true, true] 0 (by kernel_rfl) (by rfl) ?_
            refine gv_pure 2 [2, 3, 5, 11, 12, 13, 14, 15, 16, 17, 76] (σ' := [(2, (.int .u64 n_2)), (3, (.int .u64 m_3)), (5, (.pointer (some ⟨b7, 0, none⟩))), (11, (.int .u64 r50.1)), (12, (.pointer (some ⟨b55, 0, none⟩))), (13, (.pointer (some ⟨b61, 0, none⟩))), (14, (.pointer (some ⟨b89, 0, none⟩))), (15, (.pointer (some ⟨b95, 0, none⟩))), (16, (.pointer (some ⟨b123, 0, none⟩))), (17, (.pointer (some ⟨b129, 0, none⟩))), (76, (.bool true))]) (by kernel_rfl) ?_
            refine gv_nil ?_
            refine gv_goal fun a hd hs hok => ?_
            refine (?_ : RunA Try.prog _ 221 _ _ 0 #[true, true, true, true, true, true, true, true, true] [(2, (.int .u64 n_2)), (3, (.int .u64 m_3)), (5, (.pointer (some ⟨b7, 0, none⟩))), (11, (.int .u64 r50.1)), (12, (.pointer (some ⟨b55, 0, none⟩))), (13, (.pointer (some ⟨b61, 0, none⟩))), (14, (.pointer (some ⟨b89, 0, none⟩))), (15, (.pointer (some ⟨b95, 0, none⟩))), (16, (.pointer (some ⟨b123, 0, none⟩))), (17, (.pointer (some ⟨b129, 0, none⟩))), (76, (.bool true))] w401) a hd hs hok
            clear hd hs hok
            refine gv_stageE (by kernel_rfl) ?_
            have e := Option.some.inj h2; subst e
            refine gv_goal fun a hd hs hok => ?_
            obtain ⟨q2, q3, q5, q11, q12, q13, q14, q15, q16, q17, q76, _⟩ := hok
            have hg423 := (grown_trans hg254 hg402)
            have hB424 := below_grown hB252 hg423 hB252.size nb
            have hz425 : w253.heap.size ≤ w401.heap.size := hg402.size
            have hk426 := hk117.grown hg121 nb
            have ap427 : ¬ (· = b7) b123 := fun hx => Nat.not_lt_of_le ((lowb hbe127) _ rfl) ((fun k (hk : k = b7) => Nat.lt_of_le_of_lt (Nat.le_of_eq hk) hk426.lt) _ hx)
            have hk428 := hk426.grown hg125 nb
            have ap429 : ¬ (· = b7) b129 := fun hx => Nat.not_lt_of_le ((lowb hbe133) _ rfl) ((fun k (hk : k = b7) => Nat.lt_of_le_of_lt (Nat.le_of_eq hk) hk428.lt) _ hx)
            have hk430 := (((hk117.grown hg414 nb).grown hg136 (rowne ap427)).grown hg141 (rowne ap429)).grown hg419 nb
            have ap431 : ¬ (· = b55) b61 := fun hx => Nat.not_lt_of_le ((lowb hbe65) _ rfl) ((fun k (hk : k = b55) => Nat.lt_of_le_of_lt (Nat.le_of_eq hk) hb58.lt) _ hx)
            have hk432 := (hb69.grown hg73 (rowne ap431)).grown hg87 nb
            have ap433 : ¬ (· = b55) b89 := fun hx => Nat.not_lt_of_le ((lowb hbe93) _ rfl) ((fun k (hk : k = b55) => Nat.lt_of_le_of_lt (Nat.le_of_eq hk) hk432.lt) _ hx)
            have hk434 := hk432.grown hg91 nb
            have ap435 : ¬ (· = b55) b95 := fun hx => Nat.not_lt_of_le ((lowb hbe99) _ rfl) ((fun k (hk : k = b55) => Nat.lt_of_le_of_lt (Nat.le_of_eq hk) hk434.lt) _ hx)
            have hk436 := (((hk434.grown hg97 nb).grown hg102 (rowne ap433)).grown hg107 (rowne ap435)).grown hg121 nb
            have ap437 : ¬ (· = b55) b123 := fun hx => Nat.not_lt_of_le ((lowb hbe127) _ rfl) ((fun k (hk : k = b55) => Nat.lt_of_le_of_lt (Nat.le_of_eq hk) hk436.lt) _ hx)
            have hk438 := hk436.grown hg125 nb
            have ap439 : ¬ (· = b55) b129 := fun hx => Nat.not_lt_of_le ((lowb hbe133) _ rfl) ((fun k (hk : k = b55) => Nat.lt_of_le_of_lt (Nat.le_of_eq hk) hk438.lt) _ hx)
            have hk440 := (((((((hb69.grown hg73 (rowne ap431)).grown hg409 nb).grown hg102 (rowne ap433)).grown hg107 (rowne ap435)).grown hg414 nb).grown hg136 (rowne ap437)).grown hg141 (rowne ap439)).grown hg419 nb
            have hk441 := hb74.grown hg87 nb
            have ap442 : ¬ (· = b61) b89 := fun hx => Nat.not_lt_of_le ((lowb hbe93) _ rfl) ((fun k (hk : k = b61) => Nat.lt_of_le_of_lt (Nat.le_of_eq hk) hk441.lt) _ hx)
            have hk443 := hk441.grown hg91 nb
            have ap444 : ¬ (· = b61) b95 := fun hx => Nat.not_lt_of_le ((lowb hbe99) _ rfl) ((fun k (hk : k = b61) => Nat.lt_of_le_of_lt (Nat.le_of_eq hk) hk443.lt) _ hx)
            have hk445 := (((hk443.grown hg97 nb).grown hg102 (rowne ap442)).grown hg107 (rowne ap444)).grown hg121 nb
            have ap446 : ¬ (· = b61) b123 := fun hx => Nat.not_lt_of_le ((lowb hbe127) _ rfl) ((fun k (hk : k = b61) => Nat.lt_of_le_of_lt (Nat.le_of_eq hk) hk445.lt) _ hx)
            have hk447 := hk445.grown hg125 nb
            have ap448 : ¬ (· = b61) b129 := fun hx => Nat.not_lt_of_le ((lowb hbe133) _ rfl) ((fun k (hk : k = b61) => Nat.lt_of_le_of_lt (Nat.le_of_eq hk) hk447.lt) _ hx)
            have hk449 := ((((((hb74.grown hg409 nb).grown hg102 (rowne ap442)).grown hg107 (rowne ap444)).grown hg414 nb).grown hg136 (rowne ap446)).grown hg141 (rowne ap448)).grown hg419 nb
            have ap450 : ¬ (· = b89) b95 := fun hx => Nat.not_lt_of_le ((lowb hbe99) _ rfl) ((fun k (hk : k = b89) => Nat.lt_of_le_of_lt (Nat.le_of_eq hk) hb92.lt) _ hx)
            have hk451 := (hb103.grown hg107 (rowne ap450)).grown hg121 nb
            have ap452 : ¬ (· = b89) b123 := fun hx => Nat.not_lt_of_le ((lowb hbe127) _ rfl) ((fun k (hk : k = b89) => Nat.lt_of_le_of_lt (Nat.le_of_eq hk) hk451.lt) _ hx)
            have hk453 := hk451.grown hg125 nb
            have ap454 : ¬ (· = b89) b129 := fun hx => Nat.not_lt_of_le ((lowb hbe133) _ rfl) ((fun k (hk : k = b89) => Nat.lt_of_le_of_lt (Nat.le_of_eq hk) hk453.lt) _ hx)
            have hk455 := ((((hb103.grown hg107 (rowne ap450)).grown hg414 nb).grown hg136 (rowne ap452)).grown hg141 (rowne ap454)).grown hg419 nb
            have hk456 := hb108.grown hg121 nb
            have ap457 : ¬ (· = b95) b123 := fun hx => Nat.not_lt_of_le ((lowb hbe127) _ rfl) ((fun k (hk : k = b95) => Nat.lt_of_le_of_lt (Nat.le_of_eq hk) hk456.lt) _ hx)
            have hk458 := hk456.grown hg125 nb
            have ap459 : ¬ (· = b95) b129 := fun hx => Nat.not_lt_of_le ((lowb hbe133) _ rfl) ((fun k (hk : k = b95) => Nat.lt_of_le_of_lt (Nat.le_of_eq hk) hk458.lt) _ hx)
            have hk460 := (((hb108.grown hg414 nb).grown hg136 (rowne ap457)).grown hg141 (rowne ap459)).grown hg419 nb
            have ap461 : ¬ (· = b123) b129 := fun hx => Nat.not_lt_of_le ((lowb hbe133) _ rfl) ((fun k (hk : k = b123) => Nat.lt_of_le_of_lt (Nat.le_of_eq hk) hb126.lt) _ hx)
            have hk462 := (hb137.grown hg141 (rowne ap461)).grown hg419 nb
            have hk463 := hb142.grown hg419 nb
            exact ⟨hB424, hz425, hk430, hk440, hk449, hk455, hk460, hk462, hk463, hd, hs, ⟨q2, q3, q5, q11, q12, q13, q14, q15, q16, q17, q76, trivial⟩⟩
          · skip
            replace h2 := ite_f hc422 h2
            have ap464 : ¬ (· = b21) b27 := fun hx => Nat.not_lt_of_le ((lowb hbe31) _ rfl) ((fun k (hk : k = b21) => Nat.lt_of_le_of_lt (Nat.le_of_eq hk) hb24.lt) _ hx)
            have hk465 := (hb35.grown hg39 (rowne ap464)).grown hg53 nb
            have ap466 : ¬ (· = b21) b55 := fun hx => Nat.not_lt_of_le ((lowb hbe59) _ rfl) ((fun k (hk : k = b21) => Nat.lt_of_le_of_lt (Nat.le_of_eq hk) hk465.lt) _ hx)
            have hk467 := hk465.grown hg57 nb
            have ap468 : ¬ (· = b21) b61 := fun hx => Nat.not_lt_of_le ((lowb hbe65) _ rfl) ((fun k (hk : k = b21) => Nat.lt_of_le_of_lt (Nat.le_of_eq hk) hk467.lt) _ hx)
            have hk469 := (((hk467.grown hg63 nb).grown hg68 (rowne ap466)).grown hg73 (rowne ap468)).grown hg87 nb
            have ap470 : ¬ (· = b21) b89 := fun hx => Nat.not_lt_of_le ((lowb hbe93) _ rfl) ((fun k (hk : k = b21) => Nat.lt_of_le_of_lt (Nat.le_of_eq hk) hk469.lt) _ hx)
            have hk471 := hk469.grown hg91 nb
            have ap472 : ¬ (· = b21) b95 := fun hx => Nat.not_lt_of_le ((lowb hbe99) _ rfl) ((fun k (hk : k = b21) => Nat.lt_of_le_of_lt (Nat.le_of_eq hk) hk471.lt) _ hx)
            have hk473 := (((hk471.grown hg97 nb).grown hg102 (rowne ap470)).grown hg107 (rowne ap472)).grown hg121 nb
            have ap474 : ¬ (· = b21) b123 := fun hx => Nat.not_lt_of_le ((lowb hbe127) _ rfl) ((fun k (hk : k = b21) => Nat.lt_of_le_of_lt (Nat.le_of_eq hk) hk473.lt) _ hx)
            have hk475 := hk473.grown hg125 nb
            have ap476 : ¬ (· = b21) b129 := fun hx => Nat.not_lt_of_le ((lowb hbe133) _ rfl) ((fun k (hk : k = b21) => Nat.lt_of_le_of_lt (Nat.le_of_eq hk) hk475.lt) _ hx)
            have hk477 := ((((((((((hb35.grown hg39 (rowne ap464)).grown hg404 nb).grown hg68 (rowne ap466)).grown hg73 (rowne ap468)).grown hg409 nb).grown hg102 (rowne ap470)).grown hg107 (rowne ap472)).grown hg414 nb).grown hg136 (rowne ap474)).grown hg141 (rowne ap476)).grown hg419 nb
            refine gv_sub [2, 3, 4, 5, 9, 11, 12, 13, 14, 15, 16, 17, 71] (σ' := [(2, (.int .u64 n_2)), (3, (.int .u64 m_3)), (4, (.pointer (some ⟨b1, 0, none⟩))), (5, (.pointer (some ⟨b7, 0, none⟩))), (9, (.pointer (some ⟨b21, 0, none⟩))), (11, (.int .u64 r50.1)), (12, (.pointer (some ⟨b55, 0, none⟩))), (13, (.pointer (some ⟨b61, 0, none⟩))), (14, (.pointer (some ⟨b89, 0, none⟩))), (15, (.pointer (some ⟨b95, 0, none⟩))), (16, (.pointer (some ⟨b123, 0, none⟩))), (17, (.pointer (some ⟨b129, 0, none⟩))), (71, (.bool false))]) (by kernel_rfl) ?_
            refine gv_loadBox (t := 27) (b := b21) (t' := 27) (fr := (0, 0)) #[(.int .u64 r14.1.1), (.int .u64 r14.1.2)] [2, 3, 4, 5, 11, 12, 13, 14, 15, 16, 17, 71, 72] (σ' := [(2, (.int .u64 n_2)), (3, (.int .u64 m_3)), (4, (.pointer (some ⟨b1, 0, none⟩))), (5, (.pointer (some ⟨b7, 0, none⟩))), (11, (.int .u64 r50.1)), (12, (.pointer (some ⟨b55, 0, none⟩))), (13, (.pointer (some ⟨b61, 0, none⟩))), (14, (.pointer (some ⟨b89, 0, none⟩))), (15, (.pointer (some ⟨b95, 0, none⟩))), (16, (.pointer (some ⟨b123, 0, none⟩))), (17, (.pointer (some ⟨b129, 0, none⟩))), (71, (.bool false)), (72, (.agg #[(.int .u64 r14.1.1), (.int .u64 r14.1.2)]))]) (fun e => by cases e) (by rfl) (by rfl) (by rfl) (by kernel_rfl) (by kernel_rfl) (by kernel_rfl) (by kernel_rfl) (inw1 fun w' hC' => (hC'.box hk477 nm_nil)) (by kernel_rfl) ?_
            have hg478 := (grown_trans hg254 hg402)
            have hk479 := hk212.grown hg478 nb
            refine gv_loadBox (t := 24) (b := b1) (t' := 24) (fr := (0, 0)) #[(.bool seed_0.1), (.slice pa0_0 (List.length seed_0.2) pc0_0)] [2, 3, 5, 11, 12, 13, 14, 15, 16, 17, 71, 72, 73] (σ' := [(2, (.int .u64 n_2)), (3, (.int .u64 m_3)), (5, (.pointer (some ⟨b7, 0, none⟩))), (11, (.int .u64 r50.1)), (12, (.pointer (some ⟨b55, 0, none⟩))), (13, (.pointer (some ⟨b61, 0, none⟩))), (14, (.pointer (some ⟨b89, 0, none⟩))), (15, (.pointer (some ⟨b95, 0, none⟩))), (16, (.pointer (some ⟨b123, 0, none⟩))), (17, (.pointer (some ⟨b129, 0, none⟩))), (71, (.bool false)), (72, (.agg #[(.int .u64 r14.1.1), (.int .u64 r14.1.2)])), (73, (.agg #[(.bool seed_0.1), (.slice pa0_0 (List.length seed_0.2) pc0_0)]))]) (fun e => by cases e) (by rfl) (by rfl) (by rfl) (by kernel_rfl) (by kernel_rfl) (by kernel_rfl) (by kernel_rfl) (inw1 fun w' hC' => (hC'.box hk479 nm_nil)) (by kernel_rfl) ?_
            refine bindE h2 ?_; clear h2; intro r480 hr481 h2
            have hB482 := below_grown hB252 hg478 hB252.size nb
            refine gv_call (f := 14) (vs := [(.agg #[(.bool seed_0.1), (.slice pa0_0 (List.length seed_0.2) pc0_0)])]) (cap := []) _ (by decide) (by rfl) (by rfl) rfl (by rfl) (by rfl) enters14 (ref4_Seeded_ok fuel pa0_0 pc0_0 (seed_0.1, seed_0.2) w401 (fun k => X0 k) (fun k hk => (fun k (hk : X0 k) => Nat.lt_of_lt_of_le (hX0 k hk) hB482.size) k hk) ((hpa0_0.below hB482 hX0).wide (fun k hk => hk)) r480 hr481) ?_
            rintro v485 w483 ⟨hg484, rfl⟩
            refine ⟨(fun _ => hC421.grown hg484 nb), ?_⟩
            refine gv_sub [2, 3, 5, 11, 12, 13, 14, 15, 16, 17, 71, 72, 74] (σ' := [(2, (.int .u64 n_2)), (3, (.int .u64 m_3)), (5, (.pointer (some ⟨b7, 0, none⟩))), (11, (.int .u64 r50.1)), (12, (.pointer (some ⟨b55, 0, none⟩))), (13, (.pointer (some ⟨b61, 0, none⟩))), (14, (.pointer (some ⟨b89, 0, none⟩))), (15, (.pointer (some ⟨b95, 0, none⟩))), (16, (.pointer (some ⟨b123, 0, none⟩))), (17, (.pointer (some ⟨b129, 0, none⟩))), (71, (.bool false)), (72, (.agg #[(.int .u64 r14.1.1), (.int .u64 r14.1.2)])), (74, (.agg #[(.int .u64 r480.1), (.int .u64 r480.2)]))]) (by kernel_rfl) ?_
            refine gv_nil ?_
            refine gv_goal fun a hd hs hok => ?_
            refine (?_ : RunA Try.prog _ 221 _ _ 2 #[true, true, true, true, true, true, true, false, false] [(2, (.int .u64 n_2)), (3, (.int .u64 m_3)), (5, (.pointer (some ⟨b7, 0, none⟩))), (11, (.int .u64 r50.1)), (12, (.pointer (some ⟨b55, 0, none⟩))), (13, (.pointer (some ⟨b61, 0, none⟩))), (14, (.pointer (some ⟨b89, 0, none⟩))), (15, (.pointer (some ⟨b95, 0, none⟩))), (16, (.pointer (some ⟨b123, 0, none⟩))), (17, (.pointer (some ⟨b129, 0, none⟩))), (71, (.bool false)), (72, (.agg #[(.int .u64 r14.1.1), (.int .u64 r14.1.2)])), (74, (.agg #[(.int .u64 r480.1), (.int .u64 r480.2)]))] w483) a hd hs hok
            clear hd hs hok
            refine gv_pre [7, 8] #[true, true, true, true, true, true, true, true, true] 0 (by kernel_rfl) (by rfl) ?_
            refine gv_eqs (t := 27) (op := .neq) (x := (.tmp 72)) (y := (.tmp 74)) (xs := #[(.int .u64 r14.1.1), (.int .u64 r14.1.2)]) (ys := #[(.int .u64 r480.1), (.int .u64 r480.2)]) (!((r14.1.1 == r480.1) && (r14.1.2 == r480.2))) [2, 3, 5, 11, 12, 13, 14, 15, 16, 17, 71, 75] (σ' := [(2, (.int .u64 n_2)), (3, (.int .u64 m_3)), (5, (.pointer (some ⟨b7, 0, none⟩))), (11, (.int .u64 r50.1)), (12, (.pointer (some ⟨b55, 0, none⟩))), (13, (.pointer (some ⟨b61, 0, none⟩))), (14, (.pointer (some ⟨b89, 0, none⟩))), (15, (.pointer (some ⟨b95, 0, none⟩))), (16, (.pointer (some ⟨b123, 0, none⟩))), (17, (.pointer (some ⟨b129, 0, none⟩))), (71, (.bool false)), (75, (.bool (!((r14.1.1 == r480.1) && (r14.1.2 == r480.2)))))]) (fun e => by cases e) (by rfl) (by rfl) (by rfl) (by kernel_rfl) (by kernel_rfl) (fun w' => eqs27neq r14.1.1 r14.1.2 r480.1 r480.2 _ _ w') (by kernel_rfl) ?_
            refine gv_pure 1 [2, 3, 5, 11, 12, 13, 14, 15, 16, 17, 76] (σ' := [(2, (.int .u64 n_2)), (3, (.int .u64 m_3)), (5, (.pointer (some ⟨b7, 0, none⟩))), (11, (.int .u64 r50.1)), (12, (.pointer (some ⟨b55, 0, none⟩))), (13, (.pointer (some ⟨b61, 0, none⟩))), (14, (.pointer (some ⟨b89, 0, none⟩))), (15, (.pointer (some ⟨b95, 0, none⟩))), (16, (.pointer (some ⟨b123, 0, none⟩))), (17, (.pointer (some ⟨b129, 0, none⟩))), (76, (.bool (!((r14.1.1 == r480.1) && (r14.1.2 == r480.2)))))]) (by kernel_rfl) ?_
            refine gv_nil ?_
            refine gv_goal fun a hd hs hok => ?_
            refine (?_ : RunA Try.prog _ 221 _ _ 0 #[true, true, true, true, true, true, true, true, true] [(2, (.int .u64 n_2)), (3, (.int .u64 m_3)), (5, (.pointer (some ⟨b7, 0, none⟩))), (11, (.int .u64 r50.1)), (12, (.pointer (some ⟨b55, 0, none⟩))), (13, (.pointer (some ⟨b61, 0, none⟩))), (14, (.pointer (some ⟨b89, 0, none⟩))), (15, (.pointer (some ⟨b95, 0, none⟩))), (16, (.pointer (some ⟨b123, 0, none⟩))), (17, (.pointer (some ⟨b129, 0, none⟩))), (76, (.bool (!((r14.1.1 == r480.1) && (r14.1.2 == r480.2)))))] w483) a hd hs hok
            clear hd hs hok
            refine gv_stageE (by kernel_rfl) ?_
            have e := Option.some.inj h2; subst e
            refine gv_goal fun a hd hs hok => ?_
            obtain ⟨q2, q3, q5, q11, q12, q13, q14, q15, q16, q17, q76, _⟩ := hok
            have hB486 := below_grown hB482 hg484 hB482.size nb
            have hz487 : w253.heap.size ≤ w483.heap.size := (Nat.le_trans hg402.size hg484.size)
            have hk488 := hk117.grown hg121 nb
            have ap489 : ¬ (· = b7) b123 := fun hx => Nat.not_lt_of_le ((lowb hbe127) _ rfl) ((fun k (hk : k = b7) => Nat.lt_of_le_of_lt (Nat.le_of_eq hk) hk488.lt) _ hx)
            have hk490 := hk488.grown hg125 nb
            have ap491 : ¬ (· = b7) b129 := fun hx => Nat.not_lt_of_le ((lowb hbe133) _ rfl) ((fun k (hk : k = b7) => Nat.lt_of_le_of_lt (Nat.le_of_eq hk) hk490.lt) _ hx)
            have hg492 := (grown_trans hg419 hg484)
            have hk493 := (((hk117.grown hg414 nb).grown hg136 (rowne ap489)).grown hg141 (rowne ap491)).grown hg492 nb
            have ap494 : ¬ (· = b55) b61 := fun hx => Nat.not_lt_of_le ((lowb hbe65) _ rfl) ((fun k (hk : k = b55) => Nat.lt_of_le_of_lt (Nat.le_of_eq hk) hb58.lt) _ hx)
            have hk495 := (hb69.grown hg73 (rowne ap494)).grown hg87 nb
            have ap496 : ¬ (· = b55) b89 := fun hx => Nat.not_lt_of_le ((lowb hbe93) _ rfl) ((fun k (hk : k = b55) => Nat.lt_of_le_of_lt (Nat.le_of_eq hk) hk495.lt) _ hx)
            have hk497 := hk495.grown hg91 nb
            have ap498 : ¬ (· = b55) b95 := fun hx => Nat.not_lt_of_le ((lowb hbe99) _ rfl) ((fun k (hk : k = b55) => Nat.lt_of_le_of_lt (Nat.le_of_eq hk) hk497.lt) _ hx)
            have hk499 := (((hk497.grown hg97 nb).grown hg102 (rowne ap496)).grown hg107 (rowne ap498)).grown hg121 nb
            have ap500 : ¬ (· = b55) b123 := fun hx => Nat.not_lt_of_le ((lowb hbe127) _ rfl) ((fun k (hk : k = b55) => Nat.lt_of_le_of_lt (Nat.le_of_eq hk) hk499.lt) _ hx)
            have hk501 := hk499.grown hg125 nb
            have ap502 : ¬ (· = b55) b129 := fun hx => Nat.not_lt_of_le ((lowb hbe133) _ rfl) ((fun k (hk : k = b55) => Nat.lt_of_le_of_lt (Nat.le_of_eq hk) hk501.lt) _ hx)
            have hk503 := (((((((hb69.grown hg73 (rowne ap494)).grown hg409 nb).grown hg102 (rowne ap496)).grown hg107 (rowne ap498)).grown hg414 nb).grown hg136 (rowne ap500)).grown hg141 (rowne ap502)).grown hg492 nb
            have hk504 := hb74.grown hg87 nb
            have ap505 : ¬ (· = b61) b89 := fun hx => Nat.not_lt_of_le ((lowb hbe93) _ rfl) ((fun k (hk : k = b61) => Nat.lt_of_le_of_lt (Nat.le_of_eq hk) hk504.lt) _ hx)
            have hk506 := hk504.grown hg91 nb
            have ap507 : ¬ (· = b61) b95 := fun hx => Nat.not_lt_of_le ((lowb hbe99) _ rfl) ((fun k (hk : k = b61) => Nat.lt_of_le_of_lt (Nat.le_of_eq hk) hk506.lt) _ hx)
            have hk508 := (((hk506.grown hg97 nb).grown hg102 (rowne ap505)).grown hg107 (rowne ap507)).grown hg121 nb
            have ap509 : ¬ (· = b61) b123 := fun hx => Nat.not_lt_of_le ((lowb hbe127) _ rfl) ((fun k (hk : k = b61) => Nat.lt_of_le_of_lt (Nat.le_of_eq hk) hk508.lt) _ hx)
            have hk510 := hk508.grown hg125 nb
            have ap511 : ¬ (· = b61) b129 := fun hx => Nat.not_lt_of_le ((lowb hbe133) _ rfl) ((fun k (hk : k = b61) => Nat.lt_of_le_of_lt (Nat.le_of_eq hk) hk510.lt) _ hx)
            have hk512 := ((((((hb74.grown hg409 nb).grown hg102 (rowne ap505)).grown hg107 (rowne ap507)).grown hg414 nb).grown hg136 (rowne ap509)).grown hg141 (rowne ap511)).grown hg492 nb
            have ap513 : ¬ (· = b89) b95 := fun hx => Nat.not_lt_of_le ((lowb hbe99) _ rfl) ((fun k (hk : k = b89) => Nat.lt_of_le_of_lt (Nat.le_of_eq hk) hb92.lt) _ hx)
            have hk514 := (hb103.grown hg107 (rowne ap513)).grown hg121 nb
            have ap515 : ¬ (· = b89) b123 := fun hx => Nat.not_lt_of_le ((lowb hbe127) _ rfl) ((fun k (hk : k = b89) => Nat.lt_of_le_of_lt (Nat.le_of_eq hk) hk514.lt) _ hx)
            have hk516 := hk514.grown hg125 nb
            have ap517 : ¬ (· = b89) b129 := fun hx => Nat.not_lt_of_le ((lowb hbe133) _ rfl) ((fun k (hk : k = b89) => Nat.lt_of_le_of_lt (Nat.le_of_eq hk) hk516.lt) _ hx)
            have hk518 := ((((hb103.grown hg107 (rowne ap513)).grown hg414 nb).grown hg136 (rowne ap515)).grown hg141 (rowne ap517)).grown hg492 nb
            have hk519 := hb108.grown hg121 nb
            have ap520 : ¬ (· = b95) b123 := fun hx => Nat.not_lt_of_le ((lowb hbe127) _ rfl) ((fun k (hk : k = b95) => Nat.lt_of_le_of_lt (Nat.le_of_eq hk) hk519.lt) _ hx)
            have hk521 := hk519.grown hg125 nb
            have ap522 : ¬ (· = b95) b129 := fun hx => Nat.not_lt_of_le ((lowb hbe133) _ rfl) ((fun k (hk : k = b95) => Nat.lt_of_le_of_lt (Nat.le_of_eq hk) hk521.lt) _ hx)
            have hk523 := (((hb108.grown hg414 nb).grown hg136 (rowne ap520)).grown hg141 (rowne ap522)).grown hg492 nb
            have ap524 : ¬ (· = b123) b129 := fun hx => Nat.not_lt_of_le ((lowb hbe133) _ rfl) ((fun k (hk : k = b123) => Nat.lt_of_le_of_lt (Nat.le_of_eq hk) hb126.lt) _ hx)
            have hk525 := (hb137.grown hg141 (rowne ap524)).grown hg492 nb
            have hk526 := hb142.grown hg492 nb
            exact ⟨hB486, hz487, hk493, hk503, hk512, hk518, hk523, hk525, hk526, hd, hs, ⟨q2, q3, q5, q11, q12, q13, q14, q15, q16, q17, q76, trivial⟩⟩
        · rintro a w400 ⟨hB527, hz528, hb529, hb530, hb531, hb532, hb533, hb534, hb535, hd, hs, hok⟩
          refine (?_ : Run Try.prog _ 221 _ .normal [(2, (.int .u64 n_2)), (3, (.int .u64 m_3)), (5, (.pointer (some ⟨b7, 0, none⟩))), (11, (.int .u64 r50.1)), (12, (.pointer (some ⟨b55, 0, none⟩))), (13, (.pointer (some ⟨b61, 0, none⟩))), (14, (.pointer (some ⟨b89, 0, none⟩))), (15, (.pointer (some ⟨b95, 0, none⟩))), (16, (.pointer (some ⟨b123, 0, none⟩))), (17, (.pointer (some ⟨b129, 0, none⟩))), (76, (.bool j399))] w400) a hd hs hok
          clear hd hs hok
          clear hc259 hg254 hB252 hlo220 hlo217 hk212 ap211 hk210 ap209 hk208 ap206 hk205 ap204 hk203 ap202 hk201 ap200 hk199 ap197 hk196 ap195 hk194 hg149 hb142 hg141 hb137 hg136 hg131 hg68 hg63 hg57 hg53 ap48 hk47 ap46 hk45 hb40 hg39 ap42 hb35 hbe31 hbe25 hb24 hbe5 hb4
          refine gv_cond (b := j399) (by rfl) (fun hc536 => ?_) (fun hc536 => ?_)
          · replace h1 := ite_t hc536 h1
            refine gv_seq ?_
            refine gv_region ?_
            refine gv_pure 1 [8] (σ' := [(8, (.bool false))]) (by kernel_rfl) ?_
            refine gv_nil ?_
            refine gv_cret ?_
            have e := Option.some.inj h1; subst e
            replace h0 := cont_inr h0
            have e := Option.some.inj h0; subst e
            refine gv_ret (gv_done [(.bool false)] rfl ⟨rfl, trivial⟩ ?_)
            exact ⟨grown_of_below hB527, rfl⟩
          · replace h1 := ite_f hc536 h1
            refine gv_skip ?_
            have e := Option.some.inj h1; subst e
            refine gv_goal fun a hd hs hok => ?_
            obtain ⟨q2, q3, q5, q11, q12, q13, q14, q15, q16, q17, q76, _⟩ := hok
            have hz537 : w253.heap.size ≤ w400.heap.size := hz528
            exact ⟨(), rfl, hB527, hz537, hb529, hb530, hb531, hb532, hb533, hb534, hb535, hd, hs, ⟨q2, q3, q5, q11, q12, q13, q14, q15, q16, q17, trivial⟩⟩
    · rintro a w258 ⟨s257, e, hB538, hz539, hb540, hb541, hb542, hb543, hb544, hb545, hb546, hd, hs, hok⟩
      subst e
      refine (?_ : Run Try.prog _ 221 _ .normal [(2, (.int .u64 n_2)), (3, (.int .u64 m_3)), (5, (.pointer (some ⟨b7, 0, none⟩))), (11, (.int .u64 r50.1)), (12, (.pointer (some ⟨b55, 0, none⟩))), (13, (.pointer (some ⟨b61, 0, none⟩))), (14, (.pointer (some ⟨b89, 0, none⟩))), (15, (.pointer (some ⟨b95, 0, none⟩))), (16, (.pointer (some ⟨b123, 0, none⟩))), (17, (.pointer (some ⟨b129, 0, none⟩)))] w258) a hd hs hok
      clear hd hs hok
      replace h0 := cont_inl h0
      clear hz539 hg254 hB252 hlo220 hlo217 hk212 ap211 hk210 ap209 hk208 ap206 hk205 ap204 hk203 ap202 hk201 ap200 hk199 ap197 hk196 ap195 hk194 hg149 hb142 hg141 hb137 hg136 hg131 hg68 hg63 hg57 hg53 ap48 hk47 ap46 hk45 hb40 hg39 ap42 hb35 hbe31 hbe25 hb24 hbe5 hb4
      refine gv_seq ?_
      refine gv_seq ?_
      refine gv_region ?_
      refine gv_pure 1 [2, 3, 5, 11, 12, 13, 14, 15, 16, 17, 77] (σ' := [(2, (.int .u64 n_2)), (3, (.int .u64 m_3)), (5, (.pointer (some ⟨b7, 0, none⟩))), (11, (.int .u64 r50.1)), (12, (.pointer (some ⟨b55, 0, none⟩))), (13, (.pointer (some ⟨b61, 0, none⟩))), (14, (.pointer (some ⟨b89, 0, none⟩))), (15, (.pointer (some ⟨b95, 0, none⟩))), (16, (.pointer (some ⟨b123, 0, none⟩))), (17, (.pointer (some ⟨b129, 0, none⟩))), (77, (.pointer (some ⟨b7, 1, none⟩)))]) (by kernel_rfl) ?_
      refine gv_load (t := 25) (A := ⟨b7, 1, none⟩) (.int .u64 g_1.2) [2, 3, 5, 11, 12, 13, 14, 15, 16, 17, 78] (σ' := [(2, (.int .u64 n_2)), (3, (.int .u64 m_3)), (5, (.pointer (some ⟨b7, 0, none⟩))), (11, (.int .u64 r50.1)), (12, (.pointer (some ⟨b55, 0, none⟩))), (13, (.pointer (some ⟨b61, 0, none⟩))), (14, (.pointer (some ⟨b89, 0, none⟩))), (15, (.pointer (some ⟨b95, 0, none⟩))), (16, (.pointer (some ⟨b123, 0, none⟩))), (17, (.pointer (some ⟨b129, 0, none⟩))), (78, (.int .u64 g_1.2))]) (fun e => by cases e) (by rfl) (by rfl) (by rfl) (by kernel_rfl) (by kernel_rfl) (by kernel_rfl) (inw0 (hb540.cell 1 rfl)) (by kernel_rfl) ?_
      refine gv_pure 2 [2, 3, 5, 11, 12, 13, 14, 15, 16, 17, 80] (σ' := [(2, (.int .u64 n_2)), (3, (.int .u64 m_3)), (5, (.pointer (some ⟨b7, 0, none⟩))), (11, (.int .u64 r50.1)), (12, (.pointer (some ⟨b55, 0, none⟩))), (13, (.pointer (some ⟨b61, 0, none⟩))), (14, (.pointer (some ⟨b89, 0, none⟩))), (15, (.pointer (some ⟨b95, 0, none⟩))), (16, (.pointer (some ⟨b123, 0, none⟩))), (17, (.pointer (some ⟨b129, 0, none⟩))), (80, (.bool (((g_1.2).tmod 2) == 0)))]) (by kernel_rfl) ?_
      refine gv_nil ?_
      refine gv_cond (b := (((g_1.2).tmod 2) == 0)) (by rfl) (fun hc547 => ?_) (fun hc547 => ?_)
      · replace h0 := ite_t hc547 h0
        refine gv_seq ?_
        refine gv_region ?_
        refine bindE h0 ?_; clear h0; intro r548 hr549 h0
        refine gv_call (f := 13) (vs := [(.int .i64 6), (.int .i64 (-1))]) (cap := []) _ (by decide) (by rfl) (by rfl) rfl (by rfl) (by rfl) enters13 (ref4_At_ok fuel 6 (-1) w258  r548 hr549) ?_
        rintro v552 w550 ⟨hg551, rfl⟩
        refine ⟨(fun e => by cases e), ?_⟩
        refine gv_sub [11, 12, 13, 14, 15, 16, 17, 81] (σ' := [(11, (.int .u64 r50.1)), (12, (.pointer (some ⟨b55, 0, none⟩))), (13, (.pointer (some ⟨b61, 0, none⟩))), (14, (.pointer (some ⟨b89, 0, none⟩))), (15, (.pointer (some ⟨b95, 0, none⟩))), (16, (.pointer (some ⟨b123, 0, none⟩))), (17, (.pointer (some ⟨b129, 0, none⟩))), (81, (.agg #[(.int .i64 r548.1), (.int .i64 r548.2)]))]) (by kernel_rfl) ?_
        refine gv_new (fun b => .pointer (some ⟨b, 0, none⟩)) #[(.int .i64 0), (.int .i64 0)] 29 (by decide) (by rfl) (by rfl) (by kernel_rfl) (by kernel_rfl) ?_
        intro b553 w554 hg555 hb556 hbe557 hz558
        refine ⟨(fun e => by cases e), ?_⟩
        refine gv_sub [11, 12, 13, 14, 15, 16, 17, 18, 81] (σ' := [(11, (.int .u64 r50.1)), (12, (.pointer (some ⟨b55, 0, none⟩))), (13, (.pointer (some ⟨b61, 0, none⟩))), (14, (.pointer (some ⟨b89, 0, none⟩))), (15, (.pointer (some ⟨b95, 0, none⟩))), (16, (.pointer (some ⟨b123, 0, none⟩))), (17, (.pointer (some ⟨b129, 0, none⟩))), (18, (.pointer (some ⟨b553, 0, none⟩))), (81, (.agg #[(.int .i64 r548.1), (.int .i64 r548.2)]))]) (by kernel_rfl) ?_
        refine gv_store (t := 29) (b := b553) (off := 0) (v := (.agg #[(.int .i64 r548.1), (.int .i64 r548.2)])) (t' := 29) (cs := #[(.int .i64 0), (.int .i64 0)]) #[(.int .i64 r548.1), (.int .i64 r548.2)] (by decide) (by rfl) (by rfl) (by kernel_rfl) (by kernel_rfl) (by kernel_rfl) (by intro u hu; simp [Value.cells] at hu; rcases hu with rfl | rfl <;> rfl) (show 0 + 2 ≤ 2 by decide) (by rfl) hb556 ?_
        intro w559 hg560 hb561 hz562
        refine ⟨(fun e => by cases e), ?_⟩
        refine gv_sub [11, 12, 13, 14, 15, 16, 17, 18] (σ' := [(11, (.int .u64 r50.1)), (12, (.pointer (some ⟨b55, 0, none⟩))), (13, (.pointer (some ⟨b61, 0, none⟩))), (14, (.pointer (some ⟨b89, 0, none⟩))), (15, (.pointer (some ⟨b95, 0, none⟩))), (16, (.pointer (some ⟨b123, 0, none⟩))), (17, (.pointer (some ⟨b129, 0, none⟩))), (18, (.pointer (some ⟨b553, 0, none⟩)))]) (by kernel_rfl) ?_
        refine gv_nil ?_
        refine gv_seq ?_
        refine gv_region ?_
        refine bindE h0 ?_; clear h0; intro j563 h1 h0
        refine gv_cut_ops (J := fun a w564 => Below w0.heap.size w0 w564 ∧ w559.heap.size ≤ w564.heap.size ∧ a.defers = [] ∧ a.tmps.size = 221 ∧ Ok [(8, (.bool j563))] a.tmps) ?_ ?_
        · skip
          have hg565 := (grown_trans hg551 hg555)
          have hk566 := hb542.grown hg551 nb
          have ap567 : ¬ (· = b61) b553 := fun hx => Nat.not_lt_of_le ((lowb hbe557) _ rfl) ((fun k (hk : k = b61) => Nat.lt_of_le_of_lt (Nat.le_of_eq hk) hk566.lt) _ hx)
          have hk568 := (hb542.grown hg565 nb).grown hg560 (rowne ap567)
          refine gv_loadBox (t := 29) (b := b61) (t' := 29) (fr := (0, 0)) #[(.int .i64 r50.2.2.1), (.int .i64 r50.2.2.2)] [11, 12, 14, 15, 16, 17, 18, 82] (σ' := [(11, (.int .u64 r50.1)), (12, (.pointer (some ⟨b55, 0, none⟩))), (14, (.pointer (some ⟨b89, 0, none⟩))), (15, (.pointer (some ⟨b95, 0, none⟩))), (16, (.pointer (some ⟨b123, 0, none⟩))), (17, (.pointer (some ⟨b129, 0, none⟩))), (18, (.pointer (some ⟨b553, 0, none⟩))), (82, (.agg #[(.int .i64 r50.2.2.1), (.int .i64 r50.2.2.2)]))]) (fun e => by cases e) (by rfl) (by rfl) (by rfl) (by kernel_rfl) (by kernel_rfl) (by kernel_rfl) (by kernel_rfl) (inw0 hk568) (by kernel_rfl) ?_
          refine gv_loadBox (t := 29) (b := b553) (t' := 29) (fr := (0, 0)) #[(.int .i64 r548.1), (.int .i64 r548.2)] [11, 12, 14, 15, 16, 17, 18, 82, 83] (σ' := [(11, (.int .u64 r50.1)), (12, (.pointer (some ⟨b55, 0, none⟩))), (14, (.pointer (some ⟨b89, 0, none⟩))), (15, (.pointer (some ⟨b95, 0, none⟩))), (16, (.pointer (some ⟨b123, 0, none⟩))), (17, (.pointer (some ⟨b129, 0, none⟩))), (18, (.pointer (some ⟨b553, 0, none⟩))), (82, (.agg #[(.int .i64 r50.2.2.1), (.int .i64 r50.2.2.2)])), (83, (.agg #[(.int .i64 r548.1), (.int .i64 r548.2)]))]) (fun e => by cases e) (by rfl) (by rfl) (by rfl) (by kernel_rfl) (by kernel_rfl) (by kernel_rfl) (by kernel_rfl) (inw0 hb561) (by kernel_rfl) ?_
          refine gv_eqs (t := 29) (op := .eql) (x := (.tmp 82)) (y := (.tmp 83)) (xs := #[(.int .i64 r50.2.2.1), (.int .i64 r50.2.2.2)]) (ys := #[(.int .i64 r548.1), (.int .i64 r548.2)]) ((r50.2.2.1 == r548.1) && (r50.2.2.2 == r548.2)) [11, 12, 14, 15, 16, 17, 18, 84] (σ' := [(11, (.int .u64 r50.1)), (12, (.pointer (some ⟨b55, 0, none⟩))), (14, (.pointer (some ⟨b89, 0, none⟩))), (15, (.pointer (some ⟨b95, 0, none⟩))), (16, (.pointer (some ⟨b123, 0, none⟩))), (17, (.pointer (some ⟨b129, 0, none⟩))), (18, (.pointer (some ⟨b553, 0, none⟩))), (84, (.bool ((r50.2.2.1 == r548.1) && (r50.2.2.2 == r548.2))))]) (fun e => by cases e) (by rfl) (by rfl) (by rfl) (by kernel_rfl) (by kernel_rfl) (fun w' => eqs29eql r50.2.2.1 r50.2.2.2 r548.1 r548.2 _ _ w') (by kernel_rfl) ?_
          refine gv_pure 1 [11, 12, 14, 15, 16, 17, 18, 85] (σ' := [(11, (.int .u64 r50.1)), (12, (.pointer (some ⟨b55, 0, none⟩))), (14, (.pointer (some ⟨b89, 0, none⟩))), (15, (.pointer (some ⟨b95, 0, none⟩))), (16, (.pointer (some ⟨b123, 0, none⟩))), (17, (.pointer (some ⟨b129, 0, none⟩))), (18, (.pointer (some ⟨b553, 0, none⟩))), (85, (.bool ((r50.2.2.1 == r548.1) && (r50.2.2.2 == r548.2))))]) (by kernel_rfl) ?_
          refine gv_split (s := 85) (g := ((r50.2.2.1 == r548.1) && (r50.2.2.2 == r548.2))) (by rfl) (fun hc569 => ?_) (fun hc569 => ?_)
          · skip
            replace h1 := ite_t hc569 h1
            have hk570 := hb544.grown hg551 nb
            have ap571 : ¬ (· = b95) b553 := fun hx => Nat.not_lt_of_le ((lowb hbe557) _ rfl) ((fun k (hk : k = b95) => Nat.lt_of_le_of_lt (Nat.le_of_eq hk) hk570.lt) _ hx)
            have hk572 := (hb544.grown hg565 nb).grown hg560 (rowne ap571)
            refine gv_sub [11, 12, 14, 15, 16, 17, 18, 85] (σ' := [(11, (.int .u64 r50.1)), (12, (.pointer (some ⟨b55, 0, none⟩))), (14, (.pointer (some ⟨b89, 0, none⟩))), (15, (.pointer (some ⟨b95, 0, none⟩))), (16, (.pointer (some ⟨b123, 0, none⟩))), (17, (.pointer (some ⟨b129, 0, none⟩))), (18, (.pointer (some ⟨b553, 0, none⟩))), (85, (.bool true))]) (by kernel_rfl) ?_
            refine gv_loadBox (t := 29) (b := b95) (t' := 29) (fr := (0, 0)) #[(.int .i64 r84.2.1), (.int .i64 r84.2.2)] [11, 12, 14, 16, 17, 18, 85, 86] (σ' := [(11, (.int .u64 r50.1)), (12, (.pointer (some ⟨b55, 0, none⟩))), (14, (.pointer (some ⟨b89, 0, none⟩))), (16, (.pointer (some ⟨b123, 0, none⟩))), (17, (.pointer (some ⟨b129, 0, none⟩))), (18, (.pointer (some ⟨b553, 0, none⟩))), (85, (.bool true)), (86, (.agg #[(.int .i64 r84.2.1), (.int .i64 r84.2.2)]))]) (fun e => by cases e) (by rfl) (by rfl) (by rfl) (by kernel_rfl) (by kernel_rfl) (by kernel_rfl) (by kernel_rfl) (inw0 hk572) (by kernel_rfl) ?_
            refine gv_loadBox (t := 29) (b := b553) (t' := 29) (fr := (0, 0)) #[(.int .i64 r548.1), (.int .i64 r548.2)] [11, 12, 14, 16, 17, 18, 85, 86, 87] (σ' := [(11, (.int .u64 r50.1)), (12, (.pointer (some ⟨b55, 0, none⟩))), (14, (.pointer (some ⟨b89, 0, none⟩))), (16, (.pointer (some ⟨b123, 0, none⟩))), (17, (.pointer (some ⟨b129, 0, none⟩))), (18, (.pointer (some ⟨b553, 0, none⟩))), (85, (.bool true)), (86, (.agg #[(.int .i64 r84.2.1), (.int .i64 r84.2.2)])), (87, (.agg #[(.int .i64 r548.1), (.int .i64 r548.2)]))]) (fun e => by cases e) (by rfl) (by rfl) (by rfl) (by kernel_rfl) (by kernel_rfl) (by kernel_rfl) (by kernel_rfl) (inw0 hb561) (by kernel_rfl) ?_
            refine gv_eqs (t := 29) (op := .eql) (x := (.tmp 86)) (y := (.tmp 87)) (xs := #[(.int .i64 r84.2.1), (.int .i64 r84.2.2)]) (ys := #[(.int .i64 r548.1), (.int .i64 r548.2)]) ((r84.2.1 == r548.1) && (r84.2.2 == r548.2)) [11, 12, 14, 16, 17, 18, 85, 88] (σ' := [(11, (.int .u64 r50.1)), (12, (.pointer (some ⟨b55, 0, none⟩))), (14, (.pointer (some ⟨b89, 0, none⟩))), (16, (.pointer (some ⟨b123, 0, none⟩))), (17, (.pointer (some ⟨b129, 0, none⟩))), (18, (.pointer (some ⟨b553, 0, none⟩))), (85, (.bool true)), (88, (.bool ((r84.2.1 == r548.1) && (r84.2.2 == r548.2))))]) (fun e => by cases e) (by rfl) (by rfl) (by rfl) (by kernel_rfl) (by kernel_rfl) (fun w' => eqs29eql r84.2.1 r84.2.2 r548.1 r548.2 _ _ w') (by kernel_rfl) ?_
            refine gv_pure 2 [11, 12, 14, 16, 17, 18, 90] (σ' := [(11, (.int .u64 r50.1)), (12, (.pointer (some ⟨b55, 0, none⟩))), (14, (.pointer (some ⟨b89, 0, none⟩))), (16, (.pointer (some ⟨b123, 0, none⟩))), (17, (.pointer (some ⟨b129, 0, none⟩))), (18, (.pointer (some ⟨b553, 0, none⟩))), (90, (.bool ((r84.2.1 == r548.1) && (r84.2.2 == r548.2))))]) (by kernel_rfl) ?_
            refine gv_split (s := 90) (g := ((r84.2.1 == r548.1) && (r84.2.2 == r548.2))) (by rfl) (fun hc573 => ?_) (fun hc573 => ?_)
            · skip
              replace h1 := ite_t hc573 h1
              have hk574 := hb546.grown hg551 nb
              have ap575 : ¬ (· = b129) b553 := fun hx => Nat.not_lt_of_le ((lowb hbe557) _ rfl) ((fun k (hk : k = b129) => Nat.lt_of_le_of_lt (Nat.le_of_eq hk) hk574.lt) _ hx)
              have hk576 := (hb546.grown hg565 nb).grown hg560 (rowne ap575)
              refine gv_sub [11, 12, 14, 16, 17, 18, 90] (σ' := [(11, (.int .u64 r50.1)), (12, (.pointer (some ⟨b55, 0, none⟩))), (14, (.pointer (some ⟨b89, 0, none⟩))), (16, (.pointer (some ⟨b123, 0, none⟩))), (17, (.pointer (some ⟨b129, 0, none⟩))), (18, (.pointer (some ⟨b553, 0, none⟩))), (90, (.bool true))]) (by kernel_rfl) ?_
              refine gv_loadBox (t := 29) (b := b129) (t' := 29) (fr := (0, 0)) #[(.int .i64 r118.2.1), (.int .i64 r118.2.2)] [11, 12, 14, 16, 18, 90, 91] (σ' := [(11, (.int .u64 r50.1)), (12, (.pointer (some ⟨b55, 0, none⟩))), (14, (.pointer (some ⟨b89, 0, none⟩))), (16, (.pointer (some ⟨b123, 0, none⟩))), (18, (.pointer (some ⟨b553, 0, none⟩))), (90, (.bool true)), (91, (.agg #[(.int .i64 r118.2.1), (.int .i64 r118.2.2)]))]) (fun e => by cases e) (by rfl) (by rfl) (by rfl) (by kernel_rfl) (by kernel_rfl) (by kernel_rfl) (by kernel_rfl) (inw0 hk576) (by kernel_rfl) ?_
              refine gv_loadBox (t := 29) (b := b553) (t' := 29) (fr := (0, 0)) #[(.int .i64 r548.1), (.int .i64 r548.2)] [11, 12, 14, 16, 90, 91, 92] (σ' := [(11, (.int .u64 r50.1)), (12, (.pointer (some ⟨b55, 0, none⟩))), (14, (.pointer (some ⟨b89, 0, none⟩))), (16, (.pointer (some ⟨b123, 0, none⟩))), (90, (.bool true)), (91, (.agg #[(.int .i64 r118.2.1), (.int .i64 r118.2.2)])), (92, (.agg #[(.int .i64 r548.1), (.int .i64 r548.2)]))]) (fun e => by cases e) (by rfl) (by rfl) (by rfl) (by kernel_rfl) (by kernel_rfl) (by kernel_rfl) (by kernel_rfl) (inw0 hb561) (by kernel_rfl) ?_
              refine gv_eqs (t := 29) (op := .eql) (x := (.tmp 91)) (y := (.tmp 92)) (xs := #[(.int .i64 r118.2.1), (.int .i64 r118.2.2)]) (ys := #[(.int .i64 r548.1), (.int .i64 r548.2)]) ((r118.2.1 == r548.1) && (r118.2.2 == r548.2)) [11, 12, 14, 16, 90, 93] (σ' := [(11, (.int .u64 r50.1)), (12, (.pointer (some ⟨b55, 0, none⟩))), (14, (.pointer (some ⟨b89, 0, none⟩))), (16, (.pointer (some ⟨b123, 0, none⟩))), (90, (.bool true)), (93, (.bool ((r118.2.1 == r548.1) && (r118.2.2 == r548.2))))]) (fun e => by cases e) (by rfl) (by rfl) (by rfl) (by kernel_rfl) (by kernel_rfl) (fun w' => eqs29eql r118.2.1 r118.2.2 r548.1 r548.2 _ _ w') (by kernel_rfl) ?_
              refine gv_pure 2 [11, 12, 14, 16, 95] (σ' := [(11, (.int .u64 r50.1)), (12, (.pointer (some ⟨b55, 0, none⟩))), (14, (.pointer (some ⟨b89, 0, none⟩))), (16, (.pointer (some ⟨b123, 0, none⟩))), (95, (.bool ((r118.2.1 == r548.1) && (r118.2.2 == r548.2))))]) (by kernel_rfl) ?_
              refine gv_split (s := 95) (g := ((r118.2.1 == r548.1) && (r118.2.2 == r548.2))) (by rfl) (fun hc577 => ?_) (fun hc577 => ?_)
              · skip
                replace h1 := ite_t hc577 h1
                refine gv_pure 4 [12, 14, 16, 99] (σ' := [(12, (.pointer (some ⟨b55, 0, none⟩))), (14, (.pointer (some ⟨b89, 0, none⟩))), (16, (.pointer (some ⟨b123, 0, none⟩))), (99, (.bool (r50.1 == 0)))]) (by kernel_rfl) ?_
                refine gv_split (s := 99) (g := (r50.1 == 0)) (by rfl) (fun hc578 => ?_) (fun hc578 => ?_)
                · skip
                  replace h1 := ite_t hc578 h1
                  have hk579 := hb541.grown hg551 nb
                  have ap580 : ¬ (· = b55) b553 := fun hx => Nat.not_lt_of_le ((lowb hbe557) _ rfl) ((fun k (hk : k = b55) => Nat.lt_of_le_of_lt (Nat.le_of_eq hk) hk579.lt) _ hx)
                  have hk581 := (hb541.grown hg565 nb).grown hg560 (rowne ap580)
                  refine gv_sub [12, 14, 16, 99] (σ' := [(12, (.pointer (some ⟨b55, 0, none⟩))), (14, (.pointer (some ⟨b89, 0, none⟩))), (16, (.pointer (some ⟨b123, 0, none⟩))), (99, (.bool true))]) (by kernel_rfl) ?_
                  refine gv_loadBox (t := 27) (b := b55) (t' := 27) (fr := (0, 0)) #[(.int .u64 r50.2.1.1), (.int .u64 r50.2.1.2)] [12, 14, 16, 99, 100] (σ' := [(12, (.pointer (some ⟨b55, 0, none⟩))), (14, (.pointer (some ⟨b89, 0, none⟩))), (16, (.pointer (some ⟨b123, 0, none⟩))), (99, (.bool true)), (100, (.agg #[(.int .u64 r50.2.1.1), (.int .u64 r50.2.1.2)]))]) (fun e => by cases e) (by rfl) (by rfl) (by rfl) (by kernel_rfl) (by kernel_rfl) (by kernel_rfl) (by kernel_rfl) (inw0 hk581) (by kernel_rfl) ?_
                  refine gv_pure 1 [12, 14, 16, 99, 100, 101] (σ' := [(12, (.pointer (some ⟨b55, 0, none⟩))), (14, (.pointer (some ⟨b89, 0, none⟩))), (16, (.pointer (some ⟨b123, 0, none⟩))), (99, (.bool true)), (100, (.agg #[(.int .u64 r50.2.1.1), (.int .u64 r50.2.1.2)])), (101, (.agg #[(.int .u64 0), (.int .u64 0)]))]) (by kernel_rfl) ?_
                  refine gv_eqs (t := 27) (op := .eql) (x := (.tmp 100)) (y := (.tmp 101)) (xs := #[(.int .u64 r50.2.1.1), (.int .u64 r50.2.1.2)]) (ys := #[(.int .u64 0), (.int .u64 0)]) ((r50.2.1.1 == 0) && (r50.2.1.2 == 0)) [12, 14, 16, 99, 102] (σ' := [(12, (.pointer (some ⟨b55, 0, none⟩))), (14, (.pointer (some ⟨b89, 0, none⟩))), (16, (.pointer (some ⟨b123, 0, none⟩))), (99, (.bool true)), (102, (.bool ((r50.2.1.1 == 0) && (r50.2.1.2 == 0))))]) (fun e => by cases e) (by rfl) (by rfl) (by rfl) (by kernel_rfl) (by kernel_rfl) (fun w' => eqs27eql r50.2.1.1 r50.2.1.2 0 0 _ _ w') (by kernel_rfl) ?_
                  refine gv_pure 2 [12, 14, 16, 104] (σ' := [(12, (.pointer (some ⟨b55, 0, none⟩))), (14, (.pointer (some ⟨b89, 0, none⟩))), (16, (.pointer (some ⟨b123, 0, none⟩))), (104, (.bool ((r50.2.1.1 == 0) && (r50.2.1.2 == 0))))]) (by kernel_rfl) ?_
                  refine gv_split (s := 104) (g := ((r50.2.1.1 == 0) && (r50.2.1.2 == 0))) (by rfl) (fun hc582 => ?_) (fun hc582 => ?_)
                  · skip
                    replace h1 := ite_t hc582 h1
                    have hk583 := hb543.grown hg551 nb
                    have ap584 : ¬ (· = b89) b553 := fun hx => Nat.not_lt_of_le ((lowb hbe557) _ rfl) ((fun k (hk : k = b89) => Nat.lt_of_le_of_lt (Nat.le_of_eq hk) hk583.lt) _ hx)
                    have hk585 := (hb543.grown hg565 nb).grown hg560 (rowne ap584)
                    refine gv_sub [12, 14, 16, 104] (σ' := [(12, (.pointer (some ⟨b55, 0, none⟩))), (14, (.pointer (some ⟨b89, 0, none⟩))), (16, (.pointer (some ⟨b123, 0, none⟩))), (104, (.bool true))]) (by kernel_rfl) ?_
                    refine gv_loadBox (t := 27) (b := b89) (t' := 27) (fr := (0, 0)) #[(.int .u64 r84.1.1), (.int .u64 r84.1.2)] [12, 16, 104, 105] (σ' := [(12, (.pointer (some ⟨b55, 0, none⟩))), (16, (.pointer (some ⟨b123, 0, none⟩))), (104, (.bool true)), (105, (.agg #[(.int .u64 r84.1.1), (.int .u64 r84.1.2)]))]) (fun e => by cases e) (by rfl) (by rfl) (by rfl) (by kernel_rfl) (by kernel_rfl) (by kernel_rfl) (by kernel_rfl) (inw0 hk585) (by kernel_rfl) ?_
                    refine gv_loadBox (t := 27) (b := b55) (t' := 27) (fr := (0, 0)) #[(.int .u64 r50.2.1.1), (.int .u64 r50.2.1.2)] [12, 16, 104, 105, 106] (σ' := [(12, (.pointer (some ⟨b55, 0, none⟩))), (16, (.pointer (some ⟨b123, 0, none⟩))), (104, (.bool true)), (105, (.agg #[(.int .u64 r84.1.1), (.int .u64 r84.1.2)])), (106, (.agg #[(.int .u64 r50.2.1.1), (.int .u64 r50.2.1.2)]))]) (fun e => by cases e) (by rfl) (by rfl) (by rfl) (by kernel_rfl) (by kernel_rfl) (by kernel_rfl) (by kernel_rfl) (inw0 hk581) (by kernel_rfl) ?_
                    refine gv_eqs (t := 27) (op := .eql) (x := (.tmp 105)) (y := (.tmp 106)) (xs := #[(.int .u64 r84.1.1), (.int .u64 r84.1.2)]) (ys := #[(.int .u64 r50.2.1.1), (.int .u64 r50.2.1.2)]) ((r84.1.1 == r50.2.1.1) && (r84.1.2 == r50.2.1.2)) [12, 16, 104, 107] (σ' := [(12, (.pointer (some ⟨b55, 0, none⟩))), (16, (.pointer (some ⟨b123, 0, none⟩))), (104, (.bool true)), (107, (.bool ((r84.1.1 == r50.2.1.1) && (r84.1.2 == r50.2.1.2))))]) (fun e => by cases e) (by rfl) (by rfl) (by rfl) (by kernel_rfl) (by kernel_rfl) (fun w' => eqs27eql r84.1.1 r84.1.2 r50.2.1.1 r50.2.1.2 _ _ w') (by kernel_rfl) ?_
                    refine gv_pure 2 [12, 16, 109] (σ' := [(12, (.pointer (some ⟨b55, 0, none⟩))), (16, (.pointer (some ⟨b123, 0, none⟩))), (109, (.bool ((r84.1.1 == r50.2.1.1) && (r84.1.2 == r50.2.1.2))))]) (by kernel_rfl) ?_
                    refine gv_split (s := 109) (g := ((r84.1.1 == r50.2.1.1) && (r84.1.2 == r50.2.1.2))) (by rfl) (fun hc586 => ?_) (fun hc586 => ?_)
                    · skip
                      replace h1 := ite_t hc586 h1
                      have hk587 := hb545.grown hg551 nb
                      have ap588 : ¬ (· = b123) b553 := fun hx => Nat.not_lt_of_le ((lowb hbe557) _ rfl) ((fun k (hk : k = b123) => Nat.lt_of_le_of_lt (Nat.le_of_eq hk) hk587.lt) _ hx)
                      have hk589 := (hb545.grown hg565 nb).grown hg560 (rowne ap588)
                      refine gv_sub [12, 16, 109] (σ' := [(12, (.pointer (some ⟨b55, 0, none⟩))), (16, (.pointer (some ⟨b123, 0, none⟩))), (109, (.bool true))]) (by kernel_rfl) ?_
                      refine gv_loadBox (t := 27) (b := b123) (t' := 27) (fr := (0, 0)) #[(.int .u64 r118.1.1), (.int .u64 r118.1.2)] [12, 109, 110] (σ' := [(12, (.pointer (some ⟨b55, 0, none⟩))), (109, (.bool true)), (110, (.agg #[(.int .u64 r118.1.1), (.int .u64 r118.1.2)]))]) (fun e => by cases e) (by rfl) (by rfl) (by rfl) (by kernel_rfl) (by kernel_rfl) (by kernel_rfl) (by kernel_rfl) (inw0 hk589) (by kernel_rfl) ?_
                      refine gv_loadBox (t := 27) (b := b55) (t' := 27) (fr := (0, 0)) #[(.int .u64 r50.2.1.1), (.int .u64 r50.2.1.2)] [109, 110, 111] (σ' := [(109, (.bool true)), (110, (.agg #[(.int .u64 r118.1.1), (.int .u64 r118.1.2)])), (111, (.agg #[(.int .u64 r50.2.1.1), (.int .u64 r50.2.1.2)]))]) (fun e => by cases e) (by rfl) (by rfl) (by rfl) (by kernel_rfl) (by kernel_rfl) (by kernel_rfl) (by kernel_rfl) (inw0 hk581) (by kernel_rfl) ?_
                      refine gv_eqs (t := 27) (op := .eql) (x := (.tmp 110)) (y := (.tmp 111)) (xs := #[(.int .u64 r118.1.1), (.int .u64 r118.1.2)]) (ys := #[(.int .u64 r50.2.1.1), (.int .u64 r50.2.1.2)]) ((r118.1.1 == r50.2.1.1) && (r118.1.2 == r50.2.1.2)) [109, 112] (σ' := [(109, (.bool true)), (112, (.bool ((r118.1.1 == r50.2.1.1) && (r118.1.2 == r50.2.1.2))))]) (fun e => by cases e) (by rfl) (by rfl) (by rfl) (by kernel_rfl) (by kernel_rfl) (fun w' => eqs27eql r118.1.1 r118.1.2 r50.2.1.1 r50.2.1.2 _ _ w') (by kernel_rfl) ?_
                      refine gv_pure 2 [8] (σ' := [(8, (.bool ((r118.1.1 == r50.2.1.1) && (r118.1.2 == r50.2.1.2))))]) (by kernel_rfl) ?_
                      refine bindE h1 ?_; clear h1; intro n590 hn591 h1
                      refine gv_name (s := 8) (v := (.bool ((r118.1.1 == r50.2.1.1) && (r118.1.2 == r50.2.1.2)))) (v' := (.bool n590)) (by rfl) (congrArg (Value.bool) (Option.some.inj hn591)) ?_
                      refine gv_sub [8] (σ' := [(8, (.bool n590))]) (by kernel_rfl) ?_
                      refine gv_nil ?_
                      have e := Option.some.inj h1; subst e
                      refine gv_goal fun a hd hs hok => ?_
                      obtain ⟨q8, _⟩ := hok
                      have hB592 := below_grown hB538 hg565 hB538.size nb
                      have hB593 := below_grown hB538 hg551 hB538.size nb
                      have hlo594 : w0.heap.size ≤ b553 := lob hbe557 hB593.size
                      have hB595 := below_grown hB592 hg560 hB592.size (rowlo hlo594)
                      exact ⟨hB595, (Nat.le_refl _), hd, hs, ⟨q8, trivial⟩⟩
                    · skip
                      replace h1 := ite_f hc586 h1
                      refine gv_pure 5 [8] (σ' := [(8, (.bool false))]) (by kernel_rfl) ?_
                      refine gv_nil ?_
                      have e := Option.some.inj h1; subst e
                      refine gv_goal fun a hd hs hok => ?_
                      obtain ⟨q8, _⟩ := hok
                      have hB596 := below_grown hB538 hg565 hB538.size nb
                      have hB597 := below_grown hB538 hg551 hB538.size nb
                      have hlo598 : w0.heap.size ≤ b553 := lob hbe557 hB597.size
                      have hB599 := below_grown hB596 hg560 hB596.size (rowlo hlo598)
                      exact ⟨hB599, (Nat.le_refl _), hd, hs, ⟨q8, trivial⟩⟩
                  · skip
                    replace h1 := ite_f hc582 h1
                    refine gv_pure 10 [8] (σ' := [(8, (.bool false))]) (by kernel_rfl) ?_
                    refine gv_nil ?_
                    have e := Option.some.inj h1; subst e
                    refine gv_goal fun a hd hs hok => ?_
                    obtain ⟨q8, _⟩ := hok
                    have hB600 := below_grown hB538 hg565 hB538.size nb
                    have hB601 := below_grown hB538 hg551 hB538.size nb
                    have hlo602 : w0.heap.size ≤ b553 := lob hbe557 hB601.size
                    have hB603 := below_grown hB600 hg560 hB600.size (rowlo hlo602)
                    exact ⟨hB603, (Nat.le_refl _), hd, hs, ⟨q8, trivial⟩⟩
                · skip
                  replace h1 := ite_f hc578 h1
                  refine gv_pure 15 [8] (σ' := [(8, (.bool false))]) (by kernel_rfl) ?_
                  refine gv_nil ?_
                  have e := Option.some.inj h1; subst e
                  refine gv_goal fun a hd hs hok => ?_
                  obtain ⟨q8, _⟩ := hok
                  have hB604 := below_grown hB538 hg565 hB538.size nb
                  have hB605 := below_grown hB538 hg551 hB538.size nb
                  have hlo606 : w0.heap.size ≤ b553 := lob hbe557 hB605.size
                  have hB607 := below_grown hB604 hg560 hB604.size (rowlo hlo606)
                  exact ⟨hB607, (Nat.le_refl _), hd, hs, ⟨q8, trivial⟩⟩
              · skip
                replace h1 := ite_f hc577 h1
                refine gv_pure 19 [8] (σ' := [(8, (.bool false))]) (by kernel_rfl) ?_
                refine gv_nil ?_
                have e := Option.some.inj h1; subst e
                refine gv_goal fun a hd hs hok => ?_
                obtain ⟨q8, _⟩ := hok
                have hB608 := below_grown hB538 hg565 hB538.size nb
                have hB609 := below_grown hB538 hg551 hB538.size nb
                have hlo610 : w0.heap.size ≤ b553 := lob hbe557 hB609.size
                have hB611 := below_grown hB608 hg560 hB608.size (rowlo hlo610)
                exact ⟨hB611, (Nat.le_refl _), hd, hs, ⟨q8, trivial⟩⟩
            · skip
              replace h1 := ite_f hc573 h1
              refine gv_pure 24 [8] (σ' := [(8, (.bool false))]) (by kernel_rfl) ?_
              refine gv_nil ?_
              have e := Option.some.inj h1; subst e
              refine gv_goal fun a hd hs hok => ?_
              obtain ⟨q8, _⟩ := hok
              have hB612 := below_grown hB538 hg565 hB538.size nb
              have hB613 := below_grown hB538 hg551 hB538.size nb
              have hlo614 : w0.heap.size ≤ b553 := lob hbe557 hB613.size
              have hB615 := below_grown hB612 hg560 hB612.size (rowlo hlo614)
              exact ⟨hB615, (Nat.le_refl _), hd, hs, ⟨q8, trivial⟩⟩
          · skip
            replace h1 := ite_f hc569 h1
            refine gv_pure 29 [8] (σ' := [(8, (.bool false))]) (by kernel_rfl) ?_
            refine gv_nil ?_
            have e := Option.some.inj h1; subst e
            refine gv_goal fun a hd hs hok => ?_
            obtain ⟨q8, _⟩ := hok
            have hB616 := below_grown hB538 hg565 hB538.size nb
            have hB617 := below_grown hB538 hg551 hB538.size nb
            have hlo618 : w0.heap.size ≤ b553 := lob hbe557 hB617.size
            have hB619 := below_grown hB616 hg560 hB616.size (rowlo hlo618)
            exact ⟨hB619, (Nat.le_refl _), hd, hs, ⟨q8, trivial⟩⟩
        · rintro a w564 ⟨hB620, hz621, hd, hs, hok⟩
          refine (?_ : Run Try.prog _ 221 _ .normal [(8, (.bool j563))] w564) a hd hs hok
          clear hd hs hok
          clear hz621 hz562 hb561 hg560 hz558 hbe557 hb556 hg555 hg551 hr549 hc547 hb546 hb545 hb544 hb543 hb542 hb541 hb540 hB538 hlo250 hlo247 hlo240 hlo237 hlo230 hlo227 ap144 hbe133 hbe127 hb126 hg125 hg121 hk117 ap116 hk115 ap114 hk113 hb108 hg107 ap110 hb103 hg102 hbe99 hg97 hbe93 hb92 hg91 hg87 ap82 hk81 ap80 hk79 hb74 hg73 ap76 hb69 hbe65 hbe59 hb58 hbe11 hg3
          refine gv_cret ?_
          have e := Option.some.inj h0; subst e
          refine gv_ret (gv_done [(.bool j563)] rfl ⟨rfl, trivial⟩ ?_)
          exact ⟨grown_of_below hB620, rfl⟩
      · replace h0 := ite_f hc547 h0
        refine gv_skip ?_
        refine gv_seq ?_
        refine gv_region ?_
        refine gv_loadBox (t := 27) (b := b7) (t' := 27) (fr := (0, 0)) #[(.int .u64 g_1.1), (.int .u64 g_1.2)] [2, 3, 5, 11, 12, 13, 14, 15, 16, 17, 114] (σ' := [(2, (.int .u64 n_2)), (3, (.int .u64 m_3)), (5, (.pointer (some ⟨b7, 0, none⟩))), (11, (.int .u64 r50.1)), (12, (.pointer (some ⟨b55, 0, none⟩))), (13, (.pointer (some ⟨b61, 0, none⟩))), (14, (.pointer (some ⟨b89, 0, none⟩))), (15, (.pointer (some ⟨b95, 0, none⟩))), (16, (.pointer (some ⟨b123, 0, none⟩))), (17, (.pointer (some ⟨b129, 0, none⟩))), (114, (.agg #[(.int .u64 g_1.1), (.int .u64 g_1.2)]))]) (fun e => by cases e) (by rfl) (by rfl) (by rfl) (by kernel_rfl) (by kernel_rfl) (by kernel_rfl) (by kernel_rfl) (inw0 hb540) (by kernel_rfl) ?_
        refine gv_pure 1 [2, 3, 5, 11, 12, 13, 14, 15, 16, 17, 115] (σ' := [(2, (.int .u64 n_2)), (3, (.int .u64 m_3)), (5, (.pointer (some ⟨b7, 0, none⟩))), (11, (.int .u64 r50.1)), (12, (.pointer (some ⟨b55, 0, none⟩))), (13, (.pointer (some ⟨b61, 0, none⟩))), (14, (.pointer (some ⟨b89, 0, none⟩))), (15, (.pointer (some ⟨b95, 0, none⟩))), (16, (.pointer (some ⟨b123, 0, none⟩))), (17, (.pointer (some ⟨b129, 0, none⟩))), (115, (.agg #[(.int .u64 g_1.1), (.int .u64 g_1.2)]))]) (by kernel_rfl) ?_
        refine gv_new (fun b => .pointer (some ⟨b, 0, none⟩)) #[(.int .u64 0), (.int .u64 0)] 40 (by decide) (by rfl) (by rfl) (by kernel_rfl) (by kernel_rfl) ?_
        intro b622 w623 hg624 hb625 hbe626 hz627
        refine ⟨(fun e => by cases e), ?_⟩
        refine gv_sub [2, 3, 5, 11, 12, 13, 14, 15, 16, 17, 19, 115] (σ' := [(2, (.int .u64 n_2)), (3, (.int .u64 m_3)), (5, (.pointer (some ⟨b7, 0, none⟩))), (11, (.int .u64 r50.1)), (12, (.pointer (some ⟨b55, 0, none⟩))), (13, (.pointer (some ⟨b61, 0, none⟩))), (14, (.pointer (some ⟨b89, 0, none⟩))), (15, (.pointer (some ⟨b95, 0, none⟩))), (16, (.pointer (some ⟨b123, 0, none⟩))), (17, (.pointer (some ⟨b129, 0, none⟩))), (19, (.pointer (some ⟨b622, 0, none⟩))), (115, (.agg #[(.int .u64 g_1.1), (.int .u64 g_1.2)]))]) (by kernel_rfl) ?_
        refine gv_store (t := 40) (b := b622) (off := 0) (v := (.agg #[(.int .u64 g_1.1), (.int .u64 g_1.2)])) (t' := 40) (cs := #[(.int .u64 0), (.int .u64 0)]) #[(.int .u64 g_1.1), (.int .u64 g_1.2)] (by decide) (by rfl) (by rfl) (by kernel_rfl) (by kernel_rfl) (by kernel_rfl) (by intro u hu; simp [Value.cells] at hu; rcases hu with rfl | rfl <;> rfl) (show 0 + 2 ≤ 2 by decide) (by rfl) hb625 ?_
        intro w628 hg629 hb630 hz631
        refine ⟨(fun e => by cases e), ?_⟩
        refine gv_sub [2, 3, 5, 11, 12, 13, 14, 15, 16, 17, 19] (σ' := [(2, (.int .u64 n_2)), (3, (.int .u64 m_3)), (5, (.pointer (some ⟨b7, 0, none⟩))), (11, (.int .u64 r50.1)), (12, (.pointer (some ⟨b55, 0, none⟩))), (13, (.pointer (some ⟨b61, 0, none⟩))), (14, (.pointer (some ⟨b89, 0, none⟩))), (15, (.pointer (some ⟨b95, 0, none⟩))), (16, (.pointer (some ⟨b123, 0, none⟩))), (17, (.pointer (some ⟨b129, 0, none⟩))), (19, (.pointer (some ⟨b622, 0, none⟩)))]) (by kernel_rfl) ?_
        refine gv_nil ?_
        refine gv_seq ?_
        refine gv_region ?_
        refine bindE h0 ?_; clear h0; intro r632 hr633 h0
        refine gv_call (f := 15) (vs := [(.pointer (some ⟨b622, 0, none⟩))]) (cap := []) _ (by decide) (by rfl) (by rfl) rfl (by rfl) (by rfl) enters15 (ref4_Random_Draw_ok fuel b622 (g_1.1, g_1.2) w628 hb630 r632 hr633) ?_
        rintro v636 w634 ⟨hg635, rfl, hb637⟩
        refine ⟨(fun e => by cases e), ?_⟩
        refine gv_pure 1 [2, 3, 5, 11, 12, 13, 14, 15, 16, 17, 19, 20] (σ' := [(2, (.int .u64 n_2)), (3, (.int .u64 m_3)), (5, (.pointer (some ⟨b7, 0, none⟩))), (11, (.int .u64 r50.1)), (12, (.pointer (some ⟨b55, 0, none⟩))), (13, (.pointer (some ⟨b61, 0, none⟩))), (14, (.pointer (some ⟨b89, 0, none⟩))), (15, (.pointer (some ⟨b95, 0, none⟩))), (16, (.pointer (some ⟨b123, 0, none⟩))), (17, (.pointer (some ⟨b129, 0, none⟩))), (19, (.pointer (some ⟨b622, 0, none⟩))), (20, (.int .u64 r632.1))]) (by kernel_rfl) ?_
        refine gv_nil ?_
        refine gv_seq ?_
        refine gv_seq ?_
        refine gv_region ?_
        refine bindE h0 ?_; clear h0; intro j638 h1 h0
        refine gv_cut_ops (J := fun a w639 => Below w0.heap.size w0 w639 ∧ w634.heap.size ≤ w639.heap.size ∧ Box w639 b7 27 #[(.int .u64 g_1.1), (.int .u64 g_1.2)] ∧ Box w639 b89 27 #[(.int .u64 r84.1.1), (.int .u64 r84.1.2)] ∧ Box w639 b123 27 #[(.int .u64 r118.1.1), (.int .u64 r118.1.2)] ∧ Box w639 b622 40 #[(.int .u64 r632.2.1), (.int .u64 r632.2.2)] ∧ a.defers = [] ∧ a.tmps.size = 221 ∧ Ok [(2, (.int .u64 n_2)), (3, (.int .u64 m_3)), (5, (.pointer (some ⟨b7, 0, none⟩))), (14, (.pointer (some ⟨b89, 0, none⟩))), (16, (.pointer (some ⟨b123, 0, none⟩))), (19, (.pointer (some ⟨b622, 0, none⟩))), (140, (.bool j638))] a.tmps) ?_ ?_
        · skip
          refine gv_pure 1 [2, 3, 5, 11, 12, 14, 15, 16, 17, 19, 20, 117] (σ' := [(2, (.int .u64 n_2)), (3, (.int .u64 m_3)), (5, (.pointer (some ⟨b7, 0, none⟩))), (11, (.int .u64 r50.1)), (12, (.pointer (some ⟨b55, 0, none⟩))), (14, (.pointer (some ⟨b89, 0, none⟩))), (15, (.pointer (some ⟨b95, 0, none⟩))), (16, (.pointer (some ⟨b123, 0, none⟩))), (17, (.pointer (some ⟨b129, 0, none⟩))), (19, (.pointer (some ⟨b622, 0, none⟩))), (20, (.int .u64 r632.1)), (117, (.pointer (some ⟨b61, 0, none⟩)))]) (by kernel_rfl) ?_
          have ap640 : ¬ (· = b61) b622 := fun hx => Nat.not_lt_of_le ((lowb hbe626) _ rfl) ((fun k (hk : k = b61) => Nat.lt_of_le_of_lt (Nat.le_of_eq hk) hb542.lt) _ hx)
          have hk641 := ((hb542.grown hg624 nb).grown hg629 (rowne ap640)).grown hg635 (rowne ap640)
          refine gv_load (t := 3) (A := ⟨b61, 0, none⟩) (.int .i64 r50.2.2.1) [2, 3, 5, 11, 12, 14, 15, 16, 17, 19, 20, 118] (σ' := [(2, (.int .u64 n_2)), (3, (.int .u64 m_3)), (5, (.pointer (some ⟨b7, 0, none⟩))), (11, (.int .u64 r50.1)), (12, (.pointer (some ⟨b55, 0, none⟩))), (14, (.pointer (some ⟨b89, 0, none⟩))), (15, (.pointer (some ⟨b95, 0, none⟩))), (16, (.pointer (some ⟨b123, 0, none⟩))), (17, (.pointer (some ⟨b129, 0, none⟩))), (19, (.pointer (some ⟨b622, 0, none⟩))), (20, (.int .u64 r632.1)), (118, (.int .i64 r50.2.2.1))]) (fun e => by cases e) (by rfl) (by rfl) (by rfl) (by kernel_rfl) (by kernel_rfl) (by kernel_rfl) (inw0 (hk641.cell 0 rfl)) (by kernel_rfl) ?_
          refine gv_pure 2 [2, 3, 5, 11, 12, 14, 15, 16, 17, 19, 20, 120] (σ' := [(2, (.int .u64 n_2)), (3, (.int .u64 m_3)), (5, (.pointer (some ⟨b7, 0, none⟩))), (11, (.int .u64 r50.1)), (12, (.pointer (some ⟨b55, 0, none⟩))), (14, (.pointer (some ⟨b89, 0, none⟩))), (15, (.pointer (some ⟨b95, 0, none⟩))), (16, (.pointer (some ⟨b123, 0, none⟩))), (17, (.pointer (some ⟨b129, 0, none⟩))), (19, (.pointer (some ⟨b622, 0, none⟩))), (20, (.int .u64 r632.1)), (120, (.bool (r50.2.2.1 != 0)))]) (by kernel_rfl) ?_
          refine gv_split (s := 120) (g := (r50.2.2.1 != 0)) (by rfl) (fun hc642 => ?_) (fun hc642 => ?_)
          · skip
            replace h1 := ite_t hc642 h1
            refine gv_pure 20 [2, 3, 5, 14, 16, 19, 140] (σ' := [(2, (.int .u64 n_2)), (3, (.int .u64 m_3)), (5, (.pointer (some ⟨b7, 0, none⟩))), (14, (.pointer (some ⟨b89, 0, none⟩))), (16, (.pointer (some ⟨b123, 0, none⟩))), (19, (.pointer (some ⟨b622, 0, none⟩))), (140, (.bool true))]) (by kernel_rfl) ?_
            refine gv_nil ?_
            have e := Option.some.inj h1; subst e
            refine gv_goal fun a hd hs hok => ?_
            obtain ⟨q2, q3, q5, q14, q16, q19, q140, _⟩ := hok
            have hB643 := below_grown hB538 hg624 hB538.size nb
            have hlo644 : w0.heap.size ≤ b622 := lob hbe626 hB538.size
            have hB645 := below_grown hB643 hg629 hB643.size (rowlo hlo644)
            have hB646 := below_grown hB645 hg635 hB645.size (rowlo hlo644)
            have ap647 : ¬ (· = b7) b622 := fun hx => Nat.not_lt_of_le ((lowb hbe626) _ rfl) ((fun k (hk : k = b7) => Nat.lt_of_le_of_lt (Nat.le_of_eq hk) hb540.lt) _ hx)
            have hk648 := ((hb540.grown hg624 nb).grown hg629 (rowne ap647)).grown hg635 (rowne ap647)
            have ap649 : ¬ (· = b89) b622 := fun hx => Nat.not_lt_of_le ((lowb hbe626) _ rfl) ((fun k (hk : k = b89) => Nat.lt_of_le_of_lt (Nat.le_of_eq hk) hb543.lt) _ hx)
            have hk650 := ((hb543.grown hg624 nb).grown hg629 (rowne ap649)).grown hg635 (rowne ap649)
            have ap651 : ¬ (· = b123) b622 := fun hx => Nat.not_lt_of_le ((lowb hbe626) _ rfl) ((fun k (hk : k = b123) => Nat.lt_of_le_of_lt (Nat.le_of_eq hk) hb545.lt) _ hx)
            have hk652 := ((hb545.grown hg624 nb).grown hg629 (rowne ap651)).grown hg635 (rowne ap651)
            exact ⟨hB646, (Nat.le_refl _), hk648, hk650, hk652, hb637, hd, hs, ⟨q2, q3, q5, q14, q16, q19, q140, trivial⟩⟩
          · skip
            replace h1 := ite_f hc642 h1
            refine gv_pure 1 [2, 3, 5, 11, 12, 14, 16, 17, 19, 20, 120, 121] (σ' := [(2, (.int .u64 n_2)), (3, (.int .u64 m_3)), (5, (.pointer (some ⟨b7, 0, none⟩))), (11, (.int .u64 r50.1)), (12, (.pointer (some ⟨b55, 0, none⟩))), (14, (.pointer (some ⟨b89, 0, none⟩))), (16, (.pointer (some ⟨b123, 0, none⟩))), (17, (.pointer (some ⟨b129, 0, none⟩))), (19, (.pointer (some ⟨b622, 0, none⟩))), (20, (.int .u64 r632.1)), (120, (.bool false)), (121, (.pointer (some ⟨b95, 0, none⟩)))]) (by kernel_rfl) ?_
            have ap653 : ¬ (· = b95) b622 := fun hx => Nat.not_lt_of_le ((lowb hbe626) _ rfl) ((fun k (hk : k = b95) => Nat.lt_of_le_of_lt (Nat.le_of_eq hk) hb544.lt) _ hx)
            have hk654 := ((hb544.grown hg624 nb).grown hg629 (rowne ap653)).grown hg635 (rowne ap653)
            refine gv_load (t := 3) (A := ⟨b95, 0, none⟩) (.int .i64 r84.2.1) [2, 3, 5, 11, 12, 14, 16, 17, 19, 20, 120, 122] (σ' := [(2, (.int .u64 n_2)), (3, (.int .u64 m_3)), (5, (.pointer (some ⟨b7, 0, none⟩))), (11, (.int .u64 r50.1)), (12, (.pointer (some ⟨b55, 0, none⟩))), (14, (.pointer (some ⟨b89, 0, none⟩))), (16, (.pointer (some ⟨b123, 0, none⟩))), (17, (.pointer (some ⟨b129, 0, none⟩))), (19, (.pointer (some ⟨b622, 0, none⟩))), (20, (.int .u64 r632.1)), (120, (.bool false)), (122, (.int .i64 r84.2.1))]) (fun e => by cases e) (by rfl) (by rfl) (by rfl) (by kernel_rfl) (by kernel_rfl) (by kernel_rfl) (inw0 (hk654.cell 0 rfl)) (by kernel_rfl) ?_
            refine gv_pure 3 [2, 3, 5, 11, 12, 14, 16, 17, 19, 20, 125] (σ' := [(2, (.int .u64 n_2)), (3, (.int .u64 m_3)), (5, (.pointer (some ⟨b7, 0, none⟩))), (11, (.int .u64 r50.1)), (12, (.pointer (some ⟨b55, 0, none⟩))), (14, (.pointer (some ⟨b89, 0, none⟩))), (16, (.pointer (some ⟨b123, 0, none⟩))), (17, (.pointer (some ⟨b129, 0, none⟩))), (19, (.pointer (some ⟨b622, 0, none⟩))), (20, (.int .u64 r632.1)), (125, (.bool (r84.2.1 != 0)))]) (by kernel_rfl) ?_
            refine gv_split (s := 125) (g := (r84.2.1 != 0)) (by rfl) (fun hc655 => ?_) (fun hc655 => ?_)
            · skip
              replace h1 := ite_t hc655 h1
              refine gv_pure 15 [2, 3, 5, 14, 16, 19, 140] (σ' := [(2, (.int .u64 n_2)), (3, (.int .u64 m_3)), (5, (.pointer (some ⟨b7, 0, none⟩))), (14, (.pointer (some ⟨b89, 0, none⟩))), (16, (.pointer (some ⟨b123, 0, none⟩))), (19, (.pointer (some ⟨b622, 0, none⟩))), (140, (.bool true))]) (by kernel_rfl) ?_
              refine gv_nil ?_
              have e := Option.some.inj h1; subst e
              refine gv_goal fun a hd hs hok => ?_
              obtain ⟨q2, q3, q5, q14, q16, q19, q140, _⟩ := hok
              have hB656 := below_grown hB538 hg624 hB538.size nb
              have hlo657 : w0.heap.size ≤ b622 := lob hbe626 hB538.size
              have hB658 := below_grown hB656 hg629 hB656.size (rowlo hlo657)
              have hB659 := below_grown hB658 hg635 hB658.size (rowlo hlo657)
              have ap660 : ¬ (· = b7) b622 := fun hx => Nat.not_lt_of_le ((lowb hbe626) _ rfl) ((fun k (hk : k = b7) => Nat.lt_of_le_of_lt (Nat.le_of_eq hk) hb540.lt) _ hx)
              have hk661 := ((hb540.grown hg624 nb).grown hg629 (rowne ap660)).grown hg635 (rowne ap660)
              have ap662 : ¬ (· = b89) b622 := fun hx => Nat.not_lt_of_le ((lowb hbe626) _ rfl) ((fun k (hk : k = b89) => Nat.lt_of_le_of_lt (Nat.le_of_eq hk) hb543.lt) _ hx)
              have hk663 := ((hb543.grown hg624 nb).grown hg629 (rowne ap662)).grown hg635 (rowne ap662)
              have ap664 : ¬ (· = b123) b622 := fun hx => Nat.not_lt_of_le ((lowb hbe626) _ rfl) ((fun k (hk : k = b123) => Nat.lt_of_le_of_lt (Nat.le_of_eq hk) hb545.lt) _ hx)
              have hk665 := ((hb545.grown hg624 nb).grown hg629 (rowne ap664)).grown hg635 (rowne ap664)
              exact ⟨hB659, (Nat.le_refl _), hk661, hk663, hk665, hb637, hd, hs, ⟨q2, q3, q5, q14, q16, q19, q140, trivial⟩⟩
            · skip
              replace h1 := ite_f hc655 h1
              refine gv_pure 1 [2, 3, 5, 11, 12, 14, 16, 19, 20, 125, 126] (σ' := [(2, (.int .u64 n_2)), (3, (.int .u64 m_3)), (5, (.pointer (some ⟨b7, 0, none⟩))), (11, (.int .u64 r50.1)), (12, (.pointer (some ⟨b55, 0, none⟩))), (14, (.pointer (some ⟨b89, 0, none⟩))), (16, (.pointer (some ⟨b123, 0, none⟩))), (19, (.pointer (some ⟨b622, 0, none⟩))), (20, (.int .u64 r632.1)), (125, (.bool false)), (126, (.pointer (some ⟨b129, 0, none⟩)))]) (by kernel_rfl) ?_
              have ap666 : ¬ (· = b129) b622 := fun hx => Nat.not_lt_of_le ((lowb hbe626) _ rfl) ((fun k (hk : k = b129) => Nat.lt_of_le_of_lt (Nat.le_of_eq hk) hb546.lt) _ hx)
              have hk667 := ((hb546.grown hg624 nb).grown hg629 (rowne ap666)).grown hg635 (rowne ap666)
              refine gv_load (t := 3) (A := ⟨b129, 0, none⟩) (.int .i64 r118.2.1) [2, 3, 5, 11, 12, 14, 16, 19, 20, 125, 127] (σ' := [(2, (.int .u64 n_2)), (3, (.int .u64 m_3)), (5, (.pointer (some ⟨b7, 0, none⟩))), (11, (.int .u64 r50.1)), (12, (.pointer (some ⟨b55, 0, none⟩))), (14, (.pointer (some ⟨b89, 0, none⟩))), (16, (.pointer (some ⟨b123, 0, none⟩))), (19, (.pointer (some ⟨b622, 0, none⟩))), (20, (.int .u64 r632.1)), (125, (.bool false)), (127, (.int .i64 r118.2.1))]) (fun e => by cases e) (by rfl) (by rfl) (by rfl) (by kernel_rfl) (by kernel_rfl) (by kernel_rfl) (inw0 (hk667.cell 0 rfl)) (by kernel_rfl) ?_
              refine gv_pure 3 [2, 3, 5, 11, 12, 14, 16, 19, 20, 130] (σ' := [(2, (.int .u64 n_2)), (3, (.int .u64 m_3)), (5, (.pointer (some ⟨b7, 0, none⟩))), (11, (.int .u64 r50.1)), (12, (.pointer (some ⟨b55, 0, none⟩))), (14, (.pointer (some ⟨b89, 0, none⟩))), (16, (.pointer (some ⟨b123, 0, none⟩))), (19, (.pointer (some ⟨b622, 0, none⟩))), (20, (.int .u64 r632.1)), (130, (.bool (r118.2.1 != 0)))]) (by kernel_rfl) ?_
              refine gv_split (s := 130) (g := (r118.2.1 != 0)) (by rfl) (fun hc668 => ?_) (fun hc668 => ?_)
              · skip
                replace h1 := ite_t hc668 h1
                refine gv_pure 10 [2, 3, 5, 14, 16, 19, 140] (σ' := [(2, (.int .u64 n_2)), (3, (.int .u64 m_3)), (5, (.pointer (some ⟨b7, 0, none⟩))), (14, (.pointer (some ⟨b89, 0, none⟩))), (16, (.pointer (some ⟨b123, 0, none⟩))), (19, (.pointer (some ⟨b622, 0, none⟩))), (140, (.bool true))]) (by kernel_rfl) ?_
                refine gv_nil ?_
                have e := Option.some.inj h1; subst e
                refine gv_goal fun a hd hs hok => ?_
                obtain ⟨q2, q3, q5, q14, q16, q19, q140, _⟩ := hok
                have hB669 := below_grown hB538 hg624 hB538.size nb
                have hlo670 : w0.heap.size ≤ b622 := lob hbe626 hB538.size
                have hB671 := below_grown hB669 hg629 hB669.size (rowlo hlo670)
                have hB672 := below_grown hB671 hg635 hB671.size (rowlo hlo670)
                have ap673 : ¬ (· = b7) b622 := fun hx => Nat.not_lt_of_le ((lowb hbe626) _ rfl) ((fun k (hk : k = b7) => Nat.lt_of_le_of_lt (Nat.le_of_eq hk) hb540.lt) _ hx)
                have hk674 := ((hb540.grown hg624 nb).grown hg629 (rowne ap673)).grown hg635 (rowne ap673)
                have ap675 : ¬ (· = b89) b622 := fun hx => Nat.not_lt_of_le ((lowb hbe626) _ rfl) ((fun k (hk : k = b89) => Nat.lt_of_le_of_lt (Nat.le_of_eq hk) hb543.lt) _ hx)
                have hk676 := ((hb543.grown hg624 nb).grown hg629 (rowne ap675)).grown hg635 (rowne ap675)
                have ap677 : ¬ (· = b123) b622 := fun hx => Nat.not_lt_of_le ((lowb hbe626) _ rfl) ((fun k (hk : k = b123) => Nat.lt_of_le_of_lt (Nat.le_of_eq hk) hb545.lt) _ hx)
                have hk678 := ((hb545.grown hg624 nb).grown hg629 (rowne ap677)).grown hg635 (rowne ap677)
                exact ⟨hB672, (Nat.le_refl _), hk674, hk676, hk678, hb637, hd, hs, ⟨q2, q3, q5, q14, q16, q19, q140, trivial⟩⟩
              · skip
                replace h1 := ite_f hc668 h1
                refine gv_pure 5 [2, 3, 5, 12, 14, 16, 19, 135] (σ' := [(2, (.int .u64 n_2)), (3, (.int .u64 m_3)), (5, (.pointer (some ⟨b7, 0, none⟩))), (12, (.pointer (some ⟨b55, 0, none⟩))), (14, (.pointer (some ⟨b89, 0, none⟩))), (16, (.pointer (some ⟨b123, 0, none⟩))), (19, (.pointer (some ⟨b622, 0, none⟩))), (135, (.bool (r50.1 != r632.1)))]) (by kernel_rfl) ?_
                refine gv_split (s := 135) (g := (r50.1 != r632.1)) (by rfl) (fun hc679 => ?_) (fun hc679 => ?_)
                · skip
                  replace h1 := ite_t hc679 h1
                  refine gv_pure 5 [2, 3, 5, 14, 16, 19, 140] (σ' := [(2, (.int .u64 n_2)), (3, (.int .u64 m_3)), (5, (.pointer (some ⟨b7, 0, none⟩))), (14, (.pointer (some ⟨b89, 0, none⟩))), (16, (.pointer (some ⟨b123, 0, none⟩))), (19, (.pointer (some ⟨b622, 0, none⟩))), (140, (.bool true))]) (by kernel_rfl) ?_
                  refine gv_nil ?_
                  have e := Option.some.inj h1; subst e
                  refine gv_goal fun a hd hs hok => ?_
                  obtain ⟨q2, q3, q5, q14, q16, q19, q140, _⟩ := hok
                  have hB680 := below_grown hB538 hg624 hB538.size nb
                  have hlo681 : w0.heap.size ≤ b622 := lob hbe626 hB538.size
                  have hB682 := below_grown hB680 hg629 hB680.size (rowlo hlo681)
                  have hB683 := below_grown hB682 hg635 hB682.size (rowlo hlo681)
                  have ap684 : ¬ (· = b7) b622 := fun hx => Nat.not_lt_of_le ((lowb hbe626) _ rfl) ((fun k (hk : k = b7) => Nat.lt_of_le_of_lt (Nat.le_of_eq hk) hb540.lt) _ hx)
                  have hk685 := ((hb540.grown hg624 nb).grown hg629 (rowne ap684)).grown hg635 (rowne ap684)
                  have ap686 : ¬ (· = b89) b622 := fun hx => Nat.not_lt_of_le ((lowb hbe626) _ rfl) ((fun k (hk : k = b89) => Nat.lt_of_le_of_lt (Nat.le_of_eq hk) hb543.lt) _ hx)
                  have hk687 := ((hb543.grown hg624 nb).grown hg629 (rowne ap686)).grown hg635 (rowne ap686)
                  have ap688 : ¬ (· = b123) b622 := fun hx => Nat.not_lt_of_le ((lowb hbe626) _ rfl) ((fun k (hk : k = b123) => Nat.lt_of_le_of_lt (Nat.le_of_eq hk) hb545.lt) _ hx)
                  have hk689 := ((hb545.grown hg624 nb).grown hg629 (rowne ap688)).grown hg635 (rowne ap688)
                  exact ⟨hB683, (Nat.le_refl _), hk685, hk687, hk689, hb637, hd, hs, ⟨q2, q3, q5, q14, q16, q19, q140, trivial⟩⟩
                · skip
                  replace h1 := ite_f hc679 h1
                  have ap690 : ¬ (· = b55) b622 := fun hx => Nat.not_lt_of_le ((lowb hbe626) _ rfl) ((fun k (hk : k = b55) => Nat.lt_of_le_of_lt (Nat.le_of_eq hk) hb541.lt) _ hx)
                  have hk691 := ((hb541.grown hg624 nb).grown hg629 (rowne ap690)).grown hg635 (rowne ap690)
                  refine gv_sub [2, 3, 5, 12, 14, 16, 19, 135] (σ' := [(2, (.int .u64 n_2)), (3, (.int .u64 m_3)), (5, (.pointer (some ⟨b7, 0, none⟩))), (12, (.pointer (some ⟨b55, 0, none⟩))), (14, (.pointer (some ⟨b89, 0, none⟩))), (16, (.pointer (some ⟨b123, 0, none⟩))), (19, (.pointer (some ⟨b622, 0, none⟩))), (135, (.bool false))]) (by kernel_rfl) ?_
                  refine gv_loadBox (t := 27) (b := b55) (t' := 27) (fr := (0, 0)) #[(.int .u64 r50.2.1.1), (.int .u64 r50.2.1.2)] [2, 3, 5, 14, 16, 19, 135, 136] (σ' := [(2, (.int .u64 n_2)), (3, (.int .u64 m_3)), (5, (.pointer (some ⟨b7, 0, none⟩))), (14, (.pointer (some ⟨b89, 0, none⟩))), (16, (.pointer (some ⟨b123, 0, none⟩))), (19, (.pointer (some ⟨b622, 0, none⟩))), (135, (.bool false)), (136, (.agg #[(.int .u64 r50.2.1.1), (.int .u64 r50.2.1.2)]))]) (fun e => by cases e) (by rfl) (by rfl) (by rfl) (by kernel_rfl) (by kernel_rfl) (by kernel_rfl) (by kernel_rfl) (inw0 hk691) (by kernel_rfl) ?_
                  refine gv_pure 1 [2, 3, 5, 14, 16, 19, 135, 136, 137] (σ' := [(2, (.int .u64 n_2)), (3, (.int .u64 m_3)), (5, (.pointer (some ⟨b7, 0, none⟩))), (14, (.pointer (some ⟨b89, 0, none⟩))), (16, (.pointer (some ⟨b123, 0, none⟩))), (19, (.pointer (some ⟨b622, 0, none⟩))), (135, (.bool false)), (136, (.agg #[(.int .u64 r50.2.1.1), (.int .u64 r50.2.1.2)])), (137, (.pointer (some ⟨b622, 0, none⟩)))]) (by kernel_rfl) ?_
                  refine gv_loadBox (t := 27) (b := b622) (t' := 40) (fr := (0, 0)) #[(.int .u64 r632.2.1), (.int .u64 r632.2.2)] [2, 3, 5, 14, 16, 19, 135, 136, 138] (σ' := [(2, (.int .u64 n_2)), (3, (.int .u64 m_3)), (5, (.pointer (some ⟨b7, 0, none⟩))), (14, (.pointer (some ⟨b89, 0, none⟩))), (16, (.pointer (some ⟨b123, 0, none⟩))), (19, (.pointer (some ⟨b622, 0, none⟩))), (135, (.bool false)), (136, (.agg #[(.int .u64 r50.2.1.1), (.int .u64 r50.2.1.2)])), (138, (.agg #[(.int .u64 r632.2.1), (.int .u64 r632.2.2)]))]) (fun e => by cases e) (by rfl) (by rfl) (by rfl) (by kernel_rfl) (by kernel_rfl) (by kernel_rfl) (by kernel_rfl) (inw0 hb637) (by kernel_rfl) ?_
                  refine gv_eqs (t := 27) (op := .neq) (x := (.tmp 136)) (y := (.tmp 138)) (xs := #[(.int .u64 r50.2.1.1), (.int .u64 r50.2.1.2)]) (ys := #[(.int .u64 r632.2.1), (.int .u64 r632.2.2)]) (!((r50.2.1.1 == r632.2.1) && (r50.2.1.2 == r632.2.2))) [2, 3, 5, 14, 16, 19, 135, 139] (σ' := [(2, (.int .u64 n_2)), (3, (.int .u64 m_3)), (5, (.pointer (some ⟨b7, 0, none⟩))), (14, (.pointer (some ⟨b89, 0, none⟩))), (16, (.pointer (some ⟨b123, 0, none⟩))), (19, (.pointer (some ⟨b622, 0, none⟩))), (135, (.bool false)), (139, (.bool (!((r50.2.1.1 == r632.2.1) && (r50.2.1.2 == r632.2.2)))))]) (fun e => by cases e) (by rfl) (by rfl) (by rfl) (by kernel_rfl) (by kernel_rfl) (fun w' => eqs27neq r50.2.1.1 r50.2.1.2 r632.2.1 r632.2.2 _ _ w') (by kernel_rfl) ?_
                  refine gv_pure 1 [2, 3, 5, 14, 16, 19, 140] (σ' := [(2, (.int .u64 n_2)), (3, (.int .u64 m_3)), (5, (.pointer (some ⟨b7, 0, none⟩))), (14, (.pointer (some ⟨b89, 0, none⟩))), (16, (.pointer (some ⟨b123, 0, none⟩))), (19, (.pointer (some ⟨b622, 0, none⟩))), (140, (.bool (!((r50.2.1.1 == r632.2.1) && (r50.2.1.2 == r632.2.2)))))]) (by kernel_rfl) ?_
                  refine gv_nil ?_
                  have e := Option.some.inj h1; subst e
                  refine gv_goal fun a hd hs hok => ?_
                  obtain ⟨q2, q3, q5, q14, q16, q19, q140, _⟩ := hok
                  have hB692 := below_grown hB538 hg624 hB538.size nb
                  have hlo693 : w0.heap.size ≤ b622 := lob hbe626 hB538.size
                  have hB694 := below_grown hB692 hg629 hB692.size (rowlo hlo693)
                  have hB695 := below_grown hB694 hg635 hB694.size (rowlo hlo693)
                  have ap696 : ¬ (· = b7) b622 := fun hx => Nat.not_lt_of_le ((lowb hbe626) _ rfl) ((fun k (hk : k = b7) => Nat.lt_of_le_of_lt (Nat.le_of_eq hk) hb540.lt) _ hx)
                  have hk697 := ((hb540.grown hg624 nb).grown hg629 (rowne ap696)).grown hg635 (rowne ap696)
                  have ap698 : ¬ (· = b89) b622 := fun hx => Nat.not_lt_of_le ((lowb hbe626) _ rfl) ((fun k (hk : k = b89) => Nat.lt_of_le_of_lt (Nat.le_of_eq hk) hb543.lt) _ hx)
                  have hk699 := ((hb543.grown hg624 nb).grown hg629 (rowne ap698)).grown hg635 (rowne ap698)
                  have ap700 : ¬ (· = b123) b622 := fun hx => Nat.not_lt_of_le ((lowb hbe626) _ rfl) ((fun k (hk : k = b123) => Nat.lt_of_le_of_lt (Nat.le_of_eq hk) hb545.lt) _ hx)
                  have hk701 := ((hb545.grown hg624 nb).grown hg629 (rowne ap700)).grown hg635 (rowne ap700)
                  exact ⟨hB695, (Nat.le_refl _), hk697, hk699, hk701, hb637, hd, hs, ⟨q2, q3, q5, q14, q16, q19, q140, trivial⟩⟩
        · rintro a w639 ⟨hB702, hz703, hb704, hb705, hb706, hb707, hd, hs, hok⟩
          refine (?_ : Run Try.prog _ 221 _ .normal [(2, (.int .u64 n_2)), (3, (.int .u64 m_3)), (5, (.pointer (some ⟨b7, 0, none⟩))), (14, (.pointer (some ⟨b89, 0, none⟩))), (16, (.pointer (some ⟨b123, 0, none⟩))), (19, (.pointer (some ⟨b622, 0, none⟩))), (140, (.bool j638))] w639) a hd hs hok
          clear hd hs hok
          clear hz703 hb637 hg635 hr633 hz631 hb630 hg629 hz627 hb625 hg624 hc547 hb546 hb544 hb542 hb541 hlo250 hlo240 hlo230 hlo227 ap144 hbe133 hb126 hg125 ap116 hk115 hb108 ap110 hg102 hg97 hg91 hg87 ap82 hk81 ap80 hk79 hb74 hg73 ap76 hb69 hbe65 hbe59 hb58
          refine gv_cond (b := j638) (by rfl) (fun hc708 => ?_) (fun hc708 => ?_)
          · replace h0 := ite_t hc708 h0
            refine gv_seq ?_
            refine gv_region ?_
            refine gv_pure 1 [8] (σ' := [(8, (.bool false))]) (by kernel_rfl) ?_
            refine gv_nil ?_
            refine gv_cret ?_
            have e := Option.some.inj h0; subst e
            refine gv_ret (gv_done [(.bool false)] rfl ⟨rfl, trivial⟩ ?_)
            exact ⟨grown_of_below hB702, rfl⟩
          · replace h0 := ite_f hc708 h0
            refine gv_skip ?_
            refine gv_seq ?_
            refine gv_region ?_
            refine gv_loadBox (t := 27) (b := b7) (t' := 27) (fr := (0, 0)) #[(.int .u64 g_1.1), (.int .u64 g_1.2)] [2, 3, 5, 14, 16, 19, 141] (σ' := [(2, (.int .u64 n_2)), (3, (.int .u64 m_3)), (5, (.pointer (some ⟨b7, 0, none⟩))), (14, (.pointer (some ⟨b89, 0, none⟩))), (16, (.pointer (some ⟨b123, 0, none⟩))), (19, (.pointer (some ⟨b622, 0, none⟩))), (141, (.agg #[(.int .u64 g_1.1), (.int .u64 g_1.2)]))]) (fun e => by cases e) (by rfl) (by rfl) (by rfl) (by kernel_rfl) (by kernel_rfl) (by kernel_rfl) (by kernel_rfl) (inw0 hb704) (by kernel_rfl) ?_
            refine gv_pure 1 [2, 3, 5, 14, 16, 19, 142] (σ' := [(2, (.int .u64 n_2)), (3, (.int .u64 m_3)), (5, (.pointer (some ⟨b7, 0, none⟩))), (14, (.pointer (some ⟨b89, 0, none⟩))), (16, (.pointer (some ⟨b123, 0, none⟩))), (19, (.pointer (some ⟨b622, 0, none⟩))), (142, (.agg #[(.int .u64 g_1.1), (.int .u64 g_1.2)]))]) (by kernel_rfl) ?_
            refine gv_store (t := 40) (b := b622) (off := 0) (v := (.agg #[(.int .u64 g_1.1), (.int .u64 g_1.2)])) (t' := 40) (cs := #[(.int .u64 r632.2.1), (.int .u64 r632.2.2)]) #[(.int .u64 g_1.1), (.int .u64 g_1.2)] (by decide) (by rfl) (by rfl) (by kernel_rfl) (by kernel_rfl) (by kernel_rfl) (by intro u hu; simp [Value.cells] at hu; rcases hu with rfl | rfl <;> rfl) (show 0 + 2 ≤ 2 by decide) (by rfl) hb707 ?_
            intro w709 hg710 hb711 hz712
            refine ⟨(fun e => by cases e), ?_⟩
            refine gv_sub [2, 3, 5, 14, 16, 19] (σ' := [(2, (.int .u64 n_2)), (3, (.int .u64 m_3)), (5, (.pointer (some ⟨b7, 0, none⟩))), (14, (.pointer (some ⟨b89, 0, none⟩))), (16, (.pointer (some ⟨b123, 0, none⟩))), (19, (.pointer (some ⟨b622, 0, none⟩)))]) (by kernel_rfl) ?_
            refine gv_nil ?_
            refine gv_seq ?_
            refine gv_seq ?_
            refine gv_region ?_
            refine gv_pure 3 [2, 3, 5, 14, 16, 19, 21] (σ' := [(2, (.int .u64 n_2)), (3, (.int .u64 m_3)), (5, (.pointer (some ⟨b7, 0, none⟩))), (14, (.pointer (some ⟨b89, 0, none⟩))), (16, (.pointer (some ⟨b123, 0, none⟩))), (19, (.pointer (some ⟨b622, 0, none⟩))), (21, (.int .u64 ((n_2).tmod 5000)))]) (by kernel_rfl) ?_
            refine gv_nil ?_
            refine bindE h0 ?_; clear h0; intro j713 h1 h0
            refine gv_cut_code (J := fun a w714 => Below w0.heap.size w0 w714 ∧ w709.heap.size ≤ w714.heap.size ∧ Box w714 b7 27 #[(.int .u64 g_1.1), (.int .u64 g_1.2)] ∧ Box w714 b89 27 #[(.int .u64 r84.1.1), (.int .u64 r84.1.2)] ∧ Box w714 b123 27 #[(.int .u64 r118.1.1), (.int .u64 r118.1.2)] ∧ Box w714 b622 40 #[(.int .u64 j713.1), (.int .u64 j713.2)] ∧ a.defers = [] ∧ a.tmps.size = 221 ∧ Ok [(2, (.int .u64 n_2)), (3, (.int .u64 m_3)), (5, (.pointer (some ⟨b7, 0, none⟩))), (14, (.pointer (some ⟨b89, 0, none⟩))), (16, (.pointer (some ⟨b123, 0, none⟩))), (19, (.pointer (some ⟨b622, 0, none⟩)))] a.tmps) ?_ ?_
            · skip
              refine gv_block ?_
              refine gv_loop (A := fun (s715 : (Int × ((Int × Int)))) a w716 => Below w0.heap.size w0 w716 ∧ w709.heap.size ≤ w716.heap.size ∧ Box w716 b7 27 #[(.int .u64 g_1.1), (.int .u64 g_1.2)] ∧ Box w716 b89 27 #[(.int .u64 r84.1.1), (.int .u64 r84.1.2)] ∧ Box w716 b123 27 #[(.int .u64 r118.1.1), (.int .u64 r118.1.2)] ∧ Box w716 b622 40 #[(.int .u64 s715.2.1), (.int .u64 s715.2.2)] ∧ a.defers = [] ∧ a.tmps.size = 221 ∧ Ok [(2, (.int .u64 n_2)), (3, (.int .u64 m_3)), (5, (.pointer (some ⟨b7, 0, none⟩))), (14, (.pointer (some ⟨b89, 0, none⟩))), (16, (.pointer (some ⟨b123, 0, none⟩))), (19, (.pointer (some ⟨b622, 0, none⟩))), (21, (.int .u64 s715.1))] a.tmps) h1 ?_ ?_
              · intro a hd hs hok
                obtain ⟨q2, q3, q5, q14, q16, q19, q21, _⟩ := hok
                have hlo717 : w0.heap.size ≤ b622 := lob hbe626 hB538.size
                have hB718 := below_grown hB702 hg710 hB702.size (rowlo hlo717)
                have ap719 : ¬ (· = b7) b622 := fun hx => Nat.not_lt_of_le ((lowb hbe626) _ rfl) ((fun k (hk : k = b7) => Nat.lt_of_le_of_lt (Nat.le_of_eq hk) hb540.lt) _ hx)
                have hk720 := hb704.grown hg710 (rowne ap719)
                have ap721 : ¬ (· = b89) b622 := fun hx => Nat.not_lt_of_le ((lowb hbe626) _ rfl) ((fun k (hk : k = b89) => Nat.lt_of_le_of_lt (Nat.le_of_eq hk) hb543.lt) _ hx)
                have hk722 := hb705.grown hg710 (rowne ap721)
                have ap723 : ¬ (· = b123) b622 := fun hx => Nat.not_lt_of_le ((lowb hbe626) _ rfl) ((fun k (hk : k = b123) => Nat.lt_of_le_of_lt (Nat.le_of_eq hk) hb545.lt) _ hx)
                have hk724 := hb706.grown hg710 (rowne ap723)
                exact ⟨hB718, (Nat.le_refl _), hk720, hk722, hk724, hb711, hd, hs, ⟨q2, q3, q5, q14, q16, q19, q21, trivial⟩⟩
              · rintro s715 r2 h2 hR2 a w716 ⟨hB725, hz726, hb727, hb728, hb729, hb730, hd, hs, hok⟩
                refine (?_ : Run Try.prog _ 221 _ .normal [(2, (.int .u64 n_2)), (3, (.int .u64 m_3)), (5, (.pointer (some ⟨b7, 0, none⟩))), (14, (.pointer (some ⟨b89, 0, none⟩))), (16, (.pointer (some ⟨b123, 0, none⟩))), (19, (.pointer (some ⟨b622, 0, none⟩))), (21, (.int .u64 s715.1))] w716) a hd hs hok
                clear hd hs hok
                clear hz712 hb711 hg710 hc708 hb707 hb706 hb705 hb704 hB702
                refine gv_seq ?_
                refine gv_seq ?_
                refine gv_region ?_
                refine gv_pure 2 [2, 3, 5, 14, 16, 19, 21, 146] (σ' := [(2, (.int .u64 n_2)), (3, (.int .u64 m_3)), (5, (.pointer (some ⟨b7, 0, none⟩))), (14, (.pointer (some ⟨b89, 0, none⟩))), (16, (.pointer (some ⟨b123, 0, none⟩))), (19, (.pointer (some ⟨b622, 0, none⟩))), (21, (.int .u64 s715.1)), (146, (.bool (decide (s715.1 > 0))))]) (by kernel_rfl) ?_
                refine gv_nil ?_
                refine gv_cond (b := (decide (s715.1 > 0))) (by rfl) (fun hc731 => ?_) (fun hc731 => ?_)
                · replace h2 := ite_t hc731 h2
                  refine gv_skip ?_
                  refine gv_seq ?_
                  refine gv_block ?_
                  refine gv_region ?_
                  refine bindE h2 ?_; clear h2; intro r732 hr733 h2
                  refine gv_call (f := 15) (vs := [(.pointer (some ⟨b622, 0, none⟩))]) (cap := []) _ (by decide) (by rfl) (by rfl) rfl (by rfl) (by rfl) enters15 (ref4_Random_Draw_ok fuel b622 (s715.2.1, s715.2.2) w716 hb730 r732 hr733) ?_
                  rintro v736 w734 ⟨hg735, rfl, hb737⟩
                  refine ⟨(fun e => by cases e), ?_⟩
                  refine gv_sub [2, 3, 5, 14, 16, 19, 21] (σ' := [(2, (.int .u64 n_2)), (3, (.int .u64 m_3)), (5, (.pointer (some ⟨b7, 0, none⟩))), (14, (.pointer (some ⟨b89, 0, none⟩))), (16, (.pointer (some ⟨b123, 0, none⟩))), (19, (.pointer (some ⟨b622, 0, none⟩))), (21, (.int .u64 s715.1))]) (by kernel_rfl) ?_
                  refine gv_nil ?_
                  refine gv_blk ?_
                  refine gv_region ?_
                  refine gv_pure 3 [2, 3, 5, 14, 16, 19, 21] (σ' := [(2, (.int .u64 n_2)), (3, (.int .u64 m_3)), (5, (.pointer (some ⟨b7, 0, none⟩))), (14, (.pointer (some ⟨b89, 0, none⟩))), (16, (.pointer (some ⟨b123, 0, none⟩))), (19, (.pointer (some ⟨b622, 0, none⟩))), (21, (.int .u64 (IntKind.u64.wrap (s715.1 - 1))))]) (by kernel_rfl) ?_
                  refine gv_nil ?_
                  have e := Option.some.inj h2; subst e
                  refine gv_goal fun a hd hs hok => ?_
                  obtain ⟨q2, q3, q5, q14, q16, q19, q21, _⟩ := hok
                  have hlo738 : w0.heap.size ≤ b622 := lob hbe626 hB538.size
                  have hB739 := below_grown hB725 hg735 hB725.size (rowlo hlo738)
                  have hz740 : w709.heap.size ≤ w734.heap.size := (Nat.le_trans hz726 hg735.size)
                  have ap741 : ¬ (· = b7) b622 := fun hx => Nat.not_lt_of_le ((lowb hbe626) _ rfl) ((fun k (hk : k = b7) => Nat.lt_of_le_of_lt (Nat.le_of_eq hk) hb540.lt) _ hx)
                  have hk742 := hb727.grown hg735 (rowne ap741)
                  have ap743 : ¬ (· = b89) b622 := fun hx => Nat.not_lt_of_le ((lowb hbe626) _ rfl) ((fun k (hk : k = b89) => Nat.lt_of_le_of_lt (Nat.le_of_eq hk) hb543.lt) _ hx)
                  have hk744 := hb728.grown hg735 (rowne ap743)
                  have ap745 : ¬ (· = b123) b622 := fun hx => Nat.not_lt_of_le ((lowb hbe626) _ rfl) ((fun k (hk : k = b123) => Nat.lt_of_le_of_lt (Nat.le_of_eq hk) hb545.lt) _ hx)
                  have hk746 := hb729.grown hg735 (rowne ap745)
                  exact ⟨((IntKind.u64.wrap (s715.1 - 1)), (r732.2.1, r732.2.2)), rfl, hB739, hz740, hk742, hk744, hk746, hb737, hd, hs, ⟨q2, q3, q5, q14, q16, q19, q21, trivial⟩⟩
                · replace h2 := ite_f hc731 h2
                  refine gv_cexit ?_
                  refine gv_exit rfl ?_
                  have e := Option.some.inj h2; subst e
                  replace h1 := congrArg some (hR2 _ rfl)
                  have e := Option.some.inj h1; subst e
                  refine gv_goal fun a hd hs hok => ?_
                  obtain ⟨q2, q3, q5, q14, q16, q19, q21, q146, _⟩ := hok
                  have hz747 : w709.heap.size ≤ w716.heap.size := hz726
                  exact ⟨hB725, hz747, hb727, hb728, hb729, hb730, hd, hs, ⟨q2, q3, q5, q14, q16, q19, trivial⟩⟩
            · rintro a w714 ⟨hB748, hz749, hb750, hb751, hb752, hb753, hd, hs, hok⟩
              refine (?_ : Run Try.prog _ 221 _ .normal [(2, (.int .u64 n_2)), (3, (.int .u64 m_3)), (5, (.pointer (some ⟨b7, 0, none⟩))), (14, (.pointer (some ⟨b89, 0, none⟩))), (16, (.pointer (some ⟨b123, 0, none⟩))), (19, (.pointer (some ⟨b622, 0, none⟩)))] w714) a hd hs hok
              clear hd hs hok
              clear hz749 hz712 hb711 hg710 hc708 hb707 hb706 hb705 hb704 hB702
              refine gv_seq ?_
              refine gv_seq ?_
              refine gv_region ?_
              refine gv_loadBox (t := 27) (b := b89) (t' := 27) (fr := (0, 0)) #[(.int .u64 r84.1.1), (.int .u64 r84.1.2)] [2, 3, 5, 16, 19, 150] (σ' := [(2, (.int .u64 n_2)), (3, (.int .u64 m_3)), (5, (.pointer (some ⟨b7, 0, none⟩))), (16, (.pointer (some ⟨b123, 0, none⟩))), (19, (.pointer (some ⟨b622, 0, none⟩))), (150, (.agg #[(.int .u64 r84.1.1), (.int .u64 r84.1.2)]))]) (fun e => by cases e) (by rfl) (by rfl) (by rfl) (by kernel_rfl) (by kernel_rfl) (by kernel_rfl) (by kernel_rfl) (inw0 hb751) (by kernel_rfl) ?_
              refine gv_pure 1 [2, 3, 5, 16, 150, 151] (σ' := [(2, (.int .u64 n_2)), (3, (.int .u64 m_3)), (5, (.pointer (some ⟨b7, 0, none⟩))), (16, (.pointer (some ⟨b123, 0, none⟩))), (150, (.agg #[(.int .u64 r84.1.1), (.int .u64 r84.1.2)])), (151, (.pointer (some ⟨b622, 0, none⟩)))]) (by kernel_rfl) ?_
              refine gv_loadBox (t := 27) (b := b622) (t' := 40) (fr := (0, 0)) #[(.int .u64 j713.1), (.int .u64 j713.2)] [2, 3, 5, 16, 150, 152] (σ' := [(2, (.int .u64 n_2)), (3, (.int .u64 m_3)), (5, (.pointer (some ⟨b7, 0, none⟩))), (16, (.pointer (some ⟨b123, 0, none⟩))), (150, (.agg #[(.int .u64 r84.1.1), (.int .u64 r84.1.2)])), (152, (.agg #[(.int .u64 j713.1), (.int .u64 j713.2)]))]) (fun e => by cases e) (by rfl) (by rfl) (by rfl) (by kernel_rfl) (by kernel_rfl) (by kernel_rfl) (by kernel_rfl) (inw0 hb753) (by kernel_rfl) ?_
              refine gv_eqs (t := 27) (op := .neq) (x := (.tmp 150)) (y := (.tmp 152)) (xs := #[(.int .u64 r84.1.1), (.int .u64 r84.1.2)]) (ys := #[(.int .u64 j713.1), (.int .u64 j713.2)]) (!((r84.1.1 == j713.1) && (r84.1.2 == j713.2))) [2, 3, 5, 16, 153] (σ' := [(2, (.int .u64 n_2)), (3, (.int .u64 m_3)), (5, (.pointer (some ⟨b7, 0, none⟩))), (16, (.pointer (some ⟨b123, 0, none⟩))), (153, (.bool (!((r84.1.1 == j713.1) && (r84.1.2 == j713.2)))))]) (fun e => by cases e) (by rfl) (by rfl) (by rfl) (by kernel_rfl) (by kernel_rfl) (fun w' => eqs27neq r84.1.1 r84.1.2 j713.1 j713.2 _ _ w') (by kernel_rfl) ?_
              refine gv_nil ?_
              refine gv_cond (b := (!((r84.1.1 == j713.1) && (r84.1.2 == j713.2)))) (by rfl) (fun hc754 => ?_) (fun hc754 => ?_)
              · replace h0 := ite_t hc754 h0
                refine gv_seq ?_
                refine gv_region ?_
                refine gv_pure 1 [8] (σ' := [(8, (.bool false))]) (by kernel_rfl) ?_
                refine gv_nil ?_
                refine gv_cret ?_
                have e := Option.some.inj h0; subst e
                refine gv_ret (gv_done [(.bool false)] rfl ⟨rfl, trivial⟩ ?_)
                exact ⟨grown_of_below hB748, rfl⟩
              · replace h0 := ite_f hc754 h0
                refine gv_skip ?_
                refine gv_seq ?_
                refine gv_region ?_
                refine gv_loadBox (t := 27) (b := b123) (t' := 27) (fr := (0, 0)) #[(.int .u64 r118.1.1), (.int .u64 r118.1.2)] [2, 3, 5, 16, 155] (σ' := [(2, (.int .u64 n_2)), (3, (.int .u64 m_3)), (5, (.pointer (some ⟨b7, 0, none⟩))), (16, (.pointer (some ⟨b123, 0, none⟩))), (155, (.agg #[(.int .u64 r118.1.1), (.int .u64 r118.1.2)]))]) (fun e => by cases e) (by rfl) (by rfl) (by rfl) (by kernel_rfl) (by kernel_rfl) (by kernel_rfl) (by kernel_rfl) (inw0 hb752) (by kernel_rfl) ?_
                refine gv_pure 1 [2, 3, 5, 16, 155, 156] (σ' := [(2, (.int .u64 n_2)), (3, (.int .u64 m_3)), (5, (.pointer (some ⟨b7, 0, none⟩))), (16, (.pointer (some ⟨b123, 0, none⟩))), (155, (.agg #[(.int .u64 r118.1.1), (.int .u64 r118.1.2)])), (156, (.int .u64 m_3))]) (by kernel_rfl) ?_
                refine bindE h0 ?_; clear h0; intro r755 hr756 h0
                refine gv_call (f := 10) (vs := [(.agg #[(.int .u64 r118.1.1), (.int .u64 r118.1.2)]), (.int .u64 m_3)]) (cap := []) _ (by decide) (by rfl) (by rfl) rfl (by rfl) (by rfl) enters10 (random_Skip_ok fuel (r118.1.1, r118.1.2) m_3 w714  r755 hr756) ?_
                rintro v759 w757 ⟨hg758, rfl⟩
                refine ⟨(fun e => by cases e), ?_⟩
                refine gv_pure 3 [2, 3, 5, 16, 158, 159] (σ' := [(2, (.int .u64 n_2)), (3, (.int .u64 m_3)), (5, (.pointer (some ⟨b7, 0, none⟩))), (16, (.pointer (some ⟨b123, 0, none⟩))), (158, (.agg #[(.int .u64 r755.1.1), (.int .u64 r755.1.2)])), (159, (.agg #[(.int .i64 r755.2.1), (.int .i64 r755.2.2)]))]) (by kernel_rfl) ?_
                refine gv_new (fun b => .pointer (some ⟨b, 0, none⟩)) #[(.int .u64 0), (.int .u64 0)] 27 (by decide) (by rfl) (by rfl) (by kernel_rfl) (by kernel_rfl) ?_
                intro b760 w761 hg762 hb763 hbe764 hz765
                refine ⟨(fun e => by cases e), ?_⟩
                refine gv_sub [2, 3, 5, 16, 22, 158, 159] (σ' := [(2, (.int .u64 n_2)), (3, (.int .u64 m_3)), (5, (.pointer (some ⟨b7, 0, none⟩))), (16, (.pointer (some ⟨b123, 0, none⟩))), (22, (.pointer (some ⟨b760, 0, none⟩))), (158, (.agg #[(.int .u64 r755.1.1), (.int .u64 r755.1.2)])), (159, (.agg #[(.int .i64 r755.2.1), (.int .i64 r755.2.2)]))]) (by kernel_rfl) ?_
                refine gv_new (fun b => .pointer (some ⟨b, 0, none⟩)) #[(.int .i64 0), (.int .i64 0)] 29 (by decide) (by rfl) (by rfl) (by kernel_rfl) (by kernel_rfl) ?_
                intro b766 w767 hg768 hb769 hbe770 hz771
                refine ⟨(fun e => by cases e), ?_⟩
                have hk776 := hb763.grown hg768 nb
                refine gv_sub [2, 3, 5, 16, 22, 23, 158, 159] (σ' := [(2, (.int .u64 n_2)), (3, (.int .u64 m_3)), (5, (.pointer (some ⟨b7, 0, none⟩))), (16, (.pointer (some ⟨b123, 0, none⟩))), (22, (.pointer (some ⟨b760, 0, none⟩))), (23, (.pointer (some ⟨b766, 0, none⟩))), (158, (.agg #[(.int .u64 r755.1.1), (.int .u64 r755.1.2)])), (159, (.agg #[(.int .i64 r755.2.1), (.int .i64 r755.2.2)]))]) (by kernel_rfl) ?_
                refine gv_store (t := 27) (b := b760) (off := 0) (v := (.agg #[(.int .u64 r755.1.1), (.int .u64 r755.1.2)])) (t' := 27) (cs := #[(.int .u64 0), (.int .u64 0)]) #[(.int .u64 r755.1.1), (.int .u64 r755.1.2)] (by decide) (by rfl) (by rfl) (by kernel_rfl) (by kernel_rfl) (by kernel_rfl) (by intro u hu; simp [Value.cells] at hu; rcases hu with rfl | rfl <;> rfl) (show 0 + 2 ≤ 2 by decide) (by rfl) hk776 ?_
                intro w772 hg773 hb774 hz775
                refine ⟨(fun e => by cases e), ?_⟩
                clear hz775 hk776 hz771 hz765 hr756 hc754 hb753 hb751 hbe626 hb545 hb543 hb540 hB538 hlo237 ap114 hk113 hg107 hb103 hbe99 hbe93 hb92
                have ap781 : ¬ (· = b766) b760 := fun hx => Nat.not_lt_of_le ((lowb hbe770) _ hx) ((fun k (hk : k = b760) => Nat.lt_of_le_of_lt (Nat.le_of_eq hk) hb763.lt) _ rfl)
                have hk782 := hb769.grown hg773 (rowne ap781)
                refine gv_sub [2, 3, 5, 16, 22, 23, 159] (σ' := [(2, (.int .u64 n_2)), (3, (.int .u64 m_3)), (5, (.pointer (some ⟨b7, 0, none⟩))), (16, (.pointer (some ⟨b123, 0, none⟩))), (22, (.pointer (some ⟨b760, 0, none⟩))), (23, (.pointer (some ⟨b766, 0, none⟩))), (159, (.agg #[(.int .i64 r755.2.1), (.int .i64 r755.2.2)]))]) (by kernel_rfl) ?_
                refine gv_store (t := 29) (b := b766) (off := 0) (v := (.agg #[(.int .i64 r755.2.1), (.int .i64 r755.2.2)])) (t' := 29) (cs := #[(.int .i64 0), (.int .i64 0)]) #[(.int .i64 r755.2.1), (.int .i64 r755.2.2)] (by decide) (by rfl) (by rfl) (by kernel_rfl) (by kernel_rfl) (by kernel_rfl) (by intro u hu; simp [Value.cells] at hu; rcases hu with rfl | rfl <;> rfl) (show 0 + 2 ≤ 2 by decide) (by rfl) hk782 ?_
                intro w777 hg778 hb779 hz780
                refine ⟨(fun e => by cases e), ?_⟩
                refine gv_sub [2, 3, 5, 16, 22, 23] (σ' := [(2, (.int .u64 n_2)), (3, (.int .u64 m_3)), (5, (.pointer (some ⟨b7, 0, none⟩))), (16, (.pointer (some ⟨b123, 0, none⟩))), (22, (.pointer (some ⟨b760, 0, none⟩))), (23, (.pointer (some ⟨b766, 0, none⟩)))]) (by kernel_rfl) ?_
                refine gv_nil ?_
                refine gv_seq ?_
                refine gv_region ?_
                have hg783 := (grown_trans (grown_trans hg758 hg762) hg768)
                have hk784 := hb750.grown hg758 nb
                have ap785 : ¬ (· = b7) b760 := fun hx => Nat.not_lt_of_le ((lowb hbe764) _ rfl) ((fun k (hk : k = b7) => Nat.lt_of_le_of_lt (Nat.le_of_eq hk) hk784.lt) _ hx)
                have hk786 := hk784.grown hg762 nb
                have ap787 : ¬ (· = b7) b766 := fun hx => Nat.not_lt_of_le ((lowb hbe770) _ rfl) ((fun k (hk : k = b7) => Nat.lt_of_le_of_lt (Nat.le_of_eq hk) hk786.lt) _ hx)
                have hk788 := ((hb750.grown hg783 nb).grown hg773 (rowne ap785)).grown hg778 (rowne ap787)
                refine gv_loadBox (t := 27) (b := b7) (t' := 27) (fr := (0, 0)) #[(.int .u64 g_1.1), (.int .u64 g_1.2)] [2, 3, 5, 16, 22, 23, 161] (σ' := [(2, (.int .u64 n_2)), (3, (.int .u64 m_3)), (5, (.pointer (some ⟨b7, 0, none⟩))), (16, (.pointer (some ⟨b123, 0, none⟩))), (22, (.pointer (some ⟨b760, 0, none⟩))), (23, (.pointer (some ⟨b766, 0, none⟩))), (161, (.agg #[(.int .u64 g_1.1), (.int .u64 g_1.2)]))]) (fun e => by cases e) (by rfl) (by rfl) (by rfl) (by kernel_rfl) (by kernel_rfl) (by kernel_rfl) (by kernel_rfl) (inw0 hk788) (by kernel_rfl) ?_
                refine gv_pure 3 [2, 3, 5, 16, 22, 23, 161, 164] (σ' := [(2, (.int .u64 n_2)), (3, (.int .u64 m_3)), (5, (.pointer (some ⟨b7, 0, none⟩))), (16, (.pointer (some ⟨b123, 0, none⟩))), (22, (.pointer (some ⟨b760, 0, none⟩))), (23, (.pointer (some ⟨b766, 0, none⟩))), (161, (.agg #[(.int .u64 g_1.1), (.int .u64 g_1.2)])), (164, (.int .u64 (IntKind.u64.wrap (n_2 + m_3))))]) (by kernel_rfl) ?_
                refine bindE h0 ?_; clear h0; intro r789 hr790 h0
                refine gv_call (f := 10) (vs := [(.agg #[(.int .u64 g_1.1), (.int .u64 g_1.2)]), (.int .u64 (IntKind.u64.wrap (n_2 + m_3)))]) (cap := []) _ (by decide) (by rfl) (by rfl) rfl (by rfl) (by rfl) enters10 (random_Skip_ok fuel (g_1.1, g_1.2) (IntKind.u64.wrap (n_2 + m_3)) w777  r789 hr790) ?_
                rintro v793 w791 ⟨hg792, rfl⟩
                refine ⟨(fun e => by cases e), ?_⟩
                refine gv_pure 3 [2, 3, 5, 16, 22, 23, 166, 167] (σ' := [(2, (.int .u64 n_2)), (3, (.int .u64 m_3)), (5, (.pointer (some ⟨b7, 0, none⟩))), (16, (.pointer (some ⟨b123, 0, none⟩))), (22, (.pointer (some ⟨b760, 0, none⟩))), (23, (.pointer (some ⟨b766, 0, none⟩))), (166, (.agg #[(.int .u64 r789.1.1), (.int .u64 r789.1.2)])), (167, (.agg #[(.int .i64 r789.2.1), (.int .i64 r789.2.2)]))]) (by kernel_rfl) ?_
                refine gv_new (fun b => .pointer (some ⟨b, 0, none⟩)) #[(.int .u64 0), (.int .u64 0)] 27 (by decide) (by rfl) (by rfl) (by kernel_rfl) (by kernel_rfl) ?_
                intro b794 w795 hg796 hb797 hbe798 hz799
                refine ⟨(fun e => by cases e), ?_⟩
                refine gv_sub [2, 3, 5, 16, 22, 23, 24, 166, 167] (σ' := [(2, (.int .u64 n_2)), (3, (.int .u64 m_3)), (5, (.pointer (some ⟨b7, 0, none⟩))), (16, (.pointer (some ⟨b123, 0, none⟩))), (22, (.pointer (some ⟨b760, 0, none⟩))), (23, (.pointer (some ⟨b766, 0, none⟩))), (24, (.pointer (some ⟨b794, 0, none⟩))), (166, (.agg #[(.int .u64 r789.1.1), (.int .u64 r789.1.2)])), (167, (.agg #[(.int .i64 r789.2.1), (.int .i64 r789.2.2)]))]) (by kernel_rfl) ?_
                refine gv_new (fun b => .pointer (some ⟨b, 0, none⟩)) #[(.int .i64 0), (.int .i64 0)] 29 (by decide) (by rfl) (by rfl) (by kernel_rfl) (by kernel_rfl) ?_
                intro b800 w801 hg802 hb803 hbe804 hz805
                refine ⟨(fun e => by cases e), ?_⟩
                have hk810 := hb797.grown hg802 nb
                refine gv_sub [2, 3, 5, 16, 22, 23, 24, 25, 166, 167] (σ' := [(2, (.int .u64 n_2)), (3, (.int .u64 m_3)), (5, (.pointer (some ⟨b7, 0, none⟩))), (16, (.pointer (some ⟨b123, 0, none⟩))), (22, (.pointer (some ⟨b760, 0, none⟩))), (23, (.pointer (some ⟨b766, 0, none⟩))), (24, (.pointer (some ⟨b794, 0, none⟩))), (25, (.pointer (some ⟨b800, 0, none⟩))), (166, (.agg #[(.int .u64 r789.1.1), (.int .u64 r789.1.2)])), (167, (.agg #[(.int .i64 r789.2.1), (.int .i64 r789.2.2)]))]) (by kernel_rfl) ?_
                refine gv_store (t := 27) (b := b794) (off := 0) (v := (.agg #[(.int .u64 r789.1.1), (.int .u64 r789.1.2)])) (t' := 27) (cs := #[(.int .u64 0), (.int .u64 0)]) #[(.int .u64 r789.1.1), (.int .u64 r789.1.2)] (by decide) (by rfl) (by rfl) (by kernel_rfl) (by kernel_rfl) (by kernel_rfl) (by intro u hu; simp [Value.cells] at hu; rcases hu with rfl | rfl <;> rfl) (show 0 + 2 ≤ 2 by decide) (by rfl) hk810 ?_
                intro w806 hg807 hb808 hz809
                refine ⟨(fun e => by cases e), ?_⟩
                have ap815 : ¬ (· = b800) b794 := fun hx => Nat.not_lt_of_le ((lowb hbe804) _ hx) ((fun k (hk : k = b794) => Nat.lt_of_le_of_lt (Nat.le_of_eq hk) hb797.lt) _ rfl)
                have hk816 := hb803.grown hg807 (rowne ap815)
                refine gv_sub [2, 3, 5, 16, 22, 23, 24, 25, 167] (σ' := [(2, (.int .u64 n_2)), (3, (.int .u64 m_3)), (5, (.pointer (some ⟨b7, 0, none⟩))), (16, (.pointer (some ⟨b123, 0, none⟩))), (22, (.pointer (some ⟨b760, 0, none⟩))), (23, (.pointer (some ⟨b766, 0, none⟩))), (24, (.pointer (some ⟨b794, 0, none⟩))), (25, (.pointer (some ⟨b800, 0, none⟩))), (167, (.agg #[(.int .i64 r789.2.1), (.int .i64 r789.2.2)]))]) (by kernel_rfl) ?_
                refine gv_store (t := 29) (b := b800) (off := 0) (v := (.agg #[(.int .i64 r789.2.1), (.int .i64 r789.2.2)])) (t' := 29) (cs := #[(.int .i64 0), (.int .i64 0)]) #[(.int .i64 r789.2.1), (.int .i64 r789.2.2)] (by decide) (by rfl) (by rfl) (by kernel_rfl) (by kernel_rfl) (by kernel_rfl) (by intro u hu; simp [Value.cells] at hu; rcases hu with rfl | rfl <;> rfl) (show 0 + 2 ≤ 2 by decide) (by rfl) hk816 ?_
                intro w811 hg812 hb813 hz814
                refine ⟨(fun e => by cases e), ?_⟩
                refine gv_sub [2, 3, 5, 16, 22, 23, 24, 25] (σ' := [(2, (.int .u64 n_2)), (3, (.int .u64 m_3)), (5, (.pointer (some ⟨b7, 0, none⟩))), (16, (.pointer (some ⟨b123, 0, none⟩))), (22, (.pointer (some ⟨b760, 0, none⟩))), (23, (.pointer (some ⟨b766, 0, none⟩))), (24, (.pointer (some ⟨b794, 0, none⟩))), (25, (.pointer (some ⟨b800, 0, none⟩)))]) (by kernel_rfl) ?_
                refine gv_nil ?_
                refine gv_seq ?_
                refine gv_region ?_
                have hg817 := (grown_trans (grown_trans hg792 hg796) hg802)
                have hk818 := hk788.grown hg792 nb
                have ap819 : ¬ (· = b7) b794 := fun hx => Nat.not_lt_of_le ((lowb hbe798) _ rfl) ((fun k (hk : k = b7) => Nat.lt_of_le_of_lt (Nat.le_of_eq hk) hk818.lt) _ hx)
                have hk820 := hk818.grown hg796 nb
                have ap821 : ¬ (· = b7) b800 := fun hx => Nat.not_lt_of_le ((lowb hbe804) _ rfl) ((fun k (hk : k = b7) => Nat.lt_of_le_of_lt (Nat.le_of_eq hk) hk820.lt) _ hx)
                have hk822 := ((hk788.grown hg817 nb).grown hg807 (rowne ap819)).grown hg812 (rowne ap821)
                refine gv_loadBox (t := 27) (b := b7) (t' := 27) (fr := (0, 0)) #[(.int .u64 g_1.1), (.int .u64 g_1.2)] [2, 3, 16, 22, 23, 24, 25, 169] (σ' := [(2, (.int .u64 n_2)), (3, (.int .u64 m_3)), (16, (.pointer (some ⟨b123, 0, none⟩))), (22, (.pointer (some ⟨b760, 0, none⟩))), (23, (.pointer (some ⟨b766, 0, none⟩))), (24, (.pointer (some ⟨b794, 0, none⟩))), (25, (.pointer (some ⟨b800, 0, none⟩))), (169, (.agg #[(.int .u64 g_1.1), (.int .u64 g_1.2)]))]) (fun e => by cases e) (by rfl) (by rfl) (by rfl) (by kernel_rfl) (by kernel_rfl) (by kernel_rfl) (by kernel_rfl) (inw0 hk822) (by kernel_rfl) ?_
                refine gv_pure 2 [2, 3, 16, 22, 23, 24, 25, 169, 171] (σ' := [(2, (.int .u64 n_2)), (3, (.int .u64 m_3)), (16, (.pointer (some ⟨b123, 0, none⟩))), (22, (.pointer (some ⟨b760, 0, none⟩))), (23, (.pointer (some ⟨b766, 0, none⟩))), (24, (.pointer (some ⟨b794, 0, none⟩))), (25, (.pointer (some ⟨b800, 0, none⟩))), (169, (.agg #[(.int .u64 g_1.1), (.int .u64 g_1.2)])), (171, (.int .u64 (IntKind.u64.wrap (n_2 + 1))))]) (by kernel_rfl) ?_
                refine bindE h0 ?_; clear h0; intro r823 hr824 h0
                refine gv_call (f := 10) (vs := [(.agg #[(.int .u64 g_1.1), (.int .u64 g_1.2)]), (.int .u64 (IntKind.u64.wrap (n_2 + 1)))]) (cap := []) _ (by decide) (by rfl) (by rfl) rfl (by rfl) (by rfl) enters10 (random_Skip_ok fuel (g_1.1, g_1.2) (IntKind.u64.wrap (n_2 + 1)) w811  r823 hr824) ?_
                rintro v827 w825 ⟨hg826, rfl⟩
                refine ⟨(fun e => by cases e), ?_⟩
                refine gv_pure 3 [2, 3, 16, 22, 23, 24, 25, 173, 174] (σ' := [(2, (.int .u64 n_2)), (3, (.int .u64 m_3)), (16, (.pointer (some ⟨b123, 0, none⟩))), (22, (.pointer (some ⟨b760, 0, none⟩))), (23, (.pointer (some ⟨b766, 0, none⟩))), (24, (.pointer (some ⟨b794, 0, none⟩))), (25, (.pointer (some ⟨b800, 0, none⟩))), (173, (.agg #[(.int .u64 r823.1.1), (.int .u64 r823.1.2)])), (174, (.agg #[(.int .i64 r823.2.1), (.int .i64 r823.2.2)]))]) (by kernel_rfl) ?_
                refine gv_new (fun b => .pointer (some ⟨b, 0, none⟩)) #[(.int .u64 0), (.int .u64 0)] 27 (by decide) (by rfl) (by rfl) (by kernel_rfl) (by kernel_rfl) ?_
                intro b828 w829 hg830 hb831 hbe832 hz833
                refine ⟨(fun e => by cases e), ?_⟩
                clear hz833 hr824 hk822 ap821 hk820 ap819 hk818 hg817 hz814 hk816 hz809 hk810 hz805 hb803 hz799 hr790 hk788 ap787 hk786 ap785 hk784 hg783 hz780 hk782 hb769 hb750 hbe127 hg121 hk117 hbe11 hg3
                refine gv_sub [2, 3, 16, 22, 23, 24, 25, 26, 173, 174] (σ' := [(2, (.int .u64 n_2)), (3, (.int .u64 m_3)), (16, (.pointer (some ⟨b123, 0, none⟩))), (22, (.pointer (some ⟨b760, 0, none⟩))), (23, (.pointer (some ⟨b766, 0, none⟩))), (24, (.pointer (some ⟨b794, 0, none⟩))), (25, (.pointer (some ⟨b800, 0, none⟩))), (26, (.pointer (some ⟨b828, 0, none⟩))), (173, (.agg #[(.int .u64 r823.1.1), (.int .u64 r823.1.2)])), (174, (.agg #[(.int .i64 r823.2.1), (.int .i64 r823.2.2)]))]) (by kernel_rfl) ?_
                refine gv_new (fun b => .pointer (some ⟨b, 0, none⟩)) #[(.int .i64 0), (.int .i64 0)] 29 (by decide) (by rfl) (by rfl) (by kernel_rfl) (by kernel_rfl) ?_
                intro b834 w835 hg836 hb837 hbe838 hz839
                refine ⟨(fun e => by cases e), ?_⟩
                have hk844 := hb831.grown hg836 nb
                refine gv_sub [2, 3, 16, 22, 23, 24, 25, 26, 27, 173, 174] (σ' := [(2, (.int .u64 n_2)), (3, (.int .u64 m_3)), (16, (.pointer (some ⟨b123, 0, none⟩))), (22, (.pointer (some ⟨b760, 0, none⟩))), (23, (.pointer (some ⟨b766, 0, none⟩))), (24, (.pointer (some ⟨b794, 0, none⟩))), (25, (.pointer (some ⟨b800, 0, none⟩))), (26, (.pointer (some ⟨b828, 0, none⟩))), (27, (.pointer (some ⟨b834, 0, none⟩))), (173, (.agg #[(.int .u64 r823.1.1), (.int .u64 r823.1.2)])), (174, (.agg #[(.int .i64 r823.2.1), (.int .i64 r823.2.2)]))]) (by kernel_rfl) ?_
                refine gv_store (t := 27) (b := b828) (off := 0) (v := (.agg #[(.int .u64 r823.1.1), (.int .u64 r823.1.2)])) (t' := 27) (cs := #[(.int .u64 0), (.int .u64 0)]) #[(.int .u64 r823.1.1), (.int .u64 r823.1.2)] (by decide) (by rfl) (by rfl) (by kernel_rfl) (by kernel_rfl) (by kernel_rfl) (by intro u hu; simp [Value.cells] at hu; rcases hu with rfl | rfl <;> rfl) (show 0 + 2 ≤ 2 by decide) (by rfl) hk844 ?_
                intro w840 hg841 hb842 hz843
                refine ⟨(fun e => by cases e), ?_⟩
                have ap849 : ¬ (· = b834) b828 := fun hx => Nat.not_lt_of_le ((lowb hbe838) _ hx) ((fun k (hk : k = b828) => Nat.lt_of_le_of_lt (Nat.le_of_eq hk) hb831.lt) _ rfl)
                have hk850 := hb837.grown hg841 (rowne ap849)
                refine gv_sub [2, 3, 16, 22, 23, 24, 25, 26, 27, 174] (σ' := [(2, (.int .u64 n_2)), (3, (.int .u64 m_3)), (16, (.pointer (some ⟨b123, 0, none⟩))), (22, (.pointer (some ⟨b760, 0, none⟩))), (23, (.pointer (some ⟨b766, 0, none⟩))), (24, (.pointer (some ⟨b794, 0, none⟩))), (25, (.pointer (some ⟨b800, 0, none⟩))), (26, (.pointer (some ⟨b828, 0, none⟩))), (27, (.pointer (some ⟨b834, 0, none⟩))), (174, (.agg #[(.int .i64 r823.2.1), (.int .i64 r823.2.2)]))]) (by kernel_rfl) ?_
                refine gv_store (t := 29) (b := b834) (off := 0) (v := (.agg #[(.int .i64 r823.2.1), (.int .i64 r823.2.2)])) (t' := 29) (cs := #[(.int .i64 0), (.int .i64 0)]) #[(.int .i64 r823.2.1), (.int .i64 r823.2.2)] (by decide) (by rfl) (by rfl) (by kernel_rfl) (by kernel_rfl) (by kernel_rfl) (by intro u hu; simp [Value.cells] at hu; rcases hu with rfl | rfl <;> rfl) (show 0 + 2 ≤ 2 by decide) (by rfl) hk850 ?_
                intro w845 hg846 hb847 hz848
                refine ⟨(fun e => by cases e), ?_⟩
                refine gv_sub [2, 3, 16, 22, 23, 24, 25, 26, 27] (σ' := [(2, (.int .u64 n_2)), (3, (.int .u64 m_3)), (16, (.pointer (some ⟨b123, 0, none⟩))), (22, (.pointer (some ⟨b760, 0, none⟩))), (23, (.pointer (some ⟨b766, 0, none⟩))), (24, (.pointer (some ⟨b794, 0, none⟩))), (25, (.pointer (some ⟨b800, 0, none⟩))), (26, (.pointer (some ⟨b828, 0, none⟩))), (27, (.pointer (some ⟨b834, 0, none⟩)))]) (by kernel_rfl) ?_
                refine gv_nil ?_
                refine gv_seq ?_
                refine gv_region ?_
                have hg851 := (grown_trans (grown_trans hg758 hg762) hg768)
                have hk852 := hb752.grown hg758 nb
                have ap853 : ¬ (· = b123) b760 := fun hx => Nat.not_lt_of_le ((lowb hbe764) _ rfl) ((fun k (hk : k = b123) => Nat.lt_of_le_of_lt (Nat.le_of_eq hk) hk852.lt) _ hx)
                have hk854 := hk852.grown hg762 nb
                have ap855 : ¬ (· = b123) b766 := fun hx => Nat.not_lt_of_le ((lowb hbe770) _ rfl) ((fun k (hk : k = b123) => Nat.lt_of_le_of_lt (Nat.le_of_eq hk) hk854.lt) _ hx)
                have hg856 := (grown_trans (grown_trans hg792 hg796) hg802)
                have hk857 := (((hk854.grown hg768 nb).grown hg773 (rowne ap853)).grown hg778 (rowne ap855)).grown hg792 nb
                have ap858 : ¬ (· = b123) b794 := fun hx => Nat.not_lt_of_le ((lowb hbe798) _ rfl) ((fun k (hk : k = b123) => Nat.lt_of_le_of_lt (Nat.le_of_eq hk) hk857.lt) _ hx)
                have hk859 := hk857.grown hg796 nb
                have ap860 : ¬ (· = b123) b800 := fun hx => Nat.not_lt_of_le ((lowb hbe804) _ rfl) ((fun k (hk : k = b123) => Nat.lt_of_le_of_lt (Nat.le_of_eq hk) hk859.lt) _ hx)
                have hg861 := (grown_trans (grown_trans hg826 hg830) hg836)
                have hk862 := (((hk859.grown hg802 nb).grown hg807 (rowne ap858)).grown hg812 (rowne ap860)).grown hg826 nb
                have ap863 : ¬ (· = b123) b828 := fun hx => Nat.not_lt_of_le ((lowb hbe832) _ rfl) ((fun k (hk : k = b123) => Nat.lt_of_le_of_lt (Nat.le_of_eq hk) hk862.lt) _ hx)
                have hk864 := hk862.grown hg830 nb
                have ap865 : ¬ (· = b123) b834 := fun hx => Nat.not_lt_of_le ((lowb hbe838) _ rfl) ((fun k (hk : k = b123) => Nat.lt_of_le_of_lt (Nat.le_of_eq hk) hk864.lt) _ hx)
                have hk866 := ((((((((hb752.grown hg851 nb).grown hg773 (rowne ap853)).grown hg778 (rowne ap855)).grown hg856 nb).grown hg807 (rowne ap858)).grown hg812 (rowne ap860)).grown hg861 nb).grown hg841 (rowne ap863)).grown hg846 (rowne ap865)
                refine gv_loadBox (t := 27) (b := b123) (t' := 27) (fr := (0, 0)) #[(.int .u64 r118.1.1), (.int .u64 r118.1.2)] [2, 3, 22, 23, 24, 25, 26, 27, 176] (σ' := [(2, (.int .u64 n_2)), (3, (.int .u64 m_3)), (22, (.pointer (some ⟨b760, 0, none⟩))), (23, (.pointer (some ⟨b766, 0, none⟩))), (24, (.pointer (some ⟨b794, 0, none⟩))), (25, (.pointer (some ⟨b800, 0, none⟩))), (26, (.pointer (some ⟨b828, 0, none⟩))), (27, (.pointer (some ⟨b834, 0, none⟩))), (176, (.agg #[(.int .u64 r118.1.1), (.int .u64 r118.1.2)]))]) (fun e => by cases e) (by rfl) (by rfl) (by rfl) (by kernel_rfl) (by kernel_rfl) (by kernel_rfl) (by kernel_rfl) (inw0 hk866) (by kernel_rfl) ?_
                refine bindE h0 ?_; clear h0; intro r867 hr868 h0
                refine gv_call (f := 9) (vs := [(.agg #[(.int .u64 r118.1.1), (.int .u64 r118.1.2)])]) (cap := []) _ (by decide) (by rfl) (by rfl) rfl (by rfl) (by rfl) enters9 (random_Next_ok fuel (r118.1.1, r118.1.2) w845  r867 hr868) ?_
                rintro v871 w869 ⟨hg870, rfl⟩
                refine ⟨(fun e => by cases e), ?_⟩
                refine gv_pure 4 [2, 3, 22, 23, 24, 25, 26, 27, 178, 179, 180] (σ' := [(2, (.int .u64 n_2)), (3, (.int .u64 m_3)), (22, (.pointer (some ⟨b760, 0, none⟩))), (23, (.pointer (some ⟨b766, 0, none⟩))), (24, (.pointer (some ⟨b794, 0, none⟩))), (25, (.pointer (some ⟨b800, 0, none⟩))), (26, (.pointer (some ⟨b828, 0, none⟩))), (27, (.pointer (some ⟨b834, 0, none⟩))), (178, (.int .u64 r867.1)), (179, (.agg #[(.int .u64 r867.2.1.1), (.int .u64 r867.2.1.2)])), (180, (.agg #[(.int .i64 r867.2.2.1), (.int .i64 r867.2.2.2)]))]) (by kernel_rfl) ?_
                refine gv_new (fun b => .pointer (some ⟨b, 0, none⟩)) #[(.int .u64 0), (.int .u64 0)] 27 (by decide) (by rfl) (by rfl) (by kernel_rfl) (by kernel_rfl) ?_
                intro b872 w873 hg874 hb875 hbe876 hz877
                refine ⟨(fun e => by cases e), ?_⟩
                refine gv_sub [2, 3, 22, 23, 24, 25, 26, 27, 29, 178, 179, 180] (σ' := [(2, (.int .u64 n_2)), (3, (.int .u64 m_3)), (22, (.pointer (some ⟨b760, 0, none⟩))), (23, (.pointer (some ⟨b766, 0, none⟩))), (24, (.pointer (some ⟨b794, 0, none⟩))), (25, (.pointer (some ⟨b800, 0, none⟩))), (26, (.pointer (some ⟨b828, 0, none⟩))), (27, (.pointer (some ⟨b834, 0, none⟩))), (29, (.pointer (some ⟨b872, 0, none⟩))), (178, (.int .u64 r867.1)), (179, (.agg #[(.int .u64 r867.2.1.1), (.int .u64 r867.2.1.2)])), (180, (.agg #[(.int .i64 r867.2.2.1), (.int .i64 r867.2.2.2)]))]) (by kernel_rfl) ?_
                refine gv_new (fun b => .pointer (some ⟨b, 0, none⟩)) #[(.int .i64 0), (.int .i64 0)] 29 (by decide) (by rfl) (by rfl) (by kernel_rfl) (by kernel_rfl) ?_
                intro b878 w879 hg880 hb881 hbe882 hz883
                refine ⟨(fun e => by cases e), ?_⟩
                refine gv_pure 1 [2, 3, 22, 23, 24, 25, 26, 27, 29, 30, 179, 180] (σ' := [(2, (.int .u64 n_2)), (3, (.int .u64 m_3)), (22, (.pointer (some ⟨b760, 0, none⟩))), (23, (.pointer (some ⟨b766, 0, none⟩))), (24, (.pointer (some ⟨b794, 0, none⟩))), (25, (.pointer (some ⟨b800, 0, none⟩))), (26, (.pointer (some ⟨b828, 0, none⟩))), (27, (.pointer (some ⟨b834, 0, none⟩))), (29, (.pointer (some ⟨b872, 0, none⟩))), (30, (.pointer (some ⟨b878, 0, none⟩))), (179, (.agg #[(.int .u64 r867.2.1.1), (.int .u64 r867.2.1.2)])), (180, (.agg #[(.int .i64 r867.2.2.1), (.int .i64 r867.2.2.2)]))]) (by kernel_rfl) ?_
                have hk888 := hb875.grown hg880 nb
                refine gv_store (t := 27) (b := b872) (off := 0) (v := (.agg #[(.int .u64 r867.2.1.1), (.int .u64 r867.2.1.2)])) (t' := 27) (cs := #[(.int .u64 0), (.int .u64 0)]) #[(.int .u64 r867.2.1.1), (.int .u64 r867.2.1.2)] (by decide) (by rfl) (by rfl) (by kernel_rfl) (by kernel_rfl) (by kernel_rfl) (by intro u hu; simp [Value.cells] at hu; rcases hu with rfl | rfl <;> rfl) (show 0 + 2 ≤ 2 by decide) (by rfl) hk888 ?_
                intro w884 hg885 hb886 hz887
                refine ⟨(fun e => by cases e), ?_⟩
                have ap893 : ¬ (· = b878) b872 := fun hx => Nat.not_lt_of_le ((lowb hbe882) _ hx) ((fun k (hk : k = b872) => Nat.lt_of_le_of_lt (Nat.le_of_eq hk) hb875.lt) _ rfl)
                have hk894 := hb881.grown hg885 (rowne ap893)
                refine gv_sub [2, 3, 22, 23, 24, 25, 26, 27, 29, 30, 180] (σ' := [(2, (.int .u64 n_2)), (3, (.int .u64 m_3)), (22, (.pointer (some ⟨b760, 0, none⟩))), (23, (.pointer (some ⟨b766, 0, none⟩))), (24, (.pointer (some ⟨b794, 0, none⟩))), (25, (.pointer (some ⟨b800, 0, none⟩))), (26, (.pointer (some ⟨b828, 0, none⟩))), (27, (.pointer (some ⟨b834, 0, none⟩))), (29, (.pointer (some ⟨b872, 0, none⟩))), (30, (.pointer (some ⟨b878, 0, none⟩))), (180, (.agg #[(.int .i64 r867.2.2.1), (.int .i64 r867.2.2.2)]))]) (by kernel_rfl) ?_
                refine gv_store (t := 29) (b := b878) (off := 0) (v := (.agg #[(.int .i64 r867.2.2.1), (.int .i64 r867.2.2.2)])) (t' := 29) (cs := #[(.int .i64 0), (.int .i64 0)]) #[(.int .i64 r867.2.2.1), (.int .i64 r867.2.2.2)] (by decide) (by rfl) (by rfl) (by kernel_rfl) (by kernel_rfl) (by kernel_rfl) (by intro u hu; simp [Value.cells] at hu; rcases hu with rfl | rfl <;> rfl) (show 0 + 2 ≤ 2 by decide) (by rfl) hk894 ?_
                intro w889 hg890 hb891 hz892
                refine ⟨(fun e => by cases e), ?_⟩
                clear hz892 hk894 hz887 hk888 hz883 hb881 hz877 hr868 hk866 ap865 hk864 ap863 hk862 hg861 ap860 hk859 ap858 hk857 hg856 ap855 hk854 ap853 hk852 hg851 hz848 hk850 hz843 hk844 hz839 hb837 hb752 hlo247
                refine gv_sub [2, 3, 22, 23, 24, 25, 26, 27, 29, 30] (σ' := [(2, (.int .u64 n_2)), (3, (.int .u64 m_3)), (22, (.pointer (some ⟨b760, 0, none⟩))), (23, (.pointer (some ⟨b766, 0, none⟩))), (24, (.pointer (some ⟨b794, 0, none⟩))), (25, (.pointer (some ⟨b800, 0, none⟩))), (26, (.pointer (some ⟨b828, 0, none⟩))), (27, (.pointer (some ⟨b834, 0, none⟩))), (29, (.pointer (some ⟨b872, 0, none⟩))), (30, (.pointer (some ⟨b878, 0, none⟩)))]) (by kernel_rfl) ?_
                refine gv_nil ?_
                refine gv_seq ?_
                refine gv_region ?_
                refine bindE h0 ?_; clear h0; intro j895 h1 h0
                refine gv_cut_ops (J := fun a w896 => Below w0.heap.size w0 w896 ∧ w889.heap.size ≤ w896.heap.size ∧ a.defers = [] ∧ a.tmps.size = 221 ∧ Ok [(8, (.bool j895))] a.tmps) ?_ ?_
                · skip
                  refine gv_pure 1 [2, 3, 22, 24, 25, 26, 27, 29, 30, 181] (σ' := [(2, (.int .u64 n_2)), (3, (.int .u64 m_3)), (22, (.pointer (some ⟨b760, 0, none⟩))), (24, (.pointer (some ⟨b794, 0, none⟩))), (25, (.pointer (some ⟨b800, 0, none⟩))), (26, (.pointer (some ⟨b828, 0, none⟩))), (27, (.pointer (some ⟨b834, 0, none⟩))), (29, (.pointer (some ⟨b872, 0, none⟩))), (30, (.pointer (some ⟨b878, 0, none⟩))), (181, (.pointer (some ⟨b766, 0, none⟩)))]) (by kernel_rfl) ?_
                  have hg897 := (grown_trans (grown_trans hg792 hg796) hg802)
                  have hk898 := hb779.grown hg792 nb
                  have ap899 : ¬ (· = b766) b794 := fun hx => Nat.not_lt_of_le ((lowb hbe798) _ rfl) ((fun k (hk : k = b766) => Nat.lt_of_le_of_lt (Nat.le_of_eq hk) hk898.lt) _ hx)
                  have hk900 := hk898.grown hg796 nb
                  have ap901 : ¬ (· = b766) b800 := fun hx => Nat.not_lt_of_le ((lowb hbe804) _ rfl) ((fun k (hk : k = b766) => Nat.lt_of_le_of_lt (Nat.le_of_eq hk) hk900.lt) _ hx)
                  have hg902 := (grown_trans (grown_trans hg826 hg830) hg836)
                  have hk903 := (((hk900.grown hg802 nb).grown hg807 (rowne ap899)).grown hg812 (rowne ap901)).grown hg826 nb
                  have ap904 : ¬ (· = b766) b828 := fun hx => Nat.not_lt_of_le ((lowb hbe832) _ rfl) ((fun k (hk : k = b766) => Nat.lt_of_le_of_lt (Nat.le_of_eq hk) hk903.lt) _ hx)
                  have hk905 := hk903.grown hg830 nb
                  have ap906 : ¬ (· = b766) b834 := fun hx => Nat.not_lt_of_le ((lowb hbe838) _ rfl) ((fun k (hk : k = b766) => Nat.lt_of_le_of_lt (Nat.le_of_eq hk) hk905.lt) _ hx)
                  have hg907 := (grown_trans (grown_trans hg870 hg874) hg880)
                  have hk908 := (((hk905.grown hg836 nb).grown hg841 (rowne ap904)).grown hg846 (rowne ap906)).grown hg870 nb
                  have ap909 : ¬ (· = b766) b872 := fun hx => Nat.not_lt_of_le ((lowb hbe876) _ rfl) ((fun k (hk : k = b766) => Nat.lt_of_le_of_lt (Nat.le_of_eq hk) hk908.lt) _ hx)
                  have hk910 := hk908.grown hg874 nb
                  have ap911 : ¬ (· = b766) b878 := fun hx => Nat.not_lt_of_le ((lowb hbe882) _ rfl) ((fun k (hk : k = b766) => Nat.lt_of_le_of_lt (Nat.le_of_eq hk) hk910.lt) _ hx)
                  have hk912 := ((((((((hb779.grown hg897 nb).grown hg807 (rowne ap899)).grown hg812 (rowne ap901)).grown hg902 nb).grown hg841 (rowne ap904)).grown hg846 (rowne ap906)).grown hg907 nb).grown hg885 (rowne ap909)).grown hg890 (rowne ap911)
                  refine gv_load (t := 3) (A := ⟨b766, 0, none⟩) (.int .i64 r755.2.1) [2, 3, 22, 24, 25, 26, 27, 29, 30, 182] (σ' := [(2, (.int .u64 n_2)), (3, (.int .u64 m_3)), (22, (.pointer (some ⟨b760, 0, none⟩))), (24, (.pointer (some ⟨b794, 0, none⟩))), (25, (.pointer (some ⟨b800, 0, none⟩))), (26, (.pointer (some ⟨b828, 0, none⟩))), (27, (.pointer (some ⟨b834, 0, none⟩))), (29, (.pointer (some ⟨b872, 0, none⟩))), (30, (.pointer (some ⟨b878, 0, none⟩))), (182, (.int .i64 r755.2.1))]) (fun e => by cases e) (by rfl) (by rfl) (by rfl) (by kernel_rfl) (by kernel_rfl) (by kernel_rfl) (inw0 (hk912.cell 0 rfl)) (by kernel_rfl) ?_
                  refine gv_pure 2 [2, 3, 22, 24, 25, 26, 27, 29, 30, 184] (σ' := [(2, (.int .u64 n_2)), (3, (.int .u64 m_3)), (22, (.pointer (some ⟨b760, 0, none⟩))), (24, (.pointer (some ⟨b794, 0, none⟩))), (25, (.pointer (some ⟨b800, 0, none⟩))), (26, (.pointer (some ⟨b828, 0, none⟩))), (27, (.pointer (some ⟨b834, 0, none⟩))), (29, (.pointer (some ⟨b872, 0, none⟩))), (30, (.pointer (some ⟨b878, 0, none⟩))), (184, (.bool (r755.2.1 == 0)))]) (by kernel_rfl) ?_
                  refine gv_split (s := 184) (g := (r755.2.1 == 0)) (by rfl) (fun hc913 => ?_) (fun hc913 => ?_)
                  · skip
                    replace h1 := ite_t hc913 h1
                    refine gv_pure 1 [2, 3, 22, 24, 26, 27, 29, 30, 184, 185] (σ' := [(2, (.int .u64 n_2)), (3, (.int .u64 m_3)), (22, (.pointer (some ⟨b760, 0, none⟩))), (24, (.pointer (some ⟨b794, 0, none⟩))), (26, (.pointer (some ⟨b828, 0, none⟩))), (27, (.pointer (some ⟨b834, 0, none⟩))), (29, (.pointer (some ⟨b872, 0, none⟩))), (30, (.pointer (some ⟨b878, 0, none⟩))), (184, (.bool true)), (185, (.pointer (some ⟨b800, 0, none⟩)))]) (by kernel_rfl) ?_
                    have hk914 := hb813.grown hg826 nb
                    have ap915 : ¬ (· = b800) b828 := fun hx => Nat.not_lt_of_le ((lowb hbe832) _ rfl) ((fun k (hk : k = b800) => Nat.lt_of_le_of_lt (Nat.le_of_eq hk) hk914.lt) _ hx)
                    have hk916 := hk914.grown hg830 nb
                    have ap917 : ¬ (· = b800) b834 := fun hx => Nat.not_lt_of_le ((lowb hbe838) _ rfl) ((fun k (hk : k = b800) => Nat.lt_of_le_of_lt (Nat.le_of_eq hk) hk916.lt) _ hx)
                    have hk918 := (((hk916.grown hg836 nb).grown hg841 (rowne ap915)).grown hg846 (rowne ap917)).grown hg870 nb
                    have ap919 : ¬ (· = b800) b872 := fun hx => Nat.not_lt_of_le ((lowb hbe876) _ rfl) ((fun k (hk : k = b800) => Nat.lt_of_le_of_lt (Nat.le_of_eq hk) hk918.lt) _ hx)
                    have hk920 := hk918.grown hg874 nb
                    have ap921 : ¬ (· = b800) b878 := fun hx => Nat.not_lt_of_le ((lowb hbe882) _ rfl) ((fun k (hk : k = b800) => Nat.lt_of_le_of_lt (Nat.le_of_eq hk) hk920.lt) _ hx)
                    have hk922 := (((((hb813.grown hg902 nb).grown hg841 (rowne ap915)).grown hg846 (rowne ap917)).grown hg907 nb).grown hg885 (rowne ap919)).grown hg890 (rowne ap921)
                    refine gv_load (t := 3) (A := ⟨b800, 0, none⟩) (.int .i64 r789.2.1) [2, 3, 22, 24, 26, 27, 29, 30, 184, 186] (σ' := [(2, (.int .u64 n_2)), (3, (.int .u64 m_3)), (22, (.pointer (some ⟨b760, 0, none⟩))), (24, (.pointer (some ⟨b794, 0, none⟩))), (26, (.pointer (some ⟨b828, 0, none⟩))), (27, (.pointer (some ⟨b834, 0, none⟩))), (29, (.pointer (some ⟨b872, 0, none⟩))), (30, (.pointer (some ⟨b878, 0, none⟩))), (184, (.bool true)), (186, (.int .i64 r789.2.1))]) (fun e => by cases e) (by rfl) (by rfl) (by rfl) (by kernel_rfl) (by kernel_rfl) (by kernel_rfl) (inw0 (hk922.cell 0 rfl)) (by kernel_rfl) ?_
                    refine gv_pure 3 [2, 3, 22, 24, 26, 27, 29, 30, 189] (σ' := [(2, (.int .u64 n_2)), (3, (.int .u64 m_3)), (22, (.pointer (some ⟨b760, 0, none⟩))), (24, (.pointer (some ⟨b794, 0, none⟩))), (26, (.pointer (some ⟨b828, 0, none⟩))), (27, (.pointer (some ⟨b834, 0, none⟩))), (29, (.pointer (some ⟨b872, 0, none⟩))), (30, (.pointer (some ⟨b878, 0, none⟩))), (189, (.bool (r789.2.1 == 0)))]) (by kernel_rfl) ?_
                    refine gv_split (s := 189) (g := (r789.2.1 == 0)) (by rfl) (fun hc923 => ?_) (fun hc923 => ?_)
                    · skip
                      replace h1 := ite_t hc923 h1
                      refine gv_pure 1 [2, 3, 22, 24, 26, 29, 30, 189, 190] (σ' := [(2, (.int .u64 n_2)), (3, (.int .u64 m_3)), (22, (.pointer (some ⟨b760, 0, none⟩))), (24, (.pointer (some ⟨b794, 0, none⟩))), (26, (.pointer (some ⟨b828, 0, none⟩))), (29, (.pointer (some ⟨b872, 0, none⟩))), (30, (.pointer (some ⟨b878, 0, none⟩))), (189, (.bool true)), (190, (.pointer (some ⟨b834, 0, none⟩)))]) (by kernel_rfl) ?_
                      have hk924 := hb847.grown hg870 nb
                      have ap925 : ¬ (· = b834) b872 := fun hx => Nat.not_lt_of_le ((lowb hbe876) _ rfl) ((fun k (hk : k = b834) => Nat.lt_of_le_of_lt (Nat.le_of_eq hk) hk924.lt) _ hx)
                      have hk926 := hk924.grown hg874 nb
                      have ap927 : ¬ (· = b834) b878 := fun hx => Nat.not_lt_of_le ((lowb hbe882) _ rfl) ((fun k (hk : k = b834) => Nat.lt_of_le_of_lt (Nat.le_of_eq hk) hk926.lt) _ hx)
                      have hk928 := ((hb847.grown hg907 nb).grown hg885 (rowne ap925)).grown hg890 (rowne ap927)
                      refine gv_load (t := 3) (A := ⟨b834, 0, none⟩) (.int .i64 r823.2.1) [2, 3, 22, 24, 26, 29, 30, 189, 191] (σ' := [(2, (.int .u64 n_2)), (3, (.int .u64 m_3)), (22, (.pointer (some ⟨b760, 0, none⟩))), (24, (.pointer (some ⟨b794, 0, none⟩))), (26, (.pointer (some ⟨b828, 0, none⟩))), (29, (.pointer (some ⟨b872, 0, none⟩))), (30, (.pointer (some ⟨b878, 0, none⟩))), (189, (.bool true)), (191, (.int .i64 r823.2.1))]) (fun e => by cases e) (by rfl) (by rfl) (by rfl) (by kernel_rfl) (by kernel_rfl) (by kernel_rfl) (inw0 (hk928.cell 0 rfl)) (by kernel_rfl) ?_
                      refine gv_pure 3 [2, 3, 22, 24, 26, 29, 30, 194] (σ' := [(2, (.int .u64 n_2)), (3, (.int .u64 m_3)), (22, (.pointer (some ⟨b760, 0, none⟩))), (24, (.pointer (some ⟨b794, 0, none⟩))), (26, (.pointer (some ⟨b828, 0, none⟩))), (29, (.pointer (some ⟨b872, 0, none⟩))), (30, (.pointer (some ⟨b878, 0, none⟩))), (194, (.bool (r823.2.1 == 0)))]) (by kernel_rfl) ?_
                      refine gv_split (s := 194) (g := (r823.2.1 == 0)) (by rfl) (fun hc929 => ?_) (fun hc929 => ?_)
                      · skip
                        replace h1 := ite_t hc929 h1
                        refine gv_pure 1 [2, 3, 22, 24, 26, 29, 194, 195] (σ' := [(2, (.int .u64 n_2)), (3, (.int .u64 m_3)), (22, (.pointer (some ⟨b760, 0, none⟩))), (24, (.pointer (some ⟨b794, 0, none⟩))), (26, (.pointer (some ⟨b828, 0, none⟩))), (29, (.pointer (some ⟨b872, 0, none⟩))), (194, (.bool true)), (195, (.pointer (some ⟨b878, 0, none⟩)))]) (by kernel_rfl) ?_
                        refine gv_load (t := 3) (A := ⟨b878, 0, none⟩) (.int .i64 r867.2.2.1) [2, 3, 22, 24, 26, 29, 194, 196] (σ' := [(2, (.int .u64 n_2)), (3, (.int .u64 m_3)), (22, (.pointer (some ⟨b760, 0, none⟩))), (24, (.pointer (some ⟨b794, 0, none⟩))), (26, (.pointer (some ⟨b828, 0, none⟩))), (29, (.pointer (some ⟨b872, 0, none⟩))), (194, (.bool true)), (196, (.int .i64 r867.2.2.1))]) (fun e => by cases e) (by rfl) (by rfl) (by rfl) (by kernel_rfl) (by kernel_rfl) (by kernel_rfl) (inw0 (hb891.cell 0 rfl)) (by kernel_rfl) ?_
                        refine gv_pure 3 [2, 3, 22, 24, 26, 29, 199] (σ' := [(2, (.int .u64 n_2)), (3, (.int .u64 m_3)), (22, (.pointer (some ⟨b760, 0, none⟩))), (24, (.pointer (some ⟨b794, 0, none⟩))), (26, (.pointer (some ⟨b828, 0, none⟩))), (29, (.pointer (some ⟨b872, 0, none⟩))), (199, (.bool (r867.2.2.1 == 0)))]) (by kernel_rfl) ?_
                        refine gv_split (s := 199) (g := (r867.2.2.1 == 0)) (by rfl) (fun hc930 => ?_) (fun hc930 => ?_)
                        · skip
                          replace h1 := ite_t hc930 h1
                          refine gv_pure 6 [2, 22, 24, 26, 29, 199, 205] (σ' := [(2, (.int .u64 n_2)), (22, (.pointer (some ⟨b760, 0, none⟩))), (24, (.pointer (some ⟨b794, 0, none⟩))), (26, (.pointer (some ⟨b828, 0, none⟩))), (29, (.pointer (some ⟨b872, 0, none⟩))), (199, (.bool true)), (205, (.bool (decide ((IntKind.u64.wrap (n_2 + m_3)) < n_2))))]) (by kernel_rfl) ?_
                          refine gv_split (s := 205) (g := (decide ((IntKind.u64.wrap (n_2 + m_3)) < n_2))) (by rfl) (fun hc931 => ?_) (fun hc931 => ?_)
                          · skip
                            replace h1 := ite_t hc931 h1
                            refine gv_pure 10 [26, 29, 211, 215] (σ' := [(26, (.pointer (some ⟨b828, 0, none⟩))), (29, (.pointer (some ⟨b872, 0, none⟩))), (211, (.bool true)), (215, (.bool ((IntKind.u64.wrap (n_2 + 1)) == 0)))]) (by kernel_rfl) ?_
                            refine gv_split (s := 215) (g := ((IntKind.u64.wrap (n_2 + 1)) == 0)) (by rfl) (fun hc932 => ?_) (fun hc932 => ?_)
                            · skip
                              replace h1 := ite_t hc932 h1
                              refine gv_pure 6 [8] (σ' := [(8, (.bool true))]) (by kernel_rfl) ?_
                              refine gv_nil ?_
                              have e := Option.some.inj h1; subst e
                              refine gv_goal fun a hd hs hok => ?_
                              obtain ⟨q8, _⟩ := hok
                              have hg933 := (grown_trans (grown_trans hg758 hg762) hg768)
                              have hB934 := below_grown hB748 hg933 hB748.size nb
                              have hB935 := below_grown hB748 hg758 hB748.size nb
                              have hlo936 : w0.heap.size ≤ b760 := lob hbe764 hB935.size
                              have hB937 := below_grown hB934 hg773 hB934.size (rowlo hlo936)
                              have hB938 := below_grown hB935 hg762 hB935.size nb
                              have hlo939 : w0.heap.size ≤ b766 := lob hbe770 hB938.size
                              have hB940 := below_grown hB937 hg778 hB937.size (rowlo hlo939)
                              have hB941 := below_grown hB940 hg897 hB940.size nb
                              have hB942 := below_grown hB938 hg768 hB938.size nb
                              have hB943 := below_grown hB942 hg773 hB942.size (rowlo hlo936)
                              have hB944 := below_grown hB943 hg778 hB943.size (rowlo hlo939)
                              have hB945 := below_grown hB944 hg792 hB944.size nb
                              have hlo946 : w0.heap.size ≤ b794 := lob hbe798 hB945.size
                              have hB947 := below_grown hB941 hg807 hB941.size (rowlo hlo946)
                              have hB948 := below_grown hB945 hg796 hB945.size nb
                              have hlo949 : w0.heap.size ≤ b800 := lob hbe804 hB948.size
                              have hB950 := below_grown hB947 hg812 hB947.size (rowlo hlo949)
                              have hB951 := below_grown hB950 hg902 hB950.size nb
                              have hB952 := below_grown hB948 hg802 hB948.size nb
                              have hB953 := below_grown hB952 hg807 hB952.size (rowlo hlo946)
                              have hB954 := below_grown hB953 hg812 hB953.size (rowlo hlo949)
                              have hB955 := below_grown hB954 hg826 hB954.size nb
                              have hlo956 : w0.heap.size ≤ b828 := lob hbe832 hB955.size
                              have hB957 := below_grown hB951 hg841 hB951.size (rowlo hlo956)
                              have hB958 := below_grown hB955 hg830 hB955.size nb
                              have hlo959 : w0.heap.size ≤ b834 := lob hbe838 hB958.size
                              have hB960 := below_grown hB957 hg846 hB957.size (rowlo hlo959)
                              have hB961 := below_grown hB960 hg907 hB960.size nb
                              have hB962 := below_grown hB958 hg836 hB958.size nb
                              have hB963 := below_grown hB962 hg841 hB962.size (rowlo hlo956)
                              have hB964 := below_grown hB963 hg846 hB963.size (rowlo hlo959)
                              have hB965 := below_grown hB964 hg870 hB964.size nb
                              have hlo966 : w0.heap.size ≤ b872 := lob hbe876 hB965.size
                              have hB967 := below_grown hB961 hg885 hB961.size (rowlo hlo966)
                              have hB968 := below_grown hB965 hg874 hB965.size nb
                              have hlo969 : w0.heap.size ≤ b878 := lob hbe882 hB968.size
                              have hB970 := below_grown hB967 hg890 hB967.size (rowlo hlo969)
                              exact ⟨hB970, (Nat.le_refl _), hd, hs, ⟨q8, trivial⟩⟩
                            · skip
                              replace h1 := ite_f hc932 h1
                              have ap971 : ¬ (· = b828) b834 := fun hx => Nat.not_lt_of_le ((lowb hbe838) _ rfl) ((fun k (hk : k = b828) => Nat.lt_of_le_of_lt (Nat.le_of_eq hk) hb831.lt) _ hx)
                              have hk972 := (hb842.grown hg846 (rowne ap971)).grown hg870 nb
                              have ap973 : ¬ (· = b828) b872 := fun hx => Nat.not_lt_of_le ((lowb hbe876) _ rfl) ((fun k (hk : k = b828) => Nat.lt_of_le_of_lt (Nat.le_of_eq hk) hk972.lt) _ hx)
                              have hk974 := hk972.grown hg874 nb
                              have ap975 : ¬ (· = b828) b878 := fun hx => Nat.not_lt_of_le ((lowb hbe882) _ rfl) ((fun k (hk : k = b828) => Nat.lt_of_le_of_lt (Nat.le_of_eq hk) hk974.lt) _ hx)
                              have hk976 := (((hb842.grown hg846 (rowne ap971)).grown hg907 nb).grown hg885 (rowne ap973)).grown hg890 (rowne ap975)
                              refine gv_sub [26, 29, 211, 215] (σ' := [(26, (.pointer (some ⟨b828, 0, none⟩))), (29, (.pointer (some ⟨b872, 0, none⟩))), (211, (.bool true)), (215, (.bool false))]) (by kernel_rfl) ?_
                              refine gv_loadBox (t := 27) (b := b828) (t' := 27) (fr := (0, 0)) #[(.int .u64 r823.1.1), (.int .u64 r823.1.2)] [29, 211, 215, 216] (σ' := [(29, (.pointer (some ⟨b872, 0, none⟩))), (211, (.bool true)), (215, (.bool false)), (216, (.agg #[(.int .u64 r823.1.1), (.int .u64 r823.1.2)]))]) (fun e => by cases e) (by rfl) (by rfl) (by rfl) (by kernel_rfl) (by kernel_rfl) (by kernel_rfl) (by kernel_rfl) (inw0 hk976) (by kernel_rfl) ?_
                              have ap977 : ¬ (· = b872) b878 := fun hx => Nat.not_lt_of_le ((lowb hbe882) _ rfl) ((fun k (hk : k = b872) => Nat.lt_of_le_of_lt (Nat.le_of_eq hk) hb875.lt) _ hx)
                              have hk978 := hb886.grown hg890 (rowne ap977)
                              refine gv_loadBox (t := 27) (b := b872) (t' := 27) (fr := (0, 0)) #[(.int .u64 r867.2.1.1), (.int .u64 r867.2.1.2)] [211, 215, 216, 217] (σ' := [(211, (.bool true)), (215, (.bool false)), (216, (.agg #[(.int .u64 r823.1.1), (.int .u64 r823.1.2)])), (217, (.agg #[(.int .u64 r867.2.1.1), (.int .u64 r867.2.1.2)]))]) (fun e => by cases e) (by rfl) (by rfl) (by rfl) (by kernel_rfl) (by kernel_rfl) (by kernel_rfl) (by kernel_rfl) (inw0 hk978) (by kernel_rfl) ?_
                              refine gv_eqs (t := 27) (op := .eql) (x := (.tmp 216)) (y := (.tmp 217)) (xs := #[(.int .u64 r823.1.1), (.int .u64 r823.1.2)]) (ys := #[(.int .u64 r867.2.1.1), (.int .u64 r867.2.1.2)]) ((r823.1.1 == r867.2.1.1) && (r823.1.2 == r867.2.1.2)) [211, 215, 218] (σ' := [(211, (.bool true)), (215, (.bool false)), (218, (.bool ((r823.1.1 == r867.2.1.1) && (r823.1.2 == r867.2.1.2))))]) (fun e => by cases e) (by rfl) (by rfl) (by rfl) (by kernel_rfl) (by kernel_rfl) (fun w' => eqs27eql r823.1.1 r823.1.2 r867.2.1.1 r867.2.1.2 _ _ w') (by kernel_rfl) ?_
                              refine gv_pure 3 [8] (σ' := [(8, (.bool ((r823.1.1 == r867.2.1.1) && (r823.1.2 == r867.2.1.2))))]) (by kernel_rfl) ?_
                              refine bindE h1 ?_; clear h1; intro n979 hn980 h1
                              refine gv_name (s := 8) (v := (.bool ((r823.1.1 == r867.2.1.1) && (r823.1.2 == r867.2.1.2)))) (v' := (.bool n979)) (by rfl) (congrArg (Value.bool) (Option.some.inj hn980)) ?_
                              refine gv_sub [8] (σ' := [(8, (.bool n979))]) (by kernel_rfl) ?_
                              refine gv_nil ?_
                              have e := Option.some.inj h1; subst e
                              refine gv_goal fun a hd hs hok => ?_
                              obtain ⟨q8, _⟩ := hok
                              have hg981 := (grown_trans (grown_trans hg758 hg762) hg768)
                              have hB982 := below_grown hB748 hg981 hB748.size nb
                              have hB983 := below_grown hB748 hg758 hB748.size nb
                              have hlo984 : w0.heap.size ≤ b760 := lob hbe764 hB983.size
                              have hB985 := below_grown hB982 hg773 hB982.size (rowlo hlo984)
                              have hB986 := below_grown hB983 hg762 hB983.size nb
                              have hlo987 : w0.heap.size ≤ b766 := lob hbe770 hB986.size
                              have hB988 := below_grown hB985 hg778 hB985.size (rowlo hlo987)
                              have hB989 := below_grown hB988 hg897 hB988.size nb
                              have hB990 := below_grown hB986 hg768 hB986.size nb
                              have hB991 := below_grown hB990 hg773 hB990.size (rowlo hlo984)
                              have hB992 := below_grown hB991 hg778 hB991.size (rowlo hlo987)
                              have hB993 := below_grown hB992 hg792 hB992.size nb
                              have hlo994 : w0.heap.size ≤ b794 := lob hbe798 hB993.size
                              have hB995 := below_grown hB989 hg807 hB989.size (rowlo hlo994)
                              have hB996 := below_grown hB993 hg796 hB993.size nb
                              have hlo997 : w0.heap.size ≤ b800 := lob hbe804 hB996.size
                              have hB998 := below_grown hB995 hg812 hB995.size (rowlo hlo997)
                              have hB999 := below_grown hB998 hg902 hB998.size nb
                              have hB1000 := below_grown hB996 hg802 hB996.size nb
                              have hB1001 := below_grown hB1000 hg807 hB1000.size (rowlo hlo994)
                              have hB1002 := below_grown hB1001 hg812 hB1001.size (rowlo hlo997)
                              have hB1003 := below_grown hB1002 hg826 hB1002.size nb
                              have hlo1004 : w0.heap.size ≤ b828 := lob hbe832 hB1003.size
                              have hB1005 := below_grown hB999 hg841 hB999.size (rowlo hlo1004)
                              have hB1006 := below_grown hB1003 hg830 hB1003.size nb
                              have hlo1007 : w0.heap.size ≤ b834 := lob hbe838 hB1006.size
                              have hB1008 := below_grown hB1005 hg846 hB1005.size (rowlo hlo1007)
                              have hB1009 := below_grown hB1008 hg907 hB1008.size nb
                              have hB1010 := below_grown hB1006 hg836 hB1006.size nb
                              have hB1011 := below_grown hB1010 hg841 hB1010.size (rowlo hlo1004)
                              have hB1012 := below_grown hB1011 hg846 hB1011.size (rowlo hlo1007)
                              have hB1013 := below_grown hB1012 hg870 hB1012.size nb
                              have hlo1014 : w0.heap.size ≤ b872 := lob hbe876 hB1013.size
                              have hB1015 := below_grown hB1009 hg885 hB1009.size (rowlo hlo1014)
                              have hB1016 := below_grown hB1013 hg874 hB1013.size nb
                              have hlo1017 : w0.heap.size ≤ b878 := lob hbe882 hB1016.size
                              have hB1018 := below_grown hB1015 hg890 hB1015.size (rowlo hlo1017)
                              exact ⟨hB1018, (Nat.le_refl _), hd, hs, ⟨q8, trivial⟩⟩
                          · skip
                            replace h1 := ite_f hc931 h1
                            have ap1019 : ¬ (· = b760) b766 := fun hx => Nat.not_lt_of_le ((lowb hbe770) _ rfl) ((fun k (hk : k = b760) => Nat.lt_of_le_of_lt (Nat.le_of_eq hk) hb763.lt) _ hx)
                            have hk1020 := (hb774.grown hg778 (rowne ap1019)).grown hg792 nb
                            have ap1021 : ¬ (· = b760) b794 := fun hx => Nat.not_lt_of_le ((lowb hbe798) _ rfl) ((fun k (hk : k = b760) => Nat.lt_of_le_of_lt (Nat.le_of_eq hk) hk1020.lt) _ hx)
                            have hk1022 := hk1020.grown hg796 nb
                            have ap1023 : ¬ (· = b760) b800 := fun hx => Nat.not_lt_of_le ((lowb hbe804) _ rfl) ((fun k (hk : k = b760) => Nat.lt_of_le_of_lt (Nat.le_of_eq hk) hk1022.lt) _ hx)
                            have hk1024 := (((hk1022.grown hg802 nb).grown hg807 (rowne ap1021)).grown hg812 (rowne ap1023)).grown hg826 nb
                            have ap1025 : ¬ (· = b760) b828 := fun hx => Nat.not_lt_of_le ((lowb hbe832) _ rfl) ((fun k (hk : k = b760) => Nat.lt_of_le_of_lt (Nat.le_of_eq hk) hk1024.lt) _ hx)
                            have hk1026 := hk1024.grown hg830 nb
                            have ap1027 : ¬ (· = b760) b834 := fun hx => Nat.not_lt_of_le ((lowb hbe838) _ rfl) ((fun k (hk : k = b760) => Nat.lt_of_le_of_lt (Nat.le_of_eq hk) hk1026.lt) _ hx)
                            have hk1028 := (((hk1026.grown hg836 nb).grown hg841 (rowne ap1025)).grown hg846 (rowne ap1027)).grown hg870 nb
                            have ap1029 : ¬ (· = b760) b872 := fun hx => Nat.not_lt_of_le ((lowb hbe876) _ rfl) ((fun k (hk : k = b760) => Nat.lt_of_le_of_lt (Nat.le_of_eq hk) hk1028.lt) _ hx)
                            have hk1030 := hk1028.grown hg874 nb
                            have ap1031 : ¬ (· = b760) b878 := fun hx => Nat.not_lt_of_le ((lowb hbe882) _ rfl) ((fun k (hk : k = b760) => Nat.lt_of_le_of_lt (Nat.le_of_eq hk) hk1030.lt) _ hx)
                            have hk1032 := (((((((((hb774.grown hg778 (rowne ap1019)).grown hg897 nb).grown hg807 (rowne ap1021)).grown hg812 (rowne ap1023)).grown hg902 nb).grown hg841 (rowne ap1025)).grown hg846 (rowne ap1027)).grown hg907 nb).grown hg885 (rowne ap1029)).grown hg890 (rowne ap1031)
                            refine gv_sub [2, 22, 24, 26, 29, 199, 205] (σ' := [(2, (.int .u64 n_2)), (22, (.pointer (some ⟨b760, 0, none⟩))), (24, (.pointer (some ⟨b794, 0, none⟩))), (26, (.pointer (some ⟨b828, 0, none⟩))), (29, (.pointer (some ⟨b872, 0, none⟩))), (199, (.bool true)), (205, (.bool false))]) (by kernel_rfl) ?_
                            refine gv_loadBox (t := 27) (b := b760) (t' := 27) (fr := (0, 0)) #[(.int .u64 r755.1.1), (.int .u64 r755.1.2)] [2, 24, 26, 29, 199, 205, 206] (σ' := [(2, (.int .u64 n_2)), (24, (.pointer (some ⟨b794, 0, none⟩))), (26, (.pointer (some ⟨b828, 0, none⟩))), (29, (.pointer (some ⟨b872, 0, none⟩))), (199, (.bool true)), (205, (.bool false)), (206, (.agg #[(.int .u64 r755.1.1), (.int .u64 r755.1.2)]))]) (fun e => by cases e) (by rfl) (by rfl) (by rfl) (by kernel_rfl) (by kernel_rfl) (by kernel_rfl) (by kernel_rfl) (inw0 hk1032) (by kernel_rfl) ?_
                            have ap1033 : ¬ (· = b794) b800 := fun hx => Nat.not_lt_of_le ((lowb hbe804) _ rfl) ((fun k (hk : k = b794) => Nat.lt_of_le_of_lt (Nat.le_of_eq hk) hb797.lt) _ hx)
                            have hk1034 := (hb808.grown hg812 (rowne ap1033)).grown hg826 nb
                            have ap1035 : ¬ (· = b794) b828 := fun hx => Nat.not_lt_of_le ((lowb hbe832) _ rfl) ((fun k (hk : k = b794) => Nat.lt_of_le_of_lt (Nat.le_of_eq hk) hk1034.lt) _ hx)
                            have hk1036 := hk1034.grown hg830 nb
                            have ap1037 : ¬ (· = b794) b834 := fun hx => Nat.not_lt_of_le ((lowb hbe838) _ rfl) ((fun k (hk : k = b794) => Nat.lt_of_le_of_lt (Nat.le_of_eq hk) hk1036.lt) _ hx)
                            have hk1038 := (((hk1036.grown hg836 nb).grown hg841 (rowne ap1035)).grown hg846 (rowne ap1037)).grown hg870 nb
                            have ap1039 : ¬ (· = b794) b872 := fun hx => Nat.not_lt_of_le ((lowb hbe876) _ rfl) ((fun k (hk : k = b794) => Nat.lt_of_le_of_lt (Nat.le_of_eq hk) hk1038.lt) _ hx)
                            have hk1040 := hk1038.grown hg874 nb
                            have ap1041 : ¬ (· = b794) b878 := fun hx => Nat.not_lt_of_le ((lowb hbe882) _ rfl) ((fun k (hk : k = b794) => Nat.lt_of_le_of_lt (Nat.le_of_eq hk) hk1040.lt) _ hx)
                            have hk1042 := ((((((hb808.grown hg812 (rowne ap1033)).grown hg902 nb).grown hg841 (rowne ap1035)).grown hg846 (rowne ap1037)).grown hg907 nb).grown hg885 (rowne ap1039)).grown hg890 (rowne ap1041)
                            refine gv_loadBox (t := 27) (b := b794) (t' := 27) (fr := (0, 0)) #[(.int .u64 r789.1.1), (.int .u64 r789.1.2)] [2, 26, 29, 199, 205, 206, 207] (σ' := [(2, (.int .u64 n_2)), (26, (.pointer (some ⟨b828, 0, none⟩))), (29, (.pointer (some ⟨b872, 0, none⟩))), (199, (.bool true)), (205, (.bool false)), (206, (.agg #[(.int .u64 r755.1.1), (.int .u64 r755.1.2)])), (207, (.agg #[(.int .u64 r789.1.1), (.int .u64 r789.1.2)]))]) (fun e => by cases e) (by rfl) (by rfl) (by rfl) (by kernel_rfl) (by kernel_rfl) (by kernel_rfl) (by kernel_rfl) (inw0 hk1042) (by kernel_rfl) ?_
                            refine gv_eqs (t := 27) (op := .eql) (x := (.tmp 206)) (y := (.tmp 207)) (xs := #[(.int .u64 r755.1.1), (.int .u64 r755.1.2)]) (ys := #[(.int .u64 r789.1.1), (.int .u64 r789.1.2)]) ((r755.1.1 == r789.1.1) && (r755.1.2 == r789.1.2)) [2, 26, 29, 199, 205, 208] (σ' := [(2, (.int .u64 n_2)), (26, (.pointer (some ⟨b828, 0, none⟩))), (29, (.pointer (some ⟨b872, 0, none⟩))), (199, (.bool true)), (205, (.bool false)), (208, (.bool ((r755.1.1 == r789.1.1) && (r755.1.2 == r789.1.2))))]) (fun e => by cases e) (by rfl) (by rfl) (by rfl) (by kernel_rfl) (by kernel_rfl) (fun w' => eqs27eql r755.1.1 r755.1.2 r789.1.1 r789.1.2 _ _ w') (by kernel_rfl) ?_
                            refine gv_pure 3 [2, 26, 29, 211] (σ' := [(2, (.int .u64 n_2)), (26, (.pointer (some ⟨b828, 0, none⟩))), (29, (.pointer (some ⟨b872, 0, none⟩))), (211, (.bool ((r755.1.1 == r789.1.1) && (r755.1.2 == r789.1.2))))]) (by kernel_rfl) ?_
                            refine gv_split (s := 211) (g := ((r755.1.1 == r789.1.1) && (r755.1.2 == r789.1.2))) (by rfl) (fun hc1043 => ?_) (fun hc1043 => ?_)
                            · skip
                              replace h1 := ite_t hc1043 h1
                              refine gv_pure 4 [26, 29, 211, 215] (σ' := [(26, (.pointer (some ⟨b828, 0, none⟩))), (29, (.pointer (some ⟨b872, 0, none⟩))), (211, (.bool true)), (215, (.bool ((IntKind.u64.wrap (n_2 + 1)) == 0)))]) (by kernel_rfl) ?_
                              refine gv_split (s := 215) (g := ((IntKind.u64.wrap (n_2 + 1)) == 0)) (by rfl) (fun hc1044 => ?_) (fun hc1044 => ?_)
                              · skip
                                replace h1 := ite_t hc1044 h1
                                refine gv_pure 6 [8] (σ' := [(8, (.bool true))]) (by kernel_rfl) ?_
                                refine gv_nil ?_
                                have e := Option.some.inj h1; subst e
                                refine gv_goal fun a hd hs hok => ?_
                                obtain ⟨q8, _⟩ := hok
                                have hg1045 := (grown_trans (grown_trans hg758 hg762) hg768)
                                have hB1046 := below_grown hB748 hg1045 hB748.size nb
                                have hB1047 := below_grown hB748 hg758 hB748.size nb
                                have hlo1048 : w0.heap.size ≤ b760 := lob hbe764 hB1047.size
                                have hB1049 := below_grown hB1046 hg773 hB1046.size (rowlo hlo1048)
                                have hB1050 := below_grown hB1047 hg762 hB1047.size nb
                                have hlo1051 : w0.heap.size ≤ b766 := lob hbe770 hB1050.size
                                have hB1052 := below_grown hB1049 hg778 hB1049.size (rowlo hlo1051)
                                have hB1053 := below_grown hB1052 hg897 hB1052.size nb
                                have hB1054 := below_grown hB1050 hg768 hB1050.size nb
                                have hB1055 := below_grown hB1054 hg773 hB1054.size (rowlo hlo1048)
                                have hB1056 := below_grown hB1055 hg778 hB1055.size (rowlo hlo1051)
                                have hB1057 := below_grown hB1056 hg792 hB1056.size nb
                                have hlo1058 : w0.heap.size ≤ b794 := lob hbe798 hB1057.size
                                have hB1059 := below_grown hB1053 hg807 hB1053.size (rowlo hlo1058)
                                have hB1060 := below_grown hB1057 hg796 hB1057.size nb
                                have hlo1061 : w0.heap.size ≤ b800 := lob hbe804 hB1060.size
                                have hB1062 := below_grown hB1059 hg812 hB1059.size (rowlo hlo1061)
                                have hB1063 := below_grown hB1062 hg902 hB1062.size nb
                                have hB1064 := below_grown hB1060 hg802 hB1060.size nb
                                have hB1065 := below_grown hB1064 hg807 hB1064.size (rowlo hlo1058)
                                have hB1066 := below_grown hB1065 hg812 hB1065.size (rowlo hlo1061)
                                have hB1067 := below_grown hB1066 hg826 hB1066.size nb
                                have hlo1068 : w0.heap.size ≤ b828 := lob hbe832 hB1067.size
                                have hB1069 := below_grown hB1063 hg841 hB1063.size (rowlo hlo1068)
                                have hB1070 := below_grown hB1067 hg830 hB1067.size nb
                                have hlo1071 : w0.heap.size ≤ b834 := lob hbe838 hB1070.size
                                have hB1072 := below_grown hB1069 hg846 hB1069.size (rowlo hlo1071)
                                have hB1073 := below_grown hB1072 hg907 hB1072.size nb
                                have hB1074 := below_grown hB1070 hg836 hB1070.size nb
                                have hB1075 := below_grown hB1074 hg841 hB1074.size (rowlo hlo1068)
                                have hB1076 := below_grown hB1075 hg846 hB1075.size (rowlo hlo1071)
                                have hB1077 := below_grown hB1076 hg870 hB1076.size nb
                                have hlo1078 : w0.heap.size ≤ b872 := lob hbe876 hB1077.size
                                have hB1079 := below_grown hB1073 hg885 hB1073.size (rowlo hlo1078)
                                have hB1080 := below_grown hB1077 hg874 hB1077.size nb
                                have hlo1081 : w0.heap.size ≤ b878 := lob hbe882 hB1080.size
                                have hB1082 := below_grown hB1079 hg890 hB1079.size (rowlo hlo1081)
                                exact ⟨hB1082, (Nat.le_refl _), hd, hs, ⟨q8, trivial⟩⟩
                              · skip
                                replace h1 := ite_f hc1044 h1
                                have ap1083 : ¬ (· = b828) b834 := fun hx => Nat.not_lt_of_le ((lowb hbe838) _ rfl) ((fun k (hk : k = b828) => Nat.lt_of_le_of_lt (Nat.le_of_eq hk) hb831.lt) _ hx)
                                have hk1084 := (hb842.grown hg846 (rowne ap1083)).grown hg870 nb
                                have ap1085 : ¬ (· = b828) b872 := fun hx => Nat.not_lt_of_le ((lowb hbe876) _ rfl) ((fun k (hk : k = b828) => Nat.lt_of_le_of_lt (Nat.le_of_eq hk) hk1084.lt) _ hx)
                                have hk1086 := hk1084.grown hg874 nb
                                have ap1087 : ¬ (· = b828) b878 := fun hx => Nat.not_lt_of_le ((lowb hbe882) _ rfl) ((fun k (hk : k = b828) => Nat.lt_of_le_of_lt (Nat.le_of_eq hk) hk1086.lt) _ hx)
                                have hk1088 := (((hb842.grown hg846 (rowne ap1083)).grown hg907 nb).grown hg885 (rowne ap1085)).grown hg890 (rowne ap1087)
                                refine gv_sub [26, 29, 211, 215] (σ' := [(26, (.pointer (some ⟨b828, 0, none⟩))), (29, (.pointer (some ⟨b872, 0, none⟩))), (211, (.bool true)), (215, (.bool false))]) (by kernel_rfl) ?_
                                refine gv_loadBox (t := 27) (b := b828) (t' := 27) (fr := (0, 0)) #[(.int .u64 r823.1.1), (.int .u64 r823.1.2)] [29, 211, 215, 216] (σ' := [(29, (.pointer (some ⟨b872, 0, none⟩))), (211, (.bool true)), (215, (.bool false)), (216, (.agg #[(.int .u64 r823.1.1), (.int .u64 r823.1.2)]))]) (fun e => by cases e) (by rfl) (by rfl) (by rfl) (by kernel_rfl) (by kernel_rfl) (by kernel_rfl) (by kernel_rfl) (inw0 hk1088) (by kernel_rfl) ?_
                                have ap1089 : ¬ (· = b872) b878 := fun hx => Nat.not_lt_of_le ((lowb hbe882) _ rfl) ((fun k (hk : k = b872) => Nat.lt_of_le_of_lt (Nat.le_of_eq hk) hb875.lt) _ hx)
                                have hk1090 := hb886.grown hg890 (rowne ap1089)
                                refine gv_loadBox (t := 27) (b := b872) (t' := 27) (fr := (0, 0)) #[(.int .u64 r867.2.1.1), (.int .u64 r867.2.1.2)] [211, 215, 216, 217] (σ' := [(211, (.bool true)), (215, (.bool false)), (216, (.agg #[(.int .u64 r823.1.1), (.int .u64 r823.1.2)])), (217, (.agg #[(.int .u64 r867.2.1.1), (.int .u64 r867.2.1.2)]))]) (fun e => by cases e) (by rfl) (by rfl) (by rfl) (by kernel_rfl) (by kernel_rfl) (by kernel_rfl) (by kernel_rfl) (inw0 hk1090) (by kernel_rfl) ?_
                                refine gv_eqs (t := 27) (op := .eql) (x := (.tmp 216)) (y := (.tmp 217)) (xs := #[(.int .u64 r823.1.1), (.int .u64 r823.1.2)]) (ys := #[(.int .u64 r867.2.1.1), (.int .u64 r867.2.1.2)]) ((r823.1.1 == r867.2.1.1) && (r823.1.2 == r867.2.1.2)) [211, 215, 218] (σ' := [(211, (.bool true)), (215, (.bool false)), (218, (.bool ((r823.1.1 == r867.2.1.1) && (r823.1.2 == r867.2.1.2))))]) (fun e => by cases e) (by rfl) (by rfl) (by rfl) (by kernel_rfl) (by kernel_rfl) (fun w' => eqs27eql r823.1.1 r823.1.2 r867.2.1.1 r867.2.1.2 _ _ w') (by kernel_rfl) ?_
                                refine gv_pure 3 [8] (σ' := [(8, (.bool ((r823.1.1 == r867.2.1.1) && (r823.1.2 == r867.2.1.2))))]) (by kernel_rfl) ?_
                                refine bindE h1 ?_; clear h1; intro n1091 hn1092 h1
                                refine gv_name (s := 8) (v := (.bool ((r823.1.1 == r867.2.1.1) && (r823.1.2 == r867.2.1.2)))) (v' := (.bool n1091)) (by rfl) (congrArg (Value.bool) (Option.some.inj hn1092)) ?_
                                refine gv_sub [8] (σ' := [(8, (.bool n1091))]) (by kernel_rfl) ?_
                                refine gv_nil ?_
                                have e := Option.some.inj h1; subst e
                                refine gv_goal fun a hd hs hok => ?_
                                obtain ⟨q8, _⟩ := hok
                                have hg1093 := (grown_trans (grown_trans hg758 hg762) hg768)
                                have hB1094 := below_grown hB748 hg1093 hB748.size nb
                                have hB1095 := below_grown hB748 hg758 hB748.size nb
                                have hlo1096 : w0.heap.size ≤ b760 := lob hbe764 hB1095.size
                                have hB1097 := below_grown hB1094 hg773 hB1094.size (rowlo hlo1096)
                                have hB1098 := below_grown hB1095 hg762 hB1095.size nb
                                have hlo1099 : w0.heap.size ≤ b766 := lob hbe770 hB1098.size
                                have hB1100 := below_grown hB1097 hg778 hB1097.size (rowlo hlo1099)
                                have hB1101 := below_grown hB1100 hg897 hB1100.size nb
                                have hB1102 := below_grown hB1098 hg768 hB1098.size nb
                                have hB1103 := below_grown hB1102 hg773 hB1102.size (rowlo hlo1096)
                                have hB1104 := below_grown hB1103 hg778 hB1103.size (rowlo hlo1099)
                                have hB1105 := below_grown hB1104 hg792 hB1104.size nb
                                have hlo1106 : w0.heap.size ≤ b794 := lob hbe798 hB1105.size
                                have hB1107 := below_grown hB1101 hg807 hB1101.size (rowlo hlo1106)
                                have hB1108 := below_grown hB1105 hg796 hB1105.size nb
                                have hlo1109 : w0.heap.size ≤ b800 := lob hbe804 hB1108.size
                                have hB1110 := below_grown hB1107 hg812 hB1107.size (rowlo hlo1109)
                                have hB1111 := below_grown hB1110 hg902 hB1110.size nb
                                have hB1112 := below_grown hB1108 hg802 hB1108.size nb
                                have hB1113 := below_grown hB1112 hg807 hB1112.size (rowlo hlo1106)
                                have hB1114 := below_grown hB1113 hg812 hB1113.size (rowlo hlo1109)
                                have hB1115 := below_grown hB1114 hg826 hB1114.size nb
                                have hlo1116 : w0.heap.size ≤ b828 := lob hbe832 hB1115.size
                                have hB1117 := below_grown hB1111 hg841 hB1111.size (rowlo hlo1116)
                                have hB1118 := below_grown hB1115 hg830 hB1115.size nb
                                have hlo1119 : w0.heap.size ≤ b834 := lob hbe838 hB1118.size
                                have hB1120 := below_grown hB1117 hg846 hB1117.size (rowlo hlo1119)
                                have hB1121 := below_grown hB1120 hg907 hB1120.size nb
                                have hB1122 := below_grown hB1118 hg836 hB1118.size nb
                                have hB1123 := below_grown hB1122 hg841 hB1122.size (rowlo hlo1116)
                                have hB1124 := below_grown hB1123 hg846 hB1123.size (rowlo hlo1119)
                                have hB1125 := below_grown hB1124 hg870 hB1124.size nb
                                have hlo1126 : w0.heap.size ≤ b872 := lob hbe876 hB1125.size
                                have hB1127 := below_grown hB1121 hg885 hB1121.size (rowlo hlo1126)
                                have hB1128 := below_grown hB1125 hg874 hB1125.size nb
                                have hlo1129 : w0.heap.size ≤ b878 := lob hbe882 hB1128.size
                                have hB1130 := below_grown hB1127 hg890 hB1127.size (rowlo hlo1129)
                                exact ⟨hB1130, (Nat.le_refl _), hd, hs, ⟨q8, trivial⟩⟩
                            · skip
                              replace h1 := ite_f hc1043 h1
                              refine gv_pure 10 [8] (σ' := [(8, (.bool false))]) (by kernel_rfl) ?_
                              refine gv_nil ?_
                              have e := Option.some.inj h1; subst e
                              refine gv_goal fun a hd hs hok => ?_
                              obtain ⟨q8, _⟩ := hok
                              have hg1131 := (grown_trans (grown_trans hg758 hg762) hg768)
                              have hB1132 := below_grown hB748 hg1131 hB748.size nb
                              have hB1133 := below_grown hB748 hg758 hB748.size nb
                              have hlo1134 : w0.heap.size ≤ b760 := lob hbe764 hB1133.size
                              have hB1135 := below_grown hB1132 hg773 hB1132.size (rowlo hlo1134)
                              have hB1136 := below_grown hB1133 hg762 hB1133.size nb
                              have hlo1137 : w0.heap.size ≤ b766 := lob hbe770 hB1136.size
                              have hB1138 := below_grown hB1135 hg778 hB1135.size (rowlo hlo1137)
                              have hB1139 := below_grown hB1138 hg897 hB1138.size nb
                              have hB1140 := below_grown hB1136 hg768 hB1136.size nb
                              have hB1141 := below_grown hB1140 hg773 hB1140.size (rowlo hlo1134)
                              have hB1142 := below_grown hB1141 hg778 hB1141.size (rowlo hlo1137)
                              have hB1143 := below_grown hB1142 hg792 hB1142.size nb
                              have hlo1144 : w0.heap.size ≤ b794 := lob hbe798 hB1143.size
                              have hB1145 := below_grown hB1139 hg807 hB1139.size (rowlo hlo1144)
                              have hB1146 := below_grown hB1143 hg796 hB1143.size nb
                              have hlo1147 : w0.heap.size ≤ b800 := lob hbe804 hB1146.size
                              have hB1148 := below_grown hB1145 hg812 hB1145.size (rowlo hlo1147)
                              have hB1149 := below_grown hB1148 hg902 hB1148.size nb
                              have hB1150 := below_grown hB1146 hg802 hB1146.size nb
                              have hB1151 := below_grown hB1150 hg807 hB1150.size (rowlo hlo1144)
                              have hB1152 := below_grown hB1151 hg812 hB1151.size (rowlo hlo1147)
                              have hB1153 := below_grown hB1152 hg826 hB1152.size nb
                              have hlo1154 : w0.heap.size ≤ b828 := lob hbe832 hB1153.size
                              have hB1155 := below_grown hB1149 hg841 hB1149.size (rowlo hlo1154)
                              have hB1156 := below_grown hB1153 hg830 hB1153.size nb
                              have hlo1157 : w0.heap.size ≤ b834 := lob hbe838 hB1156.size
                              have hB1158 := below_grown hB1155 hg846 hB1155.size (rowlo hlo1157)
                              have hB1159 := below_grown hB1158 hg907 hB1158.size nb
                              have hB1160 := below_grown hB1156 hg836 hB1156.size nb
                              have hB1161 := below_grown hB1160 hg841 hB1160.size (rowlo hlo1154)
                              have hB1162 := below_grown hB1161 hg846 hB1161.size (rowlo hlo1157)
                              have hB1163 := below_grown hB1162 hg870 hB1162.size nb
                              have hlo1164 : w0.heap.size ≤ b872 := lob hbe876 hB1163.size
                              have hB1165 := below_grown hB1159 hg885 hB1159.size (rowlo hlo1164)
                              have hB1166 := below_grown hB1163 hg874 hB1163.size nb
                              have hlo1167 : w0.heap.size ≤ b878 := lob hbe882 hB1166.size
                              have hB1168 := below_grown hB1165 hg890 hB1165.size (rowlo hlo1167)
                              exact ⟨hB1168, (Nat.le_refl _), hd, hs, ⟨q8, trivial⟩⟩
                        · skip
                          replace h1 := ite_f hc930 h1
                          refine gv_pure 22 [8] (σ' := [(8, (.bool false))]) (by kernel_rfl) ?_
                          refine gv_nil ?_
                          have e := Option.some.inj h1; subst e
                          refine gv_goal fun a hd hs hok => ?_
                          obtain ⟨q8, _⟩ := hok
                          have hg1169 := (grown_trans (grown_trans hg758 hg762) hg768)
                          have hB1170 := below_grown hB748 hg1169 hB748.size nb
                          have hB1171 := below_grown hB748 hg758 hB748.size nb
                          have hlo1172 : w0.heap.size ≤ b760 := lob hbe764 hB1171.size
                          have hB1173 := below_grown hB1170 hg773 hB1170.size (rowlo hlo1172)
                          have hB1174 := below_grown hB1171 hg762 hB1171.size nb
                          have hlo1175 : w0.heap.size ≤ b766 := lob hbe770 hB1174.size
                          have hB1176 := below_grown hB1173 hg778 hB1173.size (rowlo hlo1175)
                          have hB1177 := below_grown hB1176 hg897 hB1176.size nb
                          have hB1178 := below_grown hB1174 hg768 hB1174.size nb
                          have hB1179 := below_grown hB1178 hg773 hB1178.size (rowlo hlo1172)
                          have hB1180 := below_grown hB1179 hg778 hB1179.size (rowlo hlo1175)
                          have hB1181 := below_grown hB1180 hg792 hB1180.size nb
                          have hlo1182 : w0.heap.size ≤ b794 := lob hbe798 hB1181.size
                          have hB1183 := below_grown hB1177 hg807 hB1177.size (rowlo hlo1182)
                          have hB1184 := below_grown hB1181 hg796 hB1181.size nb
                          have hlo1185 : w0.heap.size ≤ b800 := lob hbe804 hB1184.size
                          have hB1186 := below_grown hB1183 hg812 hB1183.size (rowlo hlo1185)
                          have hB1187 := below_grown hB1186 hg902 hB1186.size nb
                          have hB1188 := below_grown hB1184 hg802 hB1184.size nb
                          have hB1189 := below_grown hB1188 hg807 hB1188.size (rowlo hlo1182)
                          have hB1190 := below_grown hB1189 hg812 hB1189.size (rowlo hlo1185)
                          have hB1191 := below_grown hB1190 hg826 hB1190.size nb
                          have hlo1192 : w0.heap.size ≤ b828 := lob hbe832 hB1191.size
                          have hB1193 := below_grown hB1187 hg841 hB1187.size (rowlo hlo1192)
                          have hB1194 := below_grown hB1191 hg830 hB1191.size nb
                          have hlo1195 : w0.heap.size ≤ b834 := lob hbe838 hB1194.size
                          have hB1196 := below_grown hB1193 hg846 hB1193.size (rowlo hlo1195)
                          have hB1197 := below_grown hB1196 hg907 hB1196.size nb
                          have hB1198 := below_grown hB1194 hg836 hB1194.size nb
                          have hB1199 := below_grown hB1198 hg841 hB1198.size (rowlo hlo1192)
                          have hB1200 := below_grown hB1199 hg846 hB1199.size (rowlo hlo1195)
                          have hB1201 := below_grown hB1200 hg870 hB1200.size nb
                          have hlo1202 : w0.heap.size ≤ b872 := lob hbe876 hB1201.size
                          have hB1203 := below_grown hB1197 hg885 hB1197.size (rowlo hlo1202)
                          have hB1204 := below_grown hB1201 hg874 hB1201.size nb
                          have hlo1205 : w0.heap.size ≤ b878 := lob hbe882 hB1204.size
                          have hB1206 := below_grown hB1203 hg890 hB1203.size (rowlo hlo1205)
                          exact ⟨hB1206, (Nat.le_refl _), hd, hs, ⟨q8, trivial⟩⟩
                      · skip
                        replace h1 := ite_f hc929 h1
                        refine gv_pure 27 [8] (σ' := [(8, (.bool false))]) (by kernel_rfl) ?_
                        refine gv_nil ?_
                        have e := Option.some.inj h1; subst e
                        refine gv_goal fun a hd hs hok => ?_
                        obtain ⟨q8, _⟩ := hok
                        have hg1207 := (grown_trans (grown_trans hg758 hg762) hg768)
                        have hB1208 := below_grown hB748 hg1207 hB748.size nb
                        have hB1209 := below_grown hB748 hg758 hB748.size nb
                        have hlo1210 : w0.heap.size ≤ b760 := lob hbe764 hB1209.size
                        have hB1211 := below_grown hB1208 hg773 hB1208.size (rowlo hlo1210)
                        have hB1212 := below_grown hB1209 hg762 hB1209.size nb
                        have hlo1213 : w0.heap.size ≤ b766 := lob hbe770 hB1212.size
                        have hB1214 := below_grown hB1211 hg778 hB1211.size (rowlo hlo1213)
                        have hB1215 := below_grown hB1214 hg897 hB1214.size nb
                        have hB1216 := below_grown hB1212 hg768 hB1212.size nb
                        have hB1217 := below_grown hB1216 hg773 hB1216.size (rowlo hlo1210)
                        have hB1218 := below_grown hB1217 hg778 hB1217.size (rowlo hlo1213)
                        have hB1219 := below_grown hB1218 hg792 hB1218.size nb
                        have hlo1220 : w0.heap.size ≤ b794 := lob hbe798 hB1219.size
                        have hB1221 := below_grown hB1215 hg807 hB1215.size (rowlo hlo1220)
                        have hB1222 := below_grown hB1219 hg796 hB1219.size nb
                        have hlo1223 : w0.heap.size ≤ b800 := lob hbe804 hB1222.size
                        have hB1224 := below_grown hB1221 hg812 hB1221.size (rowlo hlo1223)
                        have hB1225 := below_grown hB1224 hg902 hB1224.size nb
                        have hB1226 := below_grown hB1222 hg802 hB1222.size nb
                        have hB1227 := below_grown hB1226 hg807 hB1226.size (rowlo hlo1220)
                        have hB1228 := below_grown hB1227 hg812 hB1227.size (rowlo hlo1223)
                        have hB1229 := below_grown hB1228 hg826 hB1228.size nb
                        have hlo1230 : w0.heap.size ≤ b828 := lob hbe832 hB1229.size
                        have hB1231 := below_grown hB1225 hg841 hB1225.size (rowlo hlo1230)
                        have hB1232 := below_grown hB1229 hg830 hB1229.size nb
                        have hlo1233 : w0.heap.size ≤ b834 := lob hbe838 hB1232.size
                        have hB1234 := below_grown hB1231 hg846 hB1231.size (rowlo hlo1233)
                        have hB1235 := below_grown hB1234 hg907 hB1234.size nb
                        have hB1236 := below_grown hB1232 hg836 hB1232.size nb
                        have hB1237 := below_grown hB1236 hg841 hB1236.size (rowlo hlo1230)
                        have hB1238 := below_grown hB1237 hg846 hB1237.size (rowlo hlo1233)
                        have hB1239 := below_grown hB1238 hg870 hB1238.size nb
                        have hlo1240 : w0.heap.size ≤ b872 := lob hbe876 hB1239.size
                        have hB1241 := below_grown hB1235 hg885 hB1235.size (rowlo hlo1240)
                        have hB1242 := below_grown hB1239 hg874 hB1239.size nb
                        have hlo1243 : w0.heap.size ≤ b878 := lob hbe882 hB1242.size
                        have hB1244 := below_grown hB1241 hg890 hB1241.size (rowlo hlo1243)
                        exact ⟨hB1244, (Nat.le_refl _), hd, hs, ⟨q8, trivial⟩⟩
                    · skip
                      replace h1 := ite_f hc923 h1
                      refine gv_pure 32 [8] (σ' := [(8, (.bool false))]) (by kernel_rfl) ?_
                      refine gv_nil ?_
                      have e := Option.some.inj h1; subst e
                      refine gv_goal fun a hd hs hok => ?_
                      obtain ⟨q8, _⟩ := hok
                      have hg1245 := (grown_trans (grown_trans hg758 hg762) hg768)
                      have hB1246 := below_grown hB748 hg1245 hB748.size nb
                      have hB1247 := below_grown hB748 hg758 hB748.size nb
                      have hlo1248 : w0.heap.size ≤ b760 := lob hbe764 hB1247.size
                      have hB1249 := below_grown hB1246 hg773 hB1246.size (rowlo hlo1248)
                      have hB1250 := below_grown hB1247 hg762 hB1247.size nb
                      have hlo1251 : w0.heap.size ≤ b766 := lob hbe770 hB1250.size
                      have hB1252 := below_grown hB1249 hg778 hB1249.size (rowlo hlo1251)
                      have hB1253 := below_grown hB1252 hg897 hB1252.size nb
                      have hB1254 := below_grown hB1250 hg768 hB1250.size nb
                      have hB1255 := below_grown hB1254 hg773 hB1254.size (rowlo hlo1248)
                      have hB1256 := below_grown hB1255 hg778 hB1255.size (rowlo hlo1251)
                      have hB1257 := below_grown hB1256 hg792 hB1256.size nb
                      have hlo1258 : w0.heap.size ≤ b794 := lob hbe798 hB1257.size
                      have hB1259 := below_grown hB1253 hg807 hB1253.size (rowlo hlo1258)
                      have hB1260 := below_grown hB1257 hg796 hB1257.size nb
                      have hlo1261 : w0.heap.size ≤ b800 := lob hbe804 hB1260.size
                      have hB1262 := below_grown hB1259 hg812 hB1259.size (rowlo hlo1261)
                      have hB1263 := below_grown hB1262 hg902 hB1262.size nb
                      have hB1264 := below_grown hB1260 hg802 hB1260.size nb
                      have hB1265 := below_grown hB1264 hg807 hB1264.size (rowlo hlo1258)
                      have hB1266 := below_grown hB1265 hg812 hB1265.size (rowlo hlo1261)
                      have hB1267 := below_grown hB1266 hg826 hB1266.size nb
                      have hlo1268 : w0.heap.size ≤ b828 := lob hbe832 hB1267.size
                      have hB1269 := below_grown hB1263 hg841 hB1263.size (rowlo hlo1268)
                      have hB1270 := below_grown hB1267 hg830 hB1267.size nb
                      have hlo1271 : w0.heap.size ≤ b834 := lob hbe838 hB1270.size
                      have hB1272 := below_grown hB1269 hg846 hB1269.size (rowlo hlo1271)
                      have hB1273 := below_grown hB1272 hg907 hB1272.size nb
                      have hB1274 := below_grown hB1270 hg836 hB1270.size nb
                      have hB1275 := below_grown hB1274 hg841 hB1274.size (rowlo hlo1268)
                      have hB1276 := below_grown hB1275 hg846 hB1275.size (rowlo hlo1271)
                      have hB1277 := below_grown hB1276 hg870 hB1276.size nb
                      have hlo1278 : w0.heap.size ≤ b872 := lob hbe876 hB1277.size
                      have hB1279 := below_grown hB1273 hg885 hB1273.size (rowlo hlo1278)
                      have hB1280 := below_grown hB1277 hg874 hB1277.size nb
                      have hlo1281 : w0.heap.size ≤ b878 := lob hbe882 hB1280.size
                      have hB1282 := below_grown hB1279 hg890 hB1279.size (rowlo hlo1281)
                      exact ⟨hB1282, (Nat.le_refl _), hd, hs, ⟨q8, trivial⟩⟩
                  · skip
                    replace h1 := ite_f hc913 h1
                    refine gv_pure 37 [8] (σ' := [(8, (.bool false))]) (by kernel_rfl) ?_
                    refine gv_nil ?_
                    have e := Option.some.inj h1; subst e
                    refine gv_goal fun a hd hs hok => ?_
                    obtain ⟨q8, _⟩ := hok
                    have hg1283 := (grown_trans (grown_trans hg758 hg762) hg768)
                    have hB1284 := below_grown hB748 hg1283 hB748.size nb
                    have hB1285 := below_grown hB748 hg758 hB748.size nb
                    have hlo1286 : w0.heap.size ≤ b760 := lob hbe764 hB1285.size
                    have hB1287 := below_grown hB1284 hg773 hB1284.size (rowlo hlo1286)
                    have hB1288 := below_grown hB1285 hg762 hB1285.size nb
                    have hlo1289 : w0.heap.size ≤ b766 := lob hbe770 hB1288.size
                    have hB1290 := below_grown hB1287 hg778 hB1287.size (rowlo hlo1289)
                    have hB1291 := below_grown hB1290 hg897 hB1290.size nb
                    have hB1292 := below_grown hB1288 hg768 hB1288.size nb
                    have hB1293 := below_grown hB1292 hg773 hB1292.size (rowlo hlo1286)
                    have hB1294 := below_grown hB1293 hg778 hB1293.size (rowlo hlo1289)
                    have hB1295 := below_grown hB1294 hg792 hB1294.size nb
                    have hlo1296 : w0.heap.size ≤ b794 := lob hbe798 hB1295.size
                    have hB1297 := below_grown hB1291 hg807 hB1291.size (rowlo hlo1296)
                    have hB1298 := below_grown hB1295 hg796 hB1295.size nb
                    have hlo1299 : w0.heap.size ≤ b800 := lob hbe804 hB1298.size
                    have hB1300 := below_grown hB1297 hg812 hB1297.size (rowlo hlo1299)
                    have hB1301 := below_grown hB1300 hg902 hB1300.size nb
                    have hB1302 := below_grown hB1298 hg802 hB1298.size nb
                    have hB1303 := below_grown hB1302 hg807 hB1302.size (rowlo hlo1296)
                    have hB1304 := below_grown hB1303 hg812 hB1303.size (rowlo hlo1299)
                    have hB1305 := below_grown hB1304 hg826 hB1304.size nb
                    have hlo1306 : w0.heap.size ≤ b828 := lob hbe832 hB1305.size
                    have hB1307 := below_grown hB1301 hg841 hB1301.size (rowlo hlo1306)
                    have hB1308 := below_grown hB1305 hg830 hB1305.size nb
                    have hlo1309 : w0.heap.size ≤ b834 := lob hbe838 hB1308.size
                    have hB1310 := below_grown hB1307 hg846 hB1307.size (rowlo hlo1309)
                    have hB1311 := below_grown hB1310 hg907 hB1310.size nb
                    have hB1312 := below_grown hB1308 hg836 hB1308.size nb
                    have hB1313 := below_grown hB1312 hg841 hB1312.size (rowlo hlo1306)
                    have hB1314 := below_grown hB1313 hg846 hB1313.size (rowlo hlo1309)
                    have hB1315 := below_grown hB1314 hg870 hB1314.size nb
                    have hlo1316 : w0.heap.size ≤ b872 := lob hbe876 hB1315.size
                    have hB1317 := below_grown hB1311 hg885 hB1311.size (rowlo hlo1316)
                    have hB1318 := below_grown hB1315 hg874 hB1315.size nb
                    have hlo1319 : w0.heap.size ≤ b878 := lob hbe882 hB1318.size
                    have hB1320 := below_grown hB1317 hg890 hB1317.size (rowlo hlo1319)
                    exact ⟨hB1320, (Nat.le_refl _), hd, hs, ⟨q8, trivial⟩⟩
                · rintro a w896 ⟨hB1321, hz1322, hd, hs, hok⟩
                  refine (?_ : Run Try.prog _ 221 _ .normal [(8, (.bool j895))] w896) a hd hs hok
                  clear hd hs hok
                  clear hz1322 hb891 hg890 ap893 hb886 hg885 hbe882 hg880 hbe876 hb875 hg874 hg870 hb847 hg846 ap849 hb842 hg841 hbe838 hg836 hbe832 hb831 hg830 hg826 hb813 hg812 ap815 hb808 hg807 hbe804 hg802 hbe798 hb797 hg796 hg792 hb779 hg778 ap781 hb774 hg773 hbe770 hg768 hbe764 hb763 hg762 hg758 hB748
                  refine gv_cret ?_
                  have e := Option.some.inj h0; subst e
                  refine gv_ret (gv_done [(.bool j895)] rfl ⟨rfl, trivial⟩ ?_)
                  exact ⟨grown_of_below hB1321, rfl⟩

end Go.Proofs.Ytenjigdaaeiklaa
