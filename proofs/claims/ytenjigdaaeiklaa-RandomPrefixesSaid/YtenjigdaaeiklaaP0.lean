import Derived.Test.YtenjigdaaeiklaaRows
import Derived.Test.YtenjigdaaeiklaaGd
import Derived.Test.YtenjigdaaeiklaaD
set_option linter.all false
/- Own work, printed by a program of mine: the walk of each function: a call returns what the plain function says. -/
namespace Go.Proofs.Ytenjigdaaeiklaa
open Go.Gv Go.Gv.D Go.RowKit
theorem enters8 : Enters Try.prog 8 := ⟨Try.f8, Try.func8, by kernel_rfl, by kernel_rfl⟩
theorem enters9 : Enters Try.prog 9 := ⟨Try.f9, Try.func9, by kernel_rfl, by kernel_rfl⟩
theorem enters11 : Enters Try.prog 11 := ⟨Try.f11, Try.func11, by kernel_rfl, by kernel_rfl⟩
theorem enters14 : Enters Try.prog 14 := ⟨Try.f14, Try.func14, by kernel_rfl, by kernel_rfl⟩
theorem enters15 : Enters Try.prog 15 := ⟨Try.f15, Try.func15, by kernel_rfl, by kernel_rfl⟩
theorem enters16 : Enters Try.prog 16 := ⟨Try.f16, Try.func16, by kernel_rfl, by kernel_rfl⟩
theorem enters18 : Enters Try.prog 18 := ⟨Try.f18, Try.func18, by kernel_rfl, by kernel_rfl⟩
theorem enters27 : Enters Try.prog 27 := ⟨Try.f27, Try.func27, by kernel_rfl, by kernel_rfl⟩
theorem enters28 : Enters Try.prog 28 := ⟨Try.f28, Try.func28, by kernel_rfl, by kernel_rfl⟩
theorem enters29 : Enters Try.prog 29 := ⟨Try.f29, Try.func29, by kernel_rfl, by kernel_rfl⟩
theorem enters30 : Enters Try.prog 30 := ⟨Try.f30, Try.func30, by kernel_rfl, by kernel_rfl⟩
theorem enters36 : Enters Try.prog 36 := ⟨Try.f36, Try.func36, by kernel_rfl, by kernel_rfl⟩
theorem enters37 : Enters Try.prog 37 := ⟨Try.f37, Try.func37, by kernel_rfl, by kernel_rfl⟩
theorem enters38 : Enters Try.prog 38 := ⟨Try.f38, Try.func38, by kernel_rfl, by kernel_rfl⟩
theorem enters39 : Enters Try.prog 39 := ⟨Try.f39, Try.func39, by kernel_rfl, by kernel_rfl⟩
theorem enters40 : Enters Try.prog 40 := ⟨Try.f40, Try.func40, by kernel_rfl, by kernel_rfl⟩
theorem enters41 : Enters Try.prog 41 := ⟨Try.f41, Try.func41, by kernel_rfl, by kernel_rfl⟩
theorem enters42 : Enters Try.prog 42 := ⟨Try.f42, Try.func42, by kernel_rfl, by kernel_rfl⟩
theorem enters43 : Enters Try.prog 43 := ⟨Try.f43, Try.func43, by kernel_rfl, by kernel_rfl⟩
theorem enters44 : Enters Try.prog 44 := ⟨Try.f44, Try.func44, by kernel_rfl, by kernel_rfl⟩
theorem enters45 : Enters Try.prog 45 := ⟨Try.f45, Try.func45, by kernel_rfl, by kernel_rfl⟩
theorem enters47 : Enters Try.prog 47 := ⟨Try.f47, Try.func47, by kernel_rfl, by kernel_rfl⟩
theorem enters55 : Enters Try.prog 55 := ⟨Try.f55, Try.func55, by kernel_rfl, by kernel_rfl⟩
theorem enters56 : Enters Try.prog 56 := ⟨Try.f56, Try.func56, by kernel_rfl, by kernel_rfl⟩
theorem enters60 : Enters Try.prog 60 := ⟨Try.f60, Try.func60, by kernel_rfl, by kernel_rfl⟩
theorem enters61 : Enters Try.prog 61 := ⟨Try.f61, Try.func61, by kernel_rfl, by kernel_rfl⟩
theorem enters62 : Enters Try.prog 62 := ⟨Try.f62, Try.func62, by kernel_rfl, by kernel_rfl⟩
theorem enters63 : Enters Try.prog 63 := ⟨Try.f63, Try.func63, by kernel_rfl, by kernel_rfl⟩
theorem enters64 : Enters Try.prog 64 := ⟨Try.f64, Try.func64, by kernel_rfl, by kernel_rfl⟩
theorem enters66 : Enters Try.prog 66 := ⟨Try.f66, Try.func66, by kernel_rfl, by kernel_rfl⟩
theorem enters67 : Enters Try.prog 67 := ⟨Try.f67, Try.func67, by kernel_rfl, by kernel_rfl⟩
theorem enters68 : Enters Try.prog 68 := ⟨Try.f68, Try.func68, by kernel_rfl, by kernel_rfl⟩
theorem enters69 : Enters Try.prog 69 := ⟨Try.f69, Try.func69, by kernel_rfl, by kernel_rfl⟩
theorem enters70 : Enters Try.prog 70 := ⟨Try.f70, Try.func70, by kernel_rfl, by kernel_rfl⟩
theorem enters71 : Enters Try.prog 71 := ⟨Try.f71, Try.func71, by kernel_rfl, by kernel_rfl⟩
theorem enters72 : Enters Try.prog 72 := ⟨Try.f72, Try.func72, by kernel_rfl, by kernel_rfl⟩
theorem enters73 : Enters Try.prog 73 := ⟨Try.f73, Try.func73, by kernel_rfl, by kernel_rfl⟩
theorem enters74 : Enters Try.prog 74 := ⟨Try.f74, Try.func74, by kernel_rfl, by kernel_rfl⟩
theorem enters75 : Enters Try.prog 75 := ⟨Try.f75, Try.func75, by kernel_rfl, by kernel_rfl⟩
theorem enters76 : Enters Try.prog 76 := ⟨Try.f76, Try.func76, by kernel_rfl, by kernel_rfl⟩
theorem enters77 : Enters Try.prog 77 := ⟨Try.f77, Try.func77, by kernel_rfl, by kernel_rfl⟩
theorem enters78 : Enters Try.prog 78 := ⟨Try.f78, Try.func78, by kernel_rfl, by kernel_rfl⟩
theorem enters79 : Enters Try.prog 79 := ⟨Try.f79, Try.func79, by kernel_rfl, by kernel_rfl⟩
theorem enters80 : Enters Try.prog 80 := ⟨Try.f80, Try.func80, by kernel_rfl, by kernel_rfl⟩
theorem enters81 : Enters Try.prog 81 := ⟨Try.f81, Try.func81, by kernel_rfl, by kernel_rfl⟩
theorem enters82 : Enters Try.prog 82 := ⟨Try.f82, Try.func82, by kernel_rfl, by kernel_rfl⟩
theorem enters83 : Enters Try.prog 83 := ⟨Try.f83, Try.func83, by kernel_rfl, by kernel_rfl⟩
theorem info3 : InfoOk Try.prog 3 1 := infoOk (z := (.int .i64 0)) (bytes := 8) (by kernel_rfl) (by kernel_rfl) (by kernel_rfl) (by kernel_rfl)
theorem info5 : InfoOk Try.prog 5 1 := infoOk (z := (.int .u8 0)) (bytes := 1) (by kernel_rfl) (by kernel_rfl) (by kernel_rfl) (by kernel_rfl)
theorem info76 : InfoOk Try.prog 76 1 := infoOk (z := (.int .u32 0)) (bytes := 4) (by kernel_rfl) (by kernel_rfl) (by kernel_rfl) (by kernel_rfl)
theorem eqs27eql (a0 : Int) (a1 : Int) (b0 : Int) (b1 : Int) (x y : Operand) (w : World) : (do eqGuard .eql 27 x y (.agg #[.int .u64 a0, .int .u64 a1]) (.agg #[.int .u64 b0, .int .u64 b1]); binOp .eql 27 (.agg #[.int .u64 a0, .int .u64 a1]) (.agg #[.int .u64 b0, .int .u64 b1]) : Sem Value).run Try.prog w = .ok (.bool ((a0 == b0) && (a1 == b1))) w := by
  have h1 : Try.prog.eqGuardType Try.prog.depth 27 = false := by kernel_rfl
  have h2 : Try.prog.stoodInHeld 27 = false := by kernel_rfl
  have h3 : Try.prog.underlying 27 = some (.struct (Try.prog.fieldsOf 27)) := by kernel_rfl
  have h4 := Try.underlying27
  rw [Sem.run_bind, run_eqGuard_agg w .eql 27 x y _ _ h1, Result.andThen_ok, run_eql_struct, run_equalIn_struct w 9999 27 _ _ h3 h2]
  by_cases g0 : a0 = b0 <;> by_cases g1 : a1 = b1 <;> simp [Program.fieldsOf, h4, Op.eqFields, part, isAgg, run_underlying Try.underlying25, run_equalIn_int _ _ _ _ _ _ _ Try.underlying25, g0, g1]

set_option maxHeartbeats 4000000 in
set_option maxRecDepth 100000 in
theorem integer_Valid_ok (fuel : Nat) (pa0_0 : Option Addr) (pc0_0 : Nat) (a_0 : (Bool × (List Int))) (w0 : World) (X0 : Nat → Prop) (hX0 : ∀ k, X0 k → k < w0.heap.size) (hpa0_0 : Rd (iE .u32) w0 X0 pa0_0 pc0_0 a_0.2) (r0 : Bool) (h0 : integer_Valid fuel a_0 = some r0) :
    Calls Try.prog 36 ([(.agg #[(.bool a_0.1), (.slice pa0_0 (List.length a_0.2) pc0_0)])] : List Value).toArray w0 (Ret fun v w' => w0.grownBy w' none ∧ v = tup [(.bool r0)]) := by
  have hB0 : Below w0.heap.size w0 w0 := Below.refl _ _
  unfold integer_Valid at h0
  refine calls_run Try.func36 rfl Try.ntmps36 (by kernel_rfl) ?_
  refine gv_sub [0] (σ' := [(0, (.agg #[(.bool a_0.1), (.slice pa0_0 (List.length a_0.2) pc0_0)]))]) (by kernel_rfl) ?_
  refine gv_seq ?_
  refine gv_region ?_
  refine gv_new (fun b => .pointer (some ⟨b, 0, none⟩)) #[(.bool a_0.1), (.slice pa0_0 (List.length a_0.2) pc0_0)] 24 (by decide) (by rfl) (by rfl) (by kernel_rfl) (by kernel_rfl) ?_
  intro b1 w2 hg3 hb4 hbe5 hz6
  refine ⟨(fun e => by cases e), ?_⟩
  refine gv_pure 1 [1] (σ' := [(1, (.pointer (some ⟨b1, 0, none⟩)))]) (by kernel_rfl) ?_
  refine gv_nil ?_
  refine gv_seq ?_
  refine gv_region ?_
  refine gv_pure 1 [1, 4] (σ' := [(1, (.pointer (some ⟨b1, 0, none⟩))), (4, (.pointer (some ⟨b1, 1, none⟩)))]) (by kernel_rfl) ?_
  refine gv_load (t := 22) (A := ⟨b1, 1, none⟩) (.slice pa0_0 (List.length a_0.2) pc0_0) [1, 5] (σ' := [(1, (.pointer (some ⟨b1, 0, none⟩))), (5, (.slice pa0_0 (List.length a_0.2) pc0_0))]) (fun e => by cases e) (by rfl) (by rfl) (by rfl) (by kernel_rfl) (by kernel_rfl) (by kernel_rfl) (inw0 (hb4.cell 1 rfl)) (by kernel_rfl) ?_
  refine gv_pure 2 [1, 3] (σ' := [(1, (.pointer (some ⟨b1, 0, none⟩))), (3, (.int .i64 ((List.length a_0.2 : Nat) : Int)))]) (by kernel_rfl) ?_
  refine gv_nil ?_
  refine gv_seq ?_
  refine gv_region ?_
  refine bindE h0 ?_; clear h0; intro j7 h1 h0
  refine gv_cut_ops (J := fun a w8 => Below w0.heap.size w0 w8 ∧ w2.heap.size ≤ w8.heap.size ∧ a.defers = [] ∧ a.tmps.size = 31 ∧ Ok [(2, (.bool j7))] a.tmps) ?_ ?_
  · skip
    refine gv_pure 3 [1, 3, 9] (σ' := [(1, (.pointer (some ⟨b1, 0, none⟩))), (3, (.int .i64 ((List.length a_0.2 : Nat) : Int))), (9, (.bool (decide (((List.length a_0.2 : Nat) : Int) ≤ 128))))]) (by kernel_rfl) ?_
    refine gv_split (s := 9) (g := (decide (((List.length a_0.2 : Nat) : Int) ≤ 128))) (by rfl) (fun hc9 => ?_) (fun hc9 => ?_)
    · skip
      replace h1 := ite_t hc9 h1
      refine gv_pure 3 [1, 3, 9, 12] (σ' := [(1, (.pointer (some ⟨b1, 0, none⟩))), (3, (.int .i64 ((List.length a_0.2 : Nat) : Int))), (9, (.bool true)), (12, (.bool (((List.length a_0.2 : Nat) : Int) == 0)))]) (by kernel_rfl) ?_
      refine gv_split (s := 12) (g := (((List.length a_0.2 : Nat) : Int) == 0)) (by rfl) (fun hc10 => ?_) (fun hc10 => ?_)
      · skip
        replace h1 := ite_t hc10 h1
        refine gv_pure 1 [1, 3, 9, 12, 13] (σ' := [(1, (.pointer (some ⟨b1, 0, none⟩))), (3, (.int .i64 ((List.length a_0.2 : Nat) : Int))), (9, (.bool true)), (12, (.bool true)), (13, (.pointer (some ⟨b1, 0, none⟩)))]) (by kernel_rfl) ?_
        refine gv_load (t := 4) (A := ⟨b1, 0, none⟩) (.bool a_0.1) [1, 3, 9, 12, 14] (σ' := [(1, (.pointer (some ⟨b1, 0, none⟩))), (3, (.int .i64 ((List.length a_0.2 : Nat) : Int))), (9, (.bool true)), (12, (.bool true)), (14, (.bool a_0.1))]) (fun e => by cases e) (by rfl) (by rfl) (by rfl) (by kernel_rfl) (by kernel_rfl) (by kernel_rfl) (inw0 (hb4.cell 0 rfl)) (by kernel_rfl) ?_
        refine gv_pure 3 [1, 3, 9, 17] (σ' := [(1, (.pointer (some ⟨b1, 0, none⟩))), (3, (.int .i64 ((List.length a_0.2 : Nat) : Int))), (9, (.bool true)), (17, (.bool (!a_0.1)))]) (by kernel_rfl) ?_
        refine gv_split (s := 17) (g := (!a_0.1)) (by rfl) (fun hc11 => ?_) (fun hc11 => ?_)
        · skip
          replace h1 := ite_t hc11 h1
          refine gv_pure 14 [2] (σ' := [(2, (.bool true))]) (by kernel_rfl) ?_
          refine gv_nil ?_
          have e := Option.some.inj h1; subst e
          refine gv_goal fun a hd hs hok => ?_
          obtain ⟨q2, _⟩ := hok
          have hB12 := below_grown hB0 hg3 hB0.size nb
          exact ⟨hB12, (Nat.le_refl _), hd, hs, ⟨q2, trivial⟩⟩
        · skip
          replace h1 := ite_f hc11 h1
          refine gv_pure 3 [1, 3, 9, 17, 20] (σ' := [(1, (.pointer (some ⟨b1, 0, none⟩))), (3, (.int .i64 ((List.length a_0.2 : Nat) : Int))), (9, (.bool true)), (17, (.bool false)), (20, (.bool (decide (((List.length a_0.2 : Nat) : Int) > 0))))]) (by kernel_rfl) ?_
          refine gv_split (s := 20) (g := (decide (((List.length a_0.2 : Nat) : Int) > 0))) (by rfl) (fun hc13 => ?_) (fun hc13 => ?_)
          · skip
            replace h1 := ite_t hc13 h1
            refine gv_pure 1 [3, 9, 17, 20, 21] (σ' := [(3, (.int .i64 ((List.length a_0.2 : Nat) : Int))), (9, (.bool true)), (17, (.bool false)), (20, (.bool true)), (21, (.pointer (some ⟨b1, 1, none⟩)))]) (by kernel_rfl) ?_
            refine gv_load (t := 22) (A := ⟨b1, 1, none⟩) (.slice pa0_0 (List.length a_0.2) pc0_0) [3, 9, 17, 20, 22] (σ' := [(3, (.int .i64 ((List.length a_0.2 : Nat) : Int))), (9, (.bool true)), (17, (.bool false)), (20, (.bool true)), (22, (.slice pa0_0 (List.length a_0.2) pc0_0))]) (fun e => by cases e) (by rfl) (by rfl) (by rfl) (by kernel_rfl) (by kernel_rfl) (by kernel_rfl) (inw0 (hb4.cell 1 rfl)) (by kernel_rfl) ?_
            refine gv_pure 2 [9, 17, 20, 22, 24] (σ' := [(9, (.bool true)), (17, (.bool false)), (20, (.bool true)), (22, (.slice pa0_0 (List.length a_0.2) pc0_0)), (24, (.int .i64 (IntKind.i64.wrap (((List.length a_0.2 : Nat) : Int) - 1))))]) (by kernel_rfl) ?_
            refine bindE h1 ?_; clear h1; intro x14 hx15 h1
            have hB16 := below_grown hB0 hg3 hB0.size nb
            refine gv_idxaddr (t := 22) (e := 76) (a := pa0_0) (len := List.length a_0.2) (cap := pc0_0) (kk := .i64) (i := (IntKind.i64.wrap (((List.length a_0.2 : Nat) : Int) - 1))) (sz := 1) [9, 17, 20, 25] (σ' := [(9, (.bool true)), (17, (.bool false)), (20, (.bool true)), (25, (.pointer (some (elemAddr pa0_0 (((IntKind.i64.wrap (((List.length a_0.2 : Nat) : Int) - 1))).toNat * 1)))))]) (fun e => by cases e) (by rfl) (by rfl) (by rfl) (by kernel_rfl) (by kernel_rfl) Try.underlying22 (by kernel_rfl) ((hpa0_0.below hB16 hX0).has hx15) (idx_spec hx15).1 (idx_spec hx15).2.1 (by kernel_rfl) ?_
            refine gv_load (t := 76) (A := (elemAddr pa0_0 (((IntKind.i64.wrap (((List.length a_0.2 : Nat) : Int) - 1))).toNat * 1))) (.int .u32 x14) [9, 17, 20, 26] (σ' := [(9, (.bool true)), (17, (.bool false)), (20, (.bool true)), (26, (.int .u32 x14))]) (fun e => by cases e) (by rfl) (by rfl) (by rfl) (by kernel_rfl) (by kernel_rfl) (by kernel_rfl) (inw0 ((hpa0_0.below hB16 hX0).cell hx15)) (by kernel_rfl) ?_
            refine gv_pure 5 [2] (σ' := [(2, (.bool (x14 != 0)))]) (by kernel_rfl) ?_
            refine gv_nil ?_
            have e := Option.some.inj h1; subst e
            refine gv_goal fun a hd hs hok => ?_
            obtain ⟨q2, _⟩ := hok
            exact ⟨hB16, (Nat.le_refl _), hd, hs, ⟨q2, trivial⟩⟩
          · skip
            replace h1 := ite_f hc13 h1
            refine gv_pure 11 [2] (σ' := [(2, (.bool false))]) (by kernel_rfl) ?_
            refine gv_nil ?_
            have e := Option.some.inj h1; subst e
            refine gv_goal fun a hd hs hok => ?_
            obtain ⟨q2, _⟩ := hok
            have hB17 := below_grown hB0 hg3 hB0.size nb
            exact ⟨hB17, (Nat.le_refl _), hd, hs, ⟨q2, trivial⟩⟩
      · skip
        replace h1 := ite_f hc10 h1
        refine gv_pure 8 [1, 3, 9, 17, 20] (σ' := [(1, (.pointer (some ⟨b1, 0, none⟩))), (3, (.int .i64 ((List.length a_0.2 : Nat) : Int))), (9, (.bool true)), (17, (.bool false)), (20, (.bool (decide (((List.length a_0.2 : Nat) : Int) > 0))))]) (by kernel_rfl) ?_
        refine gv_split (s := 20) (g := (decide (((List.length a_0.2 : Nat) : Int) > 0))) (by rfl) (fun hc18 => ?_) (fun hc18 => ?_)
        · skip
          replace h1 := ite_t hc18 h1
          refine gv_pure 1 [3, 9, 17, 20, 21] (σ' := [(3, (.int .i64 ((List.length a_0.2 : Nat) : Int))), (9, (.bool true)), (17, (.bool false)), (20, (.bool true)), (21, (.pointer (some ⟨b1, 1, none⟩)))]) (by kernel_rfl) ?_
          refine gv_load (t := 22) (A := ⟨b1, 1, none⟩) (.slice pa0_0 (List.length a_0.2) pc0_0) [3, 9, 17, 20, 22] (σ' := [(3, (.int .i64 ((List.length a_0.2 : Nat) : Int))), (9, (.bool true)), (17, (.bool false)), (20, (.bool true)), (22, (.slice pa0_0 (List.length a_0.2) pc0_0))]) (fun e => by cases e) (by rfl) (by rfl) (by rfl) (by kernel_rfl) (by kernel_rfl) (by kernel_rfl) (inw0 (hb4.cell 1 rfl)) (by kernel_rfl) ?_
          refine gv_pure 2 [9, 17, 20, 22, 24] (σ' := [(9, (.bool true)), (17, (.bool false)), (20, (.bool true)), (22, (.slice pa0_0 (List.length a_0.2) pc0_0)), (24, (.int .i64 (IntKind.i64.wrap (((List.length a_0.2 : Nat) : Int) - 1))))]) (by kernel_rfl) ?_
          refine bindE h1 ?_; clear h1; intro x19 hx20 h1
          have hB21 := below_grown hB0 hg3 hB0.size nb
          refine gv_idxaddr (t := 22) (e := 76) (a := pa0_0) (len := List.length a_0.2) (cap := pc0_0) (kk := .i64) (i := (IntKind.i64.wrap (((List.length a_0.2 : Nat) : Int) - 1))) (sz := 1) [9, 17, 20, 25] (σ' := [(9, (.bool true)), (17, (.bool false)), (20, (.bool true)), (25, (.pointer (some (elemAddr pa0_0 (((IntKind.i64.wrap (((List.length a_0.2 : Nat) : Int) - 1))).toNat * 1)))))]) (fun e => by cases e) (by rfl) (by rfl) (by rfl) (by kernel_rfl) (by kernel_rfl) Try.underlying22 (by kernel_rfl) ((hpa0_0.below hB21 hX0).has hx20) (idx_spec hx20).1 (idx_spec hx20).2.1 (by kernel_rfl) ?_
          refine gv_load (t := 76) (A := (elemAddr pa0_0 (((IntKind.i64.wrap (((List.length a_0.2 : Nat) : Int) - 1))).toNat * 1))) (.int .u32 x19) [9, 17, 20, 26] (σ' := [(9, (.bool true)), (17, (.bool false)), (20, (.bool true)), (26, (.int .u32 x19))]) (fun e => by cases e) (by rfl) (by rfl) (by rfl) (by kernel_rfl) (by kernel_rfl) (by kernel_rfl) (inw0 ((hpa0_0.below hB21 hX0).cell hx20)) (by kernel_rfl) ?_
          refine gv_pure 5 [2] (σ' := [(2, (.bool (x19 != 0)))]) (by kernel_rfl) ?_
          refine gv_nil ?_
          have e := Option.some.inj h1; subst e
          refine gv_goal fun a hd hs hok => ?_
          obtain ⟨q2, _⟩ := hok
          exact ⟨hB21, (Nat.le_refl _), hd, hs, ⟨q2, trivial⟩⟩
        · skip
          replace h1 := ite_f hc18 h1
          refine gv_pure 11 [2] (σ' := [(2, (.bool false))]) (by kernel_rfl) ?_
          refine gv_nil ?_
          have e := Option.some.inj h1; subst e
          refine gv_goal fun a hd hs hok => ?_
          obtain ⟨q2, _⟩ := hok
          have hB22 := below_grown hB0 hg3 hB0.size nb
          exact ⟨hB22, (Nat.le_refl _), hd, hs, ⟨q2, trivial⟩⟩
    · skip
      replace h1 := ite_f hc9 h1
      refine gv_pure 22 [2] (σ' := [(2, (.bool false))]) (by kernel_rfl) ?_
      refine gv_nil ?_
      have e := Option.some.inj h1; subst e
      refine gv_goal fun a hd hs hok => ?_
      obtain ⟨q2, _⟩ := hok
      have hB23 := below_grown hB0 hg3 hB0.size nb
      exact ⟨hB23, (Nat.le_refl _), hd, hs, ⟨q2, trivial⟩⟩
  · rintro a w8 ⟨hB24, hz25, hd, hs, hok⟩
    refine (?_ : Run Try.prog _ 31 _ .normal [(2, (.bool j7))] w8) a hd hs hok
    clear hd hs hok
    clear hz25 hz6 hbe5 hb4 hg3
    refine gv_cret ?_
    have e := Option.some.inj h0; subst e
    refine gv_ret (gv_done [(.bool j7)] rfl ⟨rfl, trivial⟩ ?_)
    exact ⟨grown_of_below hB24, rfl⟩

set_option maxHeartbeats 4000000 in
set_option maxRecDepth 100000 in
theorem random_at_ok (fuel : Nat) (code_0 : Int) (index_1 : Int) (w0 : World)  (r0 : (Int × Int)) (h0 : random_at fuel code_0 index_1 = some r0) :
    Calls Try.prog 37 ([(.int .i64 code_0), (.int .i64 index_1)] : List Value).toArray w0 (Ret fun v w' => w0.grownBy w' none ∧ v = tup [(.agg #[(.int .i64 r0.1), (.int .i64 r0.2)])]) := by
  have hB0 : Below w0.heap.size w0 w0 := Below.refl _ _
  unfold random_at at h0
  refine calls_run Try.func37 rfl Try.ntmps37 (by kernel_rfl) ?_
  refine gv_sub [0, 1] (σ' := [(0, (.int .i64 code_0)), (1, (.int .i64 index_1))]) (by kernel_rfl) ?_
  refine gv_seq ?_
  refine gv_region ?_
  refine gv_new (fun b => .pointer (some ⟨b, 0, none⟩)) #[(.int .i64 0), (.int .i64 0)] 29 (by decide) (by rfl) (by rfl) (by kernel_rfl) (by kernel_rfl) ?_
  intro b1 w2 hg3 hb4 hbe5 hz6
  refine ⟨(fun e => by cases e), ?_⟩
  refine gv_sub [0, 1, 4] (σ' := [(0, (.int .i64 code_0)), (1, (.int .i64 index_1)), (4, (.pointer (some ⟨b1, 0, none⟩)))]) (by kernel_rfl) ?_
  refine gv_nil ?_
  refine gv_seq ?_
  refine gv_region ?_
  refine gv_pure 3 [4, 7] (σ' := [(4, (.pointer (some ⟨b1, 0, none⟩))), (7, (.agg #[(.int .i64 code_0), (.int .i64 index_1)]))]) (by kernel_rfl) ?_
  refine gv_store (t := 29) (b := b1) (off := 0) (v := (.agg #[(.int .i64 code_0), (.int .i64 index_1)])) (t' := 29) (cs := #[(.int .i64 0), (.int .i64 0)]) #[(.int .i64 code_0), (.int .i64 index_1)] (by decide) (by rfl) (by rfl) (by kernel_rfl) (by kernel_rfl) (by kernel_rfl) (by intro u hu; simp [Value.cells] at hu; rcases hu with rfl | rfl <;> rfl) (show 0 + 2 ≤ 2 by decide) (by rfl) hb4 ?_
  intro w7 hg8 hb9 hz10
  refine ⟨(fun e => by cases e), ?_⟩
  refine gv_sub [4] (σ' := [(4, (.pointer (some ⟨b1, 0, none⟩)))]) (by kernel_rfl) ?_
  refine gv_nil ?_
  refine gv_cret ?_
  have e := Option.some.inj h0; subst e
  refine gv_ret (gv_done [(.agg #[(.int .i64 code_0), (.int .i64 index_1)])] rfl ⟨⟨_, rfl, run_loadVar_row w7 b1 _ 29 _ _ _ hb9 Try.underlying29 rfl (by kernel_rfl)⟩, trivial⟩ ?_)
  have hB11 := below_grown hB0 hg3 hB0.size nb
  have hlo12 : w0.heap.size ≤ b1 := lob hbe5 hB0.size
  have hB13 := below_grown hB11 hg8 hB11.size (rowlo hlo12)
  exact ⟨grown_of_below hB13, rfl⟩

set_option maxHeartbeats 4000000 in
set_option maxRecDepth 100000 in
theorem random_mix_ok (fuel : Nat) (x_0 : Int) (w0 : World)  (r0 : Int) (h0 : random_mix fuel x_0 = some r0) :
    Calls Try.prog 38 ([(.int .u64 x_0)] : List Value).toArray w0 (Ret fun v w' => w0.grownBy w' none ∧ v = tup [(.int .u64 r0)]) := by
  have hB0 : Below w0.heap.size w0 w0 := Below.refl _ _
  unfold random_mix at h0
  refine calls_run Try.func38 rfl Try.ntmps38 (by kernel_rfl) ?_
  refine gv_sub [0] (σ' := [(0, (.int .u64 x_0))]) (by kernel_rfl) ?_
  refine gv_seq ?_
  refine gv_region ?_
  refine gv_pure 1 [0] (σ' := [(0, (.int .u64 x_0))]) (by kernel_rfl) ?_
  refine gv_nil ?_
  refine gv_seq ?_
  refine gv_region ?_
  refine gv_pure 6 [0] (σ' := [(0, (.int .u64 (IntKind.u64.wrap ((bwXor .u64 x_0 ((x_0).fdiv (2 ^ 30))) * 13787848793156543929))))]) (by kernel_rfl) ?_
  refine bindE h0 ?_; clear h0; intro n1 hn2 h0
  refine gv_name (s := 0) (v := (.int .u64 (IntKind.u64.wrap ((bwXor .u64 x_0 ((x_0).fdiv (2 ^ 30))) * 13787848793156543929)))) (v' := (.int .u64 n1)) (by rfl) (congrArg (Value.int .u64) (Option.some.inj hn2)) ?_
  refine gv_sub [0] (σ' := [(0, (.int .u64 n1))]) (by kernel_rfl) ?_
  refine gv_nil ?_
  refine gv_seq ?_
  refine gv_region ?_
  refine gv_pure 6 [0] (σ' := [(0, (.int .u64 (IntKind.u64.wrap ((bwXor .u64 n1 ((n1).fdiv (2 ^ 27))) * 10723151780598845931))))]) (by kernel_rfl) ?_
  refine bindE h0 ?_; clear h0; intro n3 hn4 h0
  refine gv_name (s := 0) (v := (.int .u64 (IntKind.u64.wrap ((bwXor .u64 n1 ((n1).fdiv (2 ^ 27))) * 10723151780598845931)))) (v' := (.int .u64 n3)) (by rfl) (congrArg (Value.int .u64) (Option.some.inj hn4)) ?_
  refine gv_sub [0] (σ' := [(0, (.int .u64 n3))]) (by kernel_rfl) ?_
  refine gv_nil ?_
  refine gv_seq ?_
  refine gv_region ?_
  refine gv_pure 5 [2] (σ' := [(2, (.int .u64 (bwXor .u64 n3 ((n3).fdiv (2 ^ 31)))))]) (by kernel_rfl) ?_
  refine gv_nil ?_
  refine gv_cret ?_
  have e := Option.some.inj h0; subst e
  refine gv_ret (gv_done [(.int .u64 (bwXor .u64 n3 ((n3).fdiv (2 ^ 31))))] rfl ⟨rfl, trivial⟩ ?_)
  exact ⟨grown_of_below hB0, rfl⟩

set_option maxHeartbeats 4000000 in
set_option maxRecDepth 100000 in
theorem random_Seed_ok (fuel : Nat) (pa0_0 : Option Addr) (pc0_0 : Nat) (n_0 : (Bool × (List Int))) (w0 : World) (X0 : Nat → Prop) (hX0 : ∀ k, X0 k → k < w0.heap.size) (hpa0_0 : Rd (iE .u32) w0 X0 pa0_0 pc0_0 n_0.2) (r0 : ((Int × Int) × (Int × Int))) (h0 : random_Seed fuel n_0 = some r0) :
    Calls Try.prog 8 ([(.agg #[(.bool n_0.1), (.slice pa0_0 (List.length n_0.2) pc0_0)])] : List Value).toArray w0 (Ret fun v w' => w0.grownBy w' none ∧ v = tup [(.agg #[(.int .u64 r0.1.1), (.int .u64 r0.1.2)]), (.agg #[(.int .i64 r0.2.1), (.int .i64 r0.2.2)])]) := by
  have hB0 : Below w0.heap.size w0 w0 := Below.refl _ _
  unfold random_Seed at h0
  refine calls_run Try.func8 rfl Try.ntmps8 (by kernel_rfl) ?_
  refine gv_sub [0] (σ' := [(0, (.agg #[(.bool n_0.1), (.slice pa0_0 (List.length n_0.2) pc0_0)]))]) (by kernel_rfl) ?_
  refine gv_seq ?_
  refine gv_region ?_
  refine gv_new (fun b => .pointer (some ⟨b, 0, none⟩)) #[(.bool n_0.1), (.slice pa0_0 (List.length n_0.2) pc0_0)] 24 (by decide) (by rfl) (by rfl) (by kernel_rfl) (by kernel_rfl) ?_
  intro b1 w2 hg3 hb4 hbe5 hz6
  refine ⟨(fun e => by cases e), ?_⟩
  refine gv_sub [1] (σ' := [(1, (.pointer (some ⟨b1, 0, none⟩)))]) (by kernel_rfl) ?_
  refine gv_new (fun b => .pointer (some ⟨b, 0, none⟩)) #[(.int .u64 0), (.int .u64 0)] 27 (by decide) (by rfl) (by rfl) (by kernel_rfl) (by kernel_rfl) ?_
  intro b7 w8 hg9 hb10 hbe11 hz12
  refine ⟨(fun e => by cases e), ?_⟩
  refine gv_sub [1, 2] (σ' := [(1, (.pointer (some ⟨b1, 0, none⟩))), (2, (.pointer (some ⟨b7, 0, none⟩)))]) (by kernel_rfl) ?_
  refine gv_new (fun b => .pointer (some ⟨b, 0, none⟩)) #[(.int .i64 0), (.int .i64 0)] 29 (by decide) (by rfl) (by rfl) (by kernel_rfl) (by kernel_rfl) ?_
  intro b13 w14 hg15 hb16 hbe17 hz18
  refine ⟨(fun e => by cases e), ?_⟩
  refine gv_sub [1, 2, 3] (σ' := [(1, (.pointer (some ⟨b1, 0, none⟩))), (2, (.pointer (some ⟨b7, 0, none⟩))), (3, (.pointer (some ⟨b13, 0, none⟩)))]) (by kernel_rfl) ?_
  refine gv_nil ?_
  refine gv_seq ?_
  refine gv_seq ?_
  refine gv_region ?_
  have hg19 := (grown_trans hg9 hg15)
  have hk20 := hb4.grown hg19 nb
  refine gv_loadBox (t := 24) (b := b1) (t' := 24) (fr := (0, 0)) #[(.bool n_0.1), (.slice pa0_0 (List.length n_0.2) pc0_0)] [1, 2, 3, 7] (σ' := [(1, (.pointer (some ⟨b1, 0, none⟩))), (2, (.pointer (some ⟨b7, 0, none⟩))), (3, (.pointer (some ⟨b13, 0, none⟩))), (7, (.agg #[(.bool n_0.1), (.slice pa0_0 (List.length n_0.2) pc0_0)]))]) (fun e => by cases e) (by rfl) (by rfl) (by rfl) (by kernel_rfl) (by kernel_rfl) (by kernel_rfl) (by kernel_rfl) (inw0 hk20) (by kernel_rfl) ?_
  refine bindE h0 ?_; clear h0; intro r21 hr22 h0
  have hg23 := (grown_trans hg3 hg19)
  have hB24 := below_grown hB0 hg23 hB0.size nb
  refine gv_call (f := 36) (vs := [(.agg #[(.bool n_0.1), (.slice pa0_0 (List.length n_0.2) pc0_0)])]) (cap := []) _ (by decide) (by rfl) (by rfl) rfl (by rfl) (by rfl) enters36 (integer_Valid_ok fuel pa0_0 pc0_0 (n_0.1, n_0.2) w14 (fun k => X0 k) (fun k hk => (fun k (hk : X0 k) => Nat.lt_of_lt_of_le (hX0 k hk) hB24.size) k hk) ((hpa0_0.below hB24 hX0).wide (fun k hk => hk)) r21 hr22) ?_
  rintro v27 w25 ⟨hg26, rfl⟩
  refine ⟨(fun e => by cases e), ?_⟩
  refine gv_pure 1 [1, 2, 3, 9] (σ' := [(1, (.pointer (some ⟨b1, 0, none⟩))), (2, (.pointer (some ⟨b7, 0, none⟩))), (3, (.pointer (some ⟨b13, 0, none⟩))), (9, (.bool (!r21)))]) (by kernel_rfl) ?_
  refine gv_nil ?_
  refine gv_cond (b := (!r21)) (by rfl) (fun hc28 => ?_) (fun hc28 => ?_)
  · replace h0 := ite_t hc28 h0
    refine gv_seq ?_
    refine gv_region ?_
    refine gv_pure 1 [2, 3, 10] (σ' := [(2, (.pointer (some ⟨b7, 0, none⟩))), (3, (.pointer (some ⟨b13, 0, none⟩))), (10, (.agg #[(.int .u64 0), (.int .u64 0)]))]) (by kernel_rfl) ?_
    refine bindE h0 ?_; clear h0; intro r29 hr30 h0
    refine gv_call (f := 37) (vs := [(.int .i64 6), (.int .i64 (-1))]) (cap := []) _ (by decide) (by rfl) (by rfl) rfl (by rfl) (by rfl) enters37 (random_at_ok fuel 6 (-1) w25  r29 hr30) ?_
    rintro v33 w31 ⟨hg32, rfl⟩
    refine ⟨(fun e => by cases e), ?_⟩
    have hg38 := (grown_trans (grown_trans hg15 hg26) hg32)
    have hk39 := hb10.grown hg38 nb
    refine gv_sub [2, 3, 10, 11] (σ' := [(2, (.pointer (some ⟨b7, 0, none⟩))), (3, (.pointer (some ⟨b13, 0, none⟩))), (10, (.agg #[(.int .u64 0), (.int .u64 0)])), (11, (.agg #[(.int .i64 r29.1), (.int .i64 r29.2)]))]) (by kernel_rfl) ?_
    refine gv_store (t := 27) (b := b7) (off := 0) (v := (.agg #[(.int .u64 0), (.int .u64 0)])) (t' := 27) (cs := #[(.int .u64 0), (.int .u64 0)]) #[(.int .u64 0), (.int .u64 0)] (by decide) (by rfl) (by rfl) (by kernel_rfl) (by kernel_rfl) (by kernel_rfl) (by intro u hu; simp [Value.cells] at hu; rcases hu with rfl | rfl <;> rfl) (show 0 + 2 ≤ 2 by decide) (by rfl) hk39 ?_
    intro w34 hg35 hb36 hz37
    refine ⟨(fun e => by cases e), ?_⟩
    have hg44 := (grown_trans hg26 hg32)
    have ap45 : ¬ (· = b13) b7 := fun hx => Nat.not_lt_of_le ((lowb hbe17) _ hx) ((fun k (hk : k = b7) => Nat.lt_of_le_of_lt (Nat.le_of_eq hk) hb10.lt) _ rfl)
    have hk46 := (hb16.grown hg44 nb).grown hg35 (rowne ap45)
    refine gv_sub [2, 3, 11] (σ' := [(2, (.pointer (some ⟨b7, 0, none⟩))), (3, (.pointer (some ⟨b13, 0, none⟩))), (11, (.agg #[(.int .i64 r29.1), (.int .i64 r29.2)]))]) (by kernel_rfl) ?_
    refine gv_store (t := 29) (b := b13) (off := 0) (v := (.agg #[(.int .i64 r29.1), (.int .i64 r29.2)])) (t' := 29) (cs := #[(.int .i64 0), (.int .i64 0)]) #[(.int .i64 r29.1), (.int .i64 r29.2)] (by decide) (by rfl) (by rfl) (by kernel_rfl) (by kernel_rfl) (by kernel_rfl) (by intro u hu; simp [Value.cells] at hu; rcases hu with rfl | rfl <;> rfl) (show 0 + 2 ≤ 2 by decide) (by rfl) hk46 ?_
    intro w40 hg41 hb42 hz43
    refine ⟨(fun e => by cases e), ?_⟩
    refine gv_sub [2, 3] (σ' := [(2, (.pointer (some ⟨b7, 0, none⟩))), (3, (.pointer (some ⟨b13, 0, none⟩)))]) (by kernel_rfl) ?_
    refine gv_nil ?_
    refine gv_cret ?_
    have e := Option.some.inj h0; subst e
    have ap47 : ¬ (· = b7) b13 := fun hx => Nat.not_lt_of_le ((lowb hbe17) _ rfl) ((fun k (hk : k = b7) => Nat.lt_of_le_of_lt (Nat.le_of_eq hk) hb10.lt) _ hx)
    have hk48 := hb36.grown hg41 (rowne ap47)
    refine gv_ret (gv_done [(.agg #[(.int .u64 0), (.int .u64 0)]), (.agg #[(.int .i64 r29.1), (.int .i64 r29.2)])] rfl ⟨⟨_, rfl, run_loadVar_row w40 b7 _ 27 _ _ _ hk48 Try.underlying27 rfl (by kernel_rfl)⟩, ⟨_, rfl, run_loadVar_row w40 b13 _ 29 _ _ _ hb42 Try.underlying29 rfl (by kernel_rfl)⟩, trivial⟩ ?_)
    have hB49 := below_grown hB24 hg44 hB24.size nb
    have hB50 := below_grown hB0 hg3 hB0.size nb
    have hlo51 : w0.heap.size ≤ b7 := lob hbe11 hB50.size
    have hB52 := below_grown hB49 hg35 hB49.size (rowlo hlo51)
    have hB53 := below_grown hB50 hg9 hB50.size nb
    have hlo54 : w0.heap.size ≤ b13 := lob hbe17 hB53.size
    have hB55 := below_grown hB52 hg41 hB52.size (rowlo hlo54)
    exact ⟨grown_of_below hB55, rfl⟩
  · replace h0 := ite_f hc28 h0
    refine gv_skip ?_
    refine gv_seq ?_
    refine gv_region ?_
    refine gv_pure 1 [1, 2, 3, 12] (σ' := [(1, (.pointer (some ⟨b1, 0, none⟩))), (2, (.pointer (some ⟨b7, 0, none⟩))), (3, (.pointer (some ⟨b13, 0, none⟩))), (12, (.pointer (some ⟨b1, 1, none⟩)))]) (by kernel_rfl) ?_
    have hk56 := hk20.grown hg26 nb
    refine gv_load (t := 22) (A := ⟨b1, 1, none⟩) (.slice pa0_0 (List.length n_0.2) pc0_0) [1, 2, 3, 13] (σ' := [(1, (.pointer (some ⟨b1, 0, none⟩))), (2, (.pointer (some ⟨b7, 0, none⟩))), (3, (.pointer (some ⟨b13, 0, none⟩))), (13, (.slice pa0_0 (List.length n_0.2) pc0_0))]) (fun e => by cases e) (by rfl) (by rfl) (by rfl) (by kernel_rfl) (by kernel_rfl) (by kernel_rfl) (inw0 (hk56.cell 1 rfl)) (by kernel_rfl) ?_
    refine gv_pure 3 [1, 2, 3, 4] (σ' := [(1, (.pointer (some ⟨b1, 0, none⟩))), (2, (.pointer (some ⟨b7, 0, none⟩))), (3, (.pointer (some ⟨b13, 0, none⟩))), (4, (.int .u64 (IntKind.u64.wrap (((List.length n_0.2 : Nat) : Int)))))]) (by kernel_rfl) ?_
    refine bindE h0 ?_; clear h0; intro n57 hn58 h0
    refine gv_name (s := 4) (v := (.int .u64 (IntKind.u64.wrap (((List.length n_0.2 : Nat) : Int))))) (v' := (.int .u64 n57)) (by rfl) (congrArg (Value.int .u64) (Option.some.inj hn58)) ?_
    refine gv_sub [1, 2, 3, 4] (σ' := [(1, (.pointer (some ⟨b1, 0, none⟩))), (2, (.pointer (some ⟨b7, 0, none⟩))), (3, (.pointer (some ⟨b13, 0, none⟩))), (4, (.int .u64 n57))]) (by kernel_rfl) ?_
    refine gv_nil ?_
    refine gv_seq ?_
    refine gv_seq ?_
    refine gv_region ?_
    refine gv_pure 1 [1, 2, 3, 4, 16] (σ' := [(1, (.pointer (some ⟨b1, 0, none⟩))), (2, (.pointer (some ⟨b7, 0, none⟩))), (3, (.pointer (some ⟨b13, 0, none⟩))), (4, (.int .u64 n57)), (16, (.pointer (some ⟨b1, 0, none⟩)))]) (by kernel_rfl) ?_
    refine gv_load (t := 4) (A := ⟨b1, 0, none⟩) (.bool n_0.1) [1, 2, 3, 4, 17] (σ' := [(1, (.pointer (some ⟨b1, 0, none⟩))), (2, (.pointer (some ⟨b7, 0, none⟩))), (3, (.pointer (some ⟨b13, 0, none⟩))), (4, (.int .u64 n57)), (17, (.bool n_0.1))]) (fun e => by cases e) (by rfl) (by rfl) (by rfl) (by kernel_rfl) (by kernel_rfl) (by kernel_rfl) (inw0 (hk56.cell 0 rfl)) (by kernel_rfl) ?_
    refine gv_nil ?_
    refine bindE h0 ?_; clear h0; intro j59 h1 h0
    refine gv_cut_code (J := fun a w60 => Below w0.heap.size w0 w60 ∧ w25.heap.size ≤ w60.heap.size ∧ Box w60 b1 24 #[(.bool n_0.1), (.slice pa0_0 (List.length n_0.2) pc0_0)] ∧ Box w60 b7 27 #[(.int .u64 0), (.int .u64 0)] ∧ Box w60 b13 29 #[(.int .i64 0), (.int .i64 0)] ∧ a.defers = [] ∧ a.tmps.size = 38 ∧ Ok [(1, (.pointer (some ⟨b1, 0, none⟩))), (2, (.pointer (some ⟨b7, 0, none⟩))), (3, (.pointer (some ⟨b13, 0, none⟩))), (4, (.int .u64 j59))] a.tmps) ?_ ?_
    · skip
      refine gv_cond (b := n_0.1) (by rfl) (fun hc61 => ?_) (fun hc61 => ?_)
      · replace h1 := ite_t hc61 h1
        refine gv_region ?_
        refine gv_pure 3 [1, 2, 3, 4] (σ' := [(1, (.pointer (some ⟨b1, 0, none⟩))), (2, (.pointer (some ⟨b7, 0, none⟩))), (3, (.pointer (some ⟨b13, 0, none⟩))), (4, (.int .u64 (bwXor .u64 18446744073709551615 n57)))]) (by kernel_rfl) ?_
        refine gv_nil ?_
        have e := Option.some.inj h1; subst e
        refine gv_goal fun a hd hs hok => ?_
        obtain ⟨q1, q2, q3, q4, _⟩ := hok
        have hB62 := below_grown hB24 hg26 hB24.size nb
        have hg63 := (grown_trans hg15 hg26)
        have hk64 := hb10.grown hg63 nb
        have hk65 := hb16.grown hg26 nb
        exact ⟨hB62, (Nat.le_refl _), hk56, hk64, hk65, hd, hs, ⟨q1, q2, q3, q4, trivial⟩⟩
      · replace h1 := ite_f hc61 h1
        refine gv_skip ?_
        have e := Option.some.inj h1; subst e
        refine gv_goal fun a hd hs hok => ?_
        obtain ⟨q1, q2, q3, q4, q17, _⟩ := hok
        have hB66 := below_grown hB24 hg26 hB24.size nb
        have hg67 := (grown_trans hg15 hg26)
        have hk68 := hb10.grown hg67 nb
        have hk69 := hb16.grown hg26 nb
        exact ⟨hB66, (Nat.le_refl _), hk56, hk68, hk69, hd, hs, ⟨q1, q2, q3, q4, trivial⟩⟩
    · rintro a w60 ⟨hB70, hz71, hb72, hb73, hb74, hd, hs, hok⟩
      refine (?_ : Run Try.prog _ 38 _ .normal [(1, (.pointer (some ⟨b1, 0, none⟩))), (2, (.pointer (some ⟨b7, 0, none⟩))), (3, (.pointer (some ⟨b13, 0, none⟩))), (4, (.int .u64 j59))] w60) a hd hs hok
      clear hd hs hok
      clear hz71 hn58 hk56 hc28 hg26 hB24 hg23 hr22 hk20 hg19 hz18 hb16 hg15 hz12 hz6
      refine gv_seq ?_
      refine gv_seq ?_
      refine gv_region ?_
      refine gv_pure 1 [2, 3, 4, 20] (σ' := [(2, (.pointer (some ⟨b7, 0, none⟩))), (3, (.pointer (some ⟨b13, 0, none⟩))), (4, (.int .u64 j59)), (20, (.pointer (some ⟨b1, 1, none⟩)))]) (by kernel_rfl) ?_
      refine gv_load (t := 22) (A := ⟨b1, 1, none⟩) (.slice pa0_0 (List.length n_0.2) pc0_0) [2, 3, 4, 21] (σ' := [(2, (.pointer (some ⟨b7, 0, none⟩))), (3, (.pointer (some ⟨b13, 0, none⟩))), (4, (.int .u64 j59)), (21, (.slice pa0_0 (List.length n_0.2) pc0_0))]) (fun e => by cases e) (by rfl) (by rfl) (by rfl) (by kernel_rfl) (by kernel_rfl) (by kernel_rfl) (inw0 (hb72.cell 1 rfl)) (by kernel_rfl) ?_
      refine gv_pure 2 [2, 3, 4, 21, 22, 23] (σ' := [(2, (.pointer (some ⟨b7, 0, none⟩))), (3, (.pointer (some ⟨b13, 0, none⟩))), (4, (.int .u64 j59)), (21, (.slice pa0_0 (List.length n_0.2) pc0_0)), (22, (.int .i64 ((List.length n_0.2 : Nat) : Int))), (23, (.int .i64 0))]) (by kernel_rfl) ?_
      refine gv_nil ?_
      refine bindE h0 ?_; clear h0; intro j75 h1 h0
      refine gv_cut_code (J := fun a w76 => Below w0.heap.size w0 w76 ∧ w60.heap.size ≤ w76.heap.size ∧ Box w76 b7 27 #[(.int .u64 0), (.int .u64 0)] ∧ Box w76 b13 29 #[(.int .i64 0), (.int .i64 0)] ∧ a.defers = [] ∧ a.tmps.size = 38 ∧ Ok [(2, (.pointer (some ⟨b7, 0, none⟩))), (3, (.pointer (some ⟨b13, 0, none⟩))), (4, (.int .u64 j75))] a.tmps) ?_ ?_
      · skip
        refine gv_block ?_
        refine gv_loop (A := fun (s77 : (Int × Int)) a w78 => Below w0.heap.size w0 w78 ∧ w60.heap.size ≤ w78.heap.size ∧ Box w78 b7 27 #[(.int .u64 0), (.int .u64 0)] ∧ Box w78 b13 29 #[(.int .i64 0), (.int .i64 0)] ∧ a.defers = [] ∧ a.tmps.size = 38 ∧ Ok [(2, (.pointer (some ⟨b7, 0, none⟩))), (3, (.pointer (some ⟨b13, 0, none⟩))), (4, (.int .u64 s77.1)), (21, (.slice pa0_0 (List.length n_0.2) pc0_0)), (22, (.int .i64 ((List.length n_0.2 : Nat) : Int))), (23, (.int .i64 s77.2))] a.tmps) h1 ?_ ?_
        · intro a hd hs hok
          obtain ⟨q2, q3, q4, q21, q22, q23, _⟩ := hok
          exact ⟨hB70, (Nat.le_refl _), hb73, hb74, hd, hs, ⟨q2, q3, q4, q21, q22, q23, trivial⟩⟩
        · rintro s77 r2 h2 hR2 a w78 ⟨hB79, hz80, hb81, hb82, hd, hs, hok⟩
          refine (?_ : Run Try.prog _ 38 _ .normal [(2, (.pointer (some ⟨b7, 0, none⟩))), (3, (.pointer (some ⟨b13, 0, none⟩))), (4, (.int .u64 s77.1)), (21, (.slice pa0_0 (List.length n_0.2) pc0_0)), (22, (.int .i64 ((List.length n_0.2 : Nat) : Int))), (23, (.int .i64 s77.2))] w78) a hd hs hok
          clear hd hs hok
          clear hb74 hb73 hb72 hB70 hbe5 hb4
          refine gv_seq ?_
          refine gv_region ?_
          refine gv_pure 1 [2, 3, 4, 21, 22, 23, 24] (σ' := [(2, (.pointer (some ⟨b7, 0, none⟩))), (3, (.pointer (some ⟨b13, 0, none⟩))), (4, (.int .u64 s77.1)), (21, (.slice pa0_0 (List.length n_0.2) pc0_0)), (22, (.int .i64 ((List.length n_0.2 : Nat) : Int))), (23, (.int .i64 s77.2)), (24, (.bool (decide (s77.2 < ((List.length n_0.2 : Nat) : Int)))))]) (by kernel_rfl) ?_
          refine gv_nil ?_
          refine gv_seq ?_
          refine gv_cond (b := (decide (s77.2 < ((List.length n_0.2 : Nat) : Int)))) (by rfl) (fun hc83 => ?_) (fun hc83 => ?_)
          · replace h2 := ite_t hc83 h2
            refine gv_skip ?_
            refine gv_seq ?_
            refine gv_block ?_
            refine gv_seq ?_
            refine gv_region ?_
            refine bindE h2 ?_; clear h2; intro x84 hx85 h2
            refine gv_idxaddr (t := 22) (e := 76) (a := pa0_0) (len := List.length n_0.2) (cap := pc0_0) (kk := .i64) (i := s77.2) (sz := 1) [2, 3, 4, 21, 22, 23, 25] (σ' := [(2, (.pointer (some ⟨b7, 0, none⟩))), (3, (.pointer (some ⟨b13, 0, none⟩))), (4, (.int .u64 s77.1)), (21, (.slice pa0_0 (List.length n_0.2) pc0_0)), (22, (.int .i64 ((List.length n_0.2 : Nat) : Int))), (23, (.int .i64 s77.2)), (25, (.pointer (some (elemAddr pa0_0 ((s77.2).toNat * 1)))))]) (fun e => by cases e) (by rfl) (by rfl) (by rfl) (by kernel_rfl) (by kernel_rfl) Try.underlying22 (by kernel_rfl) ((hpa0_0.below hB79 hX0).has hx85) (idx_spec hx85).1 (idx_spec hx85).2.1 (by kernel_rfl) ?_
            refine gv_load (t := 76) (A := (elemAddr pa0_0 ((s77.2).toNat * 1))) (.int .u32 x84) [2, 3, 4, 21, 22, 23, 26] (σ' := [(2, (.pointer (some ⟨b7, 0, none⟩))), (3, (.pointer (some ⟨b13, 0, none⟩))), (4, (.int .u64 s77.1)), (21, (.slice pa0_0 (List.length n_0.2) pc0_0)), (22, (.int .i64 ((List.length n_0.2 : Nat) : Int))), (23, (.int .i64 s77.2)), (26, (.int .u32 x84))]) (fun e => by cases e) (by rfl) (by rfl) (by rfl) (by kernel_rfl) (by kernel_rfl) (by kernel_rfl) (inw0 ((hpa0_0.below hB79 hX0).cell hx85)) (by kernel_rfl) ?_
            refine gv_pure 1 [2, 3, 4, 6, 21, 22, 23] (σ' := [(2, (.pointer (some ⟨b7, 0, none⟩))), (3, (.pointer (some ⟨b13, 0, none⟩))), (4, (.int .u64 s77.1)), (6, (.int .u32 x84)), (21, (.slice pa0_0 (List.length n_0.2) pc0_0)), (22, (.int .i64 ((List.length n_0.2 : Nat) : Int))), (23, (.int .i64 s77.2))]) (by kernel_rfl) ?_
            refine gv_nil ?_
            refine gv_region ?_
            refine gv_pure 6 [2, 3, 21, 22, 23, 32] (σ' := [(2, (.pointer (some ⟨b7, 0, none⟩))), (3, (.pointer (some ⟨b13, 0, none⟩))), (21, (.slice pa0_0 (List.length n_0.2) pc0_0)), (22, (.int .i64 ((List.length n_0.2 : Nat) : Int))), (23, (.int .i64 s77.2)), (32, (.int .u64 (IntKind.u64.wrap ((IntKind.u64.wrap ((IntKind.u64.wrap (s77.1 * 6364136223846793005)) + (IntKind.u64.wrap (x84)))) + 1))))]) (by kernel_rfl) ?_
            refine bindE h2 ?_; clear h2; intro r86 hr87 h2
            refine gv_call (f := 38) (vs := [(.int .u64 (IntKind.u64.wrap ((IntKind.u64.wrap ((IntKind.u64.wrap (s77.1 * 6364136223846793005)) + (IntKind.u64.wrap (x84)))) + 1)))]) (cap := []) _ (by decide) (by rfl) (by rfl) rfl (by rfl) (by rfl) enters38 (random_mix_ok fuel (IntKind.u64.wrap ((IntKind.u64.wrap ((IntKind.u64.wrap (s77.1 * 6364136223846793005)) + (IntKind.u64.wrap (x84)))) + 1)) w78  r86 hr87) ?_
            rintro v90 w88 ⟨hg89, rfl⟩
            refine ⟨(fun e => by cases e), ?_⟩
            have hz91 : w60.heap.size ≤ w88.heap.size := (Nat.le_trans hz80 hg89.size)
            clear hr87 hx85 hc83 hz80
            refine gv_pure 1 [2, 3, 4, 21, 22, 23] (σ' := [(2, (.pointer (some ⟨b7, 0, none⟩))), (3, (.pointer (some ⟨b13, 0, none⟩))), (4, (.int .u64 r86)), (21, (.slice pa0_0 (List.length n_0.2) pc0_0)), (22, (.int .i64 ((List.length n_0.2 : Nat) : Int))), (23, (.int .i64 s77.2))]) (by kernel_rfl) ?_
            refine gv_nil ?_
            refine gv_blk ?_
            refine gv_region ?_
            refine gv_pure 2 [2, 3, 4, 21, 22, 23] (σ' := [(2, (.pointer (some ⟨b7, 0, none⟩))), (3, (.pointer (some ⟨b13, 0, none⟩))), (4, (.int .u64 r86)), (21, (.slice pa0_0 (List.length n_0.2) pc0_0)), (22, (.int .i64 ((List.length n_0.2 : Nat) : Int))), (23, (.int .i64 (IntKind.i64.wrap (s77.2 + 1))))]) (by kernel_rfl) ?_
            refine gv_nil ?_
            have e := Option.some.inj h2; subst e
            refine gv_goal fun a hd hs hok => ?_
            obtain ⟨q2, q3, q4, q21, q22, q23, _⟩ := hok
            have hB92 := below_grown hB79 hg89 hB79.size nb
            have hz93 : w60.heap.size ≤ w88.heap.size := hz91
            have hk94 := hb81.grown hg89 nb
            have hk95 := hb82.grown hg89 nb
            exact ⟨(r86, (IntKind.i64.wrap (s77.2 + 1))), rfl, hB92, hz93, hk94, hk95, hd, hs, ⟨q2, q3, q4, q21, q22, q23, trivial⟩⟩
          · replace h2 := ite_f hc83 h2
            refine gv_cexit ?_
            refine gv_exit rfl ?_
            have e := Option.some.inj h2; subst e
            replace h1 := congrArg some (hR2 _ rfl)
            have e := Option.some.inj h1; subst e
            refine gv_goal fun a hd hs hok => ?_
            obtain ⟨q2, q3, q4, q21, q22, q23, q24, _⟩ := hok
            have hz96 : w60.heap.size ≤ w78.heap.size := hz80
            exact ⟨hB79, hz96, hb81, hb82, hd, hs, ⟨q2, q3, q4, trivial⟩⟩
      · rintro a w76 ⟨hB97, hz98, hb99, hb100, hd, hs, hok⟩
        refine (?_ : Run Try.prog _ 38 _ .normal [(2, (.pointer (some ⟨b7, 0, none⟩))), (3, (.pointer (some ⟨b13, 0, none⟩))), (4, (.int .u64 j75))] w76) a hd hs hok
        clear hd hs hok
        clear hz98 hb74 hb73 hb72 hB70 hbe5 hb4
        refine gv_seq ?_
        refine gv_region ?_
        refine gv_pure 3 [2, 3, 36, 37] (σ' := [(2, (.pointer (some ⟨b7, 0, none⟩))), (3, (.pointer (some ⟨b13, 0, none⟩))), (36, (.agg #[(.int .u64 j75), (.int .u64 1442695040888963407)])), (37, (.agg #[(.int .i64 0), (.int .i64 0)]))]) (by kernel_rfl) ?_
        refine gv_store (t := 27) (b := b7) (off := 0) (v := (.agg #[(.int .u64 j75), (.int .u64 1442695040888963407)])) (t' := 27) (cs := #[(.int .u64 0), (.int .u64 0)]) #[(.int .u64 j75), (.int .u64 1442695040888963407)] (by decide) (by rfl) (by rfl) (by kernel_rfl) (by kernel_rfl) (by kernel_rfl) (by intro u hu; simp [Value.cells] at hu; rcases hu with rfl | rfl <;> rfl) (show 0 + 2 ≤ 2 by decide) (by rfl) hb99 ?_
        intro w101 hg102 hb103 hz104
        refine ⟨(fun e => by cases e), ?_⟩
        have ap109 : ¬ (· = b13) b7 := fun hx => Nat.not_lt_of_le ((lowb hbe17) _ hx) ((fun k (hk : k = b7) => Nat.lt_of_le_of_lt (Nat.le_of_eq hk) hb10.lt) _ rfl)
        have hk110 := hb100.grown hg102 (rowne ap109)
        refine gv_sub [2, 3, 37] (σ' := [(2, (.pointer (some ⟨b7, 0, none⟩))), (3, (.pointer (some ⟨b13, 0, none⟩))), (37, (.agg #[(.int .i64 0), (.int .i64 0)]))]) (by kernel_rfl) ?_
        refine gv_store (t := 29) (b := b13) (off := 0) (v := (.agg #[(.int .i64 0), (.int .i64 0)])) (t' := 29) (cs := #[(.int .i64 0), (.int .i64 0)]) #[(.int .i64 0), (.int .i64 0)] (by decide) (by rfl) (by rfl) (by kernel_rfl) (by kernel_rfl) (by kernel_rfl) (by intro u hu; simp [Value.cells] at hu; rcases hu with rfl | rfl <;> rfl) (show 0 + 2 ≤ 2 by decide) (by rfl) hk110 ?_
        intro w105 hg106 hb107 hz108
        refine ⟨(fun e => by cases e), ?_⟩
        refine gv_sub [2, 3] (σ' := [(2, (.pointer (some ⟨b7, 0, none⟩))), (3, (.pointer (some ⟨b13, 0, none⟩)))]) (by kernel_rfl) ?_
        refine gv_nil ?_
        refine gv_cret ?_
        have e := Option.some.inj h0; subst e
        have ap111 : ¬ (· = b7) b13 := fun hx => Nat.not_lt_of_le ((lowb hbe17) _ rfl) ((fun k (hk : k = b7) => Nat.lt_of_le_of_lt (Nat.le_of_eq hk) hb10.lt) _ hx)
        have hk112 := hb103.grown hg106 (rowne ap111)
        refine gv_ret (gv_done [(.agg #[(.int .u64 j75), (.int .u64 1442695040888963407)]), (.agg #[(.int .i64 0), (.int .i64 0)])] rfl ⟨⟨_, rfl, run_loadVar_row w105 b7 _ 27 _ _ _ hk112 Try.underlying27 rfl (by kernel_rfl)⟩, ⟨_, rfl, run_loadVar_row w105 b13 _ 29 _ _ _ hb107 Try.underlying29 rfl (by kernel_rfl)⟩, trivial⟩ ?_)
        have hB113 := below_grown hB0 hg3 hB0.size nb
        have hlo114 : w0.heap.size ≤ b7 := lob hbe11 hB113.size
        have hB115 := below_grown hB97 hg102 hB97.size (rowlo hlo114)
        have hB116 := below_grown hB113 hg9 hB113.size nb
        have hlo117 : w0.heap.size ≤ b13 := lob hbe17 hB116.size
        have hB118 := below_grown hB115 hg106 hB115.size (rowlo hlo117)
        exact ⟨grown_of_below hB118, rfl⟩

set_option maxHeartbeats 4000000 in
set_option maxRecDepth 100000 in
theorem random_open_ok (fuel : Nat) (g_0 : (Int × Int)) (w0 : World)  (r0 : ((Option ((Int × Int))) × (Int × Int))) (h0 : random_open fuel g_0 = some r0) :
    Calls Try.prog 39 ([(.agg #[(.int .u64 g_0.1), (.int .u64 g_0.2)])] : List Value).toArray w0 (Ret fun v w' => w0.grownBy w' none ∧ ∃ (p0r : Option Addr), v = tup [(.pointer p0r), (.agg #[(.int .i64 r0.2.1), (.int .i64 r0.2.2)])] ∧ PBox w' w0.heap.size 81 (fun (x : ((Int × Int))) => #[(.int .u64 x.1), (.int .u64 x.2)]) p0r r0.1) := by
  have hB0 : Below w0.heap.size w0 w0 := Below.refl _ _
  unfold random_open at h0
  refine calls_run Try.func39 rfl Try.ntmps39 (by kernel_rfl) ?_
  refine gv_sub [0] (σ' := [(0, (.agg #[(.int .u64 g_0.1), (.int .u64 g_0.2)]))]) (by kernel_rfl) ?_
  refine gv_seq ?_
  refine gv_region ?_
  refine gv_new (fun b => .pointer (some ⟨b, 0, none⟩)) #[(.int .u64 g_0.1), (.int .u64 g_0.2)] 27 (by decide) (by rfl) (by rfl) (by kernel_rfl) (by kernel_rfl) ?_
  intro b1 w2 hg3 hb4 hbe5 hz6
  refine ⟨(fun e => by cases e), ?_⟩
  refine gv_pure 1 [1] (σ' := [(1, (.pointer (some ⟨b1, 0, none⟩)))]) (by kernel_rfl) ?_
  refine gv_new (fun b => .pointer (some ⟨b, 0, none⟩)) #[(.int .i64 0), (.int .i64 0)] 29 (by decide) (by rfl) (by rfl) (by kernel_rfl) (by kernel_rfl) ?_
  intro b7 w8 hg9 hb10 hbe11 hz12
  refine ⟨(fun e => by cases e), ?_⟩
  refine gv_sub [1, 3] (σ' := [(1, (.pointer (some ⟨b1, 0, none⟩))), (3, (.pointer (some ⟨b7, 0, none⟩)))]) (by kernel_rfl) ?_
  refine gv_nil ?_
  refine gv_seq ?_
  refine gv_seq ?_
  refine gv_region ?_
  refine gv_pure 1 [1, 3, 4] (σ' := [(1, (.pointer (some ⟨b1, 0, none⟩))), (3, (.pointer (some ⟨b7, 0, none⟩))), (4, (.pointer (some ⟨b1, 1, none⟩)))]) (by kernel_rfl) ?_
  have hk13 := hb4.grown hg9 nb
  refine gv_load (t := 25) (A := ⟨b1, 1, none⟩) (.int .u64 g_0.2) [1, 3, 5] (σ' := [(1, (.pointer (some ⟨b1, 0, none⟩))), (3, (.pointer (some ⟨b7, 0, none⟩))), (5, (.int .u64 g_0.2))]) (fun e => by cases e) (by rfl) (by rfl) (by rfl) (by kernel_rfl) (by kernel_rfl) (by kernel_rfl) (inw0 (hk13.cell 1 rfl)) (by kernel_rfl) ?_
  refine gv_pure 2 [1, 3, 7] (σ' := [(1, (.pointer (some ⟨b1, 0, none⟩))), (3, (.pointer (some ⟨b7, 0, none⟩))), (7, (.bool (((g_0.2).tmod 2) == 0)))]) (by kernel_rfl) ?_
  refine gv_nil ?_
  refine gv_cond (b := (((g_0.2).tmod 2) == 0)) (by rfl) (fun hc14 => ?_) (fun hc14 => ?_)
  · replace h0 := ite_t hc14 h0
    refine gv_seq ?_
    refine gv_region ?_
    refine bindE h0 ?_; clear h0; intro r15 hr16 h0
    refine gv_call (f := 37) (vs := [(.int .i64 6), (.int .i64 (-1))]) (cap := []) _ (by decide) (by rfl) (by rfl) rfl (by rfl) (by rfl) enters37 (random_at_ok fuel 6 (-1) w8  r15 hr16) ?_
    rintro v19 w17 ⟨hg18, rfl⟩
    refine ⟨(fun e => by cases e), ?_⟩
    refine gv_pure 1 [2, 3, 8] (σ' := [(2, (.pointer none)), (3, (.pointer (some ⟨b7, 0, none⟩))), (8, (.agg #[(.int .i64 r15.1), (.int .i64 r15.2)]))]) (by kernel_rfl) ?_
    have hk24 := hb10.grown hg18 nb
    refine gv_store (t := 29) (b := b7) (off := 0) (v := (.agg #[(.int .i64 r15.1), (.int .i64 r15.2)])) (t' := 29) (cs := #[(.int .i64 0), (.int .i64 0)]) #[(.int .i64 r15.1), (.int .i64 r15.2)] (by decide) (by rfl) (by rfl) (by kernel_rfl) (by kernel_rfl) (by kernel_rfl) (by intro u hu; simp [Value.cells] at hu; rcases hu with rfl | rfl <;> rfl) (show 0 + 2 ≤ 2 by decide) (by rfl) hk24 ?_
    intro w20 hg21 hb22 hz23
    refine ⟨(fun e => by cases e), ?_⟩
    refine gv_sub [2, 3] (σ' := [(2, (.pointer none)), (3, (.pointer (some ⟨b7, 0, none⟩)))]) (by kernel_rfl) ?_
    refine gv_nil ?_
    refine gv_cret ?_
    have e := Option.some.inj h0; subst e
    refine gv_ret (gv_done [(.pointer none), (.agg #[(.int .i64 r15.1), (.int .i64 r15.2)])] rfl ⟨rfl, ⟨_, rfl, run_loadVar_row w20 b7 _ 29 _ _ _ hb22 Try.underlying29 rfl (by kernel_rfl)⟩, trivial⟩ ?_)
    have hg25 := (grown_trans (grown_trans hg3 hg9) hg18)
    have hB26 := below_grown hB0 hg25 hB0.size nb
    have hB27 := below_grown hB0 hg3 hB0.size nb
    have hlo28 : w0.heap.size ≤ b7 := lob hbe11 hB27.size
    have hB29 := below_grown hB26 hg21 hB26.size (rowlo hlo28)
    exact ⟨grown_of_below hB29, none, rfl, (.inl ⟨rfl, rfl⟩)⟩
  · replace h0 := ite_f hc14 h0
    refine gv_skip ?_
    refine gv_seq ?_
    refine gv_region ?_
    refine gv_loadBox (t := 27) (b := b1) (t' := 27) (fr := (0, 0)) #[(.int .u64 g_0.1), (.int .u64 g_0.2)] [3, 9] (σ' := [(3, (.pointer (some ⟨b7, 0, none⟩))), (9, (.agg #[(.int .u64 g_0.1), (.int .u64 g_0.2)]))]) (fun e => by cases e) (by rfl) (by rfl) (by rfl) (by kernel_rfl) (by kernel_rfl) (by kernel_rfl) (by kernel_rfl) (inw0 hk13) (by kernel_rfl) ?_
    refine gv_pure 1 [3, 10] (σ' := [(3, (.pointer (some ⟨b7, 0, none⟩))), (10, (.agg #[(.int .u64 g_0.1), (.int .u64 g_0.2)]))]) (by kernel_rfl) ?_
    refine gv_new (fun b => .pointer (some ⟨b, 0, none⟩)) #[(.int .u64 g_0.1), (.int .u64 g_0.2)] 81 (by decide) (by rfl) (by rfl) (by kernel_rfl) (by kernel_rfl) ?_
    intro b30 w31 hg32 hb33 hbe34 hz35
    refine ⟨(fun e => by cases e), ?_⟩
    refine gv_pure 2 [2, 3, 12] (σ' := [(2, (.pointer (some ⟨b30, 0, none⟩))), (3, (.pointer (some ⟨b7, 0, none⟩))), (12, (.agg #[(.int .i64 0), (.int .i64 0)]))]) (by kernel_rfl) ?_
    have hk40 := hb10.grown hg32 nb
    refine gv_store (t := 29) (b := b7) (off := 0) (v := (.agg #[(.int .i64 0), (.int .i64 0)])) (t' := 29) (cs := #[(.int .i64 0), (.int .i64 0)]) #[(.int .i64 0), (.int .i64 0)] (by decide) (by rfl) (by rfl) (by kernel_rfl) (by kernel_rfl) (by kernel_rfl) (by intro u hu; simp [Value.cells] at hu; rcases hu with rfl | rfl <;> rfl) (show 0 + 2 ≤ 2 by decide) (by rfl) hk40 ?_
    intro w36 hg37 hb38 hz39
    refine ⟨(fun e => by cases e), ?_⟩
    refine gv_sub [2, 3] (σ' := [(2, (.pointer (some ⟨b30, 0, none⟩))), (3, (.pointer (some ⟨b7, 0, none⟩)))]) (by kernel_rfl) ?_
    refine gv_nil ?_
    refine gv_cret ?_
    have e := Option.some.inj h0; subst e
    refine gv_ret (gv_done [(.pointer (some ⟨b30, 0, none⟩)), (.agg #[(.int .i64 0), (.int .i64 0)])] rfl ⟨rfl, ⟨_, rfl, run_loadVar_row w36 b7 _ 29 _ _ _ hb38 Try.underlying29 rfl (by kernel_rfl)⟩, trivial⟩ ?_)
    have hg41 := (grown_trans (grown_trans hg3 hg9) hg32)
    have hB42 := below_grown hB0 hg41 hB0.size nb
    have hB43 := below_grown hB0 hg3 hB0.size nb
    have hlo44 : w0.heap.size ≤ b7 := lob hbe11 hB43.size
    have hB45 := below_grown hB42 hg37 hB42.size (rowlo hlo44)
    have ap46 : ¬ (· = b30) b7 := fun hx => Nat.not_lt_of_le ((lowb hbe34) _ hx) ((fun k (hk : k = b7) => Nat.lt_of_le_of_lt (Nat.le_of_eq hk) hb10.lt) _ rfl)
    have hk47 := hb33.grown hg37 (rowne ap46)
    have hB48 := below_grown hB43 hg9 hB43.size nb
    have hlo49 : w0.heap.size ≤ b30 := lob hbe34 hB48.size
    exact ⟨grown_of_below hB45, (some ⟨b30, 0, none⟩), rfl, (.inr ⟨_, _, rfl, rfl, hk47, hlo49⟩)⟩

set_option maxHeartbeats 4000000 in
set_option maxRecDepth 100000 in
theorem random_source_next_ok (fuel : Nat) (pb0 : Nat) (s_0 : ((Int × Int))) (w0 : World) (hp0 : Box w0 pb0 81 #[(.int .u64 s_0.1), (.int .u64 s_0.2)]) (r0 : (Int × ((Int × Int)))) (h0 : random_source_next fuel s_0 = some r0) :
    Calls Try.prog 40 ([(.pointer (some ⟨pb0, 0, none⟩))] : List Value).toArray w0 (Ret fun v w' => w0.grownBy w' (some pb0) ∧ v = tup [(.int .u64 r0.1)] ∧ Box w' pb0 81 #[(.int .u64 r0.2.1), (.int .u64 r0.2.2)]) := by
  have hB0 : w0.grownBy w0 (some pb0) := grown_refl _ _
  unfold random_source_next at h0
  refine calls_run Try.func40 rfl Try.ntmps40 (by kernel_rfl) ?_
  refine gv_sub [0] (σ' := [(0, (.pointer (some ⟨pb0, 0, none⟩)))]) (by kernel_rfl) ?_
  have hpl0 := hp0.lt
  refine gv_seq ?_
  refine gv_region ?_
  refine gv_pure 1 [0] (σ' := [(0, (.pointer (some ⟨pb0, 0, none⟩)))]) (by kernel_rfl) ?_
  refine gv_nil ?_
  refine gv_seq ?_
  refine gv_drawA (by kernel_rfl) ?_
  intro w1 hg2
  refine gv_pre [0, 1, 2, 3, 4, 7, 8, 9, 10] #[true, true, true, true, true, false, false, true, true, true, true, false, false, false, false, false, false] 8 (by kernel_rfl) (by rfl) ?_
  refine gv_pure 9 [0, 3, 7, 13] (σ' := [(0, (.pointer (some ⟨pb0, 0, none⟩))), (3, (.pointer (some ⟨pb0, 0, none⟩))), (7, (.pointer (some ⟨pb0, 0, none⟩))), (13, (.pointer (some ⟨pb0, 1, none⟩)))]) (by kernel_rfl) ?_
  refine gv_nil ?_
  refine gv_goal fun a hd hs hok => ?_
  refine (?_ : RunA Try.prog _ 25 _ _ 8 #[true, true, true, true, true, false, false, true, true, true, true, false, false, false, false, false, false] [(0, (.pointer (some ⟨pb0, 0, none⟩))), (3, (.pointer (some ⟨pb0, 0, none⟩))), (7, (.pointer (some ⟨pb0, 0, none⟩))), (13, (.pointer (some ⟨pb0, 1, none⟩)))] w1) a hd hs hok
  clear hd hs hok
  refine gv_stage (Cls w1 []) [0, 1, 2, 3, 4, 5, 6, 7, 8, 9, 10, 11] [(5, some true), (6, some true), (11, some true)] #[true, true, true, true, true, true, true, true, true, true, true, true, false, false, false, false, false] 5 (by kernel_rfl) (by rfl) (Cls.refl _ _) ?_
  have hC3 := Cls.refl w1 []
  have hk4 := hp0.grown hg2 nb
  refine gv_load (t := 25) (A := ⟨pb0, 0, none⟩) (.int .u64 s_0.1) [0, 3, 8, 13] (σ' := [(0, (.pointer (some ⟨pb0, 0, none⟩))), (3, (.pointer (some ⟨pb0, 0, none⟩))), (8, (.int .u64 s_0.1)), (13, (.pointer (some ⟨pb0, 1, none⟩)))]) (fun e => by cases e) (by rfl) (by rfl) (by rfl) (by kernel_rfl) (by kernel_rfl) (by kernel_rfl) (inw1 fun w' hC' => ((hC'.box hk4 nm_nil).cell 0 rfl)) (by kernel_rfl) ?_
  refine gv_pure 1 [0, 3, 9, 13] (σ' := [(0, (.pointer (some ⟨pb0, 0, none⟩))), (3, (.pointer (some ⟨pb0, 0, none⟩))), (9, (.int .u64 (IntKind.u64.wrap (s_0.1 * 6364136223846793005)))), (13, (.pointer (some ⟨pb0, 1, none⟩)))]) (by kernel_rfl) ?_
  refine gv_load (t := 25) (A := ⟨pb0, 1, none⟩) (.int .u64 s_0.2) [0, 3, 9, 14] (σ' := [(0, (.pointer (some ⟨pb0, 0, none⟩))), (3, (.pointer (some ⟨pb0, 0, none⟩))), (9, (.int .u64 (IntKind.u64.wrap (s_0.1 * 6364136223846793005)))), (14, (.int .u64 s_0.2))]) (fun e => by cases e) (by rfl) (by rfl) (by rfl) (by kernel_rfl) (by kernel_rfl) (by kernel_rfl) (inw1 fun w' hC' => ((hC'.box hk4 nm_nil).cell 1 rfl)) (by kernel_rfl) ?_
  refine gv_nil ?_
  refine gv_goal fun a hd hs hok => ?_
  refine (?_ : RunA Try.prog _ 25 _ _ 5 #[true, true, true, true, true, true, true, true, true, true, true, true, false, false, false, false, false] [(0, (.pointer (some ⟨pb0, 0, none⟩))), (3, (.pointer (some ⟨pb0, 0, none⟩))), (9, (.int .u64 (IntKind.u64.wrap (s_0.1 * 6364136223846793005)))), (14, (.int .u64 s_0.2))] w1) a hd hs hok
  clear hd hs hok
  refine gv_pre [12, 13, 14, 15] #[true, true, true, true, true, true, true, true, true, true, true, true, true, true, true, true, false] 1 (by kernel_rfl) (by rfl) ?_
  refine gv_pure 4 [0, 15, 18] (σ' := [(0, (.pointer (some ⟨pb0, 0, none⟩))), (15, (.int .u64 (IntKind.u64.wrap ((IntKind.u64.wrap (s_0.1 * 6364136223846793005)) + s_0.2)))), (18, (.pointer (some ⟨pb0, 0, none⟩)))]) (by kernel_rfl) ?_
  refine gv_nil ?_
  refine gv_goal fun a hd hs hok => ?_
  refine (?_ : RunA Try.prog _ 25 _ _ 1 #[true, true, true, true, true, true, true, true, true, true, true, true, true, true, true, true, false] [(0, (.pointer (some ⟨pb0, 0, none⟩))), (15, (.int .u64 (IntKind.u64.wrap ((IntKind.u64.wrap (s_0.1 * 6364136223846793005)) + s_0.2)))), (18, (.pointer (some ⟨pb0, 0, none⟩)))] w1) a hd hs hok
  clear hd hs hok
  refine gv_stage (fun _ => True) [0, 1, 2, 3, 4, 5, 6, 7, 8, 9, 10, 11, 12, 13, 14, 15, 16] [(16, some false)] #[true, true, true, true, true, true, true, true, true, true, true, true, true, true, true, true, true] 0 (by kernel_rfl) (by rfl) trivial ?_
  refine gv_store (t := 25) (b := pb0) (off := 0) (v := (.int .u64 (IntKind.u64.wrap ((IntKind.u64.wrap (s_0.1 * 6364136223846793005)) + s_0.2)))) (t' := 81) (cs := #[(.int .u64 s_0.1), (.int .u64 s_0.2)]) #[(.int .u64 (IntKind.u64.wrap ((IntKind.u64.wrap (s_0.1 * 6364136223846793005)) + s_0.2))), (.int .u64 s_0.2)] (by decide) (by rfl) (by rfl) (by kernel_rfl) (by kernel_rfl) (by kernel_rfl) (by intro u hu; simp [Value.cells] at hu; subst hu; rfl) (show 0 + 1 ≤ 2 by decide) (by rfl) hk4 ?_
  intro w5 hg6 hb7 hz8
  refine ⟨(fun _ => trivial), ?_⟩
  refine gv_sub [0] (σ' := [(0, (.pointer (some ⟨pb0, 0, none⟩)))]) (by kernel_rfl) ?_
  refine gv_nil ?_
  refine gv_goal fun a hd hs hok => ?_
  refine (?_ : RunA Try.prog _ 25 _ _ 0 #[true, true, true, true, true, true, true, true, true, true, true, true, true, true, true, true, true] [(0, (.pointer (some ⟨pb0, 0, none⟩)))] w5) a hd hs hok
  clear hd hs hok
  refine gv_stageE (by kernel_rfl) ?_
  refine gv_seq ?_
  refine gv_region ?_
  refine gv_pure 4 [22] (σ' := [(22, (.pointer (some ⟨pb0, 0, none⟩)))]) (by kernel_rfl) ?_
  refine gv_load (t := 25) (A := ⟨pb0, 0, none⟩) (.int .u64 (IntKind.u64.wrap ((IntKind.u64.wrap (s_0.1 * 6364136223846793005)) + s_0.2))) [23] (σ' := [(23, (.int .u64 (IntKind.u64.wrap ((IntKind.u64.wrap (s_0.1 * 6364136223846793005)) + s_0.2))))]) (fun e => by cases e) (by rfl) (by rfl) (by rfl) (by kernel_rfl) (by kernel_rfl) (by kernel_rfl) (inw0 (hb7.cell 0 rfl)) (by kernel_rfl) ?_
  refine bindE h0 ?_; clear h0; intro r9 hr10 h0
  refine gv_call (f := 38) (vs := [(.int .u64 (IntKind.u64.wrap ((IntKind.u64.wrap (s_0.1 * 6364136223846793005)) + s_0.2)))]) (cap := []) _ (by decide) (by rfl) (by rfl) rfl (by rfl) (by rfl) enters38 (random_mix_ok fuel (IntKind.u64.wrap ((IntKind.u64.wrap (s_0.1 * 6364136223846793005)) + s_0.2)) w5  r9 hr10) ?_
  rintro v13 w11 ⟨hg12, rfl⟩
  refine ⟨(fun e => by cases e), ?_⟩
  refine gv_pure 1 [2] (σ' := [(2, (.int .u64 r9))]) (by kernel_rfl) ?_
  refine gv_nil ?_
  refine gv_cret ?_
  have e := Option.some.inj h0; subst e
  refine gv_ret (gv_done [(.int .u64 r9)] rfl ⟨rfl, trivial⟩ ?_)
  have hB14 := grown_step hB0 hg2  nb
  have hB15 := grown_step hB14 hg6  rowpp
  have hB16 := grown_step hB15 hg12  nb
  have hk17 := hb7.grown hg12 nb
  exact ⟨hB16, rfl, hk17⟩

set_option maxHeartbeats 4000000 in
set_option maxRecDepth 100000 in
theorem random_Next_ok (fuel : Nat) (g_0 : (Int × Int)) (w0 : World)  (r0 : (Int × (Int × Int) × (Int × Int))) (h0 : random_Next fuel g_0 = some r0) :
    Calls Try.prog 9 ([(.agg #[(.int .u64 g_0.1), (.int .u64 g_0.2)])] : List Value).toArray w0 (Ret fun v w' => w0.grownBy w' none ∧ v = tup [(.int .u64 r0.1), (.agg #[(.int .u64 r0.2.1.1), (.int .u64 r0.2.1.2)]), (.agg #[(.int .i64 r0.2.2.1), (.int .i64 r0.2.2.2)])]) := by
  have hB0 : Below w0.heap.size w0 w0 := Below.refl _ _
  unfold random_Next at h0
  refine calls_run Try.func9 rfl Try.ntmps9 (by kernel_rfl) ?_
  refine gv_sub [0] (σ' := [(0, (.agg #[(.int .u64 g_0.1), (.int .u64 g_0.2)]))]) (by kernel_rfl) ?_
  refine gv_seq ?_
  refine gv_region ?_
  refine gv_new (fun b => .pointer (some ⟨b, 0, none⟩)) #[(.int .u64 g_0.1), (.int .u64 g_0.2)] 27 (by decide) (by rfl) (by rfl) (by kernel_rfl) (by kernel_rfl) ?_
  intro b1 w2 hg3 hb4 hbe5 hz6
  refine ⟨(fun e => by cases e), ?_⟩
  refine gv_pure 1 [1] (σ' := [(1, (.pointer (some ⟨b1, 0, none⟩)))]) (by kernel_rfl) ?_
  refine gv_new (fun b => .pointer (some ⟨b, 0, none⟩)) #[(.int .u64 0), (.int .u64 0)] 27 (by decide) (by rfl) (by rfl) (by kernel_rfl) (by kernel_rfl) ?_
  intro b7 w8 hg9 hb10 hbe11 hz12
  refine ⟨(fun e => by cases e), ?_⟩
  refine gv_sub [1, 3] (σ' := [(1, (.pointer (some ⟨b1, 0, none⟩))), (3, (.pointer (some ⟨b7, 0, none⟩)))]) (by kernel_rfl) ?_
  refine gv_new (fun b => .pointer (some ⟨b, 0, none⟩)) #[(.int .i64 0), (.int .i64 0)] 29 (by decide) (by rfl) (by rfl) (by kernel_rfl) (by kernel_rfl) ?_
  intro b13 w14 hg15 hb16 hbe17 hz18
  refine ⟨(fun e => by cases e), ?_⟩
  refine gv_sub [1, 3, 4] (σ' := [(1, (.pointer (some ⟨b1, 0, none⟩))), (3, (.pointer (some ⟨b7, 0, none⟩))), (4, (.pointer (some ⟨b13, 0, none⟩)))]) (by kernel_rfl) ?_
  refine gv_nil ?_
  refine gv_seq ?_
  refine gv_region ?_
  have hg19 := (grown_trans hg9 hg15)
  have hk20 := hb4.grown hg19 nb
  refine gv_loadBox (t := 27) (b := b1) (t' := 27) (fr := (0, 0)) #[(.int .u64 g_0.1), (.int .u64 g_0.2)] [3, 4, 9] (σ' := [(3, (.pointer (some ⟨b7, 0, none⟩))), (4, (.pointer (some ⟨b13, 0, none⟩))), (9, (.agg #[(.int .u64 g_0.1), (.int .u64 g_0.2)]))]) (fun e => by cases e) (by rfl) (by rfl) (by rfl) (by kernel_rfl) (by kernel_rfl) (by kernel_rfl) (by kernel_rfl) (inw0 hk20) (by kernel_rfl) ?_
  refine bindE h0 ?_; clear h0; intro r21 hr22 h0
  refine gv_call (f := 39) (vs := [(.agg #[(.int .u64 g_0.1), (.int .u64 g_0.2)])]) (cap := []) _ (by decide) (by rfl) (by rfl) rfl (by rfl) (by rfl) enters39 (random_open_ok fuel (g_0.1, g_0.2) w14  r21 hr22) ?_
  rintro v25 w23 ⟨hg24, p26, rfl, hp27⟩
  refine ⟨(fun e => by cases e), ?_⟩
  rcases hp27 with ⟨hn28, rfl⟩ | ⟨x30, b31, hn29, rfl, hb32, hlo33⟩
  · skip
    replace h0 := optc_none hn28 h0
    refine gv_pure 3 [3, 4, 11, 12] (σ' := [(3, (.pointer (some ⟨b7, 0, none⟩))), (4, (.pointer (some ⟨b13, 0, none⟩))), (11, (.pointer none)), (12, (.agg #[(.int .i64 r21.2.1), (.int .i64 r21.2.2)]))]) (by kernel_rfl) ?_
    refine gv_new (fun b => .pointer (some ⟨b, 0, none⟩)) #[(.int .i64 0), (.int .i64 0)] 29 (by decide) (by rfl) (by rfl) (by kernel_rfl) (by kernel_rfl) ?_
    intro b34 w35 hg36 hb37 hbe38 hz39
    refine ⟨(fun e => by cases e), ?_⟩
    refine gv_pure 1 [3, 4, 5, 6, 12] (σ' := [(3, (.pointer (some ⟨b7, 0, none⟩))), (4, (.pointer (some ⟨b13, 0, none⟩))), (5, (.pointer none)), (6, (.pointer (some ⟨b34, 0, none⟩))), (12, (.agg #[(.int .i64 r21.2.1), (.int .i64 r21.2.2)]))]) (by kernel_rfl) ?_
    refine gv_store (t := 29) (b := b34) (off := 0) (v := (.agg #[(.int .i64 r21.2.1), (.int .i64 r21.2.2)])) (t' := 29) (cs := #[(.int .i64 0), (.int .i64 0)]) #[(.int .i64 r21.2.1), (.int .i64 r21.2.2)] (by decide) (by rfl) (by rfl) (by kernel_rfl) (by kernel_rfl) (by kernel_rfl) (by intro u hu; simp [Value.cells] at hu; rcases hu with rfl | rfl <;> rfl) (show 0 + 2 ≤ 2 by decide) (by rfl) hb37 ?_
    intro w40 hg41 hb42 hz43
    refine ⟨(fun e => by cases e), ?_⟩
    refine gv_sub [3, 4, 5, 6] (σ' := [(3, (.pointer (some ⟨b7, 0, none⟩))), (4, (.pointer (some ⟨b13, 0, none⟩))), (5, (.pointer none)), (6, (.pointer (some ⟨b34, 0, none⟩)))]) (by kernel_rfl) ?_
    refine gv_nil ?_
    refine gv_seq ?_
    refine gv_seq ?_
    refine gv_region ?_
    refine gv_pure 1 [3, 4, 5, 6, 13] (σ' := [(3, (.pointer (some ⟨b7, 0, none⟩))), (4, (.pointer (some ⟨b13, 0, none⟩))), (5, (.pointer none)), (6, (.pointer (some ⟨b34, 0, none⟩))), (13, (.pointer (some ⟨b34, 0, none⟩)))]) (by kernel_rfl) ?_
    refine gv_load (t := 3) (A := ⟨b34, 0, none⟩) (.int .i64 r21.2.1) [3, 4, 5, 6, 14] (σ' := [(3, (.pointer (some ⟨b7, 0, none⟩))), (4, (.pointer (some ⟨b13, 0, none⟩))), (5, (.pointer none)), (6, (.pointer (some ⟨b34, 0, none⟩))), (14, (.int .i64 r21.2.1))]) (fun e => by cases e) (by rfl) (by rfl) (by rfl) (by kernel_rfl) (by kernel_rfl) (by kernel_rfl) (inw0 (hb42.cell 0 rfl)) (by kernel_rfl) ?_
    refine gv_pure 1 [3, 4, 5, 6, 15] (σ' := [(3, (.pointer (some ⟨b7, 0, none⟩))), (4, (.pointer (some ⟨b13, 0, none⟩))), (5, (.pointer none)), (6, (.pointer (some ⟨b34, 0, none⟩))), (15, (.bool (r21.2.1 != 0)))]) (by kernel_rfl) ?_
    refine gv_nil ?_
    refine gv_cond (b := (r21.2.1 != 0)) (by rfl) (fun hc44 => ?_) (fun hc44 => ?_)
    · replace h0 := ite_t hc44 h0
      refine gv_seq ?_
      refine gv_drawA (by kernel_rfl) ?_
      intro w45 hg46
      refine gv_pre [0, 2] #[true, false, true, false, false] 3 (by kernel_rfl) (by rfl) ?_
      refine gv_pure 2 [2, 3, 4, 6, 16] (σ' := [(2, (.int .u64 0)), (3, (.pointer (some ⟨b7, 0, none⟩))), (4, (.pointer (some ⟨b13, 0, none⟩))), (6, (.pointer (some ⟨b34, 0, none⟩))), (16, (.agg #[(.int .u64 0), (.int .u64 0)]))]) (by kernel_rfl) ?_
      refine gv_nil ?_
      refine gv_goal fun a hd hs hok => ?_
      refine (?_ : RunA Try.prog _ 26 _ _ 3 #[true, false, true, false, false] [(2, (.int .u64 0)), (3, (.pointer (some ⟨b7, 0, none⟩))), (4, (.pointer (some ⟨b13, 0, none⟩))), (6, (.pointer (some ⟨b34, 0, none⟩))), (16, (.agg #[(.int .u64 0), (.int .u64 0)]))] w45) a hd hs hok
      clear hd hs hok
      refine gv_stage (Cls w45 [b7]) [0, 1, 2, 3] [(1, some true), (3, some false)] #[true, true, true, true, false] 1 (by kernel_rfl) (by rfl) (Cls.refl _ _) ?_
      have hC47 := Cls.refl w45 [b7]
      have hk48 := hb42.grown hg46 nb
      have hg49 := (grown_trans hg15 hg24)
      have hk50 := hb10.grown hg49 nb
      have ap51 : ¬ (· = b7) b34 := fun hx => Nat.not_lt_of_le ((lowb hbe38) _ rfl) ((fun k (hk : k = b7) => Nat.lt_of_le_of_lt (Nat.le_of_eq hk) hk50.lt) _ hx)
      refine gv_loadBox (t := 29) (b := b34) (t' := 29) (fr := (0, 0)) #[(.int .i64 r21.2.1), (.int .i64 r21.2.2)] [2, 3, 4, 16, 17] (σ' := [(2, (.int .u64 0)), (3, (.pointer (some ⟨b7, 0, none⟩))), (4, (.pointer (some ⟨b13, 0, none⟩))), (16, (.agg #[(.int .u64 0), (.int .u64 0)])), (17, (.agg #[(.int .i64 r21.2.1), (.int .i64 r21.2.2)]))]) (fun e => by cases e) (by rfl) (by rfl) (by rfl) (by kernel_rfl) (by kernel_rfl) (by kernel_rfl) (by kernel_rfl) (inw1 fun w' hC' => (hC'.box hk48 (nm_cons ap51 nm_nil))) (by kernel_rfl) ?_
      have hk56 := ((hk50.grown hg36 nb).grown hg41 (rowne ap51)).grown hg46 nb
      refine gv_store (t := 27) (b := b7) (off := 0) (v := (.agg #[(.int .u64 0), (.int .u64 0)])) (t' := 27) (cs := #[(.int .u64 0), (.int .u64 0)]) #[(.int .u64 0), (.int .u64 0)] (by decide) (by rfl) (by rfl) (by kernel_rfl) (by kernel_rfl) (by kernel_rfl) (by intro u hu; simp [Value.cells] at hu; rcases hu with rfl | rfl <;> rfl) (show 0 + 2 ≤ 2 by decide) (by rfl) hk56 ?_
      intro w52 hg53 hb54 hz55
      refine ⟨(fun _ => hC47.grown hg53 (rowm (List.Mem.head _))), ?_⟩
      clear hz55 ap51 hk50 hg49 hc44 hz43 hb42 hz39 hb37 hr22 hg19 hz18 hz12 hz6 hb4
      refine gv_sub [2, 3, 4, 17] (σ' := [(2, (.int .u64 0)), (3, (.pointer (some ⟨b7, 0, none⟩))), (4, (.pointer (some ⟨b13, 0, none⟩))), (17, (.agg #[(.int .i64 r21.2.1), (.int .i64 r21.2.2)]))]) (by kernel_rfl) ?_
      refine gv_nil ?_
      refine gv_goal fun a hd hs hok => ?_
      refine (?_ : RunA Try.prog _ 26 _ _ 1 #[true, true, true, true, false] [(2, (.int .u64 0)), (3, (.pointer (some ⟨b7, 0, none⟩))), (4, (.pointer (some ⟨b13, 0, none⟩))), (17, (.agg #[(.int .i64 r21.2.1), (.int .i64 r21.2.2)]))] w52) a hd hs hok
      clear hd hs hok
      refine gv_stage (fun _ => True) [0, 1, 2, 3, 4] [(4, some false)] #[true, true, true, true, true] 0 (by kernel_rfl) (by rfl) trivial ?_
      have hg61 := (grown_trans hg24 hg36)
      have hk62 := hb16.grown hg24 nb
      have ap63 : ¬ (· = b13) b34 := fun hx => Nat.not_lt_of_le ((lowb hbe38) _ rfl) ((fun k (hk : k = b13) => Nat.lt_of_le_of_lt (Nat.le_of_eq hk) hk62.lt) _ hx)
      have ap64 : ¬ (· = b13) b7 := fun hx => Nat.not_lt_of_le ((lowb hbe17) _ hx) ((fun k (hk : k = b7) => Nat.lt_of_le_of_lt (Nat.le_of_eq hk) hb10.lt) _ rfl)
      have hk65 := (((hb16.grown hg61 nb).grown hg41 (rowne ap63)).grown hg46 nb).grown hg53 (rowne ap64)
      refine gv_store (t := 29) (b := b13) (off := 0) (v := (.agg #[(.int .i64 r21.2.1), (.int .i64 r21.2.2)])) (t' := 29) (cs := #[(.int .i64 0), (.int .i64 0)]) #[(.int .i64 r21.2.1), (.int .i64 r21.2.2)] (by decide) (by rfl) (by rfl) (by kernel_rfl) (by kernel_rfl) (by kernel_rfl) (by intro u hu; simp [Value.cells] at hu; rcases hu with rfl | rfl <;> rfl) (show 0 + 2 ≤ 2 by decide) (by rfl) hk65 ?_
      intro w57 hg58 hb59 hz60
      refine ⟨(fun _ => trivial), ?_⟩
      refine gv_sub [2, 3, 4] (σ' := [(2, (.int .u64 0)), (3, (.pointer (some ⟨b7, 0, none⟩))), (4, (.pointer (some ⟨b13, 0, none⟩)))]) (by kernel_rfl) ?_
      refine gv_nil ?_
      refine gv_goal fun a hd hs hok => ?_
      refine (?_ : RunA Try.prog _ 26 _ _ 0 #[true, true, true, true, true] [(2, (.int .u64 0)), (3, (.pointer (some ⟨b7, 0, none⟩))), (4, (.pointer (some ⟨b13, 0, none⟩)))] w57) a hd hs hok
      clear hd hs hok
      refine gv_stageE (by kernel_rfl) ?_
      refine gv_cret ?_
      have e := Option.some.inj h0; subst e
      have ap66 : ¬ (· = b7) b13 := fun hx => Nat.not_lt_of_le ((lowb hbe17) _ rfl) ((fun k (hk : k = b7) => Nat.lt_of_le_of_lt (Nat.le_of_eq hk) hb10.lt) _ hx)
      have hk67 := hb54.grown hg58 (rowne ap66)
      refine gv_ret (gv_done [(.int .u64 0), (.agg #[(.int .u64 0), (.int .u64 0)]), (.agg #[(.int .i64 r21.2.1), (.int .i64 r21.2.2)])] rfl ⟨rfl, ⟨_, rfl, run_loadVar_row w57 b7 _ 27 _ _ _ hk67 Try.underlying27 rfl (by kernel_rfl)⟩, ⟨_, rfl, run_loadVar_row w57 b13 _ 29 _ _ _ hb59 Try.underlying29 rfl (by kernel_rfl)⟩, trivial⟩ ?_)
      have hg68 := (grown_trans (grown_trans (grown_trans hg3 hg9) hg15) hg61)
      have hB69 := below_grown hB0 hg68 hB0.size nb
      have hg70 := (grown_trans (grown_trans (grown_trans hg3 hg9) hg15) hg24)
      have hB71 := below_grown hB0 hg70 hB0.size nb
      have hlo72 : w0.heap.size ≤ b34 := lob hbe38 hB71.size
      have hB73 := below_grown hB69 hg41 hB69.size (rowlo hlo72)
      have hB74 := below_grown hB73 hg46 hB73.size nb
      have hB75 := below_grown hB0 hg3 hB0.size nb
      have hlo76 : w0.heap.size ≤ b7 := lob hbe11 hB75.size
      have hB77 := below_grown hB74 hg53 hB74.size (rowlo hlo76)
      have hB78 := below_grown hB75 hg9 hB75.size nb
      have hlo79 : w0.heap.size ≤ b13 := lob hbe17 hB78.size
      have hB80 := below_grown hB77 hg58 hB77.size (rowlo hlo79)
      exact ⟨grown_of_below hB80, rfl⟩
    · replace h0 := ite_f hc44 h0
      refine gv_skip ?_
      refine gv_seq ?_
      refine gv_region ?_
      refine gv_pure 1 [3, 4, 5, 18] (σ' := [(3, (.pointer (some ⟨b7, 0, none⟩))), (4, (.pointer (some ⟨b13, 0, none⟩))), (5, (.pointer none)), (18, (.pointer none))]) (by kernel_rfl) ?_
      cases h0
  · skip
    replace h0 := optc_some hn29 h0
    have hg84 := (grown_trans hg3 hg19)
    have hB85 := below_grown hB0 hg84 hB0.size nb
    have hl83 : w0.heap.size ≤ b31 := Nat.le_trans hB85.size hlo33
    refine gv_pure 3 [3, 4, 11, 12] (σ' := [(3, (.pointer (some ⟨b7, 0, none⟩))), (4, (.pointer (some ⟨b13, 0, none⟩))), (11, (.pointer (some ⟨b31, 0, none⟩))), (12, (.agg #[(.int .i64 r21.2.1), (.int .i64 r21.2.2)]))]) (by kernel_rfl) ?_
    refine gv_new (fun b => .pointer (some ⟨b, 0, none⟩)) #[(.int .i64 0), (.int .i64 0)] 29 (by decide) (by rfl) (by rfl) (by kernel_rfl) (by kernel_rfl) ?_
    intro b86 w87 hg88 hb89 hbe90 hz91
    refine ⟨(fun e => by cases e), ?_⟩
    refine gv_pure 1 [3, 4, 5, 6, 12] (σ' := [(3, (.pointer (some ⟨b7, 0, none⟩))), (4, (.pointer (some ⟨b13, 0, none⟩))), (5, (.pointer (some ⟨b31, 0, none⟩))), (6, (.pointer (some ⟨b86, 0, none⟩))), (12, (.agg #[(.int .i64 r21.2.1), (.int .i64 r21.2.2)]))]) (by kernel_rfl) ?_
    refine gv_store (t := 29) (b := b86) (off := 0) (v := (.agg #[(.int .i64 r21.2.1), (.int .i64 r21.2.2)])) (t' := 29) (cs := #[(.int .i64 0), (.int .i64 0)]) #[(.int .i64 r21.2.1), (.int .i64 r21.2.2)] (by decide) (by rfl) (by rfl) (by kernel_rfl) (by kernel_rfl) (by kernel_rfl) (by intro u hu; simp [Value.cells] at hu; rcases hu with rfl | rfl <;> rfl) (show 0 + 2 ≤ 2 by decide) (by rfl) hb89 ?_
    intro w92 hg93 hb94 hz95
    refine ⟨(fun e => by cases e), ?_⟩
    refine gv_sub [3, 4, 5, 6] (σ' := [(3, (.pointer (some ⟨b7, 0, none⟩))), (4, (.pointer (some ⟨b13, 0, none⟩))), (5, (.pointer (some ⟨b31, 0, none⟩))), (6, (.pointer (some ⟨b86, 0, none⟩)))]) (by kernel_rfl) ?_
    refine gv_nil ?_
    refine gv_seq ?_
    refine gv_seq ?_
    refine gv_region ?_
    refine gv_pure 1 [3, 4, 5, 6, 13] (σ' := [(3, (.pointer (some ⟨b7, 0, none⟩))), (4, (.pointer (some ⟨b13, 0, none⟩))), (5, (.pointer (some ⟨b31, 0, none⟩))), (6, (.pointer (some ⟨b86, 0, none⟩))), (13, (.pointer (some ⟨b86, 0, none⟩)))]) (by kernel_rfl) ?_
    refine gv_load (t := 3) (A := ⟨b86, 0, none⟩) (.int .i64 r21.2.1) [3, 4, 5, 6, 14] (σ' := [(3, (.pointer (some ⟨b7, 0, none⟩))), (4, (.pointer (some ⟨b13, 0, none⟩))), (5, (.pointer (some ⟨b31, 0, none⟩))), (6, (.pointer (some ⟨b86, 0, none⟩))), (14, (.int .i64 r21.2.1))]) (fun e => by cases e) (by rfl) (by rfl) (by rfl) (by kernel_rfl) (by kernel_rfl) (by kernel_rfl) (inw0 (hb94.cell 0 rfl)) (by kernel_rfl) ?_
    refine gv_pure 1 [3, 4, 5, 6, 15] (σ' := [(3, (.pointer (some ⟨b7, 0, none⟩))), (4, (.pointer (some ⟨b13, 0, none⟩))), (5, (.pointer (some ⟨b31, 0, none⟩))), (6, (.pointer (some ⟨b86, 0, none⟩))), (15, (.bool (r21.2.1 != 0)))]) (by kernel_rfl) ?_
    refine gv_nil ?_
    refine gv_cond (b := (r21.2.1 != 0)) (by rfl) (fun hc96 => ?_) (fun hc96 => ?_)
    · replace h0 := ite_t hc96 h0
      refine gv_seq ?_
      refine gv_drawA (by kernel_rfl) ?_
      intro w97 hg98
      refine gv_pre [0, 2] #[true, false, true, false, false] 3 (by kernel_rfl) (by rfl) ?_
      refine gv_pure 2 [2, 3, 4, 6, 16] (σ' := [(2, (.int .u64 0)), (3, (.pointer (some ⟨b7, 0, none⟩))), (4, (.pointer (some ⟨b13, 0, none⟩))), (6, (.pointer (some ⟨b86, 0, none⟩))), (16, (.agg #[(.int .u64 0), (.int .u64 0)]))]) (by kernel_rfl) ?_
      refine gv_nil ?_
      refine gv_goal fun a hd hs hok => ?_
      refine (?_ : RunA Try.prog _ 26 _ _ 3 #[true, false, true, false, false] [(2, (.int .u64 0)), (3, (.pointer (some ⟨b7, 0, none⟩))), (4, (.pointer (some ⟨b13, 0, none⟩))), (6, (.pointer (some ⟨b86, 0, none⟩))), (16, (.agg #[(.int .u64 0), (.int .u64 0)]))] w97) a hd hs hok
      clear hd hs hok
      refine gv_stage (Cls w97 [b7]) [0, 1, 2, 3] [(1, some true), (3, some false)] #[true, true, true, true, false] 1 (by kernel_rfl) (by rfl) (Cls.refl _ _) ?_
      have hC99 := Cls.refl w97 [b7]
      have hk100 := hb94.grown hg98 nb
      have hg101 := (grown_trans hg15 hg24)
      have hk102 := hb10.grown hg101 nb
      have ap103 : ¬ (· = b7) b86 := fun hx => Nat.not_lt_of_le ((lowb hbe90) _ rfl) ((fun k (hk : k = b7) => Nat.lt_of_le_of_lt (Nat.le_of_eq hk) hk102.lt) _ hx)
      refine gv_loadBox (t := 29) (b := b86) (t' := 29) (fr := (0, 0)) #[(.int .i64 r21.2.1), (.int .i64 r21.2.2)] [2, 3, 4, 16, 17] (σ' := [(2, (.int .u64 0)), (3, (.pointer (some ⟨b7, 0, none⟩))), (4, (.pointer (some ⟨b13, 0, none⟩))), (16, (.agg #[(.int .u64 0), (.int .u64 0)])), (17, (.agg #[(.int .i64 r21.2.1), (.int .i64 r21.2.2)]))]) (fun e => by cases e) (by rfl) (by rfl) (by rfl) (by kernel_rfl) (by kernel_rfl) (by kernel_rfl) (by kernel_rfl) (inw1 fun w' hC' => (hC'.box hk100 (nm_cons ap103 nm_nil))) (by kernel_rfl) ?_
      have hk108 := ((hk102.grown hg88 nb).grown hg93 (rowne ap103)).grown hg98 nb
      refine gv_store (t := 27) (b := b7) (off := 0) (v := (.agg #[(.int .u64 0), (.int .u64 0)])) (t' := 27) (cs := #[(.int .u64 0), (.int .u64 0)]) #[(.int .u64 0), (.int .u64 0)] (by decide) (by rfl) (by rfl) (by kernel_rfl) (by kernel_rfl) (by kernel_rfl) (by intro u hu; simp [Value.cells] at hu; rcases hu with rfl | rfl <;> rfl) (show 0 + 2 ≤ 2 by decide) (by rfl) hk108 ?_
      intro w104 hg105 hb106 hz107
      refine ⟨(fun _ => hC99.grown hg105 (rowm (List.Mem.head _))), ?_⟩
      refine gv_sub [2, 3, 4, 17] (σ' := [(2, (.int .u64 0)), (3, (.pointer (some ⟨b7, 0, none⟩))), (4, (.pointer (some ⟨b13, 0, none⟩))), (17, (.agg #[(.int .i64 r21.2.1), (.int .i64 r21.2.2)]))]) (by kernel_rfl) ?_
      refine gv_nil ?_
      refine gv_goal fun a hd hs hok => ?_
      refine (?_ : RunA Try.prog _ 26 _ _ 1 #[true, true, true, true, false] [(2, (.int .u64 0)), (3, (.pointer (some ⟨b7, 0, none⟩))), (4, (.pointer (some ⟨b13, 0, none⟩))), (17, (.agg #[(.int .i64 r21.2.1), (.int .i64 r21.2.2)]))] w104) a hd hs hok
      clear hd hs hok
      refine gv_stage (fun _ => True) [0, 1, 2, 3, 4] [(4, some false)] #[true, true, true, true, true] 0 (by kernel_rfl) (by rfl) trivial ?_
      have hg113 := (grown_trans hg24 hg88)
      have hk114 := hb16.grown hg24 nb
      have ap115 : ¬ (· = b13) b86 := fun hx => Nat.not_lt_of_le ((lowb hbe90) _ rfl) ((fun k (hk : k = b13) => Nat.lt_of_le_of_lt (Nat.le_of_eq hk) hk114.lt) _ hx)
      have ap116 : ¬ (· = b13) b7 := fun hx => Nat.not_lt_of_le ((lowb hbe17) _ hx) ((fun k (hk : k = b7) => Nat.lt_of_le_of_lt (Nat.le_of_eq hk) hb10.lt) _ rfl)
      have hk117 := (((hb16.grown hg113 nb).grown hg93 (rowne ap115)).grown hg98 nb).grown hg105 (rowne ap116)
      refine gv_store (t := 29) (b := b13) (off := 0) (v := (.agg #[(.int .i64 r21.2.1), (.int .i64 r21.2.2)])) (t' := 29) (cs := #[(.int .i64 0), (.int .i64 0)]) #[(.int .i64 r21.2.1), (.int .i64 r21.2.2)] (by decide) (by rfl) (by rfl) (by kernel_rfl) (by kernel_rfl) (by kernel_rfl) (by intro u hu; simp [Value.cells] at hu; rcases hu with rfl | rfl <;> rfl) (show 0 + 2 ≤ 2 by decide) (by rfl) hk117 ?_
      intro w109 hg110 hb111 hz112
      refine ⟨(fun _ => trivial), ?_⟩
      refine gv_sub [2, 3, 4] (σ' := [(2, (.int .u64 0)), (3, (.pointer (some ⟨b7, 0, none⟩))), (4, (.pointer (some ⟨b13, 0, none⟩)))]) (by kernel_rfl) ?_
      refine gv_nil ?_
      refine gv_goal fun a hd hs hok => ?_
      refine (?_ : RunA Try.prog _ 26 _ _ 0 #[true, true, true, true, true] [(2, (.int .u64 0)), (3, (.pointer (some ⟨b7, 0, none⟩))), (4, (.pointer (some ⟨b13, 0, none⟩)))] w109) a hd hs hok
      clear hd hs hok
      refine gv_stageE (by kernel_rfl) ?_
      refine gv_cret ?_
      have e := Option.some.inj h0; subst e
      have ap118 : ¬ (· = b7) b13 := fun hx => Nat.not_lt_of_le ((lowb hbe17) _ rfl) ((fun k (hk : k = b7) => Nat.lt_of_le_of_lt (Nat.le_of_eq hk) hb10.lt) _ hx)
      have hk119 := hb106.grown hg110 (rowne ap118)
      refine gv_ret (gv_done [(.int .u64 0), (.agg #[(.int .u64 0), (.int .u64 0)]), (.agg #[(.int .i64 r21.2.1), (.int .i64 r21.2.2)])] rfl ⟨rfl, ⟨_, rfl, run_loadVar_row w109 b7 _ 27 _ _ _ hk119 Try.underlying27 rfl (by kernel_rfl)⟩, ⟨_, rfl, run_loadVar_row w109 b13 _ 29 _ _ _ hb111 Try.underlying29 rfl (by kernel_rfl)⟩, trivial⟩ ?_)
      have hB120 := below_grown hB85 hg113 hB85.size nb
      have hB121 := below_grown hB85 hg24 hB85.size nb
      have hlo122 : w0.heap.size ≤ b86 := lob hbe90 hB121.size
      have hB123 := below_grown hB120 hg93 hB120.size (rowlo hlo122)
      have hB124 := below_grown hB123 hg98 hB123.size nb
      have hB125 := below_grown hB0 hg3 hB0.size nb
      have hlo126 : w0.heap.size ≤ b7 := lob hbe11 hB125.size
      have hB127 := below_grown hB124 hg105 hB124.size (rowlo hlo126)
      have hB128 := below_grown hB125 hg9 hB125.size nb
      have hlo129 : w0.heap.size ≤ b13 := lob hbe17 hB128.size
      have hB130 := below_grown hB127 hg110 hB127.size (rowlo hlo129)
      exact ⟨grown_of_below hB130, rfl⟩
    · replace h0 := ite_f hc96 h0
      refine gv_skip ?_
      refine gv_seq ?_
      refine gv_region ?_
      refine gv_pure 1 [3, 4, 5, 18] (σ' := [(3, (.pointer (some ⟨b7, 0, none⟩))), (4, (.pointer (some ⟨b13, 0, none⟩))), (5, (.pointer (some ⟨b31, 0, none⟩))), (18, (.pointer (some ⟨b31, 0, none⟩)))]) (by kernel_rfl) ?_
      refine bindE h0 ?_; clear h0; intro r131 hr132 h0
      have ap133 : ¬ (· = b31) b86 := fun hx => Nat.not_lt_of_le ((lowb hbe90) _ rfl) ((fun k (hk : k = b31) => Nat.lt_of_le_of_lt (Nat.le_of_eq hk) hb32.lt) _ hx)
      have hk134 := (hb32.grown hg88 nb).grown hg93 (rowne ap133)
      refine gv_call (f := 40) (vs := [(.pointer (some ⟨b31, 0, none⟩))]) (cap := []) _ (by decide) (by rfl) (by rfl) rfl (by rfl) (by rfl) enters40 (random_source_next_ok fuel b31 (x30.1, x30.2) w92 hk134 r131 hr132) ?_
      rintro v137 w135 ⟨hg136, rfl, hb138⟩
      refine ⟨(fun e => by cases e), ?_⟩
      refine gv_pure 1 [3, 4, 5, 7] (σ' := [(3, (.pointer (some ⟨b7, 0, none⟩))), (4, (.pointer (some ⟨b13, 0, none⟩))), (5, (.pointer (some ⟨b31, 0, none⟩))), (7, (.int .u64 r131.1))]) (by kernel_rfl) ?_
      refine gv_nil ?_
      refine gv_seq ?_
      refine gv_drawA (by kernel_rfl) ?_
      intro w139 hg140
      refine gv_pre [0, 1, 2, 3, 5, 6] #[true, true, true, true, false, true, true, false, false] 3 (by kernel_rfl) (by rfl) ?_
      clear hk134 ap133 hr132 hc96 hz95 hz91 hb89 hg84 hr22 hg19 hz18 hz12 hz6 hb4
      refine gv_pure 6 [2, 3, 4, 23, 25] (σ' := [(2, (.int .u64 r131.1)), (3, (.pointer (some ⟨b7, 0, none⟩))), (4, (.pointer (some ⟨b13, 0, none⟩))), (23, (.pointer (some ⟨b31, 0, none⟩))), (25, (.agg #[(.int .i64 0), (.int .i64 0)]))]) (by kernel_rfl) ?_
      refine gv_nil ?_
      refine gv_goal fun a hd hs hok => ?_
      refine (?_ : RunA Try.prog _ 26 _ _ 3 #[true, true, true, true, false, true, true, false, false] [(2, (.int .u64 r131.1)), (3, (.pointer (some ⟨b7, 0, none⟩))), (4, (.pointer (some ⟨b13, 0, none⟩))), (23, (.pointer (some ⟨b31, 0, none⟩))), (25, (.agg #[(.int .i64 0), (.int .i64 0)]))] w139) a hd hs hok
      clear hd hs hok
      refine gv_stage (Cls w139 []) [0, 1, 2, 3, 4, 5, 6] [(4, some true)] #[true, true, true, true, true, true, true, false, false] 2 (by kernel_rfl) (by rfl) (Cls.refl _ _) ?_
      have hC141 := Cls.refl w139 []
      have hk142 := hb138.grown hg140 nb
      refine gv_loadBox (t := 27) (b := b31) (t' := 81) (fr := (0, 0)) #[(.int .u64 r131.2.1), (.int .u64 r131.2.2)] [2, 3, 4, 24, 25] (σ' := [(2, (.int .u64 r131.1)), (3, (.pointer (some ⟨b7, 0, none⟩))), (4, (.pointer (some ⟨b13, 0, none⟩))), (24, (.agg #[(.int .u64 r131.2.1), (.int .u64 r131.2.2)])), (25, (.agg #[(.int .i64 0), (.int .i64 0)]))]) (fun e => by cases e) (by rfl) (by rfl) (by rfl) (by kernel_rfl) (by kernel_rfl) (by kernel_rfl) (by kernel_rfl) (inw1 fun w' hC' => (hC'.box hk142 nm_nil)) (by kernel_rfl) ?_
      refine gv_nil ?_
      refine gv_goal fun a hd hs hok => ?_
      refine (?_ : RunA Try.prog _ 26 _ _ 2 #[true, true, true, true, true, true, true, false, false] [(2, (.int .u64 r131.1)), (3, (.pointer (some ⟨b7, 0, none⟩))), (4, (.pointer (some ⟨b13, 0, none⟩))), (24, (.agg #[(.int .u64 r131.2.1), (.int .u64 r131.2.2)])), (25, (.agg #[(.int .i64 0), (.int .i64 0)]))] w139) a hd hs hok
      clear hd hs hok
      refine gv_stage (fun _ => True) [0, 1, 2, 3, 4, 5, 6, 7] [(7, some false)] #[true, true, true, true, true, true, true, true, false] 1 (by kernel_rfl) (by rfl) trivial ?_
      have hg147 := (grown_trans (grown_trans hg15 hg24) hg88)
      have hg148 := (grown_trans hg15 hg24)
      have hk149 := hb10.grown hg148 nb
      have ap150 : ¬ (· = b7) b86 := fun hx => Nat.not_lt_of_le ((lowb hbe90) _ rfl) ((fun k (hk : k = b7) => Nat.lt_of_le_of_lt (Nat.le_of_eq hk) hk149.lt) _ hx)
      have hk151 := hb10.grown hg15 nb
      have ap152 : ¬ (· = b7) b31 := fun hx => Nat.not_lt_of_le ((lowe hlo33) _ rfl) ((fun k (hk : k = b7) => Nat.lt_of_le_of_lt (Nat.le_of_eq hk) hk151.lt) _ hx)
      have hk153 := (((hb10.grown hg147 nb).grown hg93 (rowne ap150)).grown hg136 (rowne ap152)).grown hg140 nb
      refine gv_store (t := 27) (b := b7) (off := 0) (v := (.agg #[(.int .u64 r131.2.1), (.int .u64 r131.2.2)])) (t' := 27) (cs := #[(.int .u64 0), (.int .u64 0)]) #[(.int .u64 r131.2.1), (.int .u64 r131.2.2)] (by decide) (by rfl) (by rfl) (by kernel_rfl) (by kernel_rfl) (by kernel_rfl) (by intro u hu; simp [Value.cells] at hu; rcases hu with rfl | rfl <;> rfl) (show 0 + 2 ≤ 2 by decide) (by rfl) hk153 ?_
      intro w143 hg144 hb145 hz146
      refine ⟨(fun _ => trivial), ?_⟩
      refine gv_sub [2, 3, 4, 25] (σ' := [(2, (.int .u64 r131.1)), (3, (.pointer (some ⟨b7, 0, none⟩))), (4, (.pointer (some ⟨b13, 0, none⟩))), (25, (.agg #[(.int .i64 0), (.int .i64 0)]))]) (by kernel_rfl) ?_
      refine gv_nil ?_
      refine gv_goal fun a hd hs hok => ?_
      refine (?_ : RunA Try.prog _ 26 _ _ 1 #[true, true, true, true, true, true, true, true, false] [(2, (.int .u64 r131.1)), (3, (.pointer (some ⟨b7, 0, none⟩))), (4, (.pointer (some ⟨b13, 0, none⟩))), (25, (.agg #[(.int .i64 0), (.int .i64 0)]))] w143) a hd hs hok
      clear hd hs hok
      refine gv_stage (fun _ => True) [0, 1, 2, 3, 4, 5, 6, 7, 8] [(8, some false)] #[true, true, true, true, true, true, true, true, true] 0 (by kernel_rfl) (by rfl) trivial ?_
      have hg158 := (grown_trans hg24 hg88)
      have hk159 := hb16.grown hg24 nb
      have ap160 : ¬ (· = b13) b86 := fun hx => Nat.not_lt_of_le ((lowb hbe90) _ rfl) ((fun k (hk : k = b13) => Nat.lt_of_le_of_lt (Nat.le_of_eq hk) hk159.lt) _ hx)
      have ap161 : ¬ (· = b13) b31 := fun hx => Nat.not_lt_of_le ((lowe hlo33) _ rfl) ((fun k (hk : k = b13) => Nat.lt_of_le_of_lt (Nat.le_of_eq hk) hb16.lt) _ hx)
      have ap162 : ¬ (· = b13) b7 := fun hx => Nat.not_lt_of_le ((lowb hbe17) _ hx) ((fun k (hk : k = b7) => Nat.lt_of_le_of_lt (Nat.le_of_eq hk) hb10.lt) _ rfl)
      have hk163 := ((((hb16.grown hg158 nb).grown hg93 (rowne ap160)).grown hg136 (rowne ap161)).grown hg140 nb).grown hg144 (rowne ap162)
      refine gv_store (t := 29) (b := b13) (off := 0) (v := (.agg #[(.int .i64 0), (.int .i64 0)])) (t' := 29) (cs := #[(.int .i64 0), (.int .i64 0)]) #[(.int .i64 0), (.int .i64 0)] (by decide) (by rfl) (by rfl) (by kernel_rfl) (by kernel_rfl) (by kernel_rfl) (by intro u hu; simp [Value.cells] at hu; rcases hu with rfl | rfl <;> rfl) (show 0 + 2 ≤ 2 by decide) (by rfl) hk163 ?_
      intro w154 hg155 hb156 hz157
      refine ⟨(fun _ => trivial), ?_⟩
      refine gv_sub [2, 3, 4] (σ' := [(2, (.int .u64 r131.1)), (3, (.pointer (some ⟨b7, 0, none⟩))), (4, (.pointer (some ⟨b13, 0, none⟩)))]) (by kernel_rfl) ?_
      refine gv_nil ?_
      refine gv_goal fun a hd hs hok => ?_
      refine (?_ : RunA Try.prog _ 26 _ _ 0 #[true, true, true, true, true, true, true, true, true] [(2, (.int .u64 r131.1)), (3, (.pointer (some ⟨b7, 0, none⟩))), (4, (.pointer (some ⟨b13, 0, none⟩)))] w154) a hd hs hok
      clear hd hs hok
      refine gv_stageE (by kernel_rfl) ?_
      refine gv_cret ?_
      have e := Option.some.inj h0; subst e
      have ap164 : ¬ (· = b7) b13 := fun hx => Nat.not_lt_of_le ((lowb hbe17) _ rfl) ((fun k (hk : k = b7) => Nat.lt_of_le_of_lt (Nat.le_of_eq hk) hb10.lt) _ hx)
      have hk165 := hb145.grown hg155 (rowne ap164)
      refine gv_ret (gv_done [(.int .u64 r131.1), (.agg #[(.int .u64 r131.2.1), (.int .u64 r131.2.2)]), (.agg #[(.int .i64 0), (.int .i64 0)])] rfl ⟨rfl, ⟨_, rfl, run_loadVar_row w154 b7 _ 27 _ _ _ hk165 Try.underlying27 rfl (by kernel_rfl)⟩, ⟨_, rfl, run_loadVar_row w154 b13 _ 29 _ _ _ hb156 Try.underlying29 rfl (by kernel_rfl)⟩, trivial⟩ ?_)
      have hB166 := below_grown hB85 hg158 hB85.size nb
      have hB167 := below_grown hB85 hg24 hB85.size nb
      have hlo168 : w0.heap.size ≤ b86 := lob hbe90 hB167.size
      have hB169 := below_grown hB166 hg93 hB166.size (rowlo hlo168)
      have hB170 := below_grown hB169 hg136 hB169.size (rowlo hl83)
      have hB171 := below_grown hB170 hg140 hB170.size nb
      have hB172 := below_grown hB0 hg3 hB0.size nb
      have hlo173 : w0.heap.size ≤ b7 := lob hbe11 hB172.size
      have hB174 := below_grown hB171 hg144 hB171.size (rowlo hlo173)
      have hB175 := below_grown hB172 hg9 hB172.size nb
      have hlo176 : w0.heap.size ≤ b13 := lob hbe17 hB175.size
      have hB177 := below_grown hB174 hg155 hB174.size (rowlo hlo176)
      exact ⟨grown_of_below hB177, rfl⟩

set_option maxHeartbeats 4000000 in
set_option maxRecDepth 100000 in
theorem integer_Of_ok (fuel : Nat) (n_0 : Int) (w0 : World)  (r0 : (Bool × (List Int))) (h0 : integer_Of fuel n_0 = some r0) :
    Calls Try.prog 47 ([(.int .i64 n_0)] : List Value).toArray w0 (Ret fun v w' => w0.grownBy w' none ∧ ∃ (a0_0r : Option Addr) (c0_0r : Nat), v = tup [(.agg #[(.bool r0.1), (.slice a0_0r (List.length r0.2) c0_0r)])] ∧ Own (iE .u32) 76 w' (fun _ => False) a0_0r c0_0r r0.2 ∧ (∀ g, blk a0_0r = some g → w0.heap.size ≤ g)) := by
  have hB0 : Below w0.heap.size w0 w0 := Below.refl _ _
  unfold integer_Of at h0
  refine calls_run Try.func47 rfl Try.ntmps47 (by kernel_rfl) ?_
  refine gv_sub [0] (σ' := [(0, (.int .i64 n_0))]) (by kernel_rfl) ?_
  refine gv_seq ?_
  refine gv_region ?_
  refine gv_new (fun b => .pointer (some ⟨b, 0, none⟩)) #[(.bool false), (.slice none (List.length ([] : List Int)) 0)] 24 (by decide) (by rfl) (by rfl) (by kernel_rfl) (by kernel_rfl) ?_
  intro b1 w2 hg3 hb4 hbe5 hz6
  refine ⟨(fun e => by cases e), ?_⟩
  refine gv_sub [0, 2] (σ' := [(0, (.int .i64 n_0)), (2, (.pointer (some ⟨b1, 0, none⟩)))]) (by kernel_rfl) ?_
  refine gv_nil ?_
  refine gv_seq ?_
  refine gv_region ?_
  refine gv_pure 3 [0, 2, 3] (σ' := [(0, (.int .i64 n_0)), (2, (.pointer (some ⟨b1, 0, none⟩))), (3, (.int .u64 (IntKind.u64.wrap (n_0))))]) (by kernel_rfl) ?_
  refine gv_nil ?_
  refine gv_seq ?_
  refine gv_seq ?_
  refine gv_region ?_
  refine gv_pure 2 [0, 2, 3, 8] (σ' := [(0, (.int .i64 n_0)), (2, (.pointer (some ⟨b1, 0, none⟩))), (3, (.int .u64 (IntKind.u64.wrap (n_0)))), (8, (.bool (decide (n_0 < 0))))]) (by kernel_rfl) ?_
  refine gv_nil ?_
  refine bindE h0 ?_; clear h0; intro j7 h1 h0
  refine gv_cut_code (J := fun a w8 => Below w0.heap.size w0 w8 ∧ w2.heap.size ≤ w8.heap.size ∧ Box w8 b1 24 #[(.bool false), (.slice none (List.length ([] : List Int)) 0)] ∧ a.defers = [] ∧ a.tmps.size = 38 ∧ Ok [(0, (.int .i64 n_0)), (2, (.pointer (some ⟨b1, 0, none⟩))), (3, (.int .u64 j7))] a.tmps) ?_ ?_
  · skip
    refine gv_cond (b := (decide (n_0 < 0))) (by rfl) (fun hc9 => ?_) (fun hc9 => ?_)
    · replace h1 := ite_t hc9 h1
      refine gv_region ?_
      refine gv_pure 3 [0, 2, 3] (σ' := [(0, (.int .i64 n_0)), (2, (.pointer (some ⟨b1, 0, none⟩))), (3, (.int .u64 (IntKind.u64.wrap (0 - (IntKind.u64.wrap (n_0))))))]) (by kernel_rfl) ?_
      refine bindE h1 ?_; clear h1; intro n10 hn11 h1
      refine gv_name (s := 3) (v := (.int .u64 (IntKind.u64.wrap (0 - (IntKind.u64.wrap (n_0)))))) (v' := (.int .u64 n10)) (by rfl) (congrArg (Value.int .u64) (Option.some.inj hn11)) ?_
      refine gv_sub [0, 2, 3] (σ' := [(0, (.int .i64 n_0)), (2, (.pointer (some ⟨b1, 0, none⟩))), (3, (.int .u64 n10))]) (by kernel_rfl) ?_
      refine gv_nil ?_
      have e := Option.some.inj h1; subst e
      refine gv_goal fun a hd hs hok => ?_
      obtain ⟨q0, q2, q3, _⟩ := hok
      have hB12 := below_grown hB0 hg3 hB0.size nb
      exact ⟨hB12, (Nat.le_refl _), hb4, hd, hs, ⟨q0, q2, q3, trivial⟩⟩
    · replace h1 := ite_f hc9 h1
      refine gv_skip ?_
      have e := Option.some.inj h1; subst e
      refine gv_goal fun a hd hs hok => ?_
      obtain ⟨q0, q2, q3, q8, _⟩ := hok
      have hB13 := below_grown hB0 hg3 hB0.size nb
      exact ⟨hB13, (Nat.le_refl _), hb4, hd, hs, ⟨q0, q2, q3, trivial⟩⟩
  · rintro a w8 ⟨hB14, hz15, hb16, hd, hs, hok⟩
    refine (?_ : Run Try.prog _ 38 _ .normal [(0, (.int .i64 n_0)), (2, (.pointer (some ⟨b1, 0, none⟩))), (3, (.int .u64 j7))] w8) a hd hs hok
    clear hd hs hok
    clear hz15 hz6 hb4 hg3
    refine gv_seq ?_
    refine gv_region ?_
    refine gv_pure 5 [0, 2, 12, 15] (σ' := [(0, (.int .i64 n_0)), (2, (.pointer (some ⟨b1, 0, none⟩))), (12, (.int .u32 (IntKind.u32.wrap (j7)))), (15, (.int .u32 (IntKind.u32.wrap (((j7).fdiv (2 ^ 32))))))]) (by kernel_rfl) ?_
    refine gv_new (fun b => .slice (some ⟨b, 0, none⟩) 2 2) #[(.int .u32 (IntKind.u32.wrap (j7))), (.int .u32 (IntKind.u32.wrap (((j7).fdiv (2 ^ 32)))))] 76 (by decide) (by rfl) (by rfl) (by kernel_rfl) (by kernel_rfl) ?_
    intro b17 w18 hg19 hb20 hbe21 hz22
    refine ⟨(fun e => by cases e), ?_⟩
    have ho23 : Own (iE .u32) 76 w18 (fun _ => False) (some ⟨b17, 0, none⟩) 2 ([(IntKind.u32.wrap (j7)), (IntKind.u32.wrap (((j7).fdiv (2 ^ 32))))] : List Int) := Box.ownE hb20 ⟨[(.int .u32 (IntKind.u32.wrap (j7)))], [(.int .u32 (IntKind.u32.wrap (((j7).fdiv (2 ^ 32)))))], rfl, rfl, ⟨[(.int .u32 (IntKind.u32.wrap (((j7).fdiv (2 ^ 32)))))], [], rfl, rfl, rfl⟩⟩ (show 2 ≤ maxLen by decide) (fun h => h)
    have hl24 : ∀ g, blk (some ⟨b17, 0, none⟩) = some g → w0.heap.size ≤ g := loo hbe21 hB14.size
    refine gv_pure 1 [0, 2, 4] (σ' := [(0, (.int .i64 n_0)), (2, (.pointer (some ⟨b1, 0, none⟩))), (4, (.slice (some ⟨b17, 0, none⟩) (List.length ([(IntKind.u32.wrap (j7)), (IntKind.u32.wrap (((j7).fdiv (2 ^ 32))))] : List Int)) 2))]) (by kernel_rfl) ?_
    refine gv_nil ?_
    refine gv_seq ?_
    refine bindE h0 ?_; clear h0; intro j28 h1 h0
    refine gv_cut_code (J := fun a w29 => ∃ (a4_0j : Option Addr) (c4_0j : Nat), Below w0.heap.size w0 w29 ∧ w18.heap.size ≤ w29.heap.size ∧ Own (iE .u32) 76 w29 (fun _ => False) a4_0j c4_0j j28 ∧ (∀ g, blk a4_0j = some g → w0.heap.size ≤ g) ∧ (∀ g, blk a4_0j = some g → ¬ (· = b1) g) ∧ ¬ (fun k => blk a4_0j = some k) b1 ∧ Box w29 b1 24 #[(.bool false), (.slice none (List.length ([] : List Int)) 0)] ∧ a.defers = [] ∧ a.tmps.size = 38 ∧ Ok [(0, (.int .i64 n_0)), (2, (.pointer (some ⟨b1, 0, none⟩))), (4, (.slice a4_0j (List.length j28) c4_0j))] a.tmps) ?_ ?_
    · skip
      refine gv_block ?_
      refine gv_loop (A := fun (s30 : (List Int)) a w31 => ∃ (a4_0j : Option Addr) (c4_0j : Nat), Below w0.heap.size w0 w31 ∧ w18.heap.size ≤ w31.heap.size ∧ Own (iE .u32) 76 w31 (fun _ => False) a4_0j c4_0j s30 ∧ (∀ g, blk a4_0j = some g → w0.heap.size ≤ g) ∧ (∀ g, blk a4_0j = some g → ¬ (· = b1) g) ∧ ¬ (fun k => blk a4_0j = some k) b1 ∧ Box w31 b1 24 #[(.bool false), (.slice none (List.length ([] : List Int)) 0)] ∧ a.defers = [] ∧ a.tmps.size = 38 ∧ Ok [(0, (.int .i64 n_0)), (2, (.pointer (some ⟨b1, 0, none⟩))), (4, (.slice a4_0j (List.length s30) c4_0j))] a.tmps) h1 ?_ ?_
      · intro a hd hs hok
        obtain ⟨q0, q2, q4, _⟩ := hok
        have hB32 := below_grown hB14 hg19 hB14.size nb
        have ap33 : ∀ g, blk (some ⟨b17, 0, none⟩) = some g → ¬ (· = b1) g := fun g e hx => Nat.not_lt_of_le ((lowo hbe21) g e) ((fun k (hk : k = b1) => Nat.lt_of_le_of_lt (Nat.le_of_eq hk) hb16.lt) _ hx)
        have ap34 : ¬ (fun k => blk (some ⟨b17, 0, none⟩) = some k) b1 := fun hx => Nat.not_lt_of_le ((lowo hbe21) _ hx) ((fun k (hk : k = b1) => Nat.lt_of_le_of_lt (Nat.le_of_eq hk) hb16.lt) _ rfl)
        have hk35 := hb16.grown hg19 nb
        exact ⟨(some ⟨b17, 0, none⟩), 2, hB32, (Nat.le_refl _), ho23, hl24, ap33, ap34, hk35, hd, hs, ⟨q0, q2, q4, trivial⟩⟩
      · rintro s30 r2 h2 hR2 a w31 ⟨a38, c39, hB36, hz37, ho40, hl41, ap42, ap43, hb44, hd, hs, hok⟩
        refine (?_ : Run Try.prog _ 38 _ .normal [(0, (.int .i64 n_0)), (2, (.pointer (some ⟨b1, 0, none⟩))), (4, (.slice a38 (List.length s30) c39))] w31) a hd hs hok
        clear hd hs hok
        clear hl24 ho23 hz22 hbe21 hb20 hg19 hb16 hB14
        refine gv_seq ?_
        refine gv_seq ?_
        refine gv_region ?_
        refine bindE h2 ?_; clear h2; intro j45 h3 h2
        refine gv_cut_ops (J := fun a w46 => Below w0.heap.size w0 w46 ∧ w31.heap.size ≤ w46.heap.size ∧ Box w46 b1 24 #[(.bool false), (.slice none (List.length ([] : List Int)) 0)] ∧ Own (iE .u32) 76 w46 (fun _ => False) a38 c39 s30 ∧ a.defers = [] ∧ a.tmps.size = 38 ∧ Ok [(0, (.int .i64 n_0)), (2, (.pointer (some ⟨b1, 0, none⟩))), (4, (.slice a38 (List.length s30) c39)), (28, (.bool j45))] a.tmps) ?_ ?_
        · skip
          refine gv_pure 4 [0, 2, 4, 20] (σ' := [(0, (.int .i64 n_0)), (2, (.pointer (some ⟨b1, 0, none⟩))), (4, (.slice a38 (List.length s30) c39)), (20, (.bool (decide (((List.length s30 : Nat) : Int) > 0))))]) (by kernel_rfl) ?_
          refine gv_split (s := 20) (g := (decide (((List.length s30 : Nat) : Int) > 0))) (by rfl) (fun hc47 => ?_) (fun hc47 => ?_)
          · skip
            replace h3 := ite_t hc47 h3
            refine gv_pure 4 [0, 2, 4, 20, 21, 24] (σ' := [(0, (.int .i64 n_0)), (2, (.pointer (some ⟨b1, 0, none⟩))), (4, (.slice a38 (List.length s30) c39)), (20, (.bool true)), (21, (.slice a38 (List.length s30) c39)), (24, (.int .i64 (IntKind.i64.wrap (((List.length s30 : Nat) : Int) - 1))))]) (by kernel_rfl) ?_
            refine bindE h3 ?_; clear h3; intro x48 hx49 h3
            refine gv_idxaddr (t := 22) (e := 76) (a := a38) (len := List.length s30) (cap := c39) (kk := .i64) (i := (IntKind.i64.wrap (((List.length s30 : Nat) : Int) - 1))) (sz := 1) [0, 2, 4, 20, 25] (σ' := [(0, (.int .i64 n_0)), (2, (.pointer (some ⟨b1, 0, none⟩))), (4, (.slice a38 (List.length s30) c39)), (20, (.bool true)), (25, (.pointer (some (elemAddr a38 (((IntKind.i64.wrap (((List.length s30 : Nat) : Int) - 1))).toNat * 1)))))]) (fun e => by cases e) (by rfl) (by rfl) (by rfl) (by kernel_rfl) (by kernel_rfl) Try.underlying22 (by kernel_rfl) ((ho40.rd (Y := fun k => blk a38 = some k) (fun _ h => h.elim) (fun g e => e)).has hx49) (idx_spec hx49).1 (idx_spec hx49).2.1 (by kernel_rfl) ?_
            refine gv_load (t := 76) (A := (elemAddr a38 (((IntKind.i64.wrap (((List.length s30 : Nat) : Int) - 1))).toNat * 1))) (.int .u32 x48) [0, 2, 4, 20, 26] (σ' := [(0, (.int .i64 n_0)), (2, (.pointer (some ⟨b1, 0, none⟩))), (4, (.slice a38 (List.length s30) c39)), (20, (.bool true)), (26, (.int .u32 x48))]) (fun e => by cases e) (by rfl) (by rfl) (by rfl) (by kernel_rfl) (by kernel_rfl) (by kernel_rfl) (inw0 ((ho40.rd (Y := fun k => blk a38 = some k) (fun _ h => h.elim) (fun g e => e)).cell hx49)) (by kernel_rfl) ?_
            refine gv_pure 2 [0, 2, 4, 28] (σ' := [(0, (.int .i64 n_0)), (2, (.pointer (some ⟨b1, 0, none⟩))), (4, (.slice a38 (List.length s30) c39)), (28, (.bool (x48 == 0)))]) (by kernel_rfl) ?_
            refine gv_nil ?_
            have e := Option.some.inj h3; subst e
            refine gv_goal fun a hd hs hok => ?_
            obtain ⟨q0, q2, q4, q28, _⟩ := hok
            exact ⟨hB36, (Nat.le_refl _), hb44, ho40, hd, hs, ⟨q0, q2, q4, q28, trivial⟩⟩
          · skip
            replace h3 := ite_f hc47 h3
            refine gv_pure 8 [0, 2, 4, 28] (σ' := [(0, (.int .i64 n_0)), (2, (.pointer (some ⟨b1, 0, none⟩))), (4, (.slice a38 (List.length s30) c39)), (28, (.bool false))]) (by kernel_rfl) ?_
            refine gv_nil ?_
            have e := Option.some.inj h3; subst e
            refine gv_goal fun a hd hs hok => ?_
            obtain ⟨q0, q2, q4, q28, _⟩ := hok
            exact ⟨hB36, (Nat.le_refl _), hb44, ho40, hd, hs, ⟨q0, q2, q4, q28, trivial⟩⟩
        · rintro a w46 ⟨hB50, hz51, hb52, hk53, hd, hs, hok⟩
          refine (?_ : Run Try.prog _ 38 _ .normal [(0, (.int .i64 n_0)), (2, (.pointer (some ⟨b1, 0, none⟩))), (4, (.slice a38 (List.length s30) c39)), (28, (.bool j45))] w46) a hd hs hok
          clear hd hs hok
          have hz54 : w18.heap.size ≤ w46.heap.size := (Nat.le_trans hz37 hz51)
          clear hz51 hb44 ho40 hz37 hB36
          refine gv_cond (b := j45) (by rfl) (fun hc55 => ?_) (fun hc55 => ?_)
          · replace h2 := ite_t hc55 h2
            refine gv_skip ?_
            refine gv_block ?_
            refine gv_region ?_
            refine gv_pure 4 [0, 2, 29, 32] (σ' := [(0, (.int .i64 n_0)), (2, (.pointer (some ⟨b1, 0, none⟩))), (29, (.slice a38 (List.length s30) c39)), (32, (.int .i64 (IntKind.i64.wrap (((List.length s30 : Nat) : Int) - 1))))]) (by kernel_rfl) ?_
            refine bindE h2 ?_; clear h2; intro x56 hx57 h2
            refine gv_pop (iE .u32) (t := 22) (e := 76) (xs := s30) (a := a38) (cap := c39) (lo := none) (hi := (some (.int .i64 (IntKind.i64.wrap (((List.length s30 : Nat) : Int) - 1))))) (IntKind.i64.wrap (((List.length s30 : Nat) : Int) - 1)) x56 (fun e => by cases e) (by rfl) (by rfl) (by rfl) (by kernel_rfl) (by kernel_rfl) Try.underlying22 (by kernel_rfl) (.inl ⟨rfl, rfl⟩) (.inr ⟨_, rfl⟩) hx57 (hk53.rd (Y := fun k => blk a38 = some k) (fun _ h => h.elim) (fun g e => e)).1 ?_
            have ho58 := hk53.pop hx57
            refine gv_pure 1 [0, 2, 4] (σ' := [(0, (.int .i64 n_0)), (2, (.pointer (some ⟨b1, 0, none⟩))), (4, (.slice a38 (List.length x56) c39))]) (by kernel_rfl) ?_
            refine gv_nil ?_
            refine gv_blk ?_
            have e := Option.some.inj h2; subst e
            refine gv_goal fun a hd hs hok => ?_
            obtain ⟨q0, q2, q4, _⟩ := hok
            have hz59 : w18.heap.size ≤ w46.heap.size := hz54
            exact ⟨x56, rfl, a38, c39, hB50, hz59, ho58, hl41, ap42, ap43, hb52, hd, hs, ⟨q0, q2, q4, trivial⟩⟩
          · replace h2 := ite_f hc55 h2
            refine gv_cexit ?_
            refine gv_exit rfl ?_
            have e := Option.some.inj h2; subst e
            replace h1 := congrArg some (hR2 _ rfl)
            have e := Option.some.inj h1; subst e
            refine gv_goal fun a hd hs hok => ?_
            obtain ⟨q0, q2, q4, q28, _⟩ := hok
            have hz60 : w18.heap.size ≤ w46.heap.size := hz54
            exact ⟨a38, c39, hB50, hz60, hk53, hl41, ap42, ap43, hb52, hd, hs, ⟨q0, q2, q4, trivial⟩⟩
    · rintro a w29 ⟨a63, c64, hB61, hz62, ho65, hl66, ap67, ap68, hb69, hd, hs, hok⟩
      refine (?_ : Run Try.prog _ 38 _ .normal [(0, (.int .i64 n_0)), (2, (.pointer (some ⟨b1, 0, none⟩))), (4, (.slice a63 (List.length j28) c64))] w29) a hd hs hok
      clear hd hs hok
      clear hz62 hl24 ho23 hz22 hbe21 hb20 hg19 hb16 hB14
      refine gv_seq ?_
      refine gv_region ?_
      refine gv_pure 4 [2, 37] (σ' := [(2, (.pointer (some ⟨b1, 0, none⟩))), (37, (.agg #[(.bool (decide (n_0 < 0))), (.slice a63 (List.length j28) c64)]))]) (by kernel_rfl) ?_
      refine gv_store (t := 24) (b := b1) (off := 0) (v := (.agg #[(.bool (decide (n_0 < 0))), (.slice a63 (List.length j28) c64)])) (t' := 24) (cs := #[(.bool false), (.slice none (List.length ([] : List Int)) 0)]) #[(.bool (decide (n_0 < 0))), (.slice a63 (List.length j28) c64)] (by decide) (by rfl) (by rfl) (by kernel_rfl) (by kernel_rfl) (by kernel_rfl) (by intro u hu; simp [Value.cells] at hu; rcases hu with rfl | rfl <;> rfl) (show 0 + 2 ≤ 2 by decide) (by rfl) hb69 ?_
      intro w70 hg71 hb72 hz73
      refine ⟨(fun e => by cases e), ?_⟩
      refine gv_sub [2] (σ' := [(2, (.pointer (some ⟨b1, 0, none⟩)))]) (by kernel_rfl) ?_
      refine gv_nil ?_
      refine gv_cret ?_
      have e := Option.some.inj h0; subst e
      refine gv_ret (gv_done [(.agg #[(.bool (decide (n_0 < 0))), (.slice a63 (List.length j28) c64)])] rfl ⟨⟨_, rfl, run_loadVar_row w70 b1 _ 24 _ _ _ hb72 Try.underlying24 rfl (by kernel_rfl)⟩, trivial⟩ ?_)
      have hlo74 : w0.heap.size ≤ b1 := lob hbe5 hB0.size
      have hB75 := below_grown hB61 hg71 hB61.size (rowlo hlo74)
      have hk76 := ho65.grown hg71 (fun _ h => h.elim) (rdnn (rowne ap68))
      exact ⟨grown_of_below hB75, a63, c64, rfl, hk76, hl66⟩

set_option maxHeartbeats 4000000 in
set_option maxRecDepth 100000 in
theorem law4_whole_ok (fuel : Nat) (n_0 : Int) (w0 : World)  (r0 : (Int × (Bool × (List Int)) × (Bool × (List Int)) × ByteArray × Int)) (h0 : law4_whole fuel n_0 = some r0) :
    Calls Try.prog 41 ([(.int .i64 n_0)] : List Value).toArray w0 (Ret fun v w' => w0.grownBy w' none ∧ ∃ (a0_0r : Option Addr) (c0_0r : Nat), ∃ (a0_1r : Option Addr) (c0_1r : Nat), v = tup [(.agg #[(.int .i64 r0.1), (.bool r0.2.1.1), (.slice a0_0r (List.length r0.2.1.2) c0_0r), (.bool r0.2.2.1.1), (.slice a0_1r (List.length r0.2.2.1.2) c0_1r), (.string r0.2.2.2.1), (.int .i64 r0.2.2.2.2)])] ∧ Own (iE .u32) 76 w' (fun _ => False) a0_0r c0_0r r0.2.1.2 ∧ (∀ g, blk a0_0r = some g → w0.heap.size ≤ g) ∧ Own (iE .u32) 76 w' (fun _ => False) a0_1r c0_1r r0.2.2.1.2 ∧ (∀ g, blk a0_1r = some g → w0.heap.size ≤ g) ∧ (∀ g, blk a0_0r = some g → blk a0_1r ≠ some g)) := by
  have hB0 : Below w0.heap.size w0 w0 := Below.refl _ _
  unfold law4_whole at h0
  refine calls_run Try.func41 rfl Try.ntmps41 (by kernel_rfl) ?_
  refine gv_sub [0] (σ' := [(0, (.int .i64 n_0))]) (by kernel_rfl) ?_
  refine gv_seq ?_
  refine gv_region ?_
  refine gv_new (fun b => .pointer (some ⟨b, 0, none⟩)) #[(.int .i64 0), (.bool false), (.slice none (List.length ([] : List Int)) 0), (.bool false), (.slice none (List.length ([] : List Int)) 0), (.string (strOf [])), (.int .i64 0)] 84 (by decide) (by rfl) (by rfl) (by kernel_rfl) (by kernel_rfl) ?_
  intro b1 w2 hg3 hb4 hbe5 hz6
  refine ⟨(fun e => by cases e), ?_⟩
  refine gv_sub [0, 2] (σ' := [(0, (.int .i64 n_0)), (2, (.pointer (some ⟨b1, 0, none⟩)))]) (by kernel_rfl) ?_
  refine gv_nil ?_
  refine gv_seq ?_
  refine gv_region ?_
  refine gv_pure 1 [2, 3] (σ' := [(2, (.pointer (some ⟨b1, 0, none⟩))), (3, (.int .i64 n_0))]) (by kernel_rfl) ?_
  refine bindE h0 ?_; clear h0; intro r7 hr8 h0
  refine gv_call (f := 47) (vs := [(.int .i64 n_0)]) (cap := []) _ (by decide) (by rfl) (by rfl) rfl (by rfl) (by rfl) enters47 (integer_Of_ok fuel n_0 w2  r7 hr8) ?_
  rintro v11 w9 ⟨hg10, a12, c13, rfl, ho14, hl15⟩
  refine ⟨(fun e => by cases e), ?_⟩
  have hB17 := below_grown hB0 hg3 hB0.size nb
  have hl16 : ∀ g, blk a12 = some g → w0.heap.size ≤ g := fun g e => Nat.le_trans hB17.size (hl15 g e)
  refine gv_pure 1 [2, 5] (σ' := [(2, (.pointer (some ⟨b1, 0, none⟩))), (5, (.agg #[(.int .i64 2), (.bool r7.1), (.slice a12 (List.length r7.2) c13), (.bool false), (.slice none (List.length ([] : List Int)) 0), (.string (strOf [])), (.int .i64 0)]))]) (by kernel_rfl) ?_
  have hk22 := hb4.grown hg10 nb
  refine gv_store (t := 84) (b := b1) (off := 0) (v := (.agg #[(.int .i64 2), (.bool r7.1), (.slice a12 (List.length r7.2) c13), (.bool false), (.slice none (List.length ([] : List Int)) 0), (.string (strOf [])), (.int .i64 0)])) (t' := 84) (cs := #[(.int .i64 0), (.bool false), (.slice none (List.length ([] : List Int)) 0), (.bool false), (.slice none (List.length ([] : List Int)) 0), (.string (strOf [])), (.int .i64 0)]) #[(.int .i64 2), (.bool r7.1), (.slice a12 (List.length r7.2) c13), (.bool false), (.slice none (List.length ([] : List Int)) 0), (.string (strOf [])), (.int .i64 0)] (by decide) (by rfl) (by rfl) (by kernel_rfl) (by kernel_rfl) (by kernel_rfl) (by intro u hu; simp [Value.cells] at hu; rcases hu with rfl | rfl | rfl | rfl | rfl | rfl | rfl <;> rfl) (show 0 + 7 ≤ 7 by decide) (by rfl) hk22 ?_
  intro w18 hg19 hb20 hz21
  refine ⟨(fun e => by cases e), ?_⟩
  refine gv_sub [2] (σ' := [(2, (.pointer (some ⟨b1, 0, none⟩)))]) (by kernel_rfl) ?_
  refine gv_nil ?_
  refine gv_cret ?_
  have e := Option.some.inj h0; subst e
  refine gv_ret (gv_done [(.agg #[(.int .i64 2), (.bool r7.1), (.slice a12 (List.length r7.2) c13), (.bool false), (.slice none (List.length ([] : List Int)) 0), (.string (strOf [])), (.int .i64 0)])] rfl ⟨⟨_, rfl, run_loadVar_row w18 b1 _ 84 _ _ _ hb20 Try.underlying84 rfl (by kernel_rfl)⟩, trivial⟩ ?_)
  have hB23 := below_grown hB17 hg10 hB17.size nb
  have hlo24 : w0.heap.size ≤ b1 := lob hbe5 hB0.size
  have hB25 := below_grown hB23 hg19 hB23.size (rowlo hlo24)
  have ap26 : ¬ (fun k => blk a12 = some k) b1 := fun hx => Nat.not_lt_of_le ((show ∀ k, blk a12 = some k → w2.heap.size ≤ k from hl15) _ hx) ((fun k (hk : k = b1) => Nat.lt_of_le_of_lt (Nat.le_of_eq hk) hb4.lt) _ rfl)
  have hk27 := ho14.grown hg19 (fun _ h => h.elim) (rdnn (rowne ap26))
  exact ⟨grown_of_below hB25, a12, c13, none, 0, rfl, hk27, hl16, (Own.nil (iE .u32) 76 w18 (fun _ => False)), (fun _ h => by cases h), (fun _ _ h => by cases h)⟩

set_option maxHeartbeats 4000000 in
set_option maxRecDepth 100000 in
theorem integer_at_ok (fuel : Nat) (code_0 : Int) (index_1 : Int) (w0 : World)  (r0 : (Int × Int)) (h0 : integer_at fuel code_0 index_1 = some r0) :
    Calls Try.prog 69 ([(.int .i64 code_0), (.int .i64 index_1)] : List Value).toArray w0 (Ret fun v w' => w0.grownBy w' none ∧ v = tup [(.agg #[(.int .i64 r0.1), (.int .i64 r0.2)])]) := by
  have hB0 : Below w0.heap.size w0 w0 := Below.refl _ _
  unfold integer_at at h0
  refine calls_run Try.func69 rfl Try.ntmps69 (by kernel_rfl) ?_
  refine gv_sub [0, 1] (σ' := [(0, (.int .i64 code_0)), (1, (.int .i64 index_1))]) (by kernel_rfl) ?_
  refine gv_seq ?_
  refine gv_region ?_
  refine gv_new (fun b => .pointer (some ⟨b, 0, none⟩)) #[(.int .i64 0), (.int .i64 0)] 29 (by decide) (by rfl) (by rfl) (by kernel_rfl) (by kernel_rfl) ?_
  intro b1 w2 hg3 hb4 hbe5 hz6
  refine ⟨(fun e => by cases e), ?_⟩
  refine gv_sub [0, 1, 4] (σ' := [(0, (.int .i64 code_0)), (1, (.int .i64 index_1)), (4, (.pointer (some ⟨b1, 0, none⟩)))]) (by kernel_rfl) ?_
  refine gv_nil ?_
  refine gv_seq ?_
  refine gv_region ?_
  refine gv_pure 3 [4, 7] (σ' := [(4, (.pointer (some ⟨b1, 0, none⟩))), (7, (.agg #[(.int .i64 code_0), (.int .i64 index_1)]))]) (by kernel_rfl) ?_
  refine gv_store (t := 29) (b := b1) (off := 0) (v := (.agg #[(.int .i64 code_0), (.int .i64 index_1)])) (t' := 29) (cs := #[(.int .i64 0), (.int .i64 0)]) #[(.int .i64 code_0), (.int .i64 index_1)] (by decide) (by rfl) (by rfl) (by kernel_rfl) (by kernel_rfl) (by kernel_rfl) (by intro u hu; simp [Value.cells] at hu; rcases hu with rfl | rfl <;> rfl) (show 0 + 2 ≤ 2 by decide) (by rfl) hb4 ?_
  intro w7 hg8 hb9 hz10
  refine ⟨(fun e => by cases e), ?_⟩
  refine gv_sub [4] (σ' := [(4, (.pointer (some ⟨b1, 0, none⟩)))]) (by kernel_rfl) ?_
  refine gv_nil ?_
  refine gv_cret ?_
  have e := Option.some.inj h0; subst e
  refine gv_ret (gv_done [(.agg #[(.int .i64 code_0), (.int .i64 index_1)])] rfl ⟨⟨_, rfl, run_loadVar_row w7 b1 _ 29 _ _ _ hb9 Try.underlying29 rfl (by kernel_rfl)⟩, trivial⟩ ?_)
  have hB11 := below_grown hB0 hg3 hB0.size nb
  have hlo12 : w0.heap.size ≤ b1 := lob hbe5 hB0.size
  have hB13 := below_grown hB11 hg8 hB11.size (rowlo hlo12)
  exact ⟨grown_of_below hB13, rfl⟩

set_option maxHeartbeats 4000000 in
set_option maxRecDepth 100000 in
theorem integer_check_ok (fuel : Nat) (pa0_0 : Option Addr) (pc0_0 : Nat) (l_0 : (List (Bool × (List Int)))) (w0 : World) (X0 : Nat → Prop) (hX0 : ∀ k, X0 k → k < w0.heap.size) (hpa0_0 : Rd (prE tE (slE (iE .u32))) w0 X0 pa0_0 pc0_0 l_0) (r0 : (Int × Int)) (h0 : integer_check fuel l_0 = some r0) :
    Calls Try.prog 62 ([(.slice pa0_0 (List.length l_0) pc0_0)] : List Value).toArray w0 (Ret fun v w' => w0.grownBy w' none ∧ v = tup [(.agg #[(.int .i64 r0.1), (.int .i64 r0.2)])]) := by
  have hB0 : Below w0.heap.size w0 w0 := Below.refl _ _
  unfold integer_check at h0
  refine calls_run Try.func62 rfl Try.ntmps62 (by kernel_rfl) ?_
  refine gv_sub [0] (σ' := [(0, (.slice pa0_0 (List.length l_0) pc0_0))]) (by kernel_rfl) ?_
  refine gv_seq ?_
  refine gv_region ?_
  refine gv_new (fun b => .pointer (some ⟨b, 0, none⟩)) #[(.int .i64 0), (.int .i64 0)] 29 (by decide) (by rfl) (by rfl) (by kernel_rfl) (by kernel_rfl) ?_
  intro b1 w2 hg3 hb4 hbe5 hz6
  refine ⟨(fun e => by cases e), ?_⟩
  refine gv_sub [0, 2] (σ' := [(0, (.slice pa0_0 (List.length l_0) pc0_0)), (2, (.pointer (some ⟨b1, 0, none⟩)))]) (by kernel_rfl) ?_
  refine gv_nil ?_
  refine gv_seq ?_
  refine gv_seq ?_
  refine gv_region ?_
  refine gv_pure 3 [2, 5, 6, 7] (σ' := [(2, (.pointer (some ⟨b1, 0, none⟩))), (5, (.slice pa0_0 (List.length l_0) pc0_0)), (6, (.int .i64 ((List.length l_0 : Nat) : Int))), (7, (.int .i64 0))]) (by kernel_rfl) ?_
  refine gv_nil ?_
  refine bindE h0 ?_; clear h0; intro j7 h1 h0
  refine gv_cut_code (J := fun a w9 => ∃ s8 : (Int × Int), j7 = .inl s8 ∧ Below w0.heap.size w0 w9 ∧ w2.heap.size ≤ w9.heap.size ∧ Box w9 b1 29 #[(.int .i64 s8.1), (.int .i64 s8.2)] ∧ a.defers = [] ∧ a.tmps.size = 20 ∧ Ok [(2, (.pointer (some ⟨b1, 0, none⟩)))] a.tmps) ?_ ?_
  · skip
    refine gv_block ?_
    refine gv_loop (A := fun (s10 : (Int × (Int × Int))) a w11 => Below w0.heap.size w0 w11 ∧ w2.heap.size ≤ w11.heap.size ∧ Box w11 b1 29 #[(.int .i64 s10.2.1), (.int .i64 s10.2.2)] ∧ a.defers = [] ∧ a.tmps.size = 20 ∧ Ok [(2, (.pointer (some ⟨b1, 0, none⟩))), (5, (.slice pa0_0 (List.length l_0) pc0_0)), (6, (.int .i64 ((List.length l_0 : Nat) : Int))), (7, (.int .i64 s10.1))] a.tmps) h1 ?_ ?_
    · intro a hd hs hok
      obtain ⟨q2, q5, q6, q7, _⟩ := hok
      have hB12 := below_grown hB0 hg3 hB0.size nb
      exact ⟨hB12, (Nat.le_refl _), hb4, hd, hs, ⟨q2, q5, q6, q7, trivial⟩⟩
    · rintro s10 r2 h2 hR2 a w11 ⟨hB13, hz14, hb15, hd, hs, hok⟩
      refine (?_ : Run Try.prog _ 20 _ .normal [(2, (.pointer (some ⟨b1, 0, none⟩))), (5, (.slice pa0_0 (List.length l_0) pc0_0)), (6, (.int .i64 ((List.length l_0 : Nat) : Int))), (7, (.int .i64 s10.1))] w11) a hd hs hok
      clear hd hs hok
      refine gv_seq ?_
      refine gv_region ?_
      refine gv_pure 1 [2, 5, 6, 7, 8] (σ' := [(2, (.pointer (some ⟨b1, 0, none⟩))), (5, (.slice pa0_0 (List.length l_0) pc0_0)), (6, (.int .i64 ((List.length l_0 : Nat) : Int))), (7, (.int .i64 s10.1)), (8, (.bool (decide (s10.1 < ((List.length l_0 : Nat) : Int)))))]) (by kernel_rfl) ?_
      refine gv_nil ?_
      refine gv_seq ?_
      refine gv_cond (b := (decide (s10.1 < ((List.length l_0 : Nat) : Int)))) (by rfl) (fun hc16 => ?_) (fun hc16 => ?_)
      · replace h2 := ite_t hc16 h2
        refine gv_skip ?_
        refine gv_seq ?_
        refine gv_block ?_
        refine gv_seq ?_
        refine gv_region ?_
        refine gv_pure 1 [2, 5, 6, 7, 9] (σ' := [(2, (.pointer (some ⟨b1, 0, none⟩))), (5, (.slice pa0_0 (List.length l_0) pc0_0)), (6, (.int .i64 ((List.length l_0 : Nat) : Int))), (7, (.int .i64 s10.1)), (9, (.int .i64 s10.1))]) (by kernel_rfl) ?_
        refine bindE h2 ?_; clear h2; intro x17 hx18 h2
        refine gv_idxaddr (t := 102) (e := 24) (a := pa0_0) (len := List.length l_0) (cap := pc0_0) (kk := .i64) (i := s10.1) (sz := 2) [2, 5, 6, 7, 9, 10] (σ' := [(2, (.pointer (some ⟨b1, 0, none⟩))), (5, (.slice pa0_0 (List.length l_0) pc0_0)), (6, (.int .i64 ((List.length l_0 : Nat) : Int))), (7, (.int .i64 s10.1)), (9, (.int .i64 s10.1)), (10, (.pointer (some (elemAddr pa0_0 ((s10.1).toNat * 2)))))]) (fun e => by cases e) (by rfl) (by rfl) (by rfl) (by kernel_rfl) (by kernel_rfl) Try.underlying102 (by kernel_rfl) ((hpa0_0.below hB13 hX0).has hx18) (idx_spec hx18).1 (idx_spec hx18).2.1 (by kernel_rfl) ?_
        obtain ⟨_, ⟨_, _, rfl, rfl, ⟨a20, c21, rfl, hr22⟩⟩, hc19⟩ := hpa0_0.cellsK hx18
        refine gv_loadAgg (t := 24) (A := (elemAddr pa0_0 ((s10.1).toNat * 2))) #[(.bool x17.1), (.slice a20 (List.length x17.2) c21)] [2, 5, 6, 7, 9, 11] (σ' := [(2, (.pointer (some ⟨b1, 0, none⟩))), (5, (.slice pa0_0 (List.length l_0) pc0_0)), (6, (.int .i64 ((List.length l_0 : Nat) : Int))), (7, (.int .i64 s10.1)), (9, (.int .i64 s10.1)), (11, (.agg #[(.bool x17.1), (.slice a20 (List.length x17.2) c21)]))]) (fun e => by cases e) (by rfl) (by rfl) (by rfl) (by kernel_rfl) (by kernel_rfl) (by kernel_rfl) (by kernel_rfl) (inw0 (hc19 w11 (fun k hk => hB13.block k (hX0 k hk)))) (by kernel_rfl) ?_
        refine gv_new (fun b => .pointer (some ⟨b, 0, none⟩)) #[(.bool false), (.slice none (List.length ([] : List Int)) 0)] 24 (by decide) (by rfl) (by rfl) (by kernel_rfl) (by kernel_rfl) ?_
        intro b23 w24 hg25 hb26 hbe27 hz28
        refine ⟨(fun e => by cases e), ?_⟩
        refine gv_pure 1 [2, 3, 4, 5, 6, 7, 11] (σ' := [(2, (.pointer (some ⟨b1, 0, none⟩))), (3, (.int .i64 s10.1)), (4, (.pointer (some ⟨b23, 0, none⟩))), (5, (.slice pa0_0 (List.length l_0) pc0_0)), (6, (.int .i64 ((List.length l_0 : Nat) : Int))), (7, (.int .i64 s10.1)), (11, (.agg #[(.bool x17.1), (.slice a20 (List.length x17.2) c21)]))]) (by kernel_rfl) ?_
        refine gv_store (t := 24) (b := b23) (off := 0) (v := (.agg #[(.bool x17.1), (.slice a20 (List.length x17.2) c21)])) (t' := 24) (cs := #[(.bool false), (.slice none (List.length ([] : List Int)) 0)]) #[(.bool x17.1), (.slice a20 (List.length x17.2) c21)] (by decide) (by rfl) (by rfl) (by kernel_rfl) (by kernel_rfl) (by kernel_rfl) (by intro u hu; simp [Value.cells] at hu; rcases hu with rfl | rfl <;> rfl) (show 0 + 2 ≤ 2 by decide) (by rfl) hb26 ?_
        intro w29 hg30 hb31 hz32
        refine ⟨(fun e => by cases e), ?_⟩
        refine gv_sub [2, 3, 4, 5, 6, 7] (σ' := [(2, (.pointer (some ⟨b1, 0, none⟩))), (3, (.int .i64 s10.1)), (4, (.pointer (some ⟨b23, 0, none⟩))), (5, (.slice pa0_0 (List.length l_0) pc0_0)), (6, (.int .i64 ((List.length l_0 : Nat) : Int))), (7, (.int .i64 s10.1))]) (by kernel_rfl) ?_
        refine gv_nil ?_
        refine gv_seq ?_
        refine gv_region ?_
        refine gv_loadBox (t := 24) (b := b23) (t' := 24) (fr := (0, 0)) #[(.bool x17.1), (.slice a20 (List.length x17.2) c21)] [2, 3, 5, 6, 7, 12] (σ' := [(2, (.pointer (some ⟨b1, 0, none⟩))), (3, (.int .i64 s10.1)), (5, (.slice pa0_0 (List.length l_0) pc0_0)), (6, (.int .i64 ((List.length l_0 : Nat) : Int))), (7, (.int .i64 s10.1)), (12, (.agg #[(.bool x17.1), (.slice a20 (List.length x17.2) c21)]))]) (fun e => by cases e) (by rfl) (by rfl) (by rfl) (by kernel_rfl) (by kernel_rfl) (by kernel_rfl) (by kernel_rfl) (inw0 hb31) (by kernel_rfl) ?_
        refine bindE h2 ?_; clear h2; intro r33 hr34 h2
        have hB35 := below_grown hB13 hg25 hB13.size nb
        have hlo36 : w0.heap.size ≤ b23 := lob hbe27 hB13.size
        have hB37 := below_grown hB35 hg30 hB35.size (rowlo hlo36)
        refine gv_call (f := 36) (vs := [(.agg #[(.bool x17.1), (.slice a20 (List.length x17.2) c21)])]) (cap := []) _ (by decide) (by rfl) (by rfl) rfl (by rfl) (by rfl) enters36 (integer_Valid_ok fuel a20 c21 (x17.1, x17.2) w29 (fun k => X0 k) (fun k hk => (fun k (hk : X0 k) => Nat.lt_of_lt_of_le (hX0 k hk) hB37.size) k hk) ((hr22.below hB37 hX0).wide (fun k hk => hk)) r33 hr34) ?_
        rintro v40 w38 ⟨hg39, rfl⟩
        refine ⟨(fun e => by cases e), ?_⟩
        refine gv_pure 1 [2, 3, 5, 6, 7, 14] (σ' := [(2, (.pointer (some ⟨b1, 0, none⟩))), (3, (.int .i64 s10.1)), (5, (.slice pa0_0 (List.length l_0) pc0_0)), (6, (.int .i64 ((List.length l_0 : Nat) : Int))), (7, (.int .i64 s10.1)), (14, (.bool (!r33)))]) (by kernel_rfl) ?_
        refine gv_nil ?_
        refine gv_cond (b := (!r33)) (by rfl) (fun hc41 => ?_) (fun hc41 => ?_)
        · replace h2 := ite_t hc41 h2
          refine gv_seq ?_
          refine gv_region ?_
          refine gv_pure 2 [2, 16] (σ' := [(2, (.pointer (some ⟨b1, 0, none⟩))), (16, (.int .i64 (IntKind.i64.wrap ((-1) - s10.1))))]) (by kernel_rfl) ?_
          refine bindE h2 ?_; clear h2; intro r42 hr43 h2
          refine gv_call (f := 69) (vs := [(.int .i64 6), (.int .i64 (IntKind.i64.wrap ((-1) - s10.1)))]) (cap := []) _ (by decide) (by rfl) (by rfl) rfl (by rfl) (by rfl) enters69 (integer_at_ok fuel 6 (IntKind.i64.wrap ((-1) - s10.1)) w38  r42 hr43) ?_
          rintro v46 w44 ⟨hg45, rfl⟩
          refine ⟨(fun e => by cases e), ?_⟩
          have ap51 : ¬ (· = b1) b23 := fun hx => Nat.not_lt_of_le ((lowb hbe27) _ rfl) ((fun k (hk : k = b1) => Nat.lt_of_le_of_lt (Nat.le_of_eq hk) hb15.lt) _ hx)
          have hg52 := (grown_trans hg39 hg45)
          have hk53 := ((hb15.grown hg25 nb).grown hg30 (rowne ap51)).grown hg52 nb
          refine gv_sub [2, 17] (σ' := [(2, (.pointer (some ⟨b1, 0, none⟩))), (17, (.agg #[(.int .i64 r42.1), (.int .i64 r42.2)]))]) (by kernel_rfl) ?_
          refine gv_store (t := 29) (b := b1) (off := 0) (v := (.agg #[(.int .i64 r42.1), (.int .i64 r42.2)])) (t' := 29) (cs := #[(.int .i64 s10.2.1), (.int .i64 s10.2.2)]) #[(.int .i64 r42.1), (.int .i64 r42.2)] (by decide) (by rfl) (by rfl) (by kernel_rfl) (by kernel_rfl) (by kernel_rfl) (by intro u hu; simp [Value.cells] at hu; rcases hu with rfl | rfl <;> rfl) (show 0 + 2 ≤ 2 by decide) (by rfl) hk53 ?_
          intro w47 hg48 hb49 hz50
          refine ⟨(fun e => by cases e), ?_⟩
          refine gv_sub [2] (σ' := [(2, (.pointer (some ⟨b1, 0, none⟩)))]) (by kernel_rfl) ?_
          refine gv_nil ?_
          refine gv_cret ?_
          have e := Option.some.inj h2; subst e
          replace h1 := congrArg some (hR2 _ rfl)
          have e := Option.some.inj h1; subst e
          replace h0 := cont_inr h0
          have e := Option.some.inj h0; subst e
          refine gv_ret (gv_done [(.agg #[(.int .i64 r42.1), (.int .i64 r42.2)])] rfl ⟨⟨_, rfl, run_loadVar_row w47 b1 _ 29 _ _ _ hb49 Try.underlying29 rfl (by kernel_rfl)⟩, trivial⟩ ?_)
          have hB54 := below_grown hB37 hg52 hB37.size nb
          have hlo55 : w0.heap.size ≤ b1 := lob hbe5 hB0.size
          have hB56 := below_grown hB54 hg48 hB54.size (rowlo hlo55)
          exact ⟨grown_of_below hB56, rfl⟩
        · replace h2 := ite_f hc41 h2
          refine gv_skip ?_
          refine gv_blk ?_
          refine gv_region ?_
          refine gv_pure 2 [2, 5, 6, 7] (σ' := [(2, (.pointer (some ⟨b1, 0, none⟩))), (5, (.slice pa0_0 (List.length l_0) pc0_0)), (6, (.int .i64 ((List.length l_0 : Nat) : Int))), (7, (.int .i64 (IntKind.i64.wrap (s10.1 + 1))))]) (by kernel_rfl) ?_
          refine gv_nil ?_
          have e := Option.some.inj h2; subst e
          refine gv_goal fun a hd hs hok => ?_
          obtain ⟨q2, q5, q6, q7, _⟩ := hok
          have hB57 := below_grown hB37 hg39 hB37.size nb
          have hz58 : w2.heap.size ≤ w38.heap.size := (Nat.le_trans (Nat.le_trans (Nat.le_trans hz14 hg25.size) hg30.size) hg39.size)
          have ap59 : ¬ (· = b1) b23 := fun hx => Nat.not_lt_of_le ((lowb hbe27) _ rfl) ((fun k (hk : k = b1) => Nat.lt_of_le_of_lt (Nat.le_of_eq hk) hb15.lt) _ hx)
          have hk60 := ((hb15.grown hg25 nb).grown hg30 (rowne ap59)).grown hg39 nb
          exact ⟨((IntKind.i64.wrap (s10.1 + 1)), (s10.2.1, s10.2.2)), rfl, hB57, hz58, hk60, hd, hs, ⟨q2, q5, q6, q7, trivial⟩⟩
      · replace h2 := ite_f hc16 h2
        refine gv_cexit ?_
        refine gv_exit rfl ?_
        have e := Option.some.inj h2; subst e
        replace h1 := congrArg some (hR2 _ rfl)
        have e := Option.some.inj h1; subst e
        refine gv_goal fun a hd hs hok => ?_
        obtain ⟨q2, q5, q6, q7, q8, _⟩ := hok
        have hz61 : w2.heap.size ≤ w11.heap.size := hz14
        exact ⟨(s10.2.1, s10.2.2), rfl, hB13, hz61, hb15, hd, hs, ⟨q2, trivial⟩⟩
  · rintro a w9 ⟨s8, e, hB62, hz63, hb64, hd, hs, hok⟩
    subst e
    refine (?_ : Run Try.prog _ 20 _ .normal [(2, (.pointer (some ⟨b1, 0, none⟩)))] w9) a hd hs hok
    clear hd hs hok
    replace h0 := cont_inl h0
    clear hz63 hz6 hb4 hg3
    refine gv_seq ?_
    refine gv_region ?_
    refine gv_pure 1 [2, 19] (σ' := [(2, (.pointer (some ⟨b1, 0, none⟩))), (19, (.agg #[(.int .i64 0), (.int .i64 0)]))]) (by kernel_rfl) ?_
    refine gv_store (t := 29) (b := b1) (off := 0) (v := (.agg #[(.int .i64 0), (.int .i64 0)])) (t' := 29) (cs := #[(.int .i64 s8.1), (.int .i64 s8.2)]) #[(.int .i64 0), (.int .i64 0)] (by decide) (by rfl) (by rfl) (by kernel_rfl) (by kernel_rfl) (by kernel_rfl) (by intro u hu; simp [Value.cells] at hu; rcases hu with rfl | rfl <;> rfl) (show 0 + 2 ≤ 2 by decide) (by rfl) hb64 ?_
    intro w65 hg66 hb67 hz68
    refine ⟨(fun e => by cases e), ?_⟩
    refine gv_sub [2] (σ' := [(2, (.pointer (some ⟨b1, 0, none⟩)))]) (by kernel_rfl) ?_
    refine gv_nil ?_
    refine gv_cret ?_
    have e := Option.some.inj h0; subst e
    refine gv_ret (gv_done [(.agg #[(.int .i64 0), (.int .i64 0)])] rfl ⟨⟨_, rfl, run_loadVar_row w65 b1 _ 29 _ _ _ hb67 Try.underlying29 rfl (by kernel_rfl)⟩, trivial⟩ ?_)
    have hlo69 : w0.heap.size ≤ b1 := lob hbe5 hB0.size
    have hB70 := below_grown hB62 hg66 hB62.size (rowlo hlo69)
    exact ⟨grown_of_below hB70, rfl⟩

set_option maxHeartbeats 4000000 in
set_option maxRecDepth 100000 in
theorem natural_Valid_ok (fuel : Nat) (pa0_0 : Option Addr) (pc0_0 : Nat) (a_0 : (List Int)) (w0 : World) (X0 : Nat → Prop) (hX0 : ∀ k, X0 k → k < w0.heap.size) (hpa0_0 : Rd (iE .u32) w0 X0 pa0_0 pc0_0 a_0) (r0 : Bool) (h0 : natural_Valid fuel a_0 = some r0) :
    Calls Try.prog 75 ([(.slice pa0_0 (List.length a_0) pc0_0)] : List Value).toArray w0 (Ret fun v w' => w0.grownBy w' none ∧ v = tup [(.bool r0)]) := by
  have hB0 : Below w0.heap.size w0 w0 := Below.refl _ _
  unfold natural_Valid at h0
  refine calls_run Try.func75 rfl Try.ntmps75 (by kernel_rfl) ?_
  refine gv_sub [0] (σ' := [(0, (.slice pa0_0 (List.length a_0) pc0_0))]) (by kernel_rfl) ?_
  refine gv_seq ?_
  refine gv_region ?_
  refine gv_pure 1 [0] (σ' := [(0, (.slice pa0_0 (List.length a_0) pc0_0))]) (by kernel_rfl) ?_
  refine gv_nil ?_
  refine gv_seq ?_
  refine gv_region ?_
  refine bindE h0 ?_; clear h0; intro j1 h1 h0
  refine gv_cut_ops (J := fun a w2 => Below w0.heap.size w0 w2 ∧ w0.heap.size ≤ w2.heap.size ∧ a.defers = [] ∧ a.tmps.size = 20 ∧ Ok [(2, (.bool j1))] a.tmps) ?_ ?_
  · skip
    refine gv_pure 4 [0, 6] (σ' := [(0, (.slice pa0_0 (List.length a_0) pc0_0)), (6, (.bool (decide (((List.length a_0 : Nat) : Int) ≤ 600))))]) (by kernel_rfl) ?_
    refine gv_split (s := 6) (g := (decide (((List.length a_0 : Nat) : Int) ≤ 600))) (by rfl) (fun hc3 => ?_) (fun hc3 => ?_)
    · skip
      replace h1 := ite_t hc3 h1
      refine gv_pure 4 [0, 6, 10] (σ' := [(0, (.slice pa0_0 (List.length a_0) pc0_0)), (6, (.bool true)), (10, (.bool (((List.length a_0 : Nat) : Int) == 0)))]) (by kernel_rfl) ?_
      refine gv_split (s := 10) (g := (((List.length a_0 : Nat) : Int) == 0)) (by rfl) (fun hc4 => ?_) (fun hc4 => ?_)
      · skip
        replace h1 := ite_t hc4 h1
        refine gv_pure 10 [2] (σ' := [(2, (.bool true))]) (by kernel_rfl) ?_
        refine gv_nil ?_
        have e := Option.some.inj h1; subst e
        refine gv_goal fun a hd hs hok => ?_
        obtain ⟨q2, _⟩ := hok
        exact ⟨hB0, (Nat.le_refl _), hd, hs, ⟨q2, trivial⟩⟩
      · skip
        replace h1 := ite_f hc4 h1
        refine gv_pure 4 [6, 10, 11, 14] (σ' := [(6, (.bool true)), (10, (.bool false)), (11, (.slice pa0_0 (List.length a_0) pc0_0)), (14, (.int .i64 (IntKind.i64.wrap (((List.length a_0 : Nat) : Int) - 1))))]) (by kernel_rfl) ?_
        refine bindE h1 ?_; clear h1; intro x5 hx6 h1
        refine gv_idxaddr (t := 22) (e := 76) (a := pa0_0) (len := List.length a_0) (cap := pc0_0) (kk := .i64) (i := (IntKind.i64.wrap (((List.length a_0 : Nat) : Int) - 1))) (sz := 1) [6, 10, 15] (σ' := [(6, (.bool true)), (10, (.bool false)), (15, (.pointer (some (elemAddr pa0_0 (((IntKind.i64.wrap (((List.length a_0 : Nat) : Int) - 1))).toNat * 1)))))]) (fun e => by cases e) (by rfl) (by rfl) (by rfl) (by kernel_rfl) (by kernel_rfl) Try.underlying22 (by kernel_rfl) ((hpa0_0.below hB0 hX0).has hx6) (idx_spec hx6).1 (idx_spec hx6).2.1 (by kernel_rfl) ?_
        refine gv_load (t := 76) (A := (elemAddr pa0_0 (((IntKind.i64.wrap (((List.length a_0 : Nat) : Int) - 1))).toNat * 1))) (.int .u32 x5) [6, 10, 16] (σ' := [(6, (.bool true)), (10, (.bool false)), (16, (.int .u32 x5))]) (fun e => by cases e) (by rfl) (by rfl) (by rfl) (by kernel_rfl) (by kernel_rfl) (by kernel_rfl) (inw0 ((hpa0_0.below hB0 hX0).cell hx6)) (by kernel_rfl) ?_
        refine gv_pure 4 [2] (σ' := [(2, (.bool (x5 != 0)))]) (by kernel_rfl) ?_
        refine gv_nil ?_
        have e := Option.some.inj h1; subst e
        refine gv_goal fun a hd hs hok => ?_
        obtain ⟨q2, _⟩ := hok
        exact ⟨hB0, (Nat.le_refl _), hd, hs, ⟨q2, trivial⟩⟩
    · skip
      replace h1 := ite_f hc3 h1
      refine gv_pure 14 [2] (σ' := [(2, (.bool false))]) (by kernel_rfl) ?_
      refine gv_nil ?_
      have e := Option.some.inj h1; subst e
      refine gv_goal fun a hd hs hok => ?_
      obtain ⟨q2, _⟩ := hok
      exact ⟨hB0, (Nat.le_refl _), hd, hs, ⟨q2, trivial⟩⟩
  · rintro a w2 ⟨hB7, hz8, hd, hs, hok⟩
    refine (?_ : Run Try.prog _ 20 _ .normal [(2, (.bool j1))] w2) a hd hs hok
    clear hd hs hok
    refine gv_cret ?_
    have e := Option.some.inj h0; subst e
    refine gv_ret (gv_done [(.bool j1)] rfl ⟨rfl, trivial⟩ ?_)
    exact ⟨grown_of_below hB7, rfl⟩

set_option maxHeartbeats 4000000 in
set_option maxRecDepth 100000 in
theorem natural_at_ok (fuel : Nat) (code_0 : Int) (index_1 : Int) (w0 : World)  (r0 : (Int × Int)) (h0 : natural_at fuel code_0 index_1 = some r0) :
    Calls Try.prog 76 ([(.int .i64 code_0), (.int .i64 index_1)] : List Value).toArray w0 (Ret fun v w' => w0.grownBy w' none ∧ v = tup [(.agg #[(.int .i64 r0.1), (.int .i64 r0.2)])]) := by
  have hB0 : Below w0.heap.size w0 w0 := Below.refl _ _
  unfold natural_at at h0
  refine calls_run Try.func76 rfl Try.ntmps76 (by kernel_rfl) ?_
  refine gv_sub [0, 1] (σ' := [(0, (.int .i64 code_0)), (1, (.int .i64 index_1))]) (by kernel_rfl) ?_
  refine gv_seq ?_
  refine gv_region ?_
  refine gv_new (fun b => .pointer (some ⟨b, 0, none⟩)) #[(.int .i64 0), (.int .i64 0)] 29 (by decide) (by rfl) (by rfl) (by kernel_rfl) (by kernel_rfl) ?_
  intro b1 w2 hg3 hb4 hbe5 hz6
  refine ⟨(fun e => by cases e), ?_⟩
  refine gv_sub [0, 1, 4] (σ' := [(0, (.int .i64 code_0)), (1, (.int .i64 index_1)), (4, (.pointer (some ⟨b1, 0, none⟩)))]) (by kernel_rfl) ?_
  refine gv_nil ?_
  refine gv_seq ?_
  refine gv_region ?_
  refine gv_pure 3 [4, 7] (σ' := [(4, (.pointer (some ⟨b1, 0, none⟩))), (7, (.agg #[(.int .i64 code_0), (.int .i64 index_1)]))]) (by kernel_rfl) ?_
  refine gv_store (t := 29) (b := b1) (off := 0) (v := (.agg #[(.int .i64 code_0), (.int .i64 index_1)])) (t' := 29) (cs := #[(.int .i64 0), (.int .i64 0)]) #[(.int .i64 code_0), (.int .i64 index_1)] (by decide) (by rfl) (by rfl) (by kernel_rfl) (by kernel_rfl) (by kernel_rfl) (by intro u hu; simp [Value.cells] at hu; rcases hu with rfl | rfl <;> rfl) (show 0 + 2 ≤ 2 by decide) (by rfl) hb4 ?_
  intro w7 hg8 hb9 hz10
  refine ⟨(fun e => by cases e), ?_⟩
  refine gv_sub [4] (σ' := [(4, (.pointer (some ⟨b1, 0, none⟩)))]) (by kernel_rfl) ?_
  refine gv_nil ?_
  refine gv_cret ?_
  have e := Option.some.inj h0; subst e
  refine gv_ret (gv_done [(.agg #[(.int .i64 code_0), (.int .i64 index_1)])] rfl ⟨⟨_, rfl, run_loadVar_row w7 b1 _ 29 _ _ _ hb9 Try.underlying29 rfl (by kernel_rfl)⟩, trivial⟩ ?_)
  have hB11 := below_grown hB0 hg3 hB0.size nb
  have hlo12 : w0.heap.size ≤ b1 := lob hbe5 hB0.size
  have hB13 := below_grown hB11 hg8 hB11.size (rowlo hlo12)
  exact ⟨grown_of_below hB13, rfl⟩

set_option maxHeartbeats 4000000 in
set_option maxRecDepth 100000 in
theorem natural_check_ok (fuel : Nat) (pa0_0 : Option Addr) (pc0_0 : Nat) (a_0 : (List Int)) (pa1_0 : Option Addr) (pc1_0 : Nat) (b_1 : (List Int)) (w0 : World) (X0 : Nat → Prop) (hX0 : ∀ k, X0 k → k < w0.heap.size) (hpa0_0 : Rd (iE .u32) w0 X0 pa0_0 pc0_0 a_0) (hpa1_0 : Rd (iE .u32) w0 X0 pa1_0 pc1_0 b_1) (r0 : (Int × Int)) (h0 : natural_check fuel a_0 b_1 = some r0) :
    Calls Try.prog 70 ([(.slice pa0_0 (List.length a_0) pc0_0), (.slice pa1_0 (List.length b_1) pc1_0)] : List Value).toArray w0 (Ret fun v w' => w0.grownBy w' none ∧ v = tup [(.agg #[(.int .i64 r0.1), (.int .i64 r0.2)])]) := by
  have hB0 : Below w0.heap.size w0 w0 := Below.refl _ _
  unfold natural_check at h0
  refine calls_run Try.func70 rfl Try.ntmps70 (by kernel_rfl) ?_
  refine gv_sub [0, 1] (σ' := [(0, (.slice pa0_0 (List.length a_0) pc0_0)), (1, (.slice pa1_0 (List.length b_1) pc1_0))]) (by kernel_rfl) ?_
  refine gv_seq ?_
  refine gv_region ?_
  refine gv_new (fun b => .pointer (some ⟨b, 0, none⟩)) #[(.int .i64 0), (.int .i64 0)] 29 (by decide) (by rfl) (by rfl) (by kernel_rfl) (by kernel_rfl) ?_
  intro b1 w2 hg3 hb4 hbe5 hz6
  refine ⟨(fun e => by cases e), ?_⟩
  refine gv_sub [0, 1, 4] (σ' := [(0, (.slice pa0_0 (List.length a_0) pc0_0)), (1, (.slice pa1_0 (List.length b_1) pc1_0)), (4, (.pointer (some ⟨b1, 0, none⟩)))]) (by kernel_rfl) ?_
  refine gv_nil ?_
  refine gv_seq ?_
  refine gv_block ?_
  refine gv_seq ?_
  refine gv_region ?_
  refine gv_pure 1 [1, 4, 6] (σ' := [(1, (.slice pa1_0 (List.length b_1) pc1_0)), (4, (.pointer (some ⟨b1, 0, none⟩))), (6, (.slice pa0_0 (List.length a_0) pc0_0))]) (by kernel_rfl) ?_
  refine bindE h0 ?_; clear h0; intro r7 hr8 h0
  have hB9 := below_grown hB0 hg3 hB0.size nb
  refine gv_call (f := 75) (vs := [(.slice pa0_0 (List.length a_0) pc0_0)]) (cap := []) _ (by decide) (by rfl) (by rfl) rfl (by rfl) (by rfl) enters75 (natural_Valid_ok fuel pa0_0 pc0_0 a_0 w2 (fun k => X0 k) (fun k hk => (fun k (hk : X0 k) => Nat.lt_of_lt_of_le (hX0 k hk) hB9.size) k hk) ((hpa0_0.below hB9 hX0).wide (fun k hk => hk)) r7 hr8) ?_
  rintro v12 w10 ⟨hg11, rfl⟩
  refine ⟨(fun e => by cases e), ?_⟩
  refine gv_pure 2 [1, 4, 5] (σ' := [(1, (.slice pa1_0 (List.length b_1) pc1_0)), (4, (.pointer (some ⟨b1, 0, none⟩))), (5, (.bool (!r7)))]) (by kernel_rfl) ?_
  refine gv_nil ?_
  refine gv_cond (b := (!r7)) (by rfl) (fun hc13 => ?_) (fun hc13 => ?_)
  · replace h0 := ite_t hc13 h0
    refine gv_seq ?_
    refine gv_region ?_
    refine bindE h0 ?_; clear h0; intro r14 hr15 h0
    refine gv_call (f := 76) (vs := [(.int .i64 6), (.int .i64 (-1))]) (cap := []) _ (by decide) (by rfl) (by rfl) rfl (by rfl) (by rfl) enters76 (natural_at_ok fuel 6 (-1) w10  r14 hr15) ?_
    rintro v18 w16 ⟨hg17, rfl⟩
    refine ⟨(fun e => by cases e), ?_⟩
    have hg23 := (grown_trans hg11 hg17)
    have hk24 := hb4.grown hg23 nb
    refine gv_sub [4, 9] (σ' := [(4, (.pointer (some ⟨b1, 0, none⟩))), (9, (.agg #[(.int .i64 r14.1), (.int .i64 r14.2)]))]) (by kernel_rfl) ?_
    refine gv_store (t := 29) (b := b1) (off := 0) (v := (.agg #[(.int .i64 r14.1), (.int .i64 r14.2)])) (t' := 29) (cs := #[(.int .i64 0), (.int .i64 0)]) #[(.int .i64 r14.1), (.int .i64 r14.2)] (by decide) (by rfl) (by rfl) (by kernel_rfl) (by kernel_rfl) (by kernel_rfl) (by intro u hu; simp [Value.cells] at hu; rcases hu with rfl | rfl <;> rfl) (show 0 + 2 ≤ 2 by decide) (by rfl) hk24 ?_
    intro w19 hg20 hb21 hz22
    refine ⟨(fun e => by cases e), ?_⟩
    refine gv_sub [4] (σ' := [(4, (.pointer (some ⟨b1, 0, none⟩)))]) (by kernel_rfl) ?_
    refine gv_nil ?_
    refine gv_cret ?_
    have e := Option.some.inj h0; subst e
    refine gv_ret (gv_done [(.agg #[(.int .i64 r14.1), (.int .i64 r14.2)])] rfl ⟨⟨_, rfl, run_loadVar_row w19 b1 _ 29 _ _ _ hb21 Try.underlying29 rfl (by kernel_rfl)⟩, trivial⟩ ?_)
    have hB25 := below_grown hB9 hg23 hB9.size nb
    have hlo26 : w0.heap.size ≤ b1 := lob hbe5 hB0.size
    have hB27 := below_grown hB25 hg20 hB25.size (rowlo hlo26)
    exact ⟨grown_of_below hB27, rfl⟩
  · replace h0 := ite_f hc13 h0
    refine gv_seq ?_
    refine gv_region ?_
    refine gv_pure 1 [4, 11] (σ' := [(4, (.pointer (some ⟨b1, 0, none⟩))), (11, (.slice pa1_0 (List.length b_1) pc1_0))]) (by kernel_rfl) ?_
    refine bindE h0 ?_; clear h0; intro r28 hr29 h0
    have hB30 := below_grown hB9 hg11 hB9.size nb
    refine gv_call (f := 75) (vs := [(.slice pa1_0 (List.length b_1) pc1_0)]) (cap := []) _ (by decide) (by rfl) (by rfl) rfl (by rfl) (by rfl) enters75 (natural_Valid_ok fuel pa1_0 pc1_0 b_1 w10 (fun k => X0 k) (fun k hk => (fun k (hk : X0 k) => Nat.lt_of_lt_of_le (hX0 k hk) hB30.size) k hk) ((hpa1_0.below hB30 hX0).wide (fun k hk => hk)) r28 hr29) ?_
    rintro v33 w31 ⟨hg32, rfl⟩
    refine ⟨(fun e => by cases e), ?_⟩
    refine gv_pure 2 [4, 10] (σ' := [(4, (.pointer (some ⟨b1, 0, none⟩))), (10, (.bool (!r28)))]) (by kernel_rfl) ?_
    refine gv_nil ?_
    refine gv_cond (b := (!r28)) (by rfl) (fun hc34 => ?_) (fun hc34 => ?_)
    · replace h0 := ite_t hc34 h0
      refine gv_seq ?_
      refine gv_region ?_
      refine bindE h0 ?_; clear h0; intro r35 hr36 h0
      refine gv_call (f := 76) (vs := [(.int .i64 6), (.int .i64 (-2))]) (cap := []) _ (by decide) (by rfl) (by rfl) rfl (by rfl) (by rfl) enters76 (natural_at_ok fuel 6 (-2) w31  r35 hr36) ?_
      rintro v39 w37 ⟨hg38, rfl⟩
      refine ⟨(fun e => by cases e), ?_⟩
      have hg44 := (grown_trans (grown_trans hg11 hg32) hg38)
      have hk45 := hb4.grown hg44 nb
      refine gv_sub [4, 14] (σ' := [(4, (.pointer (some ⟨b1, 0, none⟩))), (14, (.agg #[(.int .i64 r35.1), (.int .i64 r35.2)]))]) (by kernel_rfl) ?_
      refine gv_store (t := 29) (b := b1) (off := 0) (v := (.agg #[(.int .i64 r35.1), (.int .i64 r35.2)])) (t' := 29) (cs := #[(.int .i64 0), (.int .i64 0)]) #[(.int .i64 r35.1), (.int .i64 r35.2)] (by decide) (by rfl) (by rfl) (by kernel_rfl) (by kernel_rfl) (by kernel_rfl) (by intro u hu; simp [Value.cells] at hu; rcases hu with rfl | rfl <;> rfl) (show 0 + 2 ≤ 2 by decide) (by rfl) hk45 ?_
      intro w40 hg41 hb42 hz43
      refine ⟨(fun e => by cases e), ?_⟩
      refine gv_sub [4] (σ' := [(4, (.pointer (some ⟨b1, 0, none⟩)))]) (by kernel_rfl) ?_
      refine gv_nil ?_
      refine gv_cret ?_
      have e := Option.some.inj h0; subst e
      refine gv_ret (gv_done [(.agg #[(.int .i64 r35.1), (.int .i64 r35.2)])] rfl ⟨⟨_, rfl, run_loadVar_row w40 b1 _ 29 _ _ _ hb42 Try.underlying29 rfl (by kernel_rfl)⟩, trivial⟩ ?_)
      have hg46 := (grown_trans hg32 hg38)
      have hB47 := below_grown hB30 hg46 hB30.size nb
      have hlo48 : w0.heap.size ≤ b1 := lob hbe5 hB0.size
      have hB49 := below_grown hB47 hg41 hB47.size (rowlo hlo48)
      exact ⟨grown_of_below hB49, rfl⟩
    · replace h0 := ite_f hc34 h0
      refine gv_skip ?_
      refine gv_blk ?_
      refine gv_seq ?_
      refine gv_region ?_
      refine gv_pure 1 [4, 15] (σ' := [(4, (.pointer (some ⟨b1, 0, none⟩))), (15, (.agg #[(.int .i64 0), (.int .i64 0)]))]) (by kernel_rfl) ?_
      have hg54 := (grown_trans hg11 hg32)
      have hk55 := hb4.grown hg54 nb
      refine gv_store (t := 29) (b := b1) (off := 0) (v := (.agg #[(.int .i64 0), (.int .i64 0)])) (t' := 29) (cs := #[(.int .i64 0), (.int .i64 0)]) #[(.int .i64 0), (.int .i64 0)] (by decide) (by rfl) (by rfl) (by kernel_rfl) (by kernel_rfl) (by kernel_rfl) (by intro u hu; simp [Value.cells] at hu; rcases hu with rfl | rfl <;> rfl) (show 0 + 2 ≤ 2 by decide) (by rfl) hk55 ?_
      intro w50 hg51 hb52 hz53
      refine ⟨(fun e => by cases e), ?_⟩
      clear hz53 hk55 hg54 hc34 hr29 hc13 hg11 hB9 hr8 hz6 hb4 hg3
      refine gv_sub [4] (σ' := [(4, (.pointer (some ⟨b1, 0, none⟩)))]) (by kernel_rfl) ?_
      refine gv_nil ?_
      refine gv_cret ?_
      have e := Option.some.inj h0; subst e
      refine gv_ret (gv_done [(.agg #[(.int .i64 0), (.int .i64 0)])] rfl ⟨⟨_, rfl, run_loadVar_row w50 b1 _ 29 _ _ _ hb52 Try.underlying29 rfl (by kernel_rfl)⟩, trivial⟩ ?_)
      have hB56 := below_grown hB30 hg32 hB30.size nb
      have hlo57 : w0.heap.size ≤ b1 := lob hbe5 hB0.size
      have hB58 := below_grown hB56 hg51 hB56.size (rowlo hlo57)
      exact ⟨grown_of_below hB58, rfl⟩

set_option maxHeartbeats 4000000 in
set_option maxRecDepth 100000 in
theorem natural_trim_ok (fuel : Nat) (pa0_0 : Option Addr) (pc0_0 : Nat) (a_0 : (List Int)) (w0 : World) (X0 : Nat → Prop) (hX0 : ∀ k, X0 k → k < w0.heap.size) (hpa0_0 : Rd (iE .u32) w0 X0 pa0_0 pc0_0 a_0) (r0 : (List Int)) (h0 : natural_trim fuel a_0 = some r0) :
    Calls Try.prog 81 ([(.slice pa0_0 (List.length a_0) pc0_0)] : List Value).toArray w0 (Ret fun v w' => w0.grownBy w' none ∧ ∃ (a0_0r : Option Addr) (c0_0r : Nat), ∃ (X0_0r : Nat → Prop), v = tup [(.slice a0_0r (List.length r0) c0_0r)] ∧ Rd (iE .u32) w' X0_0r a0_0r c0_0r r0 ∧ (∀ k, X0_0r k → k < w'.heap.size ∧ (X0 k ∨ w0.heap.size ≤ k))) := by
  have hB0 : Below w0.heap.size w0 w0 := Below.refl _ _
  unfold natural_trim at h0
  refine calls_run Try.func81 rfl Try.ntmps81 (by kernel_rfl) ?_
  refine gv_sub [0] (σ' := [(0, (.slice pa0_0 (List.length a_0) pc0_0))]) (by kernel_rfl) ?_
  refine gv_seq ?_
  refine gv_region ?_
  refine gv_pure 1 [0] (σ' := [(0, (.slice pa0_0 (List.length a_0) pc0_0))]) (by kernel_rfl) ?_
  refine gv_nil ?_
  refine gv_seq ?_
  refine bindE h0 ?_; clear h0; intro j1 h1 h0
  refine gv_cut_code (J := fun a w2 => ∃ (a0_0j : Option Addr) (c0_0j : Nat), Below w0.heap.size w0 w2 ∧ w0.heap.size ≤ w2.heap.size ∧ Rd (iE .u32) w0 X0 a0_0j c0_0j j1 ∧ a.defers = [] ∧ a.tmps.size = 21 ∧ Ok [(0, (.slice a0_0j (List.length j1) c0_0j))] a.tmps) ?_ ?_
  · skip
    refine gv_block ?_
    refine gv_loop (A := fun (s3 : (List Int)) a w4 => ∃ (a0_0j : Option Addr) (c0_0j : Nat), Below w0.heap.size w0 w4 ∧ w0.heap.size ≤ w4.heap.size ∧ Rd (iE .u32) w0 X0 a0_0j c0_0j s3 ∧ a.defers = [] ∧ a.tmps.size = 21 ∧ Ok [(0, (.slice a0_0j (List.length s3) c0_0j))] a.tmps) h1 ?_ ?_
    · intro a hd hs hok
      obtain ⟨q0, _⟩ := hok
      exact ⟨pa0_0, pc0_0, hB0, (Nat.le_refl _), hpa0_0, hd, hs, ⟨q0, trivial⟩⟩
    · rintro s3 r2 h2 hR2 a w4 ⟨a7, c8, hB5, hz6, hp9, hd, hs, hok⟩
      refine (?_ : Run Try.prog _ 21 _ .normal [(0, (.slice a7 (List.length s3) c8))] w4) a hd hs hok
      clear hd hs hok
      refine gv_seq ?_
      refine gv_seq ?_
      refine gv_region ?_
      refine bindE h2 ?_; clear h2; intro j10 h3 h2
      refine gv_cut_ops (J := fun a w11 => Below w0.heap.size w0 w11 ∧ w4.heap.size ≤ w11.heap.size ∧ a.defers = [] ∧ a.tmps.size = 21 ∧ Ok [(0, (.slice a7 (List.length s3) c8)), (14, (.bool j10))] a.tmps) ?_ ?_
      · skip
        refine gv_pure 4 [0, 6] (σ' := [(0, (.slice a7 (List.length s3) c8)), (6, (.bool (decide (((List.length s3 : Nat) : Int) > 0))))]) (by kernel_rfl) ?_
        refine gv_split (s := 6) (g := (decide (((List.length s3 : Nat) : Int) > 0))) (by rfl) (fun hc12 => ?_) (fun hc12 => ?_)
        · skip
          replace h3 := ite_t hc12 h3
          refine gv_pure 4 [0, 6, 7, 10] (σ' := [(0, (.slice a7 (List.length s3) c8)), (6, (.bool true)), (7, (.slice a7 (List.length s3) c8)), (10, (.int .i64 (IntKind.i64.wrap (((List.length s3 : Nat) : Int) - 1))))]) (by kernel_rfl) ?_
          refine bindE h3 ?_; clear h3; intro x13 hx14 h3
          refine gv_idxaddr (t := 22) (e := 76) (a := a7) (len := List.length s3) (cap := c8) (kk := .i64) (i := (IntKind.i64.wrap (((List.length s3 : Nat) : Int) - 1))) (sz := 1) [0, 6, 11] (σ' := [(0, (.slice a7 (List.length s3) c8)), (6, (.bool true)), (11, (.pointer (some (elemAddr a7 (((IntKind.i64.wrap (((List.length s3 : Nat) : Int) - 1))).toNat * 1)))))]) (fun e => by cases e) (by rfl) (by rfl) (by rfl) (by kernel_rfl) (by kernel_rfl) Try.underlying22 (by kernel_rfl) ((hp9.below hB5 hX0).has hx14) (idx_spec hx14).1 (idx_spec hx14).2.1 (by kernel_rfl) ?_
          refine gv_load (t := 76) (A := (elemAddr a7 (((IntKind.i64.wrap (((List.length s3 : Nat) : Int) - 1))).toNat * 1))) (.int .u32 x13) [0, 6, 12] (σ' := [(0, (.slice a7 (List.length s3) c8)), (6, (.bool true)), (12, (.int .u32 x13))]) (fun e => by cases e) (by rfl) (by rfl) (by rfl) (by kernel_rfl) (by kernel_rfl) (by kernel_rfl) (inw0 ((hp9.below hB5 hX0).cell hx14)) (by kernel_rfl) ?_
          refine gv_pure 2 [0, 14] (σ' := [(0, (.slice a7 (List.length s3) c8)), (14, (.bool (x13 == 0)))]) (by kernel_rfl) ?_
          refine gv_nil ?_
          have e := Option.some.inj h3; subst e
          refine gv_goal fun a hd hs hok => ?_
          obtain ⟨q0, q14, _⟩ := hok
          exact ⟨hB5, (Nat.le_refl _), hd, hs, ⟨q0, q14, trivial⟩⟩
        · skip
          replace h3 := ite_f hc12 h3
          refine gv_pure 8 [0, 14] (σ' := [(0, (.slice a7 (List.length s3) c8)), (14, (.bool false))]) (by kernel_rfl) ?_
          refine gv_nil ?_
          have e := Option.some.inj h3; subst e
          refine gv_goal fun a hd hs hok => ?_
          obtain ⟨q0, q14, _⟩ := hok
          exact ⟨hB5, (Nat.le_refl _), hd, hs, ⟨q0, q14, trivial⟩⟩
      · rintro a w11 ⟨hB15, hz16, hd, hs, hok⟩
        refine (?_ : Run Try.prog _ 21 _ .normal [(0, (.slice a7 (List.length s3) c8)), (14, (.bool j10))] w11) a hd hs hok
        clear hd hs hok
        have hz17 : w0.heap.size ≤ w11.heap.size := (Nat.le_trans hz6 hz16)
        refine gv_cond (b := j10) (by rfl) (fun hc18 => ?_) (fun hc18 => ?_)
        · replace h2 := ite_t hc18 h2
          refine gv_skip ?_
          refine gv_block ?_
          refine gv_region ?_
          refine gv_pure 4 [15, 18] (σ' := [(15, (.slice a7 (List.length s3) c8)), (18, (.int .i64 (IntKind.i64.wrap (((List.length s3 : Nat) : Int) - 1))))]) (by kernel_rfl) ?_
          refine bindE h2 ?_; clear h2; intro x19 hx20 h2
          refine gv_ssl2 (iE .u32) (t := 22) (e := 76) (xs := s3) (a := a7) (cap := c8) (lo := none) (hi := (some (.int .i64 (IntKind.i64.wrap (((List.length s3 : Nat) : Int) - 1))))) 0 (IntKind.i64.wrap (((List.length s3 : Nat) : Int) - 1)) x19 (fun e => by cases e) (by rfl) (by rfl) (by rfl) (by kernel_rfl) (by kernel_rfl) Try.underlying22 (by kernel_rfl) (.inl ⟨rfl, rfl⟩) (.inr ⟨_, rfl⟩) hx20 (hp9.below hB15 hX0).1 ?_
          intro a21 c22 hsub23
          have hp24 := hsub23 _ _ hp9
          refine gv_pure 1 [0] (σ' := [(0, (.slice a21 (List.length x19) c22))]) (by kernel_rfl) ?_
          refine gv_nil ?_
          refine gv_blk ?_
          have e := Option.some.inj h2; subst e
          refine gv_goal fun a hd hs hok => ?_
          obtain ⟨q0, _⟩ := hok
          have hz25 : w0.heap.size ≤ w11.heap.size := hz17
          exact ⟨x19, rfl, a21, c22, hB15, hz25, hp24, hd, hs, ⟨q0, trivial⟩⟩
        · replace h2 := ite_f hc18 h2
          refine gv_cexit ?_
          refine gv_exit rfl ?_
          have e := Option.some.inj h2; subst e
          replace h1 := congrArg some (hR2 _ rfl)
          have e := Option.some.inj h1; subst e
          refine gv_goal fun a hd hs hok => ?_
          obtain ⟨q0, q14, _⟩ := hok
          have hz26 : w0.heap.size ≤ w11.heap.size := hz17
          exact ⟨a7, c8, hB15, hz26, hp9, hd, hs, ⟨q0, trivial⟩⟩
  · rintro a w2 ⟨a29, c30, hB27, hz28, hp31, hd, hs, hok⟩
    refine (?_ : Run Try.prog _ 21 _ .normal [(0, (.slice a29 (List.length j1) c30))] w2) a hd hs hok
    clear hd hs hok
    refine gv_seq ?_
    refine gv_region ?_
    refine gv_pure 2 [2] (σ' := [(2, (.slice a29 (List.length j1) c30))]) (by kernel_rfl) ?_
    refine gv_nil ?_
    refine gv_cret ?_
    have e := Option.some.inj h0; subst e
    refine gv_ret (gv_done [(.slice a29 (List.length j1) c30)] rfl ⟨rfl, trivial⟩ ?_)
    exact ⟨grown_of_below hB27, a29, c30, X0, rfl, (hp31.below hB27 hX0), (fun k hk => ⟨(fun k (hk : X0 k) => Nat.lt_of_lt_of_le (hX0 k hk) hB27.size) k hk, (fun k (hk : X0 k) => Or.inl hk) k hk⟩)⟩

set_option maxHeartbeats 4000000 in
set_option maxRecDepth 100000 in
theorem natural_add_ok (fuel : Nat) (pa0_0 : Option Addr) (pc0_0 : Nat) (a_0 : (List Int)) (pa1_0 : Option Addr) (pc1_0 : Nat) (b_1 : (List Int)) (w0 : World) (X0 : Nat → Prop) (hX0 : ∀ k, X0 k → k < w0.heap.size) (hpa0_0 : Rd (iE .u32) w0 X0 pa0_0 pc0_0 a_0) (hpa1_0 : Rd (iE .u32) w0 X0 pa1_0 pc1_0 b_1) (r0 : (List Int)) (h0 : natural_add fuel a_0 b_1 = some r0) :
    Calls Try.prog 79 ([(.slice pa0_0 (List.length a_0) pc0_0), (.slice pa1_0 (List.length b_1) pc1_0)] : List Value).toArray w0 (Ret fun v w' => w0.grownBy w' none ∧ ∃ (a0_0r : Option Addr) (c0_0r : Nat), ∃ (X0_0r : Nat → Prop), v = tup [(.slice a0_0r (List.length r0) c0_0r)] ∧ Rd (iE .u32) w' X0_0r a0_0r c0_0r r0 ∧ (∀ k, X0_0r k → k < w'.heap.size ∧ (X0 k ∨ w0.heap.size ≤ k))) := by
  have hB0 : Below w0.heap.size w0 w0 := Below.refl _ _
  unfold natural_add at h0
  refine calls_run Try.func79 rfl Try.ntmps79 (by kernel_rfl) ?_
  refine gv_sub [0, 1] (σ' := [(0, (.slice pa0_0 (List.length a_0) pc0_0)), (1, (.slice pa1_0 (List.length b_1) pc1_0))]) (by kernel_rfl) ?_
  refine gv_seq ?_
  refine gv_region ?_
  refine gv_pure 1 [0, 1] (σ' := [(0, (.slice pa0_0 (List.length a_0) pc0_0)), (1, (.slice pa1_0 (List.length b_1) pc1_0))]) (by kernel_rfl) ?_
  refine gv_nil ?_
  refine gv_seq ?_
  refine gv_seq ?_
  refine gv_region ?_
  refine gv_pure 5 [0, 1, 13] (σ' := [(0, (.slice pa0_0 (List.length a_0) pc0_0)), (1, (.slice pa1_0 (List.length b_1) pc1_0)), (13, (.bool (decide (((List.length a_0 : Nat) : Int) < ((List.length b_1 : Nat) : Int)))))]) (by kernel_rfl) ?_
  refine gv_nil ?_
  refine bindE h0 ?_; clear h0; intro j1 h1 h0
  refine gv_cut_code (J := fun a w2 => ∃ (a0_0j : Option Addr) (c0_0j : Nat), ∃ (a1_0j : Option Addr) (c1_0j : Nat), Below w0.heap.size w0 w2 ∧ w0.heap.size ≤ w2.heap.size ∧ Rd (iE .u32) w0 X0 a0_0j c0_0j j1.1 ∧ Rd (iE .u32) w0 X0 a1_0j c1_0j j1.2 ∧ a.defers = [] ∧ a.tmps.size = 56 ∧ Ok [(0, (.slice a0_0j (List.length j1.1) c0_0j)), (1, (.slice a1_0j (List.length j1.2) c1_0j))] a.tmps) ?_ ?_
  · skip
    refine gv_cond (b := (decide (((List.length a_0 : Nat) : Int) < ((List.length b_1 : Nat) : Int)))) (by rfl) (fun hc3 => ?_) (fun hc3 => ?_)
    · replace h1 := ite_t hc3 h1
      refine gv_region ?_
      refine gv_pure 4 [0, 1] (σ' := [(0, (.slice pa1_0 (List.length b_1) pc1_0)), (1, (.slice pa0_0 (List.length a_0) pc0_0))]) (by kernel_rfl) ?_
      refine gv_nil ?_
      have e := Option.some.inj h1; subst e
      refine gv_goal fun a hd hs hok => ?_
      obtain ⟨q0, q1, _⟩ := hok
      exact ⟨pa1_0, pc1_0, pa0_0, pc0_0, hB0, (Nat.le_refl _), hpa1_0, hpa0_0, hd, hs, ⟨q0, q1, trivial⟩⟩
    · replace h1 := ite_f hc3 h1
      refine gv_skip ?_
      have e := Option.some.inj h1; subst e
      refine gv_goal fun a hd hs hok => ?_
      obtain ⟨q0, q1, q13, _⟩ := hok
      exact ⟨pa0_0, pc0_0, pa1_0, pc1_0, hB0, (Nat.le_refl _), hpa0_0, hpa1_0, hd, hs, ⟨q0, q1, trivial⟩⟩
  · rintro a w2 ⟨a6, c7, a8, c9, hB4, hz5, hp10, hp11, hd, hs, hok⟩
    refine (?_ : Run Try.prog _ 56 _ .normal [(0, (.slice a6 (List.length j1.1) c7)), (1, (.slice a8 (List.length j1.2) c9))] w2) a hd hs hok
    clear hd hs hok
    refine gv_seq ?_
    refine gv_region ?_
    refine gv_pure 3 [0, 1, 18] (σ' := [(0, (.slice a6 (List.length j1.1) c7)), (1, (.slice a8 (List.length j1.2) c9)), (18, (.int .i64 (IntKind.i64.wrap (((List.length j1.1 : Nat) : Int) + 1))))]) (by kernel_rfl) ?_
    refine bindE h0 ?_; clear h0; intro l12 hx13 h0
    refine gv_makeC (f := (fun n : Int => Value.int .u32 n)) (hf := fun _ => rfl) (t := 22) (e := 76) (kl := .i64) (kc := .i64) (l := 0) (c := (IntKind.i64.wrap (((List.length j1.1 : Nat) : Int) + 1))) (bytes := 4) 0 l12 (by decide) (by rfl) (by rfl) (by kernel_rfl) (by kernel_rfl) Try.underlying22 (by kernel_rfl) (by decide) hx13 ?_
    intro b14 w15 hg16 ho17 hbe18 hz19
    refine ⟨(fun e => by cases e), ?_⟩
    have hl20 : ∀ g, blk (some ⟨b14, 0, none⟩) = some g → w0.heap.size ≤ g := loo hbe18 hB4.size
    refine gv_pure 1 [0, 1, 5] (σ' := [(0, (.slice a6 (List.length j1.1) c7)), (1, (.slice a8 (List.length j1.2) c9)), (5, (.slice (some ⟨b14, 0, none⟩) (List.length l12) ((IntKind.i64.wrap (((List.length j1.1 : Nat) : Int) + 1))).toNat))]) (by kernel_rfl) ?_
    refine gv_nil ?_
    refine gv_seq ?_
    refine gv_region ?_
    refine gv_pure 1 [0, 1, 5, 6] (σ' := [(0, (.slice a6 (List.length j1.1) c7)), (1, (.slice a8 (List.length j1.2) c9)), (5, (.slice (some ⟨b14, 0, none⟩) (List.length l12) ((IntKind.i64.wrap (((List.length j1.1 : Nat) : Int) + 1))).toNat)), (6, (.int .u64 0))]) (by kernel_rfl) ?_
    refine gv_nil ?_
    refine gv_seq ?_
    refine gv_seq ?_
    refine gv_region ?_
    refine gv_pure 3 [1, 5, 6, 20, 21, 22] (σ' := [(1, (.slice a8 (List.length j1.2) c9)), (5, (.slice (some ⟨b14, 0, none⟩) (List.length l12) ((IntKind.i64.wrap (((List.length j1.1 : Nat) : Int) + 1))).toNat)), (6, (.int .u64 0)), (20, (.slice a6 (List.length j1.1) c7)), (21, (.int .i64 ((List.length j1.1 : Nat) : Int))), (22, (.int .i64 0))]) (by kernel_rfl) ?_
    refine gv_nil ?_
    refine bindE h0 ?_; clear h0; intro j21 h1 h0
    refine gv_cut_code (J := fun a w22 => ∃ (a5_0j : Option Addr) (c5_0j : Nat), Below w0.heap.size w0 w22 ∧ w15.heap.size ≤ w22.heap.size ∧ Own (iE .u32) 76 w22 (fun _ => False) a5_0j c5_0j j21.1 ∧ (∀ g, blk a5_0j = some g → w0.heap.size ≤ g) ∧ a.defers = [] ∧ a.tmps.size = 56 ∧ Ok [(5, (.slice a5_0j (List.length j21.1) c5_0j)), (6, (.int .u64 j21.2))] a.tmps) ?_ ?_
    · skip
      refine gv_block ?_
      refine gv_loop (A := fun (s23 : ((List Int) × Int × Int)) a w24 => ∃ (a5_0j : Option Addr) (c5_0j : Nat), Below w0.heap.size w0 w24 ∧ w15.heap.size ≤ w24.heap.size ∧ Own (iE .u32) 76 w24 (fun _ => False) a5_0j c5_0j s23.1 ∧ (∀ g, blk a5_0j = some g → w0.heap.size ≤ g) ∧ a.defers = [] ∧ a.tmps.size = 56 ∧ Ok [(1, (.slice a8 (List.length j1.2) c9)), (5, (.slice a5_0j (List.length s23.1) c5_0j)), (6, (.int .u64 s23.2.1)), (20, (.slice a6 (List.length j1.1) c7)), (21, (.int .i64 ((List.length j1.1 : Nat) : Int))), (22, (.int .i64 s23.2.2))] a.tmps) h1 ?_ ?_
      · intro a hd hs hok
        obtain ⟨q1, q5, q6, q20, q21, q22, _⟩ := hok
        have hB25 := below_grown hB4 hg16 hB4.size nb
        exact ⟨(some ⟨b14, 0, none⟩), ((IntKind.i64.wrap (((List.length j1.1 : Nat) : Int) + 1))).toNat, hB25, (Nat.le_refl _), ho17, hl20, hd, hs, ⟨q1, q5, q6, q20, q21, q22, trivial⟩⟩
      · rintro s23 r2 h2 hR2 a w24 ⟨a28, c29, hB26, hz27, ho30, hl31, hd, hs, hok⟩
        refine (?_ : Run Try.prog _ 56 _ .normal [(1, (.slice a8 (List.length j1.2) c9)), (5, (.slice a28 (List.length s23.1) c29)), (6, (.int .u64 s23.2.1)), (20, (.slice a6 (List.length j1.1) c7)), (21, (.int .i64 ((List.length j1.1 : Nat) : Int))), (22, (.int .i64 s23.2.2))] w24) a hd hs hok
        clear hd hs hok
        clear hl20 hz19 hbe18 ho17 hg16 hx13 hz5 hB4
        refine gv_seq ?_
        refine gv_region ?_
        refine gv_pure 1 [1, 5, 6, 20, 21, 22, 23] (σ' := [(1, (.slice a8 (List.length j1.2) c9)), (5, (.slice a28 (List.length s23.1) c29)), (6, (.int .u64 s23.2.1)), (20, (.slice a6 (List.length j1.1) c7)), (21, (.int .i64 ((List.length j1.1 : Nat) : Int))), (22, (.int .i64 s23.2.2)), (23, (.bool (decide (s23.2.2 < ((List.length j1.1 : Nat) : Int)))))]) (by kernel_rfl) ?_
        refine gv_nil ?_
        refine gv_seq ?_
        refine gv_cond (b := (decide (s23.2.2 < ((List.length j1.1 : Nat) : Int)))) (by rfl) (fun hc32 => ?_) (fun hc32 => ?_)
        · replace h2 := ite_t hc32 h2
          refine gv_skip ?_
          refine gv_seq ?_
          refine gv_block ?_
          refine gv_seq ?_
          refine gv_region ?_
          refine gv_pure 1 [1, 5, 6, 20, 21, 22, 24] (σ' := [(1, (.slice a8 (List.length j1.2) c9)), (5, (.slice a28 (List.length s23.1) c29)), (6, (.int .u64 s23.2.1)), (20, (.slice a6 (List.length j1.1) c7)), (21, (.int .i64 ((List.length j1.1 : Nat) : Int))), (22, (.int .i64 s23.2.2)), (24, (.int .i64 s23.2.2))]) (by kernel_rfl) ?_
          refine bindE h2 ?_; clear h2; intro x33 hx34 h2
          refine gv_idxaddr (t := 22) (e := 76) (a := a6) (len := List.length j1.1) (cap := c7) (kk := .i64) (i := s23.2.2) (sz := 1) [1, 5, 6, 20, 21, 22, 24, 25] (σ' := [(1, (.slice a8 (List.length j1.2) c9)), (5, (.slice a28 (List.length s23.1) c29)), (6, (.int .u64 s23.2.1)), (20, (.slice a6 (List.length j1.1) c7)), (21, (.int .i64 ((List.length j1.1 : Nat) : Int))), (22, (.int .i64 s23.2.2)), (24, (.int .i64 s23.2.2)), (25, (.pointer (some (elemAddr a6 ((s23.2.2).toNat * 1)))))]) (fun e => by cases e) (by rfl) (by rfl) (by rfl) (by kernel_rfl) (by kernel_rfl) Try.underlying22 (by kernel_rfl) ((hp10.below hB26 hX0).has hx34) (idx_spec hx34).1 (idx_spec hx34).2.1 (by kernel_rfl) ?_
          refine gv_load (t := 76) (A := (elemAddr a6 ((s23.2.2).toNat * 1))) (.int .u32 x33) [1, 5, 6, 20, 21, 22, 24, 26] (σ' := [(1, (.slice a8 (List.length j1.2) c9)), (5, (.slice a28 (List.length s23.1) c29)), (6, (.int .u64 s23.2.1)), (20, (.slice a6 (List.length j1.1) c7)), (21, (.int .i64 ((List.length j1.1 : Nat) : Int))), (22, (.int .i64 s23.2.2)), (24, (.int .i64 s23.2.2)), (26, (.int .u32 x33))]) (fun e => by cases e) (by rfl) (by rfl) (by rfl) (by kernel_rfl) (by kernel_rfl) (by kernel_rfl) (inw0 ((hp10.below hB26 hX0).cell hx34)) (by kernel_rfl) ?_
          refine gv_pure 2 [1, 5, 6, 7, 8, 20, 21, 22] (σ' := [(1, (.slice a8 (List.length j1.2) c9)), (5, (.slice a28 (List.length s23.1) c29)), (6, (.int .u64 s23.2.1)), (7, (.int .i64 s23.2.2)), (8, (.int .u32 x33)), (20, (.slice a6 (List.length j1.1) c7)), (21, (.int .i64 ((List.length j1.1 : Nat) : Int))), (22, (.int .i64 s23.2.2))]) (by kernel_rfl) ?_
          refine gv_nil ?_
          refine gv_seq ?_
          refine gv_region ?_
          refine gv_pure 5 [1, 5, 6, 7, 20, 21, 22] (σ' := [(1, (.slice a8 (List.length j1.2) c9)), (5, (.slice a28 (List.length s23.1) c29)), (6, (.int .u64 (IntKind.u64.wrap (s23.2.1 + (IntKind.u64.wrap (x33)))))), (7, (.int .i64 s23.2.2)), (20, (.slice a6 (List.length j1.1) c7)), (21, (.int .i64 ((List.length j1.1 : Nat) : Int))), (22, (.int .i64 s23.2.2))]) (by kernel_rfl) ?_
          refine bindE h2 ?_; clear h2; intro n35 hn36 h2
          refine gv_name (s := 6) (v := (.int .u64 (IntKind.u64.wrap (s23.2.1 + (IntKind.u64.wrap (x33)))))) (v' := (.int .u64 n35)) (by rfl) (congrArg (Value.int .u64) (Option.some.inj hn36)) ?_
          refine gv_sub [1, 5, 6, 7, 20, 21, 22] (σ' := [(1, (.slice a8 (List.length j1.2) c9)), (5, (.slice a28 (List.length s23.1) c29)), (6, (.int .u64 n35)), (7, (.int .i64 s23.2.2)), (20, (.slice a6 (List.length j1.1) c7)), (21, (.int .i64 ((List.length j1.1 : Nat) : Int))), (22, (.int .i64 s23.2.2))]) (by kernel_rfl) ?_
          refine gv_nil ?_
          refine gv_seq ?_
          refine gv_seq ?_
          refine gv_region ?_
          refine gv_pure 4 [1, 5, 6, 7, 20, 21, 22, 34] (σ' := [(1, (.slice a8 (List.length j1.2) c9)), (5, (.slice a28 (List.length s23.1) c29)), (6, (.int .u64 n35)), (7, (.int .i64 s23.2.2)), (20, (.slice a6 (List.length j1.1) c7)), (21, (.int .i64 ((List.length j1.1 : Nat) : Int))), (22, (.int .i64 s23.2.2)), (34, (.bool (decide (s23.2.2 < ((List.length j1.2 : Nat) : Int)))))]) (by kernel_rfl) ?_
          refine gv_nil ?_
          refine bindE h2 ?_; clear h2; intro j37 h3 h2
          refine gv_cut_code (J := fun a w38 => Below w0.heap.size w0 w38 ∧ w24.heap.size ≤ w38.heap.size ∧ Own (iE .u32) 76 w38 (fun _ => False) a28 c29 s23.1 ∧ a.defers = [] ∧ a.tmps.size = 56 ∧ Ok [(1, (.slice a8 (List.length j1.2) c9)), (5, (.slice a28 (List.length s23.1) c29)), (6, (.int .u64 j37)), (20, (.slice a6 (List.length j1.1) c7)), (21, (.int .i64 ((List.length j1.1 : Nat) : Int))), (22, (.int .i64 s23.2.2))] a.tmps) ?_ ?_
          · skip
            refine gv_cond (b := (decide (s23.2.2 < ((List.length j1.2 : Nat) : Int)))) (by rfl) (fun hc39 => ?_) (fun hc39 => ?_)
            · replace h3 := ite_t hc39 h3
              refine gv_region ?_
              refine gv_pure 3 [1, 5, 20, 21, 22, 35, 36, 37] (σ' := [(1, (.slice a8 (List.length j1.2) c9)), (5, (.slice a28 (List.length s23.1) c29)), (20, (.slice a6 (List.length j1.1) c7)), (21, (.int .i64 ((List.length j1.1 : Nat) : Int))), (22, (.int .i64 s23.2.2)), (35, (.int .u64 n35)), (36, (.slice a8 (List.length j1.2) c9)), (37, (.int .i64 s23.2.2))]) (by kernel_rfl) ?_
              refine bindE h3 ?_; clear h3; intro x40 hx41 h3
              refine gv_idxaddr (t := 22) (e := 76) (a := a8) (len := List.length j1.2) (cap := c9) (kk := .i64) (i := s23.2.2) (sz := 1) [1, 5, 20, 21, 22, 35, 38] (σ' := [(1, (.slice a8 (List.length j1.2) c9)), (5, (.slice a28 (List.length s23.1) c29)), (20, (.slice a6 (List.length j1.1) c7)), (21, (.int .i64 ((List.length j1.1 : Nat) : Int))), (22, (.int .i64 s23.2.2)), (35, (.int .u64 n35)), (38, (.pointer (some (elemAddr a8 ((s23.2.2).toNat * 1)))))]) (fun e => by cases e) (by rfl) (by rfl) (by rfl) (by kernel_rfl) (by kernel_rfl) Try.underlying22 (by kernel_rfl) ((hp11.below hB26 hX0).has hx41) (idx_spec hx41).1 (idx_spec hx41).2.1 (by kernel_rfl) ?_
              refine gv_load (t := 76) (A := (elemAddr a8 ((s23.2.2).toNat * 1))) (.int .u32 x40) [1, 5, 20, 21, 22, 35, 39] (σ' := [(1, (.slice a8 (List.length j1.2) c9)), (5, (.slice a28 (List.length s23.1) c29)), (20, (.slice a6 (List.length j1.1) c7)), (21, (.int .i64 ((List.length j1.1 : Nat) : Int))), (22, (.int .i64 s23.2.2)), (35, (.int .u64 n35)), (39, (.int .u32 x40))]) (fun e => by cases e) (by rfl) (by rfl) (by rfl) (by kernel_rfl) (by kernel_rfl) (by kernel_rfl) (inw0 ((hp11.below hB26 hX0).cell hx41)) (by kernel_rfl) ?_
              refine gv_pure 3 [1, 5, 6, 20, 21, 22] (σ' := [(1, (.slice a8 (List.length j1.2) c9)), (5, (.slice a28 (List.length s23.1) c29)), (6, (.int .u64 (IntKind.u64.wrap (n35 + (IntKind.u64.wrap (x40)))))), (20, (.slice a6 (List.length j1.1) c7)), (21, (.int .i64 ((List.length j1.1 : Nat) : Int))), (22, (.int .i64 s23.2.2))]) (by kernel_rfl) ?_
              refine bindE h3 ?_; clear h3; intro n42 hn43 h3
              refine gv_name (s := 6) (v := (.int .u64 (IntKind.u64.wrap (n35 + (IntKind.u64.wrap (x40)))))) (v' := (.int .u64 n42)) (by rfl) (congrArg (Value.int .u64) (Option.some.inj hn43)) ?_
              refine gv_sub [1, 5, 6, 20, 21, 22] (σ' := [(1, (.slice a8 (List.length j1.2) c9)), (5, (.slice a28 (List.length s23.1) c29)), (6, (.int .u64 n42)), (20, (.slice a6 (List.length j1.1) c7)), (21, (.int .i64 ((List.length j1.1 : Nat) : Int))), (22, (.int .i64 s23.2.2))]) (by kernel_rfl) ?_
              refine gv_nil ?_
              have e := Option.some.inj h3; subst e
              refine gv_goal fun a hd hs hok => ?_
              obtain ⟨q1, q5, q6, q20, q21, q22, _⟩ := hok
              exact ⟨hB26, (Nat.le_refl _), ho30, hd, hs, ⟨q1, q5, q6, q20, q21, q22, trivial⟩⟩
            · replace h3 := ite_f hc39 h3
              refine gv_skip ?_
              have e := Option.some.inj h3; subst e
              refine gv_goal fun a hd hs hok => ?_
              obtain ⟨q1, q5, q6, q7, q20, q21, q22, q34, _⟩ := hok
              exact ⟨hB26, (Nat.le_refl _), ho30, hd, hs, ⟨q1, q5, q6, q20, q21, q22, trivial⟩⟩
          · rintro a w38 ⟨hB44, hz45, hk46, hd, hs, hok⟩
            refine (?_ : Run Try.prog _ 56 _ .normal [(1, (.slice a8 (List.length j1.2) c9)), (5, (.slice a28 (List.length s23.1) c29)), (6, (.int .u64 j37)), (20, (.slice a6 (List.length j1.1) c7)), (21, (.int .i64 ((List.length j1.1 : Nat) : Int))), (22, (.int .i64 s23.2.2))] w38) a hd hs hok
            clear hd hs hok
            have hz47 : w15.heap.size ≤ w38.heap.size := (Nat.le_trans hz27 hz45)
            clear hz45 hn36 hx34 hc32 ho30 hz27 hB26
            refine gv_seq ?_
            refine gv_region ?_
            refine gv_pure 3 [1, 6, 20, 21, 22, 42, 44] (σ' := [(1, (.slice a8 (List.length j1.2) c9)), (6, (.int .u64 j37)), (20, (.slice a6 (List.length j1.1) c7)), (21, (.int .i64 ((List.length j1.1 : Nat) : Int))), (22, (.int .i64 s23.2.2)), (42, (.slice a28 (List.length s23.1) c29)), (44, (.int .u32 (IntKind.u32.wrap (j37))))]) (by kernel_rfl) ?_
            refine gv_new (fun b => .slice (some ⟨b, 0, none⟩) 1 1) #[(.int .u32 (IntKind.u32.wrap (j37)))] 76 (by decide) (by rfl) (by rfl) (by kernel_rfl) (by kernel_rfl) ?_
            intro b48 w49 hg50 hb51 hbe52 hz53
            refine ⟨(fun e => by cases e), ?_⟩
            have ho54 : Own (iE .u32) 76 w49 (fun _ => False) (some ⟨b48, 0, none⟩) 1 ([(IntKind.u32.wrap (j37))] : List Int) := Box.ownE hb51 ⟨[(.int .u32 (IntKind.u32.wrap (j37)))], [], rfl, rfl, rfl⟩ (show 1 ≤ maxLen by decide) (fun h => h)
            have hl55 : ∀ g, blk (some ⟨b48, 0, none⟩) = some g → w0.heap.size ≤ g := loo hbe52 hB44.size
            refine gv_sub [1, 6, 20, 21, 22, 42, 45] (σ' := [(1, (.slice a8 (List.length j1.2) c9)), (6, (.int .u64 j37)), (20, (.slice a6 (List.length j1.1) c7)), (21, (.int .i64 ((List.length j1.1 : Nat) : Int))), (22, (.int .i64 s23.2.2)), (42, (.slice a28 (List.length s23.1) c29)), (45, (.slice (some ⟨b48, 0, none⟩) (List.length ([(IntKind.u32.wrap (j37))] : List Int)) 1))]) (by kernel_rfl) ?_
            refine bindE h2 ?_; clear h2; intro l59 hx60 h2
            have hk67 := hk46.grown hg50 (fun _ h => h.elim) nb
            refine gv_append (iE .u32) (t := 22) (ty := 22) (e := 76) (a := a28) (ax := (some ⟨b48, 0, none⟩)) (cap := c29) (cx := 1) (xs := s23.1) (ys := ([(IntKind.u32.wrap (j37))] : List Int)) l59 (X := (fun _ => False)) (Y := (fun k => blk (some ⟨b48, 0, none⟩) = some k)) (by decide) (by rfl) (by rfl) (by kernel_rfl) (by kernel_rfl) Try.underlying22 info76 hk67 (ho54.rd (Y := fun k => blk (some ⟨b48, 0, none⟩) = some k) (fun _ h => h.elim) (fun g e => e)) hx60 (.inr fun _ _ _ _ _ h => h) (fun _ h => h.elim) ?_
            intro a61 c62 w63 hg64 ho65 hk66
            refine ⟨(fun e => by cases e), ?_⟩
            have hB69 := below_grown hB44 hg50 hB44.size nb
            have hl68 : ∀ g, blk a61 = some g → w0.heap.size ≤ g := blk_step hk66 hl31 hB69.size
            have ap71 : ∀ g, blk a28 = some g → ¬ (fun k => blk (some ⟨b48, 0, none⟩) = some k) g := fun g e hx => Nat.not_lt_of_le ((lowo hbe52) _ hx) ((fun k (hk : blk a28 = some k) => hk46.lt k hk) g e)
            have ap70 : ∀ g, blk a61 = some g → ¬ (fun k => blk (some ⟨b48, 0, none⟩) = some k) g := blk_neX hk66 ap71 (fun k (hk : blk (some ⟨b48, 0, none⟩) = some k) => ho54.lt k hk)
            have ap73 : ∀ g, blk (some ⟨b48, 0, none⟩) = some g → ¬ (fun k => blk a28 = some k) g := fun g e hx => Nat.not_lt_of_le ((lowo hbe52) g e) ((fun k (hk : blk a28 = some k) => hk46.lt k hk) _ hx)
            have ap72 : ∀ g, blk (some ⟨b48, 0, none⟩) = some g → ¬ (fun k => blk a61 = some k) g := fun g e h => blk_rev hk66 (fun h => ((ap73) g e) h) (ho54.lt g e) h
            refine gv_pure 1 [1, 5, 6, 20, 21, 22] (σ' := [(1, (.slice a8 (List.length j1.2) c9)), (5, (.slice a61 (List.length l59) c62)), (6, (.int .u64 j37)), (20, (.slice a6 (List.length j1.1) c7)), (21, (.int .i64 ((List.length j1.1 : Nat) : Int))), (22, (.int .i64 s23.2.2))]) (by kernel_rfl) ?_
            refine gv_nil ?_
            refine gv_region ?_
            refine gv_pure 3 [1, 5, 6, 20, 21, 22] (σ' := [(1, (.slice a8 (List.length j1.2) c9)), (5, (.slice a61 (List.length l59) c62)), (6, (.int .u64 ((j37).fdiv (2 ^ 32)))), (20, (.slice a6 (List.length j1.1) c7)), (21, (.int .i64 ((List.length j1.1 : Nat) : Int))), (22, (.int .i64 s23.2.2))]) (by kernel_rfl) ?_
            refine gv_nil ?_
            refine gv_blk ?_
            refine gv_region ?_
            refine gv_pure 2 [1, 5, 6, 20, 21, 22] (σ' := [(1, (.slice a8 (List.length j1.2) c9)), (5, (.slice a61 (List.length l59) c62)), (6, (.int .u64 ((j37).fdiv (2 ^ 32)))), (20, (.slice a6 (List.length j1.1) c7)), (21, (.int .i64 ((List.length j1.1 : Nat) : Int))), (22, (.int .i64 (IntKind.i64.wrap (s23.2.2 + 1))))]) (by kernel_rfl) ?_
            refine gv_nil ?_
            have e := Option.some.inj h2; subst e
            refine gv_goal fun a hd hs hok => ?_
            obtain ⟨q1, q5, q6, q20, q21, q22, _⟩ := hok
            have hB74 := below_grown hB69 hg64 hB69.size hl31
            have hz75 : w15.heap.size ≤ w63.heap.size := (Nat.le_trans (Nat.le_trans hz47 hg50.size) hg64.size)
            exact ⟨(l59, ((j37).fdiv (2 ^ 32)), (IntKind.i64.wrap (s23.2.2 + 1))), rfl, a61, c62, hB74, hz75, ho65, hl68, hd, hs, ⟨q1, q5, q6, q20, q21, q22, trivial⟩⟩
        · replace h2 := ite_f hc32 h2
          refine gv_cexit ?_
          refine gv_exit rfl ?_
          have e := Option.some.inj h2; subst e
          replace h1 := congrArg some (hR2 _ rfl)
          have e := Option.some.inj h1; subst e
          refine gv_goal fun a hd hs hok => ?_
          obtain ⟨q1, q5, q6, q20, q21, q22, q23, _⟩ := hok
          have hz76 : w15.heap.size ≤ w24.heap.size := hz27
          exact ⟨a28, c29, hB26, hz76, ho30, hl31, hd, hs, ⟨q5, q6, trivial⟩⟩
    · rintro a w22 ⟨a79, c80, hB77, hz78, ho81, hl82, hd, hs, hok⟩
      refine (?_ : Run Try.prog _ 56 _ .normal [(5, (.slice a79 (List.length j21.1) c80)), (6, (.int .u64 j21.2))] w22) a hd hs hok
      clear hd hs hok
      clear hz78 hl20 hz19 hbe18 ho17 hg16 hx13 hz5 hB4
      refine gv_seq ?_
      refine gv_region ?_
      refine gv_pure 3 [50, 52] (σ' := [(50, (.slice a79 (List.length j21.1) c80)), (52, (.int .u32 (IntKind.u32.wrap (j21.2))))]) (by kernel_rfl) ?_
      refine gv_new (fun b => .slice (some ⟨b, 0, none⟩) 1 1) #[(.int .u32 (IntKind.u32.wrap (j21.2)))] 76 (by decide) (by rfl) (by rfl) (by kernel_rfl) (by kernel_rfl) ?_
      intro b83 w84 hg85 hb86 hbe87 hz88
      refine ⟨(fun e => by cases e), ?_⟩
      have ho89 : Own (iE .u32) 76 w84 (fun _ => False) (some ⟨b83, 0, none⟩) 1 ([(IntKind.u32.wrap (j21.2))] : List Int) := Box.ownE hb86 ⟨[(.int .u32 (IntKind.u32.wrap (j21.2)))], [], rfl, rfl, rfl⟩ (show 1 ≤ maxLen by decide) (fun h => h)
      have hl90 : ∀ g, blk (some ⟨b83, 0, none⟩) = some g → w0.heap.size ≤ g := loo hbe87 hB77.size
      refine gv_sub [50, 53] (σ' := [(50, (.slice a79 (List.length j21.1) c80)), (53, (.slice (some ⟨b83, 0, none⟩) (List.length ([(IntKind.u32.wrap (j21.2))] : List Int)) 1))]) (by kernel_rfl) ?_
      refine bindE h0 ?_; clear h0; intro l94 hx95 h0
      have hk102 := ho81.grown hg85 (fun _ h => h.elim) nb
      refine gv_append (iE .u32) (t := 22) (ty := 22) (e := 76) (a := a79) (ax := (some ⟨b83, 0, none⟩)) (cap := c80) (cx := 1) (xs := j21.1) (ys := ([(IntKind.u32.wrap (j21.2))] : List Int)) l94 (X := (fun _ => False)) (Y := (fun k => blk (some ⟨b83, 0, none⟩) = some k)) (by decide) (by rfl) (by rfl) (by kernel_rfl) (by kernel_rfl) Try.underlying22 info76 hk102 (ho89.rd (Y := fun k => blk (some ⟨b83, 0, none⟩) = some k) (fun _ h => h.elim) (fun g e => e)) hx95 (.inr fun _ _ _ _ _ h => h) (fun _ h => h.elim) ?_
      intro a96 c97 w98 hg99 ho100 hk101
      refine ⟨(fun e => by cases e), ?_⟩
      have hB104 := below_grown hB77 hg85 hB77.size nb
      have hl103 : ∀ g, blk a96 = some g → w0.heap.size ≤ g := blk_step hk101 hl82 hB104.size
      have ap106 : ∀ g, blk a79 = some g → ¬ (fun k => blk (some ⟨b83, 0, none⟩) = some k) g := fun g e hx => Nat.not_lt_of_le ((lowo hbe87) _ hx) ((fun k (hk : blk a79 = some k) => ho81.lt k hk) g e)
      have ap105 : ∀ g, blk a96 = some g → ¬ (fun k => blk (some ⟨b83, 0, none⟩) = some k) g := blk_neX hk101 ap106 (fun k (hk : blk (some ⟨b83, 0, none⟩) = some k) => ho89.lt k hk)
      have ap108 : ∀ g, blk (some ⟨b83, 0, none⟩) = some g → ¬ (fun k => blk a79 = some k) g := fun g e hx => Nat.not_lt_of_le ((lowo hbe87) g e) ((fun k (hk : blk a79 = some k) => ho81.lt k hk) _ hx)
      have ap107 : ∀ g, blk (some ⟨b83, 0, none⟩) = some g → ¬ (fun k => blk a96 = some k) g := fun g e h => blk_rev hk101 (fun h => ((ap108) g e) h) (ho89.lt g e) h
      refine gv_sub [54] (σ' := [(54, (.slice a96 (List.length l94) c97))]) (by kernel_rfl) ?_
      refine bindE h0 ?_; clear h0; intro r109 hr110 h0
      refine gv_call (f := 81) (vs := [(.slice a96 (List.length l94) c97)]) (cap := []) _ (by decide) (by rfl) (by rfl) rfl (by rfl) (by rfl) enters81 (natural_trim_ok fuel a96 c97 l94 w98 (fun k => (fun k => blk a96 = some k) k) (fun k hk => (fun k (hk : blk a96 = some k) => ho100.lt k hk) k hk) ((ho100.rd (Y := fun k => blk a96 = some k) (fun _ h => h.elim) (fun g e => e)).wide (fun k hk => hk)) r109 hr110) ?_
      rintro v113 w111 ⟨hg112, a114, c115, X117, rfl, ho116, hx118⟩
      refine ⟨(fun e => by cases e), ?_⟩
      have hx119 : ∀ k, X117 k → k < w111.heap.size := fun k hk => (hx118 k hk).1
      have hB121 := below_grown hB104 hg99 hB104.size hl82
      have hx120 : ∀ k, X117 k → X0 k ∨ w0.heap.size ≤ k := fun k hk => (hx118 k hk).2.elim (fun h => (fun k (hk : blk a96 = some k) => Or.inr (hl103 k hk)) k h) (fun h => .inr (Nat.le_trans hB121.size h))
      refine gv_pure 1 [4] (σ' := [(4, (.slice a114 (List.length r109) c115))]) (by kernel_rfl) ?_
      refine gv_nil ?_
      refine gv_cret ?_
      have e := Option.some.inj h0; subst e
      refine gv_ret (gv_done [(.slice a114 (List.length r109) c115)] rfl ⟨rfl, trivial⟩ ?_)
      have hB122 := below_grown hB121 hg112 hB121.size nb
      exact ⟨grown_of_below hB122, a114, c115, X117, rfl, ho116, (fun k hk => ⟨hx119 k hk, hx120 k hk⟩)⟩

set_option maxHeartbeats 4000000 in
set_option maxRecDepth 100000 in
theorem natural_fit_ok (fuel : Nat) (pa0_0 : Option Addr) (pc0_0 : Nat) (a_0 : (List Int)) (w0 : World) (X0 : Nat → Prop) (hX0 : ∀ k, X0 k → k < w0.heap.size) (hpa0_0 : Rd (iE .u32) w0 X0 pa0_0 pc0_0 a_0) (r0 : ((List Int) × (Int × Int))) (h0 : natural_fit fuel a_0 = some r0) :
    Calls Try.prog 78 ([(.slice pa0_0 (List.length a_0) pc0_0)] : List Value).toArray w0 (Ret fun v w' => w0.grownBy w' none ∧ ∃ (a0_0r : Option Addr) (c0_0r : Nat), ∃ (X0_0r : Nat → Prop), v = tup [(.slice a0_0r (List.length r0.1) c0_0r), (.agg #[(.int .i64 r0.2.1), (.int .i64 r0.2.2)])] ∧ Rd (iE .u32) w' X0_0r a0_0r c0_0r r0.1 ∧ (∀ k, X0_0r k → k < w'.heap.size ∧ (X0 k ∨ w0.heap.size ≤ k))) := by
  have hB0 : Below w0.heap.size w0 w0 := Below.refl _ _
  unfold natural_fit at h0
  refine calls_run Try.func78 rfl Try.ntmps78 (by kernel_rfl) ?_
  refine gv_sub [0] (σ' := [(0, (.slice pa0_0 (List.length a_0) pc0_0))]) (by kernel_rfl) ?_
  refine gv_seq ?_
  refine gv_region ?_
  refine gv_pure 1 [0] (σ' := [(0, (.slice pa0_0 (List.length a_0) pc0_0))]) (by kernel_rfl) ?_
  refine gv_new (fun b => .pointer (some ⟨b, 0, none⟩)) #[(.int .i64 0), (.int .i64 0)] 29 (by decide) (by rfl) (by rfl) (by kernel_rfl) (by kernel_rfl) ?_
  intro b1 w2 hg3 hb4 hbe5 hz6
  refine ⟨(fun e => by cases e), ?_⟩
  refine gv_sub [0, 3] (σ' := [(0, (.slice pa0_0 (List.length a_0) pc0_0)), (3, (.pointer (some ⟨b1, 0, none⟩)))]) (by kernel_rfl) ?_
  refine gv_nil ?_
  refine gv_seq ?_
  refine gv_seq ?_
  refine gv_region ?_
  refine gv_pure 1 [3, 4] (σ' := [(3, (.pointer (some ⟨b1, 0, none⟩))), (4, (.slice pa0_0 (List.length a_0) pc0_0))]) (by kernel_rfl) ?_
  refine bindE h0 ?_; clear h0; intro r7 hr8 h0
  have hB9 := below_grown hB0 hg3 hB0.size nb
  refine gv_call (f := 81) (vs := [(.slice pa0_0 (List.length a_0) pc0_0)]) (cap := []) _ (by decide) (by rfl) (by rfl) rfl (by rfl) (by rfl) enters81 (natural_trim_ok fuel pa0_0 pc0_0 a_0 w2 (fun k => X0 k) (fun k hk => (fun k (hk : X0 k) => Nat.lt_of_lt_of_le (hX0 k hk) hB9.size) k hk) ((hpa0_0.below hB9 hX0).wide (fun k hk => hk)) r7 hr8) ?_
  rintro v12 w10 ⟨hg11, a13, c14, X16, rfl, ho15, hx17⟩
  refine ⟨(fun e => by cases e), ?_⟩
  have hx18 : ∀ k, X16 k → k < w10.heap.size := fun k hk => (hx17 k hk).1
  have hx19 : ∀ k, X16 k → X0 k ∨ w0.heap.size ≤ k := fun k hk => (hx17 k hk).2.elim (fun h => (fun k (hk : X0 k) => Or.inl hk) k h) (fun h => .inr (Nat.le_trans hB9.size h))
  refine gv_pure 1 [0, 3] (σ' := [(0, (.slice a13 (List.length r7) c14)), (3, (.pointer (some ⟨b1, 0, none⟩)))]) (by kernel_rfl) ?_
  refine gv_nil ?_
  refine gv_seq ?_
  refine gv_region ?_
  refine gv_pure 3 [0, 3, 8] (σ' := [(0, (.slice a13 (List.length r7) c14)), (3, (.pointer (some ⟨b1, 0, none⟩))), (8, (.bool (decide (((List.length r7 : Nat) : Int) > 600))))]) (by kernel_rfl) ?_
  refine gv_nil ?_
  refine gv_cond (b := (decide (((List.length r7 : Nat) : Int) > 600))) (by rfl) (fun hc20 => ?_) (fun hc20 => ?_)
  · replace h0 := ite_t hc20 h0
    refine gv_seq ?_
    refine gv_region ?_
    refine bindE h0 ?_; clear h0; intro r21 hr22 h0
    refine gv_call (f := 76) (vs := [(.int .i64 14), (.int .i64 (-1))]) (cap := []) _ (by decide) (by rfl) (by rfl) rfl (by rfl) (by rfl) enters76 (natural_at_ok fuel 14 (-1) w10  r21 hr22) ?_
    rintro v25 w23 ⟨hg24, rfl⟩
    refine ⟨(fun e => by cases e), ?_⟩
    refine gv_pure 1 [2, 3, 9] (σ' := [(2, (.slice none (List.length ([] : List Int)) 0)), (3, (.pointer (some ⟨b1, 0, none⟩))), (9, (.agg #[(.int .i64 r21.1), (.int .i64 r21.2)]))]) (by kernel_rfl) ?_
    have hg30 := (grown_trans hg11 hg24)
    have hk31 := hb4.grown hg30 nb
    refine gv_store (t := 29) (b := b1) (off := 0) (v := (.agg #[(.int .i64 r21.1), (.int .i64 r21.2)])) (t' := 29) (cs := #[(.int .i64 0), (.int .i64 0)]) #[(.int .i64 r21.1), (.int .i64 r21.2)] (by decide) (by rfl) (by rfl) (by kernel_rfl) (by kernel_rfl) (by kernel_rfl) (by intro u hu; simp [Value.cells] at hu; rcases hu with rfl | rfl <;> rfl) (show 0 + 2 ≤ 2 by decide) (by rfl) hk31 ?_
    intro w26 hg27 hb28 hz29
    refine ⟨(fun e => by cases e), ?_⟩
    refine gv_sub [2, 3] (σ' := [(2, (.slice none (List.length ([] : List Int)) 0)), (3, (.pointer (some ⟨b1, 0, none⟩)))]) (by kernel_rfl) ?_
    refine gv_nil ?_
    refine gv_cret ?_
    have e := Option.some.inj h0; subst e
    refine gv_ret (gv_done [(.slice none (List.length ([] : List Int)) 0), (.agg #[(.int .i64 r21.1), (.int .i64 r21.2)])] rfl ⟨rfl, ⟨_, rfl, run_loadVar_row w26 b1 _ 29 _ _ _ hb28 Try.underlying29 rfl (by kernel_rfl)⟩, trivial⟩ ?_)
    have hB32 := below_grown hB9 hg30 hB9.size nb
    have hlo33 : w0.heap.size ≤ b1 := lob hbe5 hB0.size
    have hB34 := below_grown hB32 hg27 hB32.size (rowlo hlo33)
    exact ⟨grown_of_below hB34, none, 0, (fun _ => False), rfl, (Rd.nil (iE .u32) w26 (fun _ => False) none 0), (fun k hk => ⟨(fun _ h => h.elim) k hk, (fun _ h => h.elim) k hk⟩)⟩
  · replace h0 := ite_f hc20 h0
    refine gv_skip ?_
    refine gv_seq ?_
    refine gv_region ?_
    refine gv_pure 3 [2, 3, 11] (σ' := [(2, (.slice a13 (List.length r7) c14)), (3, (.pointer (some ⟨b1, 0, none⟩))), (11, (.agg #[(.int .i64 0), (.int .i64 0)]))]) (by kernel_rfl) ?_
    have hk39 := hb4.grown hg11 nb
    refine gv_store (t := 29) (b := b1) (off := 0) (v := (.agg #[(.int .i64 0), (.int .i64 0)])) (t' := 29) (cs := #[(.int .i64 0), (.int .i64 0)]) #[(.int .i64 0), (.int .i64 0)] (by decide) (by rfl) (by rfl) (by kernel_rfl) (by kernel_rfl) (by kernel_rfl) (by intro u hu; simp [Value.cells] at hu; rcases hu with rfl | rfl <;> rfl) (show 0 + 2 ≤ 2 by decide) (by rfl) hk39 ?_
    intro w35 hg36 hb37 hz38
    refine ⟨(fun e => by cases e), ?_⟩
    refine gv_sub [2, 3] (σ' := [(2, (.slice a13 (List.length r7) c14)), (3, (.pointer (some ⟨b1, 0, none⟩)))]) (by kernel_rfl) ?_
    refine gv_nil ?_
    refine gv_cret ?_
    have e := Option.some.inj h0; subst e
    refine gv_ret (gv_done [(.slice a13 (List.length r7) c14), (.agg #[(.int .i64 0), (.int .i64 0)])] rfl ⟨rfl, ⟨_, rfl, run_loadVar_row w35 b1 _ 29 _ _ _ hb37 Try.underlying29 rfl (by kernel_rfl)⟩, trivial⟩ ?_)
    have hB40 := below_grown hB9 hg11 hB9.size nb
    have hlo41 : w0.heap.size ≤ b1 := lob hbe5 hB0.size
    have hB42 := below_grown hB40 hg36 hB40.size (rowlo hlo41)
    have ap43 : ¬ X16 b1 := fun h => ((hx17 _ h).2.elim (fun h => ((fun (hx : X0 b1) => Nat.not_lt_of_le hlo41 (hX0 _ hx)))  h) (fun h => Nat.not_lt_of_le h (hb4.lt)))
    have hk44 := ho15.grown hg36 hx18 (rowne ap43)
    have hx45 := ltx hx18 hg36.size
    exact ⟨grown_of_below hB42, a13, c14, X16, rfl, hk44, (fun k hk => ⟨hx45 k hk, hx19 k hk⟩)⟩

set_option maxHeartbeats 4000000 in
set_option maxRecDepth 100000 in
theorem natural_Add_ok (fuel : Nat) (pa0_0 : Option Addr) (pc0_0 : Nat) (a_0 : (List Int)) (pa1_0 : Option Addr) (pc1_0 : Nat) (b_1 : (List Int)) (w0 : World) (X0 : Nat → Prop) (hX0 : ∀ k, X0 k → k < w0.heap.size) (hpa0_0 : Rd (iE .u32) w0 X0 pa0_0 pc0_0 a_0) (hpa1_0 : Rd (iE .u32) w0 X0 pa1_0 pc1_0 b_1) (r0 : ((List Int) × (Int × Int))) (h0 : natural_Add fuel a_0 b_1 = some r0) :
    Calls Try.prog 72 ([(.slice pa0_0 (List.length a_0) pc0_0), (.slice pa1_0 (List.length b_1) pc1_0)] : List Value).toArray w0 (Ret fun v w' => w0.grownBy w' none ∧ ∃ (a0_0r : Option Addr) (c0_0r : Nat), ∃ (X0_0r : Nat → Prop), v = tup [(.slice a0_0r (List.length r0.1) c0_0r), (.agg #[(.int .i64 r0.2.1), (.int .i64 r0.2.2)])] ∧ Rd (iE .u32) w' X0_0r a0_0r c0_0r r0.1 ∧ (∀ k, X0_0r k → k < w'.heap.size ∧ (X0 k ∨ w0.heap.size ≤ k))) := by
  have hB0 : Below w0.heap.size w0 w0 := Below.refl _ _
  unfold natural_Add at h0
  refine calls_run Try.func72 rfl Try.ntmps72 (by kernel_rfl) ?_
  refine gv_sub [0, 1] (σ' := [(0, (.slice pa0_0 (List.length a_0) pc0_0)), (1, (.slice pa1_0 (List.length b_1) pc1_0))]) (by kernel_rfl) ?_
  refine gv_seq ?_
  refine gv_region ?_
  refine gv_pure 1 [0, 1] (σ' := [(0, (.slice pa0_0 (List.length a_0) pc0_0)), (1, (.slice pa1_0 (List.length b_1) pc1_0))]) (by kernel_rfl) ?_
  refine gv_new (fun b => .pointer (some ⟨b, 0, none⟩)) #[(.int .i64 0), (.int .i64 0)] 29 (by decide) (by rfl) (by rfl) (by kernel_rfl) (by kernel_rfl) ?_
  intro b1 w2 hg3 hb4 hbe5 hz6
  refine ⟨(fun e => by cases e), ?_⟩
  refine gv_sub [0, 1, 5] (σ' := [(0, (.slice pa0_0 (List.length a_0) pc0_0)), (1, (.slice pa1_0 (List.length b_1) pc1_0)), (5, (.pointer (some ⟨b1, 0, none⟩)))]) (by kernel_rfl) ?_
  refine gv_nil ?_
  refine gv_seq ?_
  refine gv_seq ?_
  refine gv_region ?_
  refine gv_pure 2 [0, 1, 5, 7, 8] (σ' := [(0, (.slice pa0_0 (List.length a_0) pc0_0)), (1, (.slice pa1_0 (List.length b_1) pc1_0)), (5, (.pointer (some ⟨b1, 0, none⟩))), (7, (.slice pa0_0 (List.length a_0) pc0_0)), (8, (.slice pa1_0 (List.length b_1) pc1_0))]) (by kernel_rfl) ?_
  refine bindE h0 ?_; clear h0; intro r7 hr8 h0
  have hB9 := below_grown hB0 hg3 hB0.size nb
  refine gv_call (f := 70) (vs := [(.slice pa0_0 (List.length a_0) pc0_0), (.slice pa1_0 (List.length b_1) pc1_0)]) (cap := []) _ (by decide) (by rfl) (by rfl) rfl (by rfl) (by rfl) enters70 (natural_check_ok fuel pa0_0 pc0_0 a_0 pa1_0 pc1_0 b_1 w2 (fun k => X0 k ∨ X0 k) (fun k hk => (hk).elim (fun h => (fun k (hk : X0 k) => Nat.lt_of_lt_of_le (hX0 k hk) hB9.size) k h) (fun h => (fun k (hk : X0 k) => Nat.lt_of_lt_of_le (hX0 k hk) hB9.size) k h)) ((hpa0_0.below hB9 hX0).wide (fun k hk => (.inl hk))) ((hpa1_0.below hB9 hX0).wide (fun k hk => (.inr hk))) r7 hr8) ?_
  rintro v12 w10 ⟨hg11, rfl⟩
  refine ⟨(fun e => by cases e), ?_⟩
  refine gv_sub [0, 1, 5, 9] (σ' := [(0, (.slice pa0_0 (List.length a_0) pc0_0)), (1, (.slice pa1_0 (List.length b_1) pc1_0)), (5, (.pointer (some ⟨b1, 0, none⟩))), (9, (.agg #[(.int .i64 r7.1), (.int .i64 r7.2)]))]) (by kernel_rfl) ?_
  refine gv_new (fun b => .pointer (some ⟨b, 0, none⟩)) #[(.int .i64 0), (.int .i64 0)] 29 (by decide) (by rfl) (by rfl) (by kernel_rfl) (by kernel_rfl) ?_
  intro b13 w14 hg15 hb16 hbe17 hz18
  refine ⟨(fun e => by cases e), ?_⟩
  refine gv_sub [0, 1, 5, 6, 9] (σ' := [(0, (.slice pa0_0 (List.length a_0) pc0_0)), (1, (.slice pa1_0 (List.length b_1) pc1_0)), (5, (.pointer (some ⟨b1, 0, none⟩))), (6, (.pointer (some ⟨b13, 0, none⟩))), (9, (.agg #[(.int .i64 r7.1), (.int .i64 r7.2)]))]) (by kernel_rfl) ?_
  refine gv_store (t := 29) (b := b13) (off := 0) (v := (.agg #[(.int .i64 r7.1), (.int .i64 r7.2)])) (t' := 29) (cs := #[(.int .i64 0), (.int .i64 0)]) #[(.int .i64 r7.1), (.int .i64 r7.2)] (by decide) (by rfl) (by rfl) (by kernel_rfl) (by kernel_rfl) (by kernel_rfl) (by intro u hu; simp [Value.cells] at hu; rcases hu with rfl | rfl <;> rfl) (show 0 + 2 ≤ 2 by decide) (by rfl) hb16 ?_
  intro w19 hg20 hb21 hz22
  refine ⟨(fun e => by cases e), ?_⟩
  refine gv_sub [0, 1, 5, 6] (σ' := [(0, (.slice pa0_0 (List.length a_0) pc0_0)), (1, (.slice pa1_0 (List.length b_1) pc1_0)), (5, (.pointer (some ⟨b1, 0, none⟩))), (6, (.pointer (some ⟨b13, 0, none⟩)))]) (by kernel_rfl) ?_
  refine gv_nil ?_
  refine gv_seq ?_
  refine gv_region ?_
  refine gv_pure 1 [0, 1, 5, 6, 10] (σ' := [(0, (.slice pa0_0 (List.length a_0) pc0_0)), (1, (.slice pa1_0 (List.length b_1) pc1_0)), (5, (.pointer (some ⟨b1, 0, none⟩))), (6, (.pointer (some ⟨b13, 0, none⟩))), (10, (.pointer (some ⟨b13, 0, none⟩)))]) (by kernel_rfl) ?_
  refine gv_load (t := 3) (A := ⟨b13, 0, none⟩) (.int .i64 r7.1) [0, 1, 5, 6, 11] (σ' := [(0, (.slice pa0_0 (List.length a_0) pc0_0)), (1, (.slice pa1_0 (List.length b_1) pc1_0)), (5, (.pointer (some ⟨b1, 0, none⟩))), (6, (.pointer (some ⟨b13, 0, none⟩))), (11, (.int .i64 r7.1))]) (fun e => by cases e) (by rfl) (by rfl) (by rfl) (by kernel_rfl) (by kernel_rfl) (by kernel_rfl) (inw0 (hb21.cell 0 rfl)) (by kernel_rfl) ?_
  refine gv_pure 1 [0, 1, 5, 6, 12] (σ' := [(0, (.slice pa0_0 (List.length a_0) pc0_0)), (1, (.slice pa1_0 (List.length b_1) pc1_0)), (5, (.pointer (some ⟨b1, 0, none⟩))), (6, (.pointer (some ⟨b13, 0, none⟩))), (12, (.bool (r7.1 != 0)))]) (by kernel_rfl) ?_
  refine gv_nil ?_
  refine gv_cond (b := (r7.1 != 0)) (by rfl) (fun hc23 => ?_) (fun hc23 => ?_)
  · replace h0 := ite_t hc23 h0
    refine gv_seq ?_
    refine gv_drawA (by kernel_rfl) ?_
    intro w24 hg25
    refine gv_pre [1] #[false, true, false] 2 (by kernel_rfl) (by rfl) ?_
    refine gv_pure 1 [4, 5, 6] (σ' := [(4, (.slice none (List.length ([] : List Int)) 0)), (5, (.pointer (some ⟨b1, 0, none⟩))), (6, (.pointer (some ⟨b13, 0, none⟩)))]) (by kernel_rfl) ?_
    refine gv_nil ?_
    refine gv_goal fun a hd hs hok => ?_
    refine (?_ : RunA Try.prog _ 20 _ _ 2 #[false, true, false] [(4, (.slice none (List.length ([] : List Int)) 0)), (5, (.pointer (some ⟨b1, 0, none⟩))), (6, (.pointer (some ⟨b13, 0, none⟩)))] w24) a hd hs hok
    clear hd hs hok
    refine gv_stage (Cls w24 []) [0, 1] [(0, some true)] #[true, true, false] 1 (by kernel_rfl) (by rfl) (Cls.refl _ _) ?_
    have hC26 := Cls.refl w24 []
    have hk27 := hb21.grown hg25 nb
    refine gv_loadBox (t := 29) (b := b13) (t' := 29) (fr := (0, 0)) #[(.int .i64 r7.1), (.int .i64 r7.2)] [4, 5, 13] (σ' := [(4, (.slice none (List.length ([] : List Int)) 0)), (5, (.pointer (some ⟨b1, 0, none⟩))), (13, (.agg #[(.int .i64 r7.1), (.int .i64 r7.2)]))]) (fun e => by cases e) (by rfl) (by rfl) (by rfl) (by kernel_rfl) (by kernel_rfl) (by kernel_rfl) (by kernel_rfl) (inw1 fun w' hC' => (hC'.box hk27 nm_nil)) (by kernel_rfl) ?_
    refine gv_nil ?_
    refine gv_goal fun a hd hs hok => ?_
    refine (?_ : RunA Try.prog _ 20 _ _ 1 #[true, true, false] [(4, (.slice none (List.length ([] : List Int)) 0)), (5, (.pointer (some ⟨b1, 0, none⟩))), (13, (.agg #[(.int .i64 r7.1), (.int .i64 r7.2)]))] w24) a hd hs hok
    clear hd hs hok
    refine gv_stage (fun _ => True) [0, 1, 2] [(2, some false)] #[true, true, true] 0 (by kernel_rfl) (by rfl) trivial ?_
    have hg32 := (grown_trans hg11 hg15)
    have hk33 := hb4.grown hg11 nb
    have ap34 : ¬ (· = b1) b13 := fun hx => Nat.not_lt_of_le ((lowb hbe17) _ rfl) ((fun k (hk : k = b1) => Nat.lt_of_le_of_lt (Nat.le_of_eq hk) hk33.lt) _ hx)
    have hk35 := ((hb4.grown hg32 nb).grown hg20 (rowne ap34)).grown hg25 nb
    refine gv_store (t := 29) (b := b1) (off := 0) (v := (.agg #[(.int .i64 r7.1), (.int .i64 r7.2)])) (t' := 29) (cs := #[(.int .i64 0), (.int .i64 0)]) #[(.int .i64 r7.1), (.int .i64 r7.2)] (by decide) (by rfl) (by rfl) (by kernel_rfl) (by kernel_rfl) (by kernel_rfl) (by intro u hu; simp [Value.cells] at hu; rcases hu with rfl | rfl <;> rfl) (show 0 + 2 ≤ 2 by decide) (by rfl) hk35 ?_
    intro w28 hg29 hb30 hz31
    refine ⟨(fun _ => trivial), ?_⟩
    refine gv_sub [4, 5] (σ' := [(4, (.slice none (List.length ([] : List Int)) 0)), (5, (.pointer (some ⟨b1, 0, none⟩)))]) (by kernel_rfl) ?_
    refine gv_nil ?_
    refine gv_goal fun a hd hs hok => ?_
    refine (?_ : RunA Try.prog _ 20 _ _ 0 #[true, true, true] [(4, (.slice none (List.length ([] : List Int)) 0)), (5, (.pointer (some ⟨b1, 0, none⟩)))] w28) a hd hs hok
    clear hd hs hok
    refine gv_stageE (by kernel_rfl) ?_
    refine gv_cret ?_
    have e := Option.some.inj h0; subst e
    refine gv_ret (gv_done [(.slice none (List.length ([] : List Int)) 0), (.agg #[(.int .i64 r7.1), (.int .i64 r7.2)])] rfl ⟨rfl, ⟨_, rfl, run_loadVar_row w28 b1 _ 29 _ _ _ hb30 Try.underlying29 rfl (by kernel_rfl)⟩, trivial⟩ ?_)
    have hB36 := below_grown hB9 hg32 hB9.size nb
    have hB37 := below_grown hB9 hg11 hB9.size nb
    have hlo38 : w0.heap.size ≤ b13 := lob hbe17 hB37.size
    have hB39 := below_grown hB36 hg20 hB36.size (rowlo hlo38)
    have hB40 := below_grown hB39 hg25 hB39.size nb
    have hlo41 : w0.heap.size ≤ b1 := lob hbe5 hB0.size
    have hB42 := below_grown hB40 hg29 hB40.size (rowlo hlo41)
    exact ⟨grown_of_below hB42, none, 0, (fun _ => False), rfl, (Rd.nil (iE .u32) w28 (fun _ => False) none 0), (fun k hk => ⟨(fun _ h => h.elim) k hk, (fun _ h => h.elim) k hk⟩)⟩
  · replace h0 := ite_f hc23 h0
    refine gv_skip ?_
    refine gv_seq ?_
    refine gv_region ?_
    refine gv_pure 2 [5, 14, 15] (σ' := [(5, (.pointer (some ⟨b1, 0, none⟩))), (14, (.slice pa0_0 (List.length a_0) pc0_0)), (15, (.slice pa1_0 (List.length b_1) pc1_0))]) (by kernel_rfl) ?_
    refine bindE h0 ?_; clear h0; intro r43 hr44 h0
    have hg45 := (grown_trans hg11 hg15)
    have hB46 := below_grown hB9 hg45 hB9.size nb
    have hB47 := below_grown hB9 hg11 hB9.size nb
    have hlo48 : w0.heap.size ≤ b13 := lob hbe17 hB47.size
    have hB49 := below_grown hB46 hg20 hB46.size (rowlo hlo48)
    refine gv_call (f := 79) (vs := [(.slice pa0_0 (List.length a_0) pc0_0), (.slice pa1_0 (List.length b_1) pc1_0)]) (cap := []) _ (by decide) (by rfl) (by rfl) rfl (by rfl) (by rfl) enters79 (natural_add_ok fuel pa0_0 pc0_0 a_0 pa1_0 pc1_0 b_1 w19 (fun k => X0 k ∨ X0 k) (fun k hk => (hk).elim (fun h => (fun k (hk : X0 k) => Nat.lt_of_lt_of_le (hX0 k hk) hB49.size) k h) (fun h => (fun k (hk : X0 k) => Nat.lt_of_lt_of_le (hX0 k hk) hB49.size) k h)) ((hpa0_0.below hB49 hX0).wide (fun k hk => (.inl hk))) ((hpa1_0.below hB49 hX0).wide (fun k hk => (.inr hk))) r43 hr44) ?_
    rintro v52 w50 ⟨hg51, a53, c54, X56, rfl, ho55, hx57⟩
    refine ⟨(fun e => by cases e), ?_⟩
    have hx58 : ∀ k, X56 k → k < w50.heap.size := fun k hk => (hx57 k hk).1
    have hx59 : ∀ k, X56 k → X0 k ∨ w0.heap.size ≤ k := fun k hk => (hx57 k hk).2.elim (fun h => (h).elim (fun h => (fun k (hk : X0 k) => Or.inl hk) k h) (fun h => (fun k (hk : X0 k) => Or.inl hk) k h)) (fun h => .inr (Nat.le_trans hB49.size h))
    refine gv_sub [5, 16] (σ' := [(5, (.pointer (some ⟨b1, 0, none⟩))), (16, (.slice a53 (List.length r43) c54))]) (by kernel_rfl) ?_
    refine bindE h0 ?_; clear h0; intro r60 hr61 h0
    refine gv_call (f := 78) (vs := [(.slice a53 (List.length r43) c54)]) (cap := []) _ (by decide) (by rfl) (by rfl) rfl (by rfl) (by rfl) enters78 (natural_fit_ok fuel a53 c54 r43 w50 (fun k => X56 k) (fun k hk => hx58 k hk) (ho55.wide (fun k hk => hk)) r60 hr61) ?_
    rintro v64 w62 ⟨hg63, a65, c66, X68, rfl, ho67, hx69⟩
    refine ⟨(fun e => by cases e), ?_⟩
    have hx70 : ∀ k, X68 k → k < w62.heap.size := fun k hk => (hx69 k hk).1
    have hB72 := below_grown hB49 hg51 hB49.size nb
    have hx71 : ∀ k, X68 k → X0 k ∨ w0.heap.size ≤ k := fun k hk => (hx69 k hk).2.elim (fun h => hx59 k h) (fun h => .inr (Nat.le_trans hB72.size h))
    clear hr61 hx59 hx58 ho55 hB49 hlo48 hB47 hB46 hg45 hr44 hc23 hz22 hb21 hz18 hb16 hB9 hr8 hz6 hg3
    refine gv_pure 3 [4, 5, 19] (σ' := [(4, (.slice a65 (List.length r60.1) c66)), (5, (.pointer (some ⟨b1, 0, none⟩))), (19, (.agg #[(.int .i64 r60.2.1), (.int .i64 r60.2.2)]))]) (by kernel_rfl) ?_
    have hg77 := (grown_trans hg11 hg15)
    have hk78 := hb4.grown hg11 nb
    have ap79 : ¬ (· = b1) b13 := fun hx => Nat.not_lt_of_le ((lowb hbe17) _ rfl) ((fun k (hk : k = b1) => Nat.lt_of_le_of_lt (Nat.le_of_eq hk) hk78.lt) _ hx)
    have hg80 := (grown_trans hg51 hg63)
    have hk81 := ((hb4.grown hg77 nb).grown hg20 (rowne ap79)).grown hg80 nb
    refine gv_store (t := 29) (b := b1) (off := 0) (v := (.agg #[(.int .i64 r60.2.1), (.int .i64 r60.2.2)])) (t' := 29) (cs := #[(.int .i64 0), (.int .i64 0)]) #[(.int .i64 r60.2.1), (.int .i64 r60.2.2)] (by decide) (by rfl) (by rfl) (by kernel_rfl) (by kernel_rfl) (by kernel_rfl) (by intro u hu; simp [Value.cells] at hu; rcases hu with rfl | rfl <;> rfl) (show 0 + 2 ≤ 2 by decide) (by rfl) hk81 ?_
    intro w73 hg74 hb75 hz76
    refine ⟨(fun e => by cases e), ?_⟩
    refine gv_sub [4, 5] (σ' := [(4, (.slice a65 (List.length r60.1) c66)), (5, (.pointer (some ⟨b1, 0, none⟩)))]) (by kernel_rfl) ?_
    refine gv_nil ?_
    refine gv_cret ?_
    have e := Option.some.inj h0; subst e
    refine gv_ret (gv_done [(.slice a65 (List.length r60.1) c66), (.agg #[(.int .i64 r60.2.1), (.int .i64 r60.2.2)])] rfl ⟨rfl, ⟨_, rfl, run_loadVar_row w73 b1 _ 29 _ _ _ hb75 Try.underlying29 rfl (by kernel_rfl)⟩, trivial⟩ ?_)
    have hB82 := below_grown hB72 hg63 hB72.size nb
    have hlo83 : w0.heap.size ≤ b1 := lob hbe5 hB0.size
    have hB84 := below_grown hB82 hg74 hB82.size (rowlo hlo83)
    have hk85 := (hk78.grown hg15 nb).grown hg20 (rowne ap79)
    have ap86 : ¬ X56 b1 := fun h => ((hx57 _ h).2.elim (fun h => (h).elim (fun h => ((fun (hx : X0 b1) => Nat.not_lt_of_le hlo83 (hX0 _ hx)))  h) (fun h => ((fun (hx : X0 b1) => Nat.not_lt_of_le hlo83 (hX0 _ hx)))  h)) (fun h => Nat.not_lt_of_le h (hk85.lt)))
    have hk87 := hk85.grown hg51 nb
    have ap88 : ¬ X68 b1 := fun h => ((hx69 _ h).2.elim (fun h => (ap86)  h) (fun h => Nat.not_lt_of_le h (hk87.lt)))
    have hk89 := ho67.grown hg74 hx70 (rowne ap88)
    have hx90 := ltx hx70 hg74.size
    exact ⟨grown_of_below hB84, a65, c66, X68, rfl, hk89, (fun k hk => ⟨hx90 k hk, hx71 k hk⟩)⟩

set_option maxHeartbeats 4000000 in
set_option maxRecDepth 100000 in
theorem integer_signed_ok (fuel : Nat) (neg_0 : Bool) (pa1_0 : Option Addr) (pc1_0 : Nat) (limbs_1 : (List Int)) (w0 : World) (X0 : Nat → Prop) (hX0 : ∀ k, X0 k → k < w0.heap.size) (hpa1_0 : Rd (iE .u32) w0 X0 pa1_0 pc1_0 limbs_1) (r0 : ((Bool × (List Int)) × (Int × Int))) (h0 : integer_signed fuel neg_0 limbs_1 = some r0) :
    Calls Try.prog 73 ([(.bool neg_0), (.slice pa1_0 (List.length limbs_1) pc1_0)] : List Value).toArray w0 (Ret fun v w' => w0.grownBy w' none ∧ ∃ (a0_0r : Option Addr) (c0_0r : Nat), ∃ (X0_0r : Nat → Prop), v = tup [(.agg #[(.bool r0.1.1), (.slice a0_0r (List.length r0.1.2) c0_0r)]), (.agg #[(.int .i64 r0.2.1), (.int .i64 r0.2.2)])] ∧ Rd (iE .u32) w' X0_0r a0_0r c0_0r r0.1.2 ∧ (∀ k, X0_0r k → k < w'.heap.size ∧ (X0 k ∨ w0.heap.size ≤ k))) := by
  have hB0 : Below w0.heap.size w0 w0 := Below.refl _ _
  unfold integer_signed at h0
  refine calls_run Try.func73 rfl Try.ntmps73 (by kernel_rfl) ?_
  refine gv_sub [0, 1] (σ' := [(0, (.bool neg_0)), (1, (.slice pa1_0 (List.length limbs_1) pc1_0))]) (by kernel_rfl) ?_
  refine gv_seq ?_
  refine gv_region ?_
  refine gv_new (fun b => .pointer (some ⟨b, 0, none⟩)) #[(.bool false), (.slice none (List.length ([] : List Int)) 0)] 24 (by decide) (by rfl) (by rfl) (by kernel_rfl) (by kernel_rfl) ?_
  intro b1 w2 hg3 hb4 hbe5 hz6
  refine ⟨(fun e => by cases e), ?_⟩
  refine gv_sub [0, 1, 4] (σ' := [(0, (.bool neg_0)), (1, (.slice pa1_0 (List.length limbs_1) pc1_0)), (4, (.pointer (some ⟨b1, 0, none⟩)))]) (by kernel_rfl) ?_
  refine gv_new (fun b => .pointer (some ⟨b, 0, none⟩)) #[(.int .i64 0), (.int .i64 0)] 29 (by decide) (by rfl) (by rfl) (by kernel_rfl) (by kernel_rfl) ?_
  intro b7 w8 hg9 hb10 hbe11 hz12
  refine ⟨(fun e => by cases e), ?_⟩
  refine gv_sub [0, 1, 4, 5] (σ' := [(0, (.bool neg_0)), (1, (.slice pa1_0 (List.length limbs_1) pc1_0)), (4, (.pointer (some ⟨b1, 0, none⟩))), (5, (.pointer (some ⟨b7, 0, none⟩)))]) (by kernel_rfl) ?_
  refine gv_nil ?_
  refine gv_seq ?_
  refine gv_seq ?_
  refine gv_region ?_
  refine gv_pure 3 [0, 1, 4, 5, 8] (σ' := [(0, (.bool neg_0)), (1, (.slice pa1_0 (List.length limbs_1) pc1_0)), (4, (.pointer (some ⟨b1, 0, none⟩))), (5, (.pointer (some ⟨b7, 0, none⟩))), (8, (.bool (decide (((List.length limbs_1 : Nat) : Int) > 128))))]) (by kernel_rfl) ?_
  refine gv_nil ?_
  refine gv_cond (b := (decide (((List.length limbs_1 : Nat) : Int) > 128))) (by rfl) (fun hc13 => ?_) (fun hc13 => ?_)
  · replace h0 := ite_t hc13 h0
    refine gv_seq ?_
    refine gv_region ?_
    refine gv_pure 1 [4, 5, 9] (σ' := [(4, (.pointer (some ⟨b1, 0, none⟩))), (5, (.pointer (some ⟨b7, 0, none⟩))), (9, (.agg #[(.bool false), (.slice none (List.length ([] : List Int)) 0)]))]) (by kernel_rfl) ?_
    refine bindE h0 ?_; clear h0; intro r14 hr15 h0
    refine gv_call (f := 69) (vs := [(.int .i64 14), (.int .i64 (-1))]) (cap := []) _ (by decide) (by rfl) (by rfl) rfl (by rfl) (by rfl) enters69 (integer_at_ok fuel 14 (-1) w8  r14 hr15) ?_
    rintro v18 w16 ⟨hg17, rfl⟩
    refine ⟨(fun e => by cases e), ?_⟩
    have hg23 := (grown_trans hg9 hg17)
    have hk24 := hb4.grown hg23 nb
    refine gv_sub [4, 5, 9, 10] (σ' := [(4, (.pointer (some ⟨b1, 0, none⟩))), (5, (.pointer (some ⟨b7, 0, none⟩))), (9, (.agg #[(.bool false), (.slice none (List.length ([] : List Int)) 0)])), (10, (.agg #[(.int .i64 r14.1), (.int .i64 r14.2)]))]) (by kernel_rfl) ?_
    refine gv_store (t := 24) (b := b1) (off := 0) (v := (.agg #[(.bool false), (.slice none (List.length ([] : List Int)) 0)])) (t' := 24) (cs := #[(.bool false), (.slice none (List.length ([] : List Int)) 0)]) #[(.bool false), (.slice none (List.length ([] : List Int)) 0)] (by decide) (by rfl) (by rfl) (by kernel_rfl) (by kernel_rfl) (by kernel_rfl) (by intro u hu; simp [Value.cells] at hu; rcases hu with rfl | rfl <;> rfl) (show 0 + 2 ≤ 2 by decide) (by rfl) hk24 ?_
    intro w19 hg20 hb21 hz22
    refine ⟨(fun e => by cases e), ?_⟩
    have ap29 : ¬ (· = b7) b1 := fun hx => Nat.not_lt_of_le ((lowb hbe11) _ hx) ((fun k (hk : k = b1) => Nat.lt_of_le_of_lt (Nat.le_of_eq hk) hb4.lt) _ rfl)
    have hk30 := (hb10.grown hg17 nb).grown hg20 (rowne ap29)
    refine gv_sub [4, 5, 10] (σ' := [(4, (.pointer (some ⟨b1, 0, none⟩))), (5, (.pointer (some ⟨b7, 0, none⟩))), (10, (.agg #[(.int .i64 r14.1), (.int .i64 r14.2)]))]) (by kernel_rfl) ?_
    refine gv_store (t := 29) (b := b7) (off := 0) (v := (.agg #[(.int .i64 r14.1), (.int .i64 r14.2)])) (t' := 29) (cs := #[(.int .i64 0), (.int .i64 0)]) #[(.int .i64 r14.1), (.int .i64 r14.2)] (by decide) (by rfl) (by rfl) (by kernel_rfl) (by kernel_rfl) (by kernel_rfl) (by intro u hu; simp [Value.cells] at hu; rcases hu with rfl | rfl <;> rfl) (show 0 + 2 ≤ 2 by decide) (by rfl) hk30 ?_
    intro w25 hg26 hb27 hz28
    refine ⟨(fun e => by cases e), ?_⟩
    refine gv_sub [4, 5] (σ' := [(4, (.pointer (some ⟨b1, 0, none⟩))), (5, (.pointer (some ⟨b7, 0, none⟩)))]) (by kernel_rfl) ?_
    refine gv_nil ?_
    refine gv_cret ?_
    have e := Option.some.inj h0; subst e
    have ap31 : ¬ (· = b1) b7 := fun hx => Nat.not_lt_of_le ((lowb hbe11) _ rfl) ((fun k (hk : k = b1) => Nat.lt_of_le_of_lt (Nat.le_of_eq hk) hb4.lt) _ hx)
    have hk32 := hb21.grown hg26 (rowne ap31)
    refine gv_ret (gv_done [(.agg #[(.bool false), (.slice none (List.length ([] : List Int)) 0)]), (.agg #[(.int .i64 r14.1), (.int .i64 r14.2)])] rfl ⟨⟨_, rfl, run_loadVar_row w25 b1 _ 24 _ _ _ hk32 Try.underlying24 rfl (by kernel_rfl)⟩, ⟨_, rfl, run_loadVar_row w25 b7 _ 29 _ _ _ hb27 Try.underlying29 rfl (by kernel_rfl)⟩, trivial⟩ ?_)
    have hg33 := (grown_trans hg3 hg23)
    have hB34 := below_grown hB0 hg33 hB0.size nb
    have hlo35 : w0.heap.size ≤ b1 := lob hbe5 hB0.size
    have hB36 := below_grown hB34 hg20 hB34.size (rowlo hlo35)
    have hB37 := below_grown hB0 hg3 hB0.size nb
    have hlo38 : w0.heap.size ≤ b7 := lob hbe11 hB37.size
    have hB39 := below_grown hB36 hg26 hB36.size (rowlo hlo38)
    exact ⟨grown_of_below hB39, none, 0, (fun _ => False), rfl, (Rd.nil (iE .u32) w25 (fun _ => False) none 0), (fun k hk => ⟨(fun _ h => h.elim) k hk, (fun _ h => h.elim) k hk⟩)⟩
  · replace h0 := ite_f hc13 h0
    refine gv_skip ?_
    refine gv_seq ?_
    refine gv_region ?_
    refine bindE h0 ?_; clear h0; intro j40 h1 h0
    refine gv_cut_ops (J := fun a w41 => ∃ (abb1_0j : Option Addr) (cbb1_0j : Nat), Below w0.heap.size w0 w41 ∧ w8.heap.size ≤ w41.heap.size ∧ Rd (iE .u32) w0 X0 abb1_0j cbb1_0j j40.1.2 ∧ Box w41 b1 24 #[(.bool j40.1.1), (.slice abb1_0j (List.length j40.1.2) cbb1_0j)] ∧ Box w41 b7 29 #[(.int .i64 j40.2.1), (.int .i64 j40.2.2)] ∧ a.defers = [] ∧ a.tmps.size = 20 ∧ Ok [(4, (.pointer (some ⟨b1, 0, none⟩))), (5, (.pointer (some ⟨b7, 0, none⟩)))] a.tmps) ?_ ?_
    · skip
      refine gv_pure 2 [1, 4, 5, 12] (σ' := [(1, (.slice pa1_0 (List.length limbs_1) pc1_0)), (4, (.pointer (some ⟨b1, 0, none⟩))), (5, (.pointer (some ⟨b7, 0, none⟩))), (12, (.bool neg_0))]) (by kernel_rfl) ?_
      refine gv_split (s := 12) (g := neg_0) (by rfl) (fun hc42 => ?_) (fun hc42 => ?_)
      · skip
        replace h1 := ite_t hc42 h1
        refine gv_pure 7 [4, 5, 18, 19] (σ' := [(4, (.pointer (some ⟨b1, 0, none⟩))), (5, (.pointer (some ⟨b7, 0, none⟩))), (18, (.agg #[(.bool (decide (((List.length limbs_1 : Nat) : Int) > 0))), (.slice pa1_0 (List.length limbs_1) pc1_0)])), (19, (.agg #[(.int .i64 0), (.int .i64 0)]))]) (by kernel_rfl) ?_
        have hk47 := hb4.grown hg9 nb
        refine gv_store (t := 24) (b := b1) (off := 0) (v := (.agg #[(.bool (decide (((List.length limbs_1 : Nat) : Int) > 0))), (.slice pa1_0 (List.length limbs_1) pc1_0)])) (t' := 24) (cs := #[(.bool false), (.slice none (List.length ([] : List Int)) 0)]) #[(.bool (decide (((List.length limbs_1 : Nat) : Int) > 0))), (.slice pa1_0 (List.length limbs_1) pc1_0)] (by decide) (by rfl) (by rfl) (by kernel_rfl) (by kernel_rfl) (by kernel_rfl) (by intro u hu; simp [Value.cells] at hu; rcases hu with rfl | rfl <;> rfl) (show 0 + 2 ≤ 2 by decide) (by rfl) hk47 ?_
        intro w43 hg44 hb45 hz46
        refine ⟨(fun e => by cases e), ?_⟩
        have ap52 : ¬ (· = b7) b1 := fun hx => Nat.not_lt_of_le ((lowb hbe11) _ hx) ((fun k (hk : k = b1) => Nat.lt_of_le_of_lt (Nat.le_of_eq hk) hb4.lt) _ rfl)
        have hk53 := hb10.grown hg44 (rowne ap52)
        refine gv_sub [4, 5, 19] (σ' := [(4, (.pointer (some ⟨b1, 0, none⟩))), (5, (.pointer (some ⟨b7, 0, none⟩))), (19, (.agg #[(.int .i64 0), (.int .i64 0)]))]) (by kernel_rfl) ?_
        refine gv_store (t := 29) (b := b7) (off := 0) (v := (.agg #[(.int .i64 0), (.int .i64 0)])) (t' := 29) (cs := #[(.int .i64 0), (.int .i64 0)]) #[(.int .i64 0), (.int .i64 0)] (by decide) (by rfl) (by rfl) (by kernel_rfl) (by kernel_rfl) (by kernel_rfl) (by intro u hu; simp [Value.cells] at hu; rcases hu with rfl | rfl <;> rfl) (show 0 + 2 ≤ 2 by decide) (by rfl) hk53 ?_
        intro w48 hg49 hb50 hz51
        refine ⟨(fun e => by cases e), ?_⟩
        refine gv_sub [4, 5] (σ' := [(4, (.pointer (some ⟨b1, 0, none⟩))), (5, (.pointer (some ⟨b7, 0, none⟩)))]) (by kernel_rfl) ?_
        refine gv_nil ?_
        have e := Option.some.inj h1; subst e
        refine gv_goal fun a hd hs hok => ?_
        obtain ⟨q4, q5, _⟩ := hok
        have hg54 := (grown_trans hg3 hg9)
        have hB55 := below_grown hB0 hg54 hB0.size nb
        have hlo56 : w0.heap.size ≤ b1 := lob hbe5 hB0.size
        have hB57 := below_grown hB55 hg44 hB55.size (rowlo hlo56)
        have hB58 := below_grown hB0 hg3 hB0.size nb
        have hlo59 : w0.heap.size ≤ b7 := lob hbe11 hB58.size
        have hB60 := below_grown hB57 hg49 hB57.size (rowlo hlo59)
        have hz61 : w8.heap.size ≤ w48.heap.size := (Nat.le_trans hg44.size hg49.size)
        have ap62 : ¬ (· = b1) b7 := fun hx => Nat.not_lt_of_le ((lowb hbe11) _ rfl) ((fun k (hk : k = b1) => Nat.lt_of_le_of_lt (Nat.le_of_eq hk) hb4.lt) _ hx)
        have hk63 := hb45.grown hg49 (rowne ap62)
        exact ⟨pa1_0, pc1_0, hB60, hz61, hpa1_0, hk63, hb50, hd, hs, ⟨q4, q5, trivial⟩⟩
      · skip
        replace h1 := ite_f hc42 h1
        refine gv_pure 7 [4, 5, 18, 19] (σ' := [(4, (.pointer (some ⟨b1, 0, none⟩))), (5, (.pointer (some ⟨b7, 0, none⟩))), (18, (.agg #[(.bool false), (.slice pa1_0 (List.length limbs_1) pc1_0)])), (19, (.agg #[(.int .i64 0), (.int .i64 0)]))]) (by kernel_rfl) ?_
        have hk68 := hb4.grown hg9 nb
        refine gv_store (t := 24) (b := b1) (off := 0) (v := (.agg #[(.bool false), (.slice pa1_0 (List.length limbs_1) pc1_0)])) (t' := 24) (cs := #[(.bool false), (.slice none (List.length ([] : List Int)) 0)]) #[(.bool false), (.slice pa1_0 (List.length limbs_1) pc1_0)] (by decide) (by rfl) (by rfl) (by kernel_rfl) (by kernel_rfl) (by kernel_rfl) (by intro u hu; simp [Value.cells] at hu; rcases hu with rfl | rfl <;> rfl) (show 0 + 2 ≤ 2 by decide) (by rfl) hk68 ?_
        intro w64 hg65 hb66 hz67
        refine ⟨(fun e => by cases e), ?_⟩
        clear hz67 hk68 hc42 hc13 hz12 hz6
        have ap73 : ¬ (· = b7) b1 := fun hx => Nat.not_lt_of_le ((lowb hbe11) _ hx) ((fun k (hk : k = b1) => Nat.lt_of_le_of_lt (Nat.le_of_eq hk) hb4.lt) _ rfl)
        have hk74 := hb10.grown hg65 (rowne ap73)
        refine gv_sub [4, 5, 19] (σ' := [(4, (.pointer (some ⟨b1, 0, none⟩))), (5, (.pointer (some ⟨b7, 0, none⟩))), (19, (.agg #[(.int .i64 0), (.int .i64 0)]))]) (by kernel_rfl) ?_
        refine gv_store (t := 29) (b := b7) (off := 0) (v := (.agg #[(.int .i64 0), (.int .i64 0)])) (t' := 29) (cs := #[(.int .i64 0), (.int .i64 0)]) #[(.int .i64 0), (.int .i64 0)] (by decide) (by rfl) (by rfl) (by kernel_rfl) (by kernel_rfl) (by kernel_rfl) (by intro u hu; simp [Value.cells] at hu; rcases hu with rfl | rfl <;> rfl) (show 0 + 2 ≤ 2 by decide) (by rfl) hk74 ?_
        intro w69 hg70 hb71 hz72
        refine ⟨(fun e => by cases e), ?_⟩
        refine gv_sub [4, 5] (σ' := [(4, (.pointer (some ⟨b1, 0, none⟩))), (5, (.pointer (some ⟨b7, 0, none⟩)))]) (by kernel_rfl) ?_
        refine gv_nil ?_
        have e := Option.some.inj h1; subst e
        refine gv_goal fun a hd hs hok => ?_
        obtain ⟨q4, q5, _⟩ := hok
        have hg75 := (grown_trans hg3 hg9)
        have hB76 := below_grown hB0 hg75 hB0.size nb
        have hlo77 : w0.heap.size ≤ b1 := lob hbe5 hB0.size
        have hB78 := below_grown hB76 hg65 hB76.size (rowlo hlo77)
        have hB79 := below_grown hB0 hg3 hB0.size nb
        have hlo80 : w0.heap.size ≤ b7 := lob hbe11 hB79.size
        have hB81 := below_grown hB78 hg70 hB78.size (rowlo hlo80)
        have hz82 : w8.heap.size ≤ w69.heap.size := (Nat.le_trans hg65.size hg70.size)
        have ap83 : ¬ (· = b1) b7 := fun hx => Nat.not_lt_of_le ((lowb hbe11) _ rfl) ((fun k (hk : k = b1) => Nat.lt_of_le_of_lt (Nat.le_of_eq hk) hb4.lt) _ hx)
        have hk84 := hb66.grown hg70 (rowne ap83)
        exact ⟨pa1_0, pc1_0, hB81, hz82, hpa1_0, hk84, hb71, hd, hs, ⟨q4, q5, trivial⟩⟩
    · rintro a w41 ⟨a87, c88, hB85, hz86, hp89, hb90, hb91, hd, hs, hok⟩
      refine (?_ : Run Try.prog _ 20 _ .normal [(4, (.pointer (some ⟨b1, 0, none⟩))), (5, (.pointer (some ⟨b7, 0, none⟩)))] w41) a hd hs hok
      clear hd hs hok
      clear hz86 hc13 hz12 hb10 hg9 hz6
      refine gv_cret ?_
      have e := Option.some.inj h0; subst e
      refine gv_ret (gv_done [(.agg #[(.bool j40.1.1), (.slice a87 (List.length j40.1.2) c88)]), (.agg #[(.int .i64 j40.2.1), (.int .i64 j40.2.2)])] rfl ⟨⟨_, rfl, run_loadVar_row w41 b1 _ 24 _ _ _ hb90 Try.underlying24 rfl (by kernel_rfl)⟩, ⟨_, rfl, run_loadVar_row w41 b7 _ 29 _ _ _ hb91 Try.underlying29 rfl (by kernel_rfl)⟩, trivial⟩ ?_)
      exact ⟨grown_of_below hB85, a87, c88, X0, rfl, (hp89.below hB85 hX0), (fun k hk => ⟨(fun k (hk : X0 k) => Nat.lt_of_lt_of_le (hX0 k hk) hB85.size) k hk, (fun k (hk : X0 k) => Or.inl hk) k hk⟩)⟩

set_option maxHeartbeats 4000000 in
set_option maxRecDepth 100000 in
theorem natural_compare_ok (fuel : Nat) (pa0_0 : Option Addr) (pc0_0 : Nat) (a_0 : (List Int)) (pa1_0 : Option Addr) (pc1_0 : Nat) (b_1 : (List Int)) (w0 : World) (X0 : Nat → Prop) (hX0 : ∀ k, X0 k → k < w0.heap.size) (hpa0_0 : Rd (iE .u32) w0 X0 pa0_0 pc0_0 a_0) (hpa1_0 : Rd (iE .u32) w0 X0 pa1_0 pc1_0 b_1) (r0 : Int) (h0 : natural_compare fuel a_0 b_1 = some r0) :
    Calls Try.prog 71 ([(.slice pa0_0 (List.length a_0) pc0_0), (.slice pa1_0 (List.length b_1) pc1_0)] : List Value).toArray w0 (Ret fun v w' => w0.grownBy w' none ∧ v = tup [(.int .i64 r0)]) := by
  have hB0 : Below w0.heap.size w0 w0 := Below.refl _ _
  unfold natural_compare at h0
  refine calls_run Try.func71 rfl Try.ntmps71 (by kernel_rfl) ?_
  refine gv_sub [0, 1] (σ' := [(0, (.slice pa0_0 (List.length a_0) pc0_0)), (1, (.slice pa1_0 (List.length b_1) pc1_0))]) (by kernel_rfl) ?_
  refine gv_seq ?_
  refine gv_region ?_
  refine gv_pure 1 [0, 1] (σ' := [(0, (.slice pa0_0 (List.length a_0) pc0_0)), (1, (.slice pa1_0 (List.length b_1) pc1_0))]) (by kernel_rfl) ?_
  refine gv_nil ?_
  refine gv_seq ?_
  refine gv_seq ?_
  refine gv_region ?_
  refine gv_pure 5 [0, 1, 10] (σ' := [(0, (.slice pa0_0 (List.length a_0) pc0_0)), (1, (.slice pa1_0 (List.length b_1) pc1_0)), (10, (.bool (((List.length a_0 : Nat) : Int) != ((List.length b_1 : Nat) : Int))))]) (by kernel_rfl) ?_
  refine gv_nil ?_
  refine gv_cond (b := (((List.length a_0 : Nat) : Int) != ((List.length b_1 : Nat) : Int))) (by rfl) (fun hc1 => ?_) (fun hc1 => ?_)
  · replace h0 := ite_t hc1 h0
    refine gv_seq ?_
    refine gv_region ?_
    refine gv_pure 6 [4] (σ' := [(4, (.int .i64 (IntKind.i64.wrap (((List.length a_0 : Nat) : Int) - ((List.length b_1 : Nat) : Int)))))]) (by kernel_rfl) ?_
    refine bindE h0 ?_; clear h0; intro n2 hn3 h0
    refine gv_name (s := 4) (v := (.int .i64 (IntKind.i64.wrap (((List.length a_0 : Nat) : Int) - ((List.length b_1 : Nat) : Int))))) (v' := (.int .i64 n2)) (by rfl) (congrArg (Value.int .i64) (Option.some.inj hn3)) ?_
    refine gv_sub [4] (σ' := [(4, (.int .i64 n2))]) (by kernel_rfl) ?_
    refine gv_nil ?_
    refine gv_cret ?_
    have e := Option.some.inj h0; subst e
    refine gv_ret (gv_done [(.int .i64 n2)] rfl ⟨rfl, trivial⟩ ?_)
    exact ⟨grown_of_below hB0, rfl⟩
  · replace h0 := ite_f hc1 h0
    refine gv_skip ?_
    refine gv_seq ?_
    refine gv_seq ?_
    refine gv_region ?_
    refine gv_pure 4 [0, 1, 5] (σ' := [(0, (.slice pa0_0 (List.length a_0) pc0_0)), (1, (.slice pa1_0 (List.length b_1) pc1_0)), (5, (.int .i64 (IntKind.i64.wrap (((List.length a_0 : Nat) : Int) - 1))))]) (by kernel_rfl) ?_
    refine bindE h0 ?_; clear h0; intro n4 hn5 h0
    refine gv_name (s := 5) (v := (.int .i64 (IntKind.i64.wrap (((List.length a_0 : Nat) : Int) - 1)))) (v' := (.int .i64 n4)) (by rfl) (congrArg (Value.int .i64) (Option.some.inj hn5)) ?_
    refine gv_sub [0, 1, 5] (σ' := [(0, (.slice pa0_0 (List.length a_0) pc0_0)), (1, (.slice pa1_0 (List.length b_1) pc1_0)), (5, (.int .i64 n4))]) (by kernel_rfl) ?_
    refine gv_nil ?_
    refine bindE h0 ?_; clear h0; intro j6 h1 h0
    refine gv_cut_code (J := fun a w8 => ∃ s7 : Unit, j6 = .inl s7 ∧ Below w0.heap.size w0 w8 ∧ w0.heap.size ≤ w8.heap.size ∧ a.defers = [] ∧ a.tmps.size = 41 ∧ Ok [] a.tmps) ?_ ?_
    · skip
      refine gv_block ?_
      refine gv_loop (A := fun (s9 : Int) a w10 => Below w0.heap.size w0 w10 ∧ w0.heap.size ≤ w10.heap.size ∧ a.defers = [] ∧ a.tmps.size = 41 ∧ Ok [(0, (.slice pa0_0 (List.length a_0) pc0_0)), (1, (.slice pa1_0 (List.length b_1) pc1_0)), (5, (.int .i64 s9))] a.tmps) h1 ?_ ?_
      · intro a hd hs hok
        obtain ⟨q0, q1, q5, _⟩ := hok
        exact ⟨hB0, (Nat.le_refl _), hd, hs, ⟨q0, q1, q5, trivial⟩⟩
      · rintro s9 r2 h2 hR2 a w10 ⟨hB11, hz12, hd, hs, hok⟩
        refine (?_ : Run Try.prog _ 41 _ .normal [(0, (.slice pa0_0 (List.length a_0) pc0_0)), (1, (.slice pa1_0 (List.length b_1) pc1_0)), (5, (.int .i64 s9))] w10) a hd hs hok
        clear hd hs hok
        refine gv_seq ?_
        refine gv_seq ?_
        refine gv_region ?_
        refine gv_pure 2 [0, 1, 5, 20] (σ' := [(0, (.slice pa0_0 (List.length a_0) pc0_0)), (1, (.slice pa1_0 (List.length b_1) pc1_0)), (5, (.int .i64 s9)), (20, (.bool (decide (s9 ≥ 0))))]) (by kernel_rfl) ?_
        refine gv_nil ?_
        refine gv_cond (b := (decide (s9 ≥ 0))) (by rfl) (fun hc13 => ?_) (fun hc13 => ?_)
        · replace h2 := ite_t hc13 h2
          refine gv_skip ?_
          refine gv_seq ?_
          refine gv_block ?_
          refine gv_seq ?_
          refine gv_drawA (by kernel_rfl) ?_
          intro w14 hg15
          refine gv_pre [0, 1, 2, 4, 5, 6] #[true, true, true, false, true, true, true, false, false] 3 (by kernel_rfl) (by rfl) ?_
          refine gv_pure 2 [0, 1, 5, 23, 24] (σ' := [(0, (.slice pa0_0 (List.length a_0) pc0_0)), (1, (.slice pa1_0 (List.length b_1) pc1_0)), (5, (.int .i64 s9)), (23, (.slice pa0_0 (List.length a_0) pc0_0)), (24, (.int .i64 s9))]) (by kernel_rfl) ?_
          refine bindE h2 ?_; clear h2; intro x16 hx17 h2
          have hB18 := below_grown hB11 hg15 hB11.size nb
          refine gv_idxaddr (t := 22) (e := 76) (a := pa0_0) (len := List.length a_0) (cap := pc0_0) (kk := .i64) (i := s9) (sz := 1) [0, 1, 5, 25] (σ' := [(0, (.slice pa0_0 (List.length a_0) pc0_0)), (1, (.slice pa1_0 (List.length b_1) pc1_0)), (5, (.int .i64 s9)), (25, (.pointer (some (elemAddr pa0_0 ((s9).toNat * 1)))))]) (fun e => by cases e) (by rfl) (by rfl) (by rfl) (by kernel_rfl) (by kernel_rfl) Try.underlying22 (by kernel_rfl) ((hpa0_0.below hB18 hX0).has hx17) (idx_spec hx17).1 (idx_spec hx17).2.1 (by kernel_rfl) ?_
          refine gv_pure 2 [0, 1, 5, 25, 27, 28] (σ' := [(0, (.slice pa0_0 (List.length a_0) pc0_0)), (1, (.slice pa1_0 (List.length b_1) pc1_0)), (5, (.int .i64 s9)), (25, (.pointer (some (elemAddr pa0_0 ((s9).toNat * 1))))), (27, (.slice pa1_0 (List.length b_1) pc1_0)), (28, (.int .i64 s9))]) (by kernel_rfl) ?_
          refine bindE h2 ?_; clear h2; intro x19 hx20 h2
          refine gv_idxaddr (t := 22) (e := 76) (a := pa1_0) (len := List.length b_1) (cap := pc1_0) (kk := .i64) (i := s9) (sz := 1) [0, 1, 5, 25, 29] (σ' := [(0, (.slice pa0_0 (List.length a_0) pc0_0)), (1, (.slice pa1_0 (List.length b_1) pc1_0)), (5, (.int .i64 s9)), (25, (.pointer (some (elemAddr pa0_0 ((s9).toNat * 1))))), (29, (.pointer (some (elemAddr pa1_0 ((s9).toNat * 1)))))]) (fun e => by cases e) (by rfl) (by rfl) (by rfl) (by kernel_rfl) (by kernel_rfl) Try.underlying22 (by kernel_rfl) ((hpa1_0.below hB18 hX0).has hx20) (idx_spec hx20).1 (idx_spec hx20).2.1 (by kernel_rfl) ?_
          refine gv_nil ?_
          refine gv_goal fun a hd hs hok => ?_
          refine (?_ : RunA Try.prog _ 41 _ _ 3 #[true, true, true, false, true, true, true, false, false] [(0, (.slice pa0_0 (List.length a_0) pc0_0)), (1, (.slice pa1_0 (List.length b_1) pc1_0)), (5, (.int .i64 s9)), (25, (.pointer (some (elemAddr pa0_0 ((s9).toNat * 1))))), (29, (.pointer (some (elemAddr pa1_0 ((s9).toNat * 1)))))] w14) a hd hs hok
          clear hd hs hok
          refine gv_stage (Cls w14 []) [0, 1, 2, 3, 4, 5, 6, 7] [(3, some true), (7, some true)] #[true, true, true, true, true, true, true, true, false] 1 (by kernel_rfl) (by rfl) (Cls.refl _ _) ?_
          have hC21 := Cls.refl w14 []
          refine gv_load (t := 76) (A := (elemAddr pa0_0 ((s9).toNat * 1))) (.int .u32 x16) [0, 1, 5, 26, 29] (σ' := [(0, (.slice pa0_0 (List.length a_0) pc0_0)), (1, (.slice pa1_0 (List.length b_1) pc1_0)), (5, (.int .i64 s9)), (26, (.int .u32 x16)), (29, (.pointer (some (elemAddr pa1_0 ((s9).toNat * 1)))))]) (fun e => by cases e) (by rfl) (by rfl) (by rfl) (by kernel_rfl) (by kernel_rfl) (by kernel_rfl) (inw1 fun w' hC' => ((hC'.rd (hpa0_0.below hB18 hX0) (fun k (hk : X0 k) => Nat.lt_of_lt_of_le (hX0 k hk) hB18.size) nmx_nil).cell hx17)) (by kernel_rfl) ?_
          refine gv_load (t := 76) (A := (elemAddr pa1_0 ((s9).toNat * 1))) (.int .u32 x19) [0, 1, 5, 26, 30] (σ' := [(0, (.slice pa0_0 (List.length a_0) pc0_0)), (1, (.slice pa1_0 (List.length b_1) pc1_0)), (5, (.int .i64 s9)), (26, (.int .u32 x16)), (30, (.int .u32 x19))]) (fun e => by cases e) (by rfl) (by rfl) (by rfl) (by kernel_rfl) (by kernel_rfl) (by kernel_rfl) (inw1 fun w' hC' => ((hC'.rd (hpa1_0.below hB18 hX0) (fun k (hk : X0 k) => Nat.lt_of_lt_of_le (hX0 k hk) hB18.size) nmx_nil).cell hx20)) (by kernel_rfl) ?_
          refine gv_nil ?_
          refine gv_goal fun a hd hs hok => ?_
          refine (?_ : RunA Try.prog _ 41 _ _ 1 #[true, true, true, true, true, true, true, true, false] [(0, (.slice pa0_0 (List.length a_0) pc0_0)), (1, (.slice pa1_0 (List.length b_1) pc1_0)), (5, (.int .i64 s9)), (26, (.int .u32 x16)), (30, (.int .u32 x19))] w14) a hd hs hok
          clear hd hs hok
          refine gv_pre [8] #[true, true, true, true, true, true, true, true, true] 0 (by kernel_rfl) (by rfl) ?_
          refine gv_pure 1 [0, 1, 5, 31] (σ' := [(0, (.slice pa0_0 (List.length a_0) pc0_0)), (1, (.slice pa1_0 (List.length b_1) pc1_0)), (5, (.int .i64 s9)), (31, (.bool (x16 != x19)))]) (by kernel_rfl) ?_
          refine gv_nil ?_
          refine gv_goal fun a hd hs hok => ?_
          refine (?_ : RunA Try.prog _ 41 _ _ 0 #[true, true, true, true, true, true, true, true, true] [(0, (.slice pa0_0 (List.length a_0) pc0_0)), (1, (.slice pa1_0 (List.length b_1) pc1_0)), (5, (.int .i64 s9)), (31, (.bool (x16 != x19)))] w14) a hd hs hok
          clear hd hs hok
          refine gv_stageE (by kernel_rfl) ?_
          refine gv_cond (b := (x16 != x19)) (by rfl) (fun hc22 => ?_) (fun hc22 => ?_)
          · replace h2 := ite_t hc22 h2
            refine gv_seq ?_
            refine gv_seq ?_
            refine gv_drawA (by kernel_rfl) ?_
            intro w23 hg24
            refine gv_pre [0, 1, 2, 4, 5, 6] #[true, true, true, false, true, true, true, false, false] 3 (by kernel_rfl) (by rfl) ?_
            refine gv_pure 2 [1, 5, 32, 33] (σ' := [(1, (.slice pa1_0 (List.length b_1) pc1_0)), (5, (.int .i64 s9)), (32, (.slice pa0_0 (List.length a_0) pc0_0)), (33, (.int .i64 s9))]) (by kernel_rfl) ?_
            refine bindE h2 ?_; clear h2; intro x25 hx26 h2
            have hB27 := below_grown hB18 hg24 hB18.size nb
            refine gv_idxaddr (t := 22) (e := 76) (a := pa0_0) (len := List.length a_0) (cap := pc0_0) (kk := .i64) (i := s9) (sz := 1) [1, 5, 34] (σ' := [(1, (.slice pa1_0 (List.length b_1) pc1_0)), (5, (.int .i64 s9)), (34, (.pointer (some (elemAddr pa0_0 ((s9).toNat * 1)))))]) (fun e => by cases e) (by rfl) (by rfl) (by rfl) (by kernel_rfl) (by kernel_rfl) Try.underlying22 (by kernel_rfl) ((hpa0_0.below hB27 hX0).has hx26) (idx_spec hx26).1 (idx_spec hx26).2.1 (by kernel_rfl) ?_
            refine gv_pure 2 [34, 36, 37] (σ' := [(34, (.pointer (some (elemAddr pa0_0 ((s9).toNat * 1))))), (36, (.slice pa1_0 (List.length b_1) pc1_0)), (37, (.int .i64 s9))]) (by kernel_rfl) ?_
            refine bindE h2 ?_; clear h2; intro x28 hx29 h2
            refine gv_idxaddr (t := 22) (e := 76) (a := pa1_0) (len := List.length b_1) (cap := pc1_0) (kk := .i64) (i := s9) (sz := 1) [34, 38] (σ' := [(34, (.pointer (some (elemAddr pa0_0 ((s9).toNat * 1))))), (38, (.pointer (some (elemAddr pa1_0 ((s9).toNat * 1)))))]) (fun e => by cases e) (by rfl) (by rfl) (by rfl) (by kernel_rfl) (by kernel_rfl) Try.underlying22 (by kernel_rfl) ((hpa1_0.below hB27 hX0).has hx29) (idx_spec hx29).1 (idx_spec hx29).2.1 (by kernel_rfl) ?_
            refine gv_nil ?_
            refine gv_goal fun a hd hs hok => ?_
            refine (?_ : RunA Try.prog _ 41 _ _ 3 #[true, true, true, false, true, true, true, false, false] [(34, (.pointer (some (elemAddr pa0_0 ((s9).toNat * 1))))), (38, (.pointer (some (elemAddr pa1_0 ((s9).toNat * 1)))))] w23) a hd hs hok
            clear hd hs hok
            refine gv_stage (Cls w23 []) [0, 1, 2, 3, 4, 5, 6, 7] [(3, some true), (7, some true)] #[true, true, true, true, true, true, true, true, false] 1 (by kernel_rfl) (by rfl) (Cls.refl _ _) ?_
            have hC30 := Cls.refl w23 []
            refine gv_load (t := 76) (A := (elemAddr pa0_0 ((s9).toNat * 1))) (.int .u32 x25) [35, 38] (σ' := [(35, (.int .u32 x25)), (38, (.pointer (some (elemAddr pa1_0 ((s9).toNat * 1)))))]) (fun e => by cases e) (by rfl) (by rfl) (by rfl) (by kernel_rfl) (by kernel_rfl) (by kernel_rfl) (inw1 fun w' hC' => ((hC'.rd (hpa0_0.below hB27 hX0) (fun k (hk : X0 k) => Nat.lt_of_lt_of_le (hX0 k hk) hB27.size) nmx_nil).cell hx26)) (by kernel_rfl) ?_
            refine gv_load (t := 76) (A := (elemAddr pa1_0 ((s9).toNat * 1))) (.int .u32 x28) [35, 39] (σ' := [(35, (.int .u32 x25)), (39, (.int .u32 x28))]) (fun e => by cases e) (by rfl) (by rfl) (by rfl) (by kernel_rfl) (by kernel_rfl) (by kernel_rfl) (inw1 fun w' hC' => ((hC'.rd (hpa1_0.below hB27 hX0) (fun k (hk : X0 k) => Nat.lt_of_lt_of_le (hX0 k hk) hB27.size) nmx_nil).cell hx29)) (by kernel_rfl) ?_
            refine gv_nil ?_
            refine gv_goal fun a hd hs hok => ?_
            refine (?_ : RunA Try.prog _ 41 _ _ 1 #[true, true, true, true, true, true, true, true, false] [(35, (.int .u32 x25)), (39, (.int .u32 x28))] w23) a hd hs hok
            clear hd hs hok
            refine gv_pre [8] #[true, true, true, true, true, true, true, true, true] 0 (by kernel_rfl) (by rfl) ?_
            refine gv_pure 1 [40] (σ' := [(40, (.bool (decide (x25 < x28))))]) (by kernel_rfl) ?_
            refine gv_nil ?_
            refine gv_goal fun a hd hs hok => ?_
            refine (?_ : RunA Try.prog _ 41 _ _ 0 #[true, true, true, true, true, true, true, true, true] [(40, (.bool (decide (x25 < x28))))] w23) a hd hs hok
            clear hd hs hok
            refine gv_stageE (by kernel_rfl) ?_
            refine gv_cond (b := (decide (x25 < x28))) (by rfl) (fun hc31 => ?_) (fun hc31 => ?_)
            · replace h2 := ite_t hc31 h2
              refine gv_seq ?_
              refine gv_region ?_
              refine gv_pure 1 [4] (σ' := [(4, (.int .i64 (-1)))]) (by kernel_rfl) ?_
              refine gv_nil ?_
              refine gv_cret ?_
              have e := Option.some.inj h2; subst e
              replace h1 := congrArg some (hR2 _ rfl)
              have e := Option.some.inj h1; subst e
              replace h0 := cont_inr h0
              have e := Option.some.inj h0; subst e
              refine gv_ret (gv_done [(.int .i64 (-1))] rfl ⟨rfl, trivial⟩ ?_)
              exact ⟨grown_of_below hB27, rfl⟩
            · replace h2 := ite_f hc31 h2
              refine gv_skip ?_
              refine gv_seq ?_
              refine gv_region ?_
              refine gv_pure 1 [4] (σ' := [(4, (.int .i64 1))]) (by kernel_rfl) ?_
              refine gv_nil ?_
              refine gv_cret ?_
              have e := Option.some.inj h2; subst e
              replace h1 := congrArg some (hR2 _ rfl)
              have e := Option.some.inj h1; subst e
              replace h0 := cont_inr h0
              have e := Option.some.inj h0; subst e
              refine gv_ret (gv_done [(.int .i64 1)] rfl ⟨rfl, trivial⟩ ?_)
              exact ⟨grown_of_below hB27, rfl⟩
          · replace h2 := ite_f hc22 h2
            refine gv_skip ?_
            refine gv_blk ?_
            refine gv_region ?_
            refine gv_pure 3 [0, 1, 5] (σ' := [(0, (.slice pa0_0 (List.length a_0) pc0_0)), (1, (.slice pa1_0 (List.length b_1) pc1_0)), (5, (.int .i64 (IntKind.i64.wrap (s9 - 1))))]) (by kernel_rfl) ?_
            refine gv_nil ?_
            have e := Option.some.inj h2; subst e
            refine gv_goal fun a hd hs hok => ?_
            obtain ⟨q0, q1, q5, _⟩ := hok
            have hz32 : w0.heap.size ≤ w14.heap.size := (Nat.le_trans hz12 hg15.size)
            exact ⟨(IntKind.i64.wrap (s9 - 1)), rfl, hB18, hz32, hd, hs, ⟨q0, q1, q5, trivial⟩⟩
        · replace h2 := ite_f hc13 h2
          refine gv_cexit ?_
          refine gv_exit rfl ?_
          have e := Option.some.inj h2; subst e
          replace h1 := congrArg some (hR2 _ rfl)
          have e := Option.some.inj h1; subst e
          refine gv_goal fun a hd hs hok => ?_
          obtain ⟨q0, q1, q5, q20, _⟩ := hok
          have hz33 : w0.heap.size ≤ w10.heap.size := hz12
          exact ⟨(), rfl, hB11, hz33, hd, hs, trivial⟩
    · rintro a w8 ⟨s7, e, hB34, hz35, hd, hs, hok⟩
      subst e
      refine (?_ : Run Try.prog _ 41 _ .normal [] w8) a hd hs hok
      clear hd hs hok
      replace h0 := cont_inl h0
      refine gv_seq ?_
      refine gv_region ?_
      refine gv_pure 1 [4] (σ' := [(4, (.int .i64 0))]) (by kernel_rfl) ?_
      refine gv_nil ?_
      refine gv_cret ?_
      have e := Option.some.inj h0; subst e
      refine gv_ret (gv_done [(.int .i64 0)] rfl ⟨rfl, trivial⟩ ?_)
      exact ⟨grown_of_below hB34, rfl⟩

set_option maxHeartbeats 4000000 in
set_option maxRecDepth 100000 in
theorem natural_Cmp_ok (fuel : Nat) (pa0_0 : Option Addr) (pc0_0 : Nat) (a_0 : (List Int)) (pa1_0 : Option Addr) (pc1_0 : Nat) (b_1 : (List Int)) (w0 : World) (X0 : Nat → Prop) (hX0 : ∀ k, X0 k → k < w0.heap.size) (hpa0_0 : Rd (iE .u32) w0 X0 pa0_0 pc0_0 a_0) (hpa1_0 : Rd (iE .u32) w0 X0 pa1_0 pc1_0 b_1) (r0 : (Int × (Int × Int))) (h0 : natural_Cmp fuel a_0 b_1 = some r0) :
    Calls Try.prog 63 ([(.slice pa0_0 (List.length a_0) pc0_0), (.slice pa1_0 (List.length b_1) pc1_0)] : List Value).toArray w0 (Ret fun v w' => w0.grownBy w' none ∧ v = tup [(.int .i64 r0.1), (.agg #[(.int .i64 r0.2.1), (.int .i64 r0.2.2)])]) := by
  have hB0 : Below w0.heap.size w0 w0 := Below.refl _ _
  unfold natural_Cmp at h0
  refine calls_run Try.func63 rfl Try.ntmps63 (by kernel_rfl) ?_
  refine gv_sub [0, 1] (σ' := [(0, (.slice pa0_0 (List.length a_0) pc0_0)), (1, (.slice pa1_0 (List.length b_1) pc1_0))]) (by kernel_rfl) ?_
  refine gv_seq ?_
  refine gv_region ?_
  refine gv_pure 1 [0, 1] (σ' := [(0, (.slice pa0_0 (List.length a_0) pc0_0)), (1, (.slice pa1_0 (List.length b_1) pc1_0))]) (by kernel_rfl) ?_
  refine gv_new (fun b => .pointer (some ⟨b, 0, none⟩)) #[(.int .i64 0), (.int .i64 0)] 29 (by decide) (by rfl) (by rfl) (by kernel_rfl) (by kernel_rfl) ?_
  intro b1 w2 hg3 hb4 hbe5 hz6
  refine ⟨(fun e => by cases e), ?_⟩
  refine gv_sub [0, 1, 5] (σ' := [(0, (.slice pa0_0 (List.length a_0) pc0_0)), (1, (.slice pa1_0 (List.length b_1) pc1_0)), (5, (.pointer (some ⟨b1, 0, none⟩)))]) (by kernel_rfl) ?_
  refine gv_nil ?_
  refine gv_seq ?_
  refine gv_seq ?_
  refine gv_region ?_
  refine gv_pure 2 [0, 1, 5, 7, 8] (σ' := [(0, (.slice pa0_0 (List.length a_0) pc0_0)), (1, (.slice pa1_0 (List.length b_1) pc1_0)), (5, (.pointer (some ⟨b1, 0, none⟩))), (7, (.slice pa0_0 (List.length a_0) pc0_0)), (8, (.slice pa1_0 (List.length b_1) pc1_0))]) (by kernel_rfl) ?_
  refine bindE h0 ?_; clear h0; intro r7 hr8 h0
  have hB9 := below_grown hB0 hg3 hB0.size nb
  refine gv_call (f := 70) (vs := [(.slice pa0_0 (List.length a_0) pc0_0), (.slice pa1_0 (List.length b_1) pc1_0)]) (cap := []) _ (by decide) (by rfl) (by rfl) rfl (by rfl) (by rfl) enters70 (natural_check_ok fuel pa0_0 pc0_0 a_0 pa1_0 pc1_0 b_1 w2 (fun k => X0 k ∨ X0 k) (fun k hk => (hk).elim (fun h => (fun k (hk : X0 k) => Nat.lt_of_lt_of_le (hX0 k hk) hB9.size) k h) (fun h => (fun k (hk : X0 k) => Nat.lt_of_lt_of_le (hX0 k hk) hB9.size) k h)) ((hpa0_0.below hB9 hX0).wide (fun k hk => (.inl hk))) ((hpa1_0.below hB9 hX0).wide (fun k hk => (.inr hk))) r7 hr8) ?_
  rintro v12 w10 ⟨hg11, rfl⟩
  refine ⟨(fun e => by cases e), ?_⟩
  refine gv_sub [0, 1, 5, 9] (σ' := [(0, (.slice pa0_0 (List.length a_0) pc0_0)), (1, (.slice pa1_0 (List.length b_1) pc1_0)), (5, (.pointer (some ⟨b1, 0, none⟩))), (9, (.agg #[(.int .i64 r7.1), (.int .i64 r7.2)]))]) (by kernel_rfl) ?_
  refine gv_new (fun b => .pointer (some ⟨b, 0, none⟩)) #[(.int .i64 0), (.int .i64 0)] 29 (by decide) (by rfl) (by rfl) (by kernel_rfl) (by kernel_rfl) ?_
  intro b13 w14 hg15 hb16 hbe17 hz18
  refine ⟨(fun e => by cases e), ?_⟩
  refine gv_sub [0, 1, 5, 6, 9] (σ' := [(0, (.slice pa0_0 (List.length a_0) pc0_0)), (1, (.slice pa1_0 (List.length b_1) pc1_0)), (5, (.pointer (some ⟨b1, 0, none⟩))), (6, (.pointer (some ⟨b13, 0, none⟩))), (9, (.agg #[(.int .i64 r7.1), (.int .i64 r7.2)]))]) (by kernel_rfl) ?_
  refine gv_store (t := 29) (b := b13) (off := 0) (v := (.agg #[(.int .i64 r7.1), (.int .i64 r7.2)])) (t' := 29) (cs := #[(.int .i64 0), (.int .i64 0)]) #[(.int .i64 r7.1), (.int .i64 r7.2)] (by decide) (by rfl) (by rfl) (by kernel_rfl) (by kernel_rfl) (by kernel_rfl) (by intro u hu; simp [Value.cells] at hu; rcases hu with rfl | rfl <;> rfl) (show 0 + 2 ≤ 2 by decide) (by rfl) hb16 ?_
  intro w19 hg20 hb21 hz22
  refine ⟨(fun e => by cases e), ?_⟩
  refine gv_sub [0, 1, 5, 6] (σ' := [(0, (.slice pa0_0 (List.length a_0) pc0_0)), (1, (.slice pa1_0 (List.length b_1) pc1_0)), (5, (.pointer (some ⟨b1, 0, none⟩))), (6, (.pointer (some ⟨b13, 0, none⟩)))]) (by kernel_rfl) ?_
  refine gv_nil ?_
  refine gv_seq ?_
  refine gv_region ?_
  refine gv_pure 1 [0, 1, 5, 6, 10] (σ' := [(0, (.slice pa0_0 (List.length a_0) pc0_0)), (1, (.slice pa1_0 (List.length b_1) pc1_0)), (5, (.pointer (some ⟨b1, 0, none⟩))), (6, (.pointer (some ⟨b13, 0, none⟩))), (10, (.pointer (some ⟨b13, 0, none⟩)))]) (by kernel_rfl) ?_
  refine gv_load (t := 3) (A := ⟨b13, 0, none⟩) (.int .i64 r7.1) [0, 1, 5, 6, 11] (σ' := [(0, (.slice pa0_0 (List.length a_0) pc0_0)), (1, (.slice pa1_0 (List.length b_1) pc1_0)), (5, (.pointer (some ⟨b1, 0, none⟩))), (6, (.pointer (some ⟨b13, 0, none⟩))), (11, (.int .i64 r7.1))]) (fun e => by cases e) (by rfl) (by rfl) (by rfl) (by kernel_rfl) (by kernel_rfl) (by kernel_rfl) (inw0 (hb21.cell 0 rfl)) (by kernel_rfl) ?_
  refine gv_pure 1 [0, 1, 5, 6, 12] (σ' := [(0, (.slice pa0_0 (List.length a_0) pc0_0)), (1, (.slice pa1_0 (List.length b_1) pc1_0)), (5, (.pointer (some ⟨b1, 0, none⟩))), (6, (.pointer (some ⟨b13, 0, none⟩))), (12, (.bool (r7.1 != 0)))]) (by kernel_rfl) ?_
  refine gv_nil ?_
  refine gv_cond (b := (r7.1 != 0)) (by rfl) (fun hc23 => ?_) (fun hc23 => ?_)
  · replace h0 := ite_t hc23 h0
    refine gv_seq ?_
    refine gv_drawA (by kernel_rfl) ?_
    intro w24 hg25
    refine gv_pre [1] #[false, true, false] 2 (by kernel_rfl) (by rfl) ?_
    refine gv_pure 1 [4, 5, 6] (σ' := [(4, (.int .i64 0)), (5, (.pointer (some ⟨b1, 0, none⟩))), (6, (.pointer (some ⟨b13, 0, none⟩)))]) (by kernel_rfl) ?_
    refine gv_nil ?_
    refine gv_goal fun a hd hs hok => ?_
    refine (?_ : RunA Try.prog _ 20 _ _ 2 #[false, true, false] [(4, (.int .i64 0)), (5, (.pointer (some ⟨b1, 0, none⟩))), (6, (.pointer (some ⟨b13, 0, none⟩)))] w24) a hd hs hok
    clear hd hs hok
    refine gv_stage (Cls w24 []) [0, 1] [(0, some true)] #[true, true, false] 1 (by kernel_rfl) (by rfl) (Cls.refl _ _) ?_
    have hC26 := Cls.refl w24 []
    have hk27 := hb21.grown hg25 nb
    refine gv_loadBox (t := 29) (b := b13) (t' := 29) (fr := (0, 0)) #[(.int .i64 r7.1), (.int .i64 r7.2)] [4, 5, 13] (σ' := [(4, (.int .i64 0)), (5, (.pointer (some ⟨b1, 0, none⟩))), (13, (.agg #[(.int .i64 r7.1), (.int .i64 r7.2)]))]) (fun e => by cases e) (by rfl) (by rfl) (by rfl) (by kernel_rfl) (by kernel_rfl) (by kernel_rfl) (by kernel_rfl) (inw1 fun w' hC' => (hC'.box hk27 nm_nil)) (by kernel_rfl) ?_
    refine gv_nil ?_
    refine gv_goal fun a hd hs hok => ?_
    refine (?_ : RunA Try.prog _ 20 _ _ 1 #[true, true, false] [(4, (.int .i64 0)), (5, (.pointer (some ⟨b1, 0, none⟩))), (13, (.agg #[(.int .i64 r7.1), (.int .i64 r7.2)]))] w24) a hd hs hok
    clear hd hs hok
    refine gv_stage (fun _ => True) [0, 1, 2] [(2, some false)] #[true, true, true] 0 (by kernel_rfl) (by rfl) trivial ?_
    have hg32 := (grown_trans hg11 hg15)
    have hk33 := hb4.grown hg11 nb
    have ap34 : ¬ (· = b1) b13 := fun hx => Nat.not_lt_of_le ((lowb hbe17) _ rfl) ((fun k (hk : k = b1) => Nat.lt_of_le_of_lt (Nat.le_of_eq hk) hk33.lt) _ hx)
    have hk35 := ((hb4.grown hg32 nb).grown hg20 (rowne ap34)).grown hg25 nb
    refine gv_store (t := 29) (b := b1) (off := 0) (v := (.agg #[(.int .i64 r7.1), (.int .i64 r7.2)])) (t' := 29) (cs := #[(.int .i64 0), (.int .i64 0)]) #[(.int .i64 r7.1), (.int .i64 r7.2)] (by decide) (by rfl) (by rfl) (by kernel_rfl) (by kernel_rfl) (by kernel_rfl) (by intro u hu; simp [Value.cells] at hu; rcases hu with rfl | rfl <;> rfl) (show 0 + 2 ≤ 2 by decide) (by rfl) hk35 ?_
    intro w28 hg29 hb30 hz31
    refine ⟨(fun _ => trivial), ?_⟩
    refine gv_sub [4, 5] (σ' := [(4, (.int .i64 0)), (5, (.pointer (some ⟨b1, 0, none⟩)))]) (by kernel_rfl) ?_
    refine gv_nil ?_
    refine gv_goal fun a hd hs hok => ?_
    refine (?_ : RunA Try.prog _ 20 _ _ 0 #[true, true, true] [(4, (.int .i64 0)), (5, (.pointer (some ⟨b1, 0, none⟩)))] w28) a hd hs hok
    clear hd hs hok
    refine gv_stageE (by kernel_rfl) ?_
    refine gv_cret ?_
    have e := Option.some.inj h0; subst e
    refine gv_ret (gv_done [(.int .i64 0), (.agg #[(.int .i64 r7.1), (.int .i64 r7.2)])] rfl ⟨rfl, ⟨_, rfl, run_loadVar_row w28 b1 _ 29 _ _ _ hb30 Try.underlying29 rfl (by kernel_rfl)⟩, trivial⟩ ?_)
    have hB36 := below_grown hB9 hg32 hB9.size nb
    have hB37 := below_grown hB9 hg11 hB9.size nb
    have hlo38 : w0.heap.size ≤ b13 := lob hbe17 hB37.size
    have hB39 := below_grown hB36 hg20 hB36.size (rowlo hlo38)
    have hB40 := below_grown hB39 hg25 hB39.size nb
    have hlo41 : w0.heap.size ≤ b1 := lob hbe5 hB0.size
    have hB42 := below_grown hB40 hg29 hB40.size (rowlo hlo41)
    exact ⟨grown_of_below hB42, rfl⟩
  · replace h0 := ite_f hc23 h0
    refine gv_skip ?_
    refine gv_seq ?_
    refine gv_region ?_
    refine gv_pure 2 [5, 14, 15] (σ' := [(5, (.pointer (some ⟨b1, 0, none⟩))), (14, (.slice pa0_0 (List.length a_0) pc0_0)), (15, (.slice pa1_0 (List.length b_1) pc1_0))]) (by kernel_rfl) ?_
    refine bindE h0 ?_; clear h0; intro r43 hr44 h0
    have hg45 := (grown_trans hg11 hg15)
    have hB46 := below_grown hB9 hg45 hB9.size nb
    have hB47 := below_grown hB9 hg11 hB9.size nb
    have hlo48 : w0.heap.size ≤ b13 := lob hbe17 hB47.size
    have hB49 := below_grown hB46 hg20 hB46.size (rowlo hlo48)
    refine gv_call (f := 71) (vs := [(.slice pa0_0 (List.length a_0) pc0_0), (.slice pa1_0 (List.length b_1) pc1_0)]) (cap := []) _ (by decide) (by rfl) (by rfl) rfl (by rfl) (by rfl) enters71 (natural_compare_ok fuel pa0_0 pc0_0 a_0 pa1_0 pc1_0 b_1 w19 (fun k => X0 k ∨ X0 k) (fun k hk => (hk).elim (fun h => (fun k (hk : X0 k) => Nat.lt_of_lt_of_le (hX0 k hk) hB49.size) k h) (fun h => (fun k (hk : X0 k) => Nat.lt_of_lt_of_le (hX0 k hk) hB49.size) k h)) ((hpa0_0.below hB49 hX0).wide (fun k hk => (.inl hk))) ((hpa1_0.below hB49 hX0).wide (fun k hk => (.inr hk))) r43 hr44) ?_
    rintro v52 w50 ⟨hg51, rfl⟩
    refine ⟨(fun e => by cases e), ?_⟩
    refine gv_pure 4 [4, 5, 19] (σ' := [(4, (.int .i64 (if 1 < (if r43 < (-1) then (-1) else r43) then 1 else (if r43 < (-1) then (-1) else r43)))), (5, (.pointer (some ⟨b1, 0, none⟩))), (19, (.agg #[(.int .i64 0), (.int .i64 0)]))]) (by kernel_rfl) ?_
    have hk57 := hb4.grown hg11 nb
    have ap58 : ¬ (· = b1) b13 := fun hx => Nat.not_lt_of_le ((lowb hbe17) _ rfl) ((fun k (hk : k = b1) => Nat.lt_of_le_of_lt (Nat.le_of_eq hk) hk57.lt) _ hx)
    have hk59 := ((hb4.grown hg45 nb).grown hg20 (rowne ap58)).grown hg51 nb
    refine gv_store (t := 29) (b := b1) (off := 0) (v := (.agg #[(.int .i64 0), (.int .i64 0)])) (t' := 29) (cs := #[(.int .i64 0), (.int .i64 0)]) #[(.int .i64 0), (.int .i64 0)] (by decide) (by rfl) (by rfl) (by kernel_rfl) (by kernel_rfl) (by kernel_rfl) (by intro u hu; simp [Value.cells] at hu; rcases hu with rfl | rfl <;> rfl) (show 0 + 2 ≤ 2 by decide) (by rfl) hk59 ?_
    intro w53 hg54 hb55 hz56
    refine ⟨(fun e => by cases e), ?_⟩
    clear hz56 hk59 ap58 hk57 hlo48 hB47 hB46 hg45 hr44 hc23 hz22 hb21 hg20 hz18 hbe17 hb16 hg15 hg11 hB9 hr8 hz6 hb4 hg3
    refine gv_sub [4, 5] (σ' := [(4, (.int .i64 (if 1 < (if r43 < (-1) then (-1) else r43) then 1 else (if r43 < (-1) then (-1) else r43)))), (5, (.pointer (some ⟨b1, 0, none⟩)))]) (by kernel_rfl) ?_
    refine bindE h0 ?_; clear h0; intro n60 hn61 h0
    refine gv_name (s := 4) (v := (.int .i64 (if 1 < (if r43 < (-1) then (-1) else r43) then 1 else (if r43 < (-1) then (-1) else r43)))) (v' := (.int .i64 n60)) (by rfl) (congrArg (Value.int .i64) (Option.some.inj hn61)) ?_
    refine gv_sub [4, 5] (σ' := [(4, (.int .i64 n60)), (5, (.pointer (some ⟨b1, 0, none⟩)))]) (by kernel_rfl) ?_
    refine gv_nil ?_
    refine gv_cret ?_
    have e := Option.some.inj h0; subst e
    refine gv_ret (gv_done [(.int .i64 n60), (.agg #[(.int .i64 0), (.int .i64 0)])] rfl ⟨rfl, ⟨_, rfl, run_loadVar_row w53 b1 _ 29 _ _ _ hb55 Try.underlying29 rfl (by kernel_rfl)⟩, trivial⟩ ?_)
    have hB62 := below_grown hB49 hg51 hB49.size nb
    have hlo63 : w0.heap.size ≤ b1 := lob hbe5 hB0.size
    have hB64 := below_grown hB62 hg54 hB62.size (rowlo hlo63)
    exact ⟨grown_of_below hB64, rfl⟩

set_option maxHeartbeats 4000000 in
set_option maxRecDepth 100000 in
theorem slices_Clone_suint32_uint32_ok (fuel : Nat) (pa0_0 : Option Addr) (pc0_0 : Nat) (s_0 : (List Int)) (w0 : World) (X0 : Nat → Prop) (hX0 : ∀ k, X0 k → k < w0.heap.size) (hpa0_0 : Rd (iE .u32) w0 X0 pa0_0 pc0_0 s_0) (r0 : (List Int)) (h0 : slices_Clone_suint32_uint32 fuel s_0 = some r0) :
    Calls Try.prog 82 ([(.slice pa0_0 (List.length s_0) pc0_0)] : List Value).toArray w0 (Ret fun v w' => w0.grownBy w' none ∧ ∃ (a0_0r : Option Addr) (c0_0r : Nat), v = tup [(.slice a0_0r (List.length r0) c0_0r)] ∧ Own (iE .u32) 76 w' (fun _ => False) a0_0r c0_0r r0 ∧ (∀ g, blk a0_0r = some g → w0.heap.size ≤ g)) := by
  have hB0 : Below w0.heap.size w0 w0 := Below.refl _ _
  unfold slices_Clone_suint32_uint32 at h0
  refine calls_run Try.func82 rfl Try.ntmps82 (by kernel_rfl) ?_
  refine gv_sub [0] (σ' := [(0, (.slice pa0_0 (List.length s_0) pc0_0))]) (by kernel_rfl) ?_
  refine gv_seq ?_
  refine gv_region ?_
  refine gv_pure 1 [0] (σ' := [(0, (.slice pa0_0 (List.length s_0) pc0_0))]) (by kernel_rfl) ?_
  refine gv_nil ?_
  refine gv_seq ?_
  refine gv_seq ?_
  refine gv_region ?_
  refine gv_pure 1 [0, 3] (σ' := [(0, (.slice pa0_0 (List.length s_0) pc0_0)), (3, (.slice pa0_0 (List.length s_0) pc0_0))]) (by kernel_rfl) ?_
  refine gv_nilcmp (t := 22) (x := (.tmp 3)) (y := (.const (.slice none 0 0))) (a := pa0_0) (len := List.length s_0) (cap := pc0_0) [0, 4] (σ' := [(0, (.slice pa0_0 (List.length s_0) pc0_0)), (4, (.bool (Option.isNone pa0_0)))]) (fun e => by cases e) (by rfl) (by rfl) (by rfl) (by kernel_rfl) (by kernel_rfl) Try.underlying22 (by kernel_rfl) ?_
  refine gv_nil ?_
  have hc1n := fun e => nil_of_none (hpa0_0.below hB0 hX0) e
  refine gv_cond (b := (Option.isNone pa0_0)) (by rfl) (fun hc1 => ?_) (fun hc1 => ?_)
  · skip
    replace h0 : (some (([] : List Int))) = some r0 := by have e := hc1n hc1; simp only [e] at h0; simpa [app] using h0
    refine gv_seq ?_
    refine gv_region ?_
    refine gv_pure 1 [2] (σ' := [(2, (.slice none (List.length ([] : List Int)) 0))]) (by kernel_rfl) ?_
    refine gv_nil ?_
    refine gv_cret ?_
    have e := Option.some.inj h0; subst e
    refine gv_ret (gv_done [(.slice none (List.length ([] : List Int)) 0)] rfl ⟨rfl, trivial⟩ ?_)
    exact ⟨grown_of_below hB0, none, 0, rfl, (Own.nil (iE .u32) 76 w0 (fun _ => False)), (fun _ h => by cases h)⟩
  · skip
    refine gv_skip ?_
    refine gv_seq ?_
    refine gv_region ?_
    refine gv_new (fun b => .slice (some ⟨b, 0, none⟩) 0 0) #[] 76 (by decide) (by rfl) (by rfl) (by kernel_rfl) (by kernel_rfl) ?_
    intro b2 w3 hg4 hb5 hbe6 hz7
    refine ⟨(fun e => by cases e), ?_⟩
    have ho8 : Own (iE .u32) 76 w3 (fun _ => False) (some ⟨b2, 0, none⟩) 0 ([] : List Int) := Box.ownE hb5 rfl (show 0 ≤ maxLen by decide) (fun h => h)
    have hl9 : ∀ g, blk (some ⟨b2, 0, none⟩) = some g → w0.heap.size ≤ g := loo hbe6 hB0.size
    refine gv_pure 1 [5, 6] (σ' := [(5, (.slice (some ⟨b2, 0, none⟩) (List.length ([] : List Int)) 0)), (6, (.slice pa0_0 (List.length s_0) pc0_0))]) (by kernel_rfl) ?_
    refine bindE h0 ?_; clear h0; intro l13 hx14 h0
    have hB21 := below_grown hB0 hg4 hB0.size nb
    refine gv_append (iE .u32) (t := 22) (ty := 22) (e := 76) (a := (some ⟨b2, 0, none⟩)) (ax := pa0_0) (cap := 0) (cx := pc0_0) (xs := ([] : List Int)) (ys := s_0) l13 (X := (fun _ => False)) (Y := X0) (by decide) (by rfl) (by rfl) (by kernel_rfl) (by kernel_rfl) Try.underlying22 info76 ho8 (hpa0_0.below hB21 hX0) hx14 (.inr fun _ _ _ _ _ h => h) (fun _ h => h.elim) ?_
    intro a15 c16 w17 hg18 ho19 hk20
    refine ⟨(fun e => by cases e), ?_⟩
    have hl22 : ∀ g, blk a15 = some g → w0.heap.size ≤ g := blk_step hk20 hl9 hB21.size
    refine gv_pure 1 [2] (σ' := [(2, (.slice a15 (List.length l13) c16))]) (by kernel_rfl) ?_
    refine gv_nil ?_
    refine gv_cret ?_
    have e := Option.some.inj h0; subst e
    refine gv_ret (gv_done [(.slice a15 (List.length l13) c16)] rfl ⟨rfl, trivial⟩ ?_)
    have hB23 := below_grown hB21 hg18 hB21.size hl9
    exact ⟨grown_of_below hB23, a15, c16, rfl, ho19, hl22⟩

set_option maxHeartbeats 4000000 in
set_option maxRecDepth 100000 in
theorem bits_Sub32_ok (fuel : Nat) (x_0 : Int) (y_1 : Int) (borrow_2 : Int) (w0 : World)  (r0 : (Int × Int)) (h0 : bits_Sub32 fuel x_0 y_1 borrow_2 = some r0) :
    Calls Try.prog 83 ([(.int .u32 x_0), (.int .u32 y_1), (.int .u32 borrow_2)] : List Value).toArray w0 (Ret fun v w' => w0.grownBy w' none ∧ v = tup [(.int .u32 r0.1), (.int .u32 r0.2)]) := by
  have hB0 : Below w0.heap.size w0 w0 := Below.refl _ _
  unfold bits_Sub32 at h0
  refine calls_run Try.func83 rfl Try.ntmps83 (by kernel_rfl) ?_
  refine gv_sub [0, 1, 2] (σ' := [(0, (.int .u32 x_0)), (1, (.int .u32 y_1)), (2, (.int .u32 borrow_2))]) (by kernel_rfl) ?_
  refine gv_seq ?_
  refine gv_region ?_
  refine gv_pure 2 [0, 1, 2] (σ' := [(0, (.int .u32 x_0)), (1, (.int .u32 y_1)), (2, (.int .u32 borrow_2))]) (by kernel_rfl) ?_
  refine gv_nil ?_
  refine gv_seq ?_
  refine gv_region ?_
  refine gv_pure 6 [0, 1, 6] (σ' := [(0, (.int .u32 x_0)), (1, (.int .u32 y_1)), (6, (.int .u32 (IntKind.u32.wrap ((IntKind.u32.wrap (x_0 - y_1)) - borrow_2))))]) (by kernel_rfl) ?_
  refine bindE h0 ?_; clear h0; intro n1 hn2 h0
  refine gv_name (s := 6) (v := (.int .u32 (IntKind.u32.wrap ((IntKind.u32.wrap (x_0 - y_1)) - borrow_2)))) (v' := (.int .u32 n1)) (by rfl) (congrArg (Value.int .u32) (Option.some.inj hn2)) ?_
  refine gv_sub [0, 1, 6] (σ' := [(0, (.int .u32 x_0)), (1, (.int .u32 y_1)), (6, (.int .u32 n1))]) (by kernel_rfl) ?_
  refine gv_nil ?_
  refine gv_seq ?_
  refine gv_region ?_
  refine gv_pure 13 [6, 7] (σ' := [(6, (.int .u32 n1)), (7, (.int .u32 (((bwOr .u32 (bwAnd .u32 (bwXor .u32 4294967295 x_0) y_1) (bwAnd .u32 (bwXor .u32 4294967295 (bwXor .u32 x_0 y_1)) n1))).fdiv (2 ^ 31))))]) (by kernel_rfl) ?_
  refine bindE h0 ?_; clear h0; intro n3 hn4 h0
  refine gv_name (s := 7) (v := (.int .u32 (((bwOr .u32 (bwAnd .u32 (bwXor .u32 4294967295 x_0) y_1) (bwAnd .u32 (bwXor .u32 4294967295 (bwXor .u32 x_0 y_1)) n1))).fdiv (2 ^ 31)))) (v' := (.int .u32 n3)) (by rfl) (congrArg (Value.int .u32) (Option.some.inj hn4)) ?_
  refine gv_sub [6, 7] (σ' := [(6, (.int .u32 n1)), (7, (.int .u32 n3))]) (by kernel_rfl) ?_
  refine gv_nil ?_
  refine gv_cret ?_
  have e := Option.some.inj h0; subst e
  refine gv_ret (gv_done [(.int .u32 n1), (.int .u32 n3)] rfl ⟨rfl, rfl, trivial⟩ ?_)
  exact ⟨grown_of_below hB0, rfl⟩

set_option maxHeartbeats 4000000 in
set_option maxRecDepth 100000 in
theorem natural_sub_ok (fuel : Nat) (pa0_0 : Option Addr) (pc0_0 : Nat) (a_0 : (List Int)) (pa1_0 : Option Addr) (pc1_0 : Nat) (b_1 : (List Int)) (w0 : World) (X0 : Nat → Prop) (hX0 : ∀ k, X0 k → k < w0.heap.size) (hpa0_0 : Rd (iE .u32) w0 X0 pa0_0 pc0_0 a_0) (hpa1_0 : Rd (iE .u32) w0 X0 pa1_0 pc1_0 b_1) (r0 : (List Int)) (h0 : natural_sub fuel a_0 b_1 = some r0) :
    Calls Try.prog 80 ([(.slice pa0_0 (List.length a_0) pc0_0), (.slice pa1_0 (List.length b_1) pc1_0)] : List Value).toArray w0 (Ret fun v w' => w0.grownBy w' none ∧ ∃ (a0_0r : Option Addr) (c0_0r : Nat), ∃ (X0_0r : Nat → Prop), v = tup [(.slice a0_0r (List.length r0) c0_0r)] ∧ Rd (iE .u32) w' X0_0r a0_0r c0_0r r0 ∧ (∀ k, X0_0r k → k < w'.heap.size ∧ (X0 k ∨ w0.heap.size ≤ k))) := by
  have hB0 : Below w0.heap.size w0 w0 := Below.refl _ _
  unfold natural_sub at h0
  refine calls_run Try.func80 rfl Try.ntmps80 (by kernel_rfl) ?_
  refine gv_sub [0, 1] (σ' := [(0, (.slice pa0_0 (List.length a_0) pc0_0)), (1, (.slice pa1_0 (List.length b_1) pc1_0))]) (by kernel_rfl) ?_
  refine gv_seq ?_
  refine gv_region ?_
  refine gv_pure 1 [0, 1] (σ' := [(0, (.slice pa0_0 (List.length a_0) pc0_0)), (1, (.slice pa1_0 (List.length b_1) pc1_0))]) (by kernel_rfl) ?_
  refine gv_nil ?_
  refine gv_seq ?_
  refine gv_region ?_
  refine gv_pure 1 [1, 9] (σ' := [(1, (.slice pa1_0 (List.length b_1) pc1_0)), (9, (.slice pa0_0 (List.length a_0) pc0_0))]) (by kernel_rfl) ?_
  refine bindE h0 ?_; clear h0; intro r1 hr2 h0
  refine gv_call (f := 82) (vs := [(.slice pa0_0 (List.length a_0) pc0_0)]) (cap := []) _ (by decide) (by rfl) (by rfl) rfl (by rfl) (by rfl) enters82 (slices_Clone_suint32_uint32_ok fuel pa0_0 pc0_0 a_0 w0 (fun k => X0 k) (fun k hk => (fun k (hk : X0 k) => Nat.lt_of_lt_of_le (hX0 k hk) hB0.size) k hk) ((hpa0_0.below hB0 hX0).wide (fun k hk => hk)) r1 hr2) ?_
  rintro v5 w3 ⟨hg4, a6, c7, rfl, ho8, hl9⟩
  refine ⟨(fun e => by cases e), ?_⟩
  have hl10 : ∀ g, blk a6 = some g → w0.heap.size ≤ g := fun g e => Nat.le_trans hB0.size (hl9 g e)
  refine gv_pure 1 [1, 5] (σ' := [(1, (.slice pa1_0 (List.length b_1) pc1_0)), (5, (.slice a6 (List.length r1) c7))]) (by kernel_rfl) ?_
  refine gv_nil ?_
  refine gv_seq ?_
  refine gv_region ?_
  refine gv_pure 1 [1, 5, 6] (σ' := [(1, (.slice pa1_0 (List.length b_1) pc1_0)), (5, (.slice a6 (List.length r1) c7)), (6, (.int .u32 0))]) (by kernel_rfl) ?_
  refine gv_nil ?_
  refine gv_seq ?_
  refine gv_seq ?_
  refine gv_region ?_
  refine gv_pure 3 [1, 5, 6, 12, 13] (σ' := [(1, (.slice pa1_0 (List.length b_1) pc1_0)), (5, (.slice a6 (List.length r1) c7)), (6, (.int .u32 0)), (12, (.int .i64 ((List.length r1 : Nat) : Int))), (13, (.int .i64 0))]) (by kernel_rfl) ?_
  refine gv_nil ?_
  refine bindE h0 ?_; clear h0; intro j11 h1 h0
  refine gv_cut_code (J := fun a w12 => ∃ (a5_0j : Option Addr) (c5_0j : Nat), Below w0.heap.size w0 w12 ∧ w3.heap.size ≤ w12.heap.size ∧ Own (iE .u32) 76 w12 (fun _ => False) a5_0j c5_0j j11 ∧ (∀ g, blk a5_0j = some g → w0.heap.size ≤ g) ∧ a.defers = [] ∧ a.tmps.size = 40 ∧ Ok [(5, (.slice a5_0j (List.length j11) c5_0j))] a.tmps) ?_ ?_
  · skip
    refine gv_block ?_
    refine gv_loop (A := fun (s13 : ((List Int) × Int × Int)) a w14 => ∃ (a5_0j : Option Addr) (c5_0j : Nat), Below w0.heap.size w0 w14 ∧ w3.heap.size ≤ w14.heap.size ∧ Own (iE .u32) 76 w14 (fun _ => False) a5_0j c5_0j s13.1 ∧ (∀ g, blk a5_0j = some g → w0.heap.size ≤ g) ∧ a.defers = [] ∧ a.tmps.size = 40 ∧ Ok [(1, (.slice pa1_0 (List.length b_1) pc1_0)), (5, (.slice a5_0j (List.length s13.1) c5_0j)), (6, (.int .u32 s13.2.1)), (12, (.int .i64 ((List.length r1 : Nat) : Int))), (13, (.int .i64 s13.2.2))] a.tmps) h1 ?_ ?_
    · intro a hd hs hok
      obtain ⟨q1, q5, q6, q12, q13, _⟩ := hok
      have hB15 := below_grown hB0 hg4 hB0.size nb
      exact ⟨a6, c7, hB15, (Nat.le_refl _), ho8, hl10, hd, hs, ⟨q1, q5, q6, q12, q13, trivial⟩⟩
    · rintro s13 r2 h2 hR2 a w14 ⟨a18, c19, hB16, hz17, ho20, hl21, hd, hs, hok⟩
      refine (?_ : Run Try.prog _ 40 _ .normal [(1, (.slice pa1_0 (List.length b_1) pc1_0)), (5, (.slice a18 (List.length s13.1) c19)), (6, (.int .u32 s13.2.1)), (12, (.int .i64 ((List.length r1 : Nat) : Int))), (13, (.int .i64 s13.2.2))] w14) a hd hs hok
      clear hd hs hok
      clear hl10 hl9 ho8 hg4 hr2
      refine gv_seq ?_
      refine gv_region ?_
      refine gv_pure 1 [1, 5, 6, 12, 13, 14] (σ' := [(1, (.slice pa1_0 (List.length b_1) pc1_0)), (5, (.slice a18 (List.length s13.1) c19)), (6, (.int .u32 s13.2.1)), (12, (.int .i64 ((List.length r1 : Nat) : Int))), (13, (.int .i64 s13.2.2)), (14, (.bool (decide (s13.2.2 < ((List.length r1 : Nat) : Int)))))]) (by kernel_rfl) ?_
      refine gv_nil ?_
      refine gv_seq ?_
      refine gv_cond (b := (decide (s13.2.2 < ((List.length r1 : Nat) : Int)))) (by rfl) (fun hc22 => ?_) (fun hc22 => ?_)
      · replace h2 := ite_t hc22 h2
        refine gv_skip ?_
        refine gv_seq ?_
        refine gv_block ?_
        refine gv_seq ?_
        refine gv_region ?_
        refine gv_pure 2 [1, 5, 6, 7, 12, 13] (σ' := [(1, (.slice pa1_0 (List.length b_1) pc1_0)), (5, (.slice a18 (List.length s13.1) c19)), (6, (.int .u32 s13.2.1)), (7, (.int .i64 s13.2.2)), (12, (.int .i64 ((List.length r1 : Nat) : Int))), (13, (.int .i64 s13.2.2))]) (by kernel_rfl) ?_
        refine gv_nil ?_
        refine gv_seq ?_
        refine gv_region ?_
        refine gv_pure 1 [1, 5, 6, 7, 8, 12, 13] (σ' := [(1, (.slice pa1_0 (List.length b_1) pc1_0)), (5, (.slice a18 (List.length s13.1) c19)), (6, (.int .u32 s13.2.1)), (7, (.int .i64 s13.2.2)), (8, (.int .u32 0)), (12, (.int .i64 ((List.length r1 : Nat) : Int))), (13, (.int .i64 s13.2.2))]) (by kernel_rfl) ?_
        refine gv_nil ?_
        refine gv_seq ?_
        refine gv_seq ?_
        refine gv_region ?_
        refine gv_pure 4 [1, 5, 6, 7, 8, 12, 13, 19] (σ' := [(1, (.slice pa1_0 (List.length b_1) pc1_0)), (5, (.slice a18 (List.length s13.1) c19)), (6, (.int .u32 s13.2.1)), (7, (.int .i64 s13.2.2)), (8, (.int .u32 0)), (12, (.int .i64 ((List.length r1 : Nat) : Int))), (13, (.int .i64 s13.2.2)), (19, (.bool (decide (s13.2.2 < ((List.length b_1 : Nat) : Int)))))]) (by kernel_rfl) ?_
        refine gv_nil ?_
        refine bindE h2 ?_; clear h2; intro j23 h3 h2
        refine gv_cut_code (J := fun a w24 => Below w0.heap.size w0 w24 ∧ w14.heap.size ≤ w24.heap.size ∧ Own (iE .u32) 76 w24 (fun _ => False) a18 c19 s13.1 ∧ a.defers = [] ∧ a.tmps.size = 40 ∧ Ok [(1, (.slice pa1_0 (List.length b_1) pc1_0)), (5, (.slice a18 (List.length s13.1) c19)), (6, (.int .u32 s13.2.1)), (7, (.int .i64 s13.2.2)), (8, (.int .u32 j23)), (12, (.int .i64 ((List.length r1 : Nat) : Int))), (13, (.int .i64 s13.2.2))] a.tmps) ?_ ?_
        · skip
          refine gv_cond (b := (decide (s13.2.2 < ((List.length b_1 : Nat) : Int)))) (by rfl) (fun hc25 => ?_) (fun hc25 => ?_)
          · replace h3 := ite_t hc25 h3
            refine gv_region ?_
            refine gv_pure 2 [1, 5, 6, 7, 12, 13, 20, 21] (σ' := [(1, (.slice pa1_0 (List.length b_1) pc1_0)), (5, (.slice a18 (List.length s13.1) c19)), (6, (.int .u32 s13.2.1)), (7, (.int .i64 s13.2.2)), (12, (.int .i64 ((List.length r1 : Nat) : Int))), (13, (.int .i64 s13.2.2)), (20, (.slice pa1_0 (List.length b_1) pc1_0)), (21, (.int .i64 s13.2.2))]) (by kernel_rfl) ?_
            refine bindE h3 ?_; clear h3; intro x26 hx27 h3
            refine gv_idxaddr (t := 22) (e := 76) (a := pa1_0) (len := List.length b_1) (cap := pc1_0) (kk := .i64) (i := s13.2.2) (sz := 1) [1, 5, 6, 7, 12, 13, 22] (σ' := [(1, (.slice pa1_0 (List.length b_1) pc1_0)), (5, (.slice a18 (List.length s13.1) c19)), (6, (.int .u32 s13.2.1)), (7, (.int .i64 s13.2.2)), (12, (.int .i64 ((List.length r1 : Nat) : Int))), (13, (.int .i64 s13.2.2)), (22, (.pointer (some (elemAddr pa1_0 ((s13.2.2).toNat * 1)))))]) (fun e => by cases e) (by rfl) (by rfl) (by rfl) (by kernel_rfl) (by kernel_rfl) Try.underlying22 (by kernel_rfl) ((hpa1_0.below hB16 hX0).has hx27) (idx_spec hx27).1 (idx_spec hx27).2.1 (by kernel_rfl) ?_
            refine gv_load (t := 76) (A := (elemAddr pa1_0 ((s13.2.2).toNat * 1))) (.int .u32 x26) [1, 5, 6, 7, 12, 13, 23] (σ' := [(1, (.slice pa1_0 (List.length b_1) pc1_0)), (5, (.slice a18 (List.length s13.1) c19)), (6, (.int .u32 s13.2.1)), (7, (.int .i64 s13.2.2)), (12, (.int .i64 ((List.length r1 : Nat) : Int))), (13, (.int .i64 s13.2.2)), (23, (.int .u32 x26))]) (fun e => by cases e) (by rfl) (by rfl) (by rfl) (by kernel_rfl) (by kernel_rfl) (by kernel_rfl) (inw0 ((hpa1_0.below hB16 hX0).cell hx27)) (by kernel_rfl) ?_
            refine gv_pure 1 [1, 5, 6, 7, 8, 12, 13] (σ' := [(1, (.slice pa1_0 (List.length b_1) pc1_0)), (5, (.slice a18 (List.length s13.1) c19)), (6, (.int .u32 s13.2.1)), (7, (.int .i64 s13.2.2)), (8, (.int .u32 x26)), (12, (.int .i64 ((List.length r1 : Nat) : Int))), (13, (.int .i64 s13.2.2))]) (by kernel_rfl) ?_
            refine gv_nil ?_
            have e := Option.some.inj h3; subst e
            refine gv_goal fun a hd hs hok => ?_
            obtain ⟨q1, q5, q6, q7, q8, q12, q13, _⟩ := hok
            exact ⟨hB16, (Nat.le_refl _), ho20, hd, hs, ⟨q1, q5, q6, q7, q8, q12, q13, trivial⟩⟩
          · replace h3 := ite_f hc25 h3
            refine gv_skip ?_
            have e := Option.some.inj h3; subst e
            refine gv_goal fun a hd hs hok => ?_
            obtain ⟨q1, q5, q6, q7, q8, q12, q13, q19, _⟩ := hok
            exact ⟨hB16, (Nat.le_refl _), ho20, hd, hs, ⟨q1, q5, q6, q7, q8, q12, q13, trivial⟩⟩
        · rintro a w24 ⟨hB28, hz29, hk30, hd, hs, hok⟩
          refine (?_ : Run Try.prog _ 40 _ .normal [(1, (.slice pa1_0 (List.length b_1) pc1_0)), (5, (.slice a18 (List.length s13.1) c19)), (6, (.int .u32 s13.2.1)), (7, (.int .i64 s13.2.2)), (8, (.int .u32 j23)), (12, (.int .i64 ((List.length r1 : Nat) : Int))), (13, (.int .i64 s13.2.2))] w24) a hd hs hok
          clear hd hs hok
          have hz31 : w3.heap.size ≤ w24.heap.size := (Nat.le_trans hz17 hz29)
          clear hz29 hc22 ho20 hz17 hB16
          refine gv_region ?_
          refine gv_pure 4 [1, 5, 6, 8, 12, 13, 25, 26, 27, 28] (σ' := [(1, (.slice pa1_0 (List.length b_1) pc1_0)), (5, (.slice a18 (List.length s13.1) c19)), (6, (.int .u32 s13.2.1)), (8, (.int .u32 j23)), (12, (.int .i64 ((List.length r1 : Nat) : Int))), (13, (.int .i64 s13.2.2)), (25, (.slice a18 (List.length s13.1) c19)), (26, (.int .i64 s13.2.2)), (27, (.slice a18 (List.length s13.1) c19)), (28, (.int .i64 s13.2.2))]) (by kernel_rfl) ?_
          refine bindE h2 ?_; clear h2; intro x32 hx33 h2
          refine gv_idxaddr (t := 22) (e := 76) (a := a18) (len := List.length s13.1) (cap := c19) (kk := .i64) (i := s13.2.2) (sz := 1) [1, 5, 6, 8, 12, 13, 25, 26, 29] (σ' := [(1, (.slice pa1_0 (List.length b_1) pc1_0)), (5, (.slice a18 (List.length s13.1) c19)), (6, (.int .u32 s13.2.1)), (8, (.int .u32 j23)), (12, (.int .i64 ((List.length r1 : Nat) : Int))), (13, (.int .i64 s13.2.2)), (25, (.slice a18 (List.length s13.1) c19)), (26, (.int .i64 s13.2.2)), (29, (.pointer (some (elemAddr a18 ((s13.2.2).toNat * 1)))))]) (fun e => by cases e) (by rfl) (by rfl) (by rfl) (by kernel_rfl) (by kernel_rfl) Try.underlying22 (by kernel_rfl) ((hk30.rd (Y := fun k => blk a18 = some k) (fun _ h => h.elim) (fun g e => e)).has hx33) (idx_spec hx33).1 (idx_spec hx33).2.1 (by kernel_rfl) ?_
          refine gv_load (t := 76) (A := (elemAddr a18 ((s13.2.2).toNat * 1))) (.int .u32 x32) [1, 5, 6, 8, 12, 13, 25, 26, 30] (σ' := [(1, (.slice pa1_0 (List.length b_1) pc1_0)), (5, (.slice a18 (List.length s13.1) c19)), (6, (.int .u32 s13.2.1)), (8, (.int .u32 j23)), (12, (.int .i64 ((List.length r1 : Nat) : Int))), (13, (.int .i64 s13.2.2)), (25, (.slice a18 (List.length s13.1) c19)), (26, (.int .i64 s13.2.2)), (30, (.int .u32 x32))]) (fun e => by cases e) (by rfl) (by rfl) (by rfl) (by kernel_rfl) (by kernel_rfl) (by kernel_rfl) (inw0 ((hk30.rd (Y := fun k => blk a18 = some k) (fun _ h => h.elim) (fun g e => e)).cell hx33)) (by kernel_rfl) ?_
          refine gv_pure 2 [1, 5, 12, 13, 25, 26, 30, 31, 32] (σ' := [(1, (.slice pa1_0 (List.length b_1) pc1_0)), (5, (.slice a18 (List.length s13.1) c19)), (12, (.int .i64 ((List.length r1 : Nat) : Int))), (13, (.int .i64 s13.2.2)), (25, (.slice a18 (List.length s13.1) c19)), (26, (.int .i64 s13.2.2)), (30, (.int .u32 x32)), (31, (.int .u32 j23)), (32, (.int .u32 s13.2.1))]) (by kernel_rfl) ?_
          refine bindE h2 ?_; clear h2; intro r34 hr35 h2
          refine gv_call (f := 83) (vs := [(.int .u32 x32), (.int .u32 j23), (.int .u32 s13.2.1)]) (cap := []) _ (by decide) (by rfl) (by rfl) rfl (by rfl) (by rfl) enters83 (bits_Sub32_ok fuel x32 j23 s13.2.1 w24  r34 hr35) ?_
          rintro v38 w36 ⟨hg37, rfl⟩
          refine ⟨(fun e => by cases e), ?_⟩
          refine gv_pure 3 [1, 5, 12, 13, 25, 26, 34, 35] (σ' := [(1, (.slice pa1_0 (List.length b_1) pc1_0)), (5, (.slice a18 (List.length s13.1) c19)), (12, (.int .i64 ((List.length r1 : Nat) : Int))), (13, (.int .i64 s13.2.2)), (25, (.slice a18 (List.length s13.1) c19)), (26, (.int .i64 s13.2.2)), (34, (.int .u32 r34.1)), (35, (.int .u32 r34.2))]) (by kernel_rfl) ?_
          refine bindE h2 ?_; clear h2; intro x39 hx40 h2
          have hk41 := hk30.grown hg37 (fun _ h => h.elim) nb
          refine gv_idxaddr (t := 22) (e := 76) (a := a18) (len := List.length s13.1) (cap := c19) (kk := .i64) (i := s13.2.2) (sz := 1) [1, 5, 12, 13, 34, 35, 36] (σ' := [(1, (.slice pa1_0 (List.length b_1) pc1_0)), (5, (.slice a18 (List.length s13.1) c19)), (12, (.int .i64 ((List.length r1 : Nat) : Int))), (13, (.int .i64 s13.2.2)), (34, (.int .u32 r34.1)), (35, (.int .u32 r34.2)), (36, (.pointer (some (elemAddr a18 ((s13.2.2).toNat * 1)))))]) (fun e => by cases e) (by rfl) (by rfl) (by rfl) (by kernel_rfl) (by kernel_rfl) Try.underlying22 (by kernel_rfl) ((hk41.rd (Y := fun k => blk a18 = some k) (fun _ h => h.elim) (fun g e => e)).has hx40) (idx_spec hx40).1 (idx_spec hx40).2.1 (by kernel_rfl) ?_
          refine bindE h2 ?_; clear h2; intro l42 hx43 h2
          refine gv_upd (f := (fun n : Int => Value.int .u32 n)) (hf := fun _ => rfl) (t := 76) (e := 76) (a := a18) (cap := c19) (xs := s13.1) (i := s13.2.2) r34.1 l42 (by decide) (by rfl) (by rfl) (by kernel_rfl) rfl (by kernel_rfl) (by kernel_rfl) hk41 hx43 ?_
          intro w44 hg45 ho46 hz47
          refine ⟨(fun e => by cases e), ?_⟩
          have hln48 : List.length s13.1 = List.length l42 := by obtain ⟨_, _, e⟩ := upd_spec hx43; rw [e, List.length_set]
          refine gv_sub [1, 5, 12, 13, 35] (σ' := [(1, (.slice pa1_0 (List.length b_1) pc1_0)), (5, (.slice a18 (List.length s13.1) c19)), (12, (.int .i64 ((List.length r1 : Nat) : Int))), (13, (.int .i64 s13.2.2)), (35, (.int .u32 r34.2))]) (by kernel_rfl) ?_
          refine gv_name (s := 5) (v := (.slice a18 (List.length s13.1) c19)) (v' := (.slice a18 (List.length l42) c19)) (by rfl) (by rw [hln48]) ?_
          refine gv_pure 1 [1, 5, 6, 12, 13] (σ' := [(1, (.slice pa1_0 (List.length b_1) pc1_0)), (5, (.slice a18 (List.length l42) c19)), (6, (.int .u32 r34.2)), (12, (.int .i64 ((List.length r1 : Nat) : Int))), (13, (.int .i64 s13.2.2))]) (by kernel_rfl) ?_
          refine gv_nil ?_
          refine gv_blk ?_
          refine gv_region ?_
          refine gv_pure 2 [1, 5, 6, 12, 13] (σ' := [(1, (.slice pa1_0 (List.length b_1) pc1_0)), (5, (.slice a18 (List.length l42) c19)), (6, (.int .u32 r34.2)), (12, (.int .i64 ((List.length r1 : Nat) : Int))), (13, (.int .i64 (IntKind.i64.wrap (s13.2.2 + 1))))]) (by kernel_rfl) ?_
          refine gv_nil ?_
          have e := Option.some.inj h2; subst e
          refine gv_goal fun a hd hs hok => ?_
          obtain ⟨q1, q5, q6, q12, q13, _⟩ := hok
          have hB49 := below_grown hB28 hg37 hB28.size nb
          have hB50 := below_grown hB49 hg45 hB49.size hl21
          have hz51 : w3.heap.size ≤ w44.heap.size := (Nat.le_trans (Nat.le_trans hz31 hg37.size) hg45.size)
          exact ⟨(l42, r34.2, (IntKind.i64.wrap (s13.2.2 + 1))), rfl, a18, c19, hB50, hz51, ho46, hl21, hd, hs, ⟨q1, q5, q6, q12, q13, trivial⟩⟩
      · replace h2 := ite_f hc22 h2
        refine gv_cexit ?_
        refine gv_exit rfl ?_
        have e := Option.some.inj h2; subst e
        replace h1 := congrArg some (hR2 _ rfl)
        have e := Option.some.inj h1; subst e
        refine gv_goal fun a hd hs hok => ?_
        obtain ⟨q1, q5, q6, q12, q13, q14, _⟩ := hok
        have hz52 : w3.heap.size ≤ w14.heap.size := hz17
        exact ⟨a18, c19, hB16, hz52, ho20, hl21, hd, hs, ⟨q5, trivial⟩⟩
  · rintro a w12 ⟨a55, c56, hB53, hz54, ho57, hl58, hd, hs, hok⟩
    refine (?_ : Run Try.prog _ 40 _ .normal [(5, (.slice a55 (List.length j11) c56))] w12) a hd hs hok
    clear hd hs hok
    clear hz54 hl10 hl9 ho8 hg4 hr2
    refine gv_seq ?_
    refine gv_region ?_
    refine gv_pure 1 [38] (σ' := [(38, (.slice a55 (List.length j11) c56))]) (by kernel_rfl) ?_
    refine bindE h0 ?_; clear h0; intro r59 hr60 h0
    refine gv_call (f := 81) (vs := [(.slice a55 (List.length j11) c56)]) (cap := []) _ (by decide) (by rfl) (by rfl) rfl (by rfl) (by rfl) enters81 (natural_trim_ok fuel a55 c56 j11 w12 (fun k => (fun k => blk a55 = some k) k) (fun k hk => (fun k (hk : blk a55 = some k) => ho57.lt k hk) k hk) ((ho57.rd (Y := fun k => blk a55 = some k) (fun _ h => h.elim) (fun g e => e)).wide (fun k hk => hk)) r59 hr60) ?_
    rintro v63 w61 ⟨hg62, a64, c65, X67, rfl, ho66, hx68⟩
    refine ⟨(fun e => by cases e), ?_⟩
    have hx69 : ∀ k, X67 k → k < w61.heap.size := fun k hk => (hx68 k hk).1
    have hx70 : ∀ k, X67 k → X0 k ∨ w0.heap.size ≤ k := fun k hk => (hx68 k hk).2.elim (fun h => (fun k (hk : blk a55 = some k) => Or.inr (hl58 k hk)) k h) (fun h => .inr (Nat.le_trans hB53.size h))
    refine gv_pure 1 [4] (σ' := [(4, (.slice a64 (List.length r59) c65))]) (by kernel_rfl) ?_
    refine gv_nil ?_
    refine gv_cret ?_
    have e := Option.some.inj h0; subst e
    refine gv_ret (gv_done [(.slice a64 (List.length r59) c65)] rfl ⟨rfl, trivial⟩ ?_)
    have hB71 := below_grown hB53 hg62 hB53.size nb
    exact ⟨grown_of_below hB71, a64, c65, X67, rfl, ho66, (fun k hk => ⟨hx69 k hk, hx70 k hk⟩)⟩

end Go.Proofs.Ytenjigdaaeiklaa
