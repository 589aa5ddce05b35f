import Derived.Test.YtenjigdaaeiklaaRows
import Derived.Test.YtenjigdaaeiklaaGe
import Derived.Test.YtenjigdaaeiklaaD
set_option linter.all false
set_option maxHeartbeats 4000000
set_option maxRecDepth 100000
/- Own work, printed by a program of mine: the walk of each function: a call returns what the plain function says. -/
namespace Go.Proofs.Ytenjigdaaeiklaa
open Go.Gv Go.Gv.D Go.RowKit
theorem nl {a b : Nat} (h : a ≤ b) : ¬ b < a := Nat.not_lt_of_le h
theorem sj {α : Type _} {a b : α} (h : some a = some b) : a = b := Option.some.inj h
theorem ng {a b : Nat} (h : b < a) : a ≠ b := Nat.ne_of_gt h
theorem ltl {a b c : Nat} (h : a < b) (h' : b ≤ c) : a < c := Nat.lt_of_lt_of_le h h'
theorem ltt {a b c : Nat} (h : a < b) (h' : b < c) : a < c := Nat.lt_trans h h'
theorem enters8 : Enters Try.prog 8 := ⟨Try.f8, Try.func8, by kernel_rfl, by kernel_rfl⟩
theorem enters9 : Enters Try.prog 9 := ⟨Try.f9, Try.func9, by kernel_rfl, by kernel_rfl⟩
theorem enters11 : Enters Try.prog 11 := ⟨Try.f11, Try.func11, by kernel_rfl, by kernel_rfl⟩
theorem enters12 : Enters Try.prog 12 := ⟨Try.f12, Try.func12, by kernel_rfl, by kernel_rfl⟩
theorem enters13 : Enters Try.prog 13 := ⟨Try.f13, Try.func13, by kernel_rfl, by kernel_rfl⟩
theorem enters14 : Enters Try.prog 14 := ⟨Try.f14, Try.func14, by kernel_rfl, by kernel_rfl⟩
theorem enters15 : Enters Try.prog 15 := ⟨Try.f15, Try.func15, by kernel_rfl, by kernel_rfl⟩
theorem enters16 : Enters Try.prog 16 := ⟨Try.f16, Try.func16, by kernel_rfl, by kernel_rfl⟩
theorem enters17 : Enters Try.prog 17 := ⟨Try.f17, Try.func17, by kernel_rfl, by kernel_rfl⟩
theorem enters18 : Enters Try.prog 18 := ⟨Try.f18, Try.func18, by kernel_rfl, by kernel_rfl⟩
theorem enters19 : Enters Try.prog 19 := ⟨Try.f19, Try.func19, by kernel_rfl, by kernel_rfl⟩
theorem enters20 : Enters Try.prog 20 := ⟨Try.f20, Try.func20, by kernel_rfl, by kernel_rfl⟩
theorem enters21 : Enters Try.prog 21 := ⟨Try.f21, Try.func21, by kernel_rfl, by kernel_rfl⟩
theorem enters22 : Enters Try.prog 22 := ⟨Try.f22, Try.func22, by kernel_rfl, by kernel_rfl⟩
theorem enters23 : Enters Try.prog 23 := ⟨Try.f23, Try.func23, by kernel_rfl, by kernel_rfl⟩
theorem enters24 : Enters Try.prog 24 := ⟨Try.f24, Try.func24, by kernel_rfl, by kernel_rfl⟩
theorem enters25 : Enters Try.prog 25 := ⟨Try.f25, Try.func25, by kernel_rfl, by kernel_rfl⟩
theorem enters26 : Enters Try.prog 26 := ⟨Try.f26, Try.func26, by kernel_rfl, by kernel_rfl⟩
theorem enters34 : Enters Try.prog 34 := ⟨Try.f34, Try.func34, by kernel_rfl, by kernel_rfl⟩
theorem enters36 : Enters Try.prog 36 := ⟨Try.f36, Try.func36, by kernel_rfl, by kernel_rfl⟩
theorem enters37 : Enters Try.prog 37 := ⟨Try.f37, Try.func37, by kernel_rfl, by kernel_rfl⟩
theorem enters38 : Enters Try.prog 38 := ⟨Try.f38, Try.func38, by kernel_rfl, by kernel_rfl⟩
theorem enters39 : Enters Try.prog 39 := ⟨Try.f39, Try.func39, by kernel_rfl, by kernel_rfl⟩
theorem enters40 : Enters Try.prog 40 := ⟨Try.f40, Try.func40, by kernel_rfl, by kernel_rfl⟩
theorem enters41 : Enters Try.prog 41 := ⟨Try.f41, Try.func41, by kernel_rfl, by kernel_rfl⟩
theorem enters42 : Enters Try.prog 42 := ⟨Try.f42, Try.func42, by kernel_rfl, by kernel_rfl⟩
theorem enters43 : Enters Try.prog 43 := ⟨Try.f43, Try.func43, by kernel_rfl, by kernel_rfl⟩
theorem enters44 : Enters Try.prog 44 := ⟨Try.f44, Try.func44, by kernel_rfl, by kernel_rfl⟩
theorem enters45 : Enters Try.prog 45 := ⟨Try.f45, Try.func45, by kernel_rfl, by kernel_rfl⟩
theorem enters46 : Enters Try.prog 46 := ⟨Try.f46, Try.func46, by kernel_rfl, by kernel_rfl⟩
theorem enters47 : Enters Try.prog 47 := ⟨Try.f47, Try.func47, by kernel_rfl, by kernel_rfl⟩
theorem enters48 : Enters Try.prog 48 := ⟨Try.f48, Try.func48, by kernel_rfl, by kernel_rfl⟩
theorem enters49 : Enters Try.prog 49 := ⟨Try.f49, Try.func49, by kernel_rfl, by kernel_rfl⟩
theorem enters50 : Enters Try.prog 50 := ⟨Try.f50, Try.func50, by kernel_rfl, by kernel_rfl⟩
theorem enters51 : Enters Try.prog 51 := ⟨Try.f51, Try.func51, by kernel_rfl, by kernel_rfl⟩
theorem enters52 : Enters Try.prog 52 := ⟨Try.f52, Try.func52, by kernel_rfl, by kernel_rfl⟩
theorem enters53 : Enters Try.prog 53 := ⟨Try.f53, Try.func53, by kernel_rfl, by kernel_rfl⟩
theorem enters54 : Enters Try.prog 54 := ⟨Try.f54, Try.func54, by kernel_rfl, by kernel_rfl⟩
theorem enters60 : Enters Try.prog 60 := ⟨Try.f60, Try.func60, by kernel_rfl, by kernel_rfl⟩
theorem enters61 : Enters Try.prog 61 := ⟨Try.f61, Try.func61, by kernel_rfl, by kernel_rfl⟩
theorem enters62 : Enters Try.prog 62 := ⟨Try.f62, Try.func62, by kernel_rfl, by kernel_rfl⟩
theorem enters63 : Enters Try.prog 63 := ⟨Try.f63, Try.func63, by kernel_rfl, by kernel_rfl⟩
theorem enters64 : Enters Try.prog 64 := ⟨Try.f64, Try.func64, by kernel_rfl, by kernel_rfl⟩
theorem enters65 : Enters Try.prog 65 := ⟨Try.f65, Try.func65, by kernel_rfl, by kernel_rfl⟩
theorem enters68 : Enters Try.prog 68 := ⟨Try.f68, Try.func68, by kernel_rfl, by kernel_rfl⟩
theorem enters69 : Enters Try.prog 69 := ⟨Try.f69, Try.func69, by kernel_rfl, by kernel_rfl⟩
theorem enters70 : Enters Try.prog 70 := ⟨Try.f70, Try.func70, by kernel_rfl, by kernel_rfl⟩
theorem enters71 : Enters Try.prog 71 := ⟨Try.f71, Try.func71, by kernel_rfl, by kernel_rfl⟩
theorem enters72 : Enters Try.prog 72 := ⟨Try.f72, Try.func72, by kernel_rfl, by kernel_rfl⟩
theorem enters73 : Enters Try.prog 73 := ⟨Try.f73, Try.func73, by kernel_rfl, by kernel_rfl⟩
theorem enters74 : Enters Try.prog 74 := ⟨Try.f74, Try.func74, by kernel_rfl, by kernel_rfl⟩
theorem enters75 : Enters Try.prog 75 := ⟨Try.f75, Try.func75, by kernel_rfl, by kernel_rfl⟩
theorem enters76 : Enters Try.prog 76 := ⟨Try.f76, Try.func76, by kernel_rfl, by kernel_rfl⟩
theorem enters77 : Enters Try.prog 77 := ⟨Try.f77, Try.func77, by kernel_rfl, by kernel_rfl⟩
theorem enters78 : Enters Try.prog 78 := ⟨Try.f78, Try.func78, by kernel_rfl, by kernel_rfl⟩
theorem enters79 : Enters Try.prog 79 := ⟨Try.f79, Try.func79, by kernel_rfl, by kernel_rfl⟩
theorem enters80 : Enters Try.prog 80 := ⟨Try.f80, Try.func80, by kernel_rfl, by kernel_rfl⟩
theorem enters81 : Enters Try.prog 81 := ⟨Try.f81, Try.func81, by kernel_rfl, by kernel_rfl⟩
theorem enters82 : Enters Try.prog 82 := ⟨Try.f82, Try.func82, by kernel_rfl, by kernel_rfl⟩
theorem enters83 : Enters Try.prog 83 := ⟨Try.f83, Try.func83, by kernel_rfl, by kernel_rfl⟩
theorem info3 : InfoOk Try.prog 3 1 := infoOk (z := (.int .i64 0)) (bytes := 8) (by kernel_rfl) (by kernel_rfl) (by kernel_rfl) (by kernel_rfl)
theorem info4 : InfoOk Try.prog 4 1 := infoOk (z := (.bool false)) (bytes := 1) (by kernel_rfl) (by kernel_rfl) (by kernel_rfl) (by kernel_rfl)
theorem info76 : InfoOk Try.prog 76 1 := infoOk (z := (.int .u32 0)) (bytes := 4) (by kernel_rfl) (by kernel_rfl) (by kernel_rfl) (by kernel_rfl)
theorem eqs27eql (a0 : Int) (a1 : Int) (b0 : Int) (b1 : Int) (x y : Operand) (w : World) : (do eqGuard .eql 27 x y (.agg #[.int .u64 a0, .int .u64 a1]) (.agg #[.int .u64 b0, .int .u64 b1]); binOp .eql 27 (.agg #[.int .u64 a0, .int .u64 a1]) (.agg #[.int .u64 b0, .int .u64 b1]) : Sem Value).run Try.prog w = .ok (.bool ((a0 == b0) && (a1 == b1))) w := by
  have h1 : Try.prog.eqGuardType Try.prog.depth 27 = false := by kernel_rfl
  have h2 : Try.prog.stoodInHeld 27 = false := by kernel_rfl
  have h3 : Try.prog.underlying 27 = some (.struct (Try.prog.fieldsOf 27)) := by kernel_rfl
  have h4 := Try.underlying27
  rw [Sem.run_bind, run_eqGuard_agg w .eql 27 x y _ _ h1, Result.andThen_ok, run_eql_struct, run_equalIn_struct w 9999 27 _ _ h3 h2]
  by_cases g0 : a0 = b0 <;> by_cases g1 : a1 = b1 <;> simp [Program.fieldsOf, h4, Op.eqFields, part, isAgg, run_underlying Try.underlying25, run_equalIn_int _ _ _ _ _ _ _ Try.underlying25, g0, g1]
theorem eqs27neq (a0 : Int) (a1 : Int) (b0 : Int) (b1 : Int) (x y : Operand) (w : World) : (do eqGuard .neq 27 x y (.agg #[.int .u64 a0, .int .u64 a1]) (.agg #[.int .u64 b0, .int .u64 b1]); binOp .neq 27 (.agg #[.int .u64 a0, .int .u64 a1]) (.agg #[.int .u64 b0, .int .u64 b1]) : Sem Value).run Try.prog w = .ok (.bool (!((a0 == b0) && (a1 == b1)))) w := by
  have h1 : Try.prog.eqGuardType Try.prog.depth 27 = false := by kernel_rfl
  have h2 : Try.prog.stoodInHeld 27 = false := by kernel_rfl
  have h3 : Try.prog.underlying 27 = some (.struct (Try.prog.fieldsOf 27)) := by kernel_rfl
  have h4 := Try.underlying27
  rw [Sem.run_bind, run_eqGuard_agg w .neq 27 x y _ _ h1, Result.andThen_ok, run_neq_struct, run_equalIn_struct w 9999 27 _ _ h3 h2]
  by_cases g0 : a0 = b0 <;> by_cases g1 : a1 = b1 <;> simp [Program.fieldsOf, h4, Op.eqFields, part, isAgg, run_underlying Try.underlying25, run_equalIn_int _ _ _ _ _ _ _ Try.underlying25, g0, g1]
theorem eqs29eql (a0 : Int) (a1 : Int) (b0 : Int) (b1 : Int) (x y : Operand) (w : World) : (do eqGuard .eql 29 x y (.agg #[.int .i64 a0, .int .i64 a1]) (.agg #[.int .i64 b0, .int .i64 b1]); binOp .eql 29 (.agg #[.int .i64 a0, .int .i64 a1]) (.agg #[.int .i64 b0, .int .i64 b1]) : Sem Value).run Try.prog w = .ok (.bool ((a0 == b0) && (a1 == b1))) w := by
  have h1 : Try.prog.eqGuardType Try.prog.depth 29 = false := by kernel_rfl
  have h2 : Try.prog.stoodInHeld 29 = false := by kernel_rfl
  have h3 : Try.prog.underlying 29 = some (.struct (Try.prog.fieldsOf 29)) := by kernel_rfl
  have h4 := Try.underlying29
  rw [Sem.run_bind, run_eqGuard_agg w .eql 29 x y _ _ h1, Result.andThen_ok, run_eql_struct, run_equalIn_struct w 9999 29 _ _ h3 h2]
  by_cases g0 : a0 = b0 <;> by_cases g1 : a1 = b1 <;> simp [Program.fieldsOf, h4, Op.eqFields, part, isAgg, run_underlying Try.underlying3, run_equalIn_int _ _ _ _ _ _ _ Try.underlying3, g0, g1]
theorem eqs29neq (a0 : Int) (a1 : Int) (b0 : Int) (b1 : Int) (x y : Operand) (w : World) : (do eqGuard .neq 29 x y (.agg #[.int .i64 a0, .int .i64 a1]) (.agg #[.int .i64 b0, .int .i64 b1]); binOp .neq 29 (.agg #[.int .i64 a0, .int .i64 a1]) (.agg #[.int .i64 b0, .int .i64 b1]) : Sem Value).run Try.prog w = .ok (.bool (!((a0 == b0) && (a1 == b1)))) w := by
  have h1 : Try.prog.eqGuardType Try.prog.depth 29 = false := by kernel_rfl
  have h2 : Try.prog.stoodInHeld 29 = false := by kernel_rfl
  have h3 : Try.prog.underlying 29 = some (.struct (Try.prog.fieldsOf 29)) := by kernel_rfl
  have h4 := Try.underlying29
  rw [Sem.run_bind, run_eqGuard_agg w .neq 29 x y _ _ h1, Result.andThen_ok, run_neq_struct, run_equalIn_struct w 9999 29 _ _ h3 h2]
  by_cases g0 : a0 = b0 <;> by_cases g1 : a1 = b1 <;> simp [Program.fieldsOf, h4, Op.eqFields, part, isAgg, run_underlying Try.underlying3, run_equalIn_int _ _ _ _ _ _ _ Try.underlying3, g0, g1]

theorem integer_Valid_ok (fuel : Nat) (pa0_0 : Option Addr) (pc0_0 : Nat) (a_0 : (Bool × (List Int))) (w0 : World) (X0 : Nat → Prop) (hX0 : ∀ k, X0 k → k < w0.heap.size) (hpa0_0 : Rd (iE .u32) w0 X0 pa0_0 pc0_0 a_0.2) (r0 : Bool) (h0 : integer_Valid fuel a_0 = some r0) :
    Calls Try.prog 36 ([(.agg #[(.bool a_0.1), (.slice pa0_0 (List.length a_0.2) pc0_0)])] : List Value).toArray w0 (Ret fun v w' => w0.grownBy w' none ∧ v = tup [(.bool r0)]) := by
 have hB0 : Below w0.heap.size w0 w0 := Below.refl _ _
 unfold integer_Valid at h0
 refine calls_run Try.func36 rfl Try.ntmps36 (by kernel_rfl) ?_
 refine gv_sub [0] (σ' := [(0, (.agg #[(.bool a_0.1), (.slice pa0_0 (List.length a_0.2) pc0_0)]))]) (by kernel_rfl) ?_
 refine gv_seq <| gv_region <| gv_new0 (fun b => .pointer (some ⟨b, 0, none⟩)) #[(.bool a_0.1), (.slice pa0_0 (List.length a_0.2) pc0_0)] 24 (by kernel_rfl) (by kernel_rfl) ?_
 intro b1 w2 hg3 hb4 hbe5 hz6
 refine gv_pureN 1 [2] [] (by kernel_rfl) ?_
 refine gv_nil <| gv_seq <| gv_region <| gv_pureN 1 [4] [(4, (.pointer (some ⟨b1, 1, none⟩)))] (by kernel_rfl) ?_
 refine gv_load (t := 22) (A := ⟨b1, 1, none⟩) (.slice pa0_0 (List.length a_0.2) pc0_0) [] (fun e => by cases e) rfl rfl rfl (by kernel_rfl) (by kernel_rfl) (by kernel_rfl) (inw0 (hb4.cell 1 rfl)) rfl ?_
 refine gv_pureN 2 [3, 6] [(3, (.int .i64 ((List.length a_0.2 : Nat) : Int)))] (by kernel_rfl) ?_
 refine gv_nil <| gv_seq <| gv_region <| bindE h0 ?_; clear h0; intro j7 h1 h0
 refine gv_cut_ops (J := fun a w8 => Below w0.heap.size w0 w8 ∧ w2.heap.size ≤ w8.heap.size ∧ a.defers = [] ∧ a.tmps.size = 31 ∧ Ok [(2, (.bool j7))] a.tmps) ?_ ?_
 ·skip
  refine gv_pureN 3 [7, 8, 9] [(9, (.bool (decide (((List.length a_0.2 : Nat) : Int) ≤ 128))))] (by kernel_rfl) ?_
  refine gv_split (s := 9) (g := (decide (((List.length a_0.2 : Nat) : Int) ≤ 128))) (by kernel_rfl) (fun hc9 => ?_) (fun hc9 => ?_)
  ·skip
   replace h1 := ite_t hc9 h1
   refine gv_pureN 3 [10, 11, 12] [(12, (.bool (((List.length a_0.2 : Nat) : Int) == 0)))] (by kernel_rfl) ?_
   refine gv_split (s := 12) (g := (((List.length a_0.2 : Nat) : Int) == 0)) (by kernel_rfl) (fun hc10 => ?_) (fun hc10 => ?_)
   ·skip
    replace h1 := ite_t hc10 h1
    refine gv_pureN 1 [13] [(13, (bp b1))] (by kernel_rfl) ?_
    refine gv_load (t := 4) (A := ⟨b1, 0, none⟩) (.bool a_0.1) [] (fun e => by cases e) rfl rfl rfl (by kernel_rfl) (by kernel_rfl) (by kernel_rfl) (inw0 (hb4.cell 0 rfl)) rfl ?_
    refine gv_pureN 3 [15, 16, 17] [(17, (.bool (!a_0.1)))] (by kernel_rfl) ?_
    refine gv_split (s := 17) (g := (!a_0.1)) (by kernel_rfl) (fun hc11 => ?_) (fun hc11 => ?_)
    ·skip
     replace h1 := ite_t hc11 h1
     refine gv_pureN 14 [2, 18, 19, 20, 21, 22, 23, 24, 25, 26, 27, 28, 29, 30] [(2, (.bool true))] (by kernel_rfl) ?_
     refine gv_nil ?_
     have e := sj h1; subst e
     refine gv_goal fun a hd hs hok => ?_
     have hB12 := bg hB0 hg3 nb
     exact ⟨hB12, (Nat.le_refl _), hd, hs, ok_pick [2] hok (by kernel_rfl)⟩
    ·skip
     replace h1 := ite_f hc11 h1
     refine gv_pureN 3 [18, 19, 20] [(20, (.bool (decide (((List.length a_0.2 : Nat) : Int) > 0))))] (by kernel_rfl) ?_
     refine gv_split (s := 20) (g := (decide (((List.length a_0.2 : Nat) : Int) > 0))) (by kernel_rfl) (fun hc13 => ?_) (fun hc13 => ?_)
     ·skip
      replace h1 := ite_t hc13 h1
      refine gv_pureN 1 [21] [(21, (.pointer (some ⟨b1, 1, none⟩)))] (by kernel_rfl) ?_
      refine gv_load (t := 22) (A := ⟨b1, 1, none⟩) (.slice pa0_0 (List.length a_0.2) pc0_0) [] (fun e => by cases e) rfl rfl rfl (by kernel_rfl) (by kernel_rfl) (by kernel_rfl) (inw0 (hb4.cell 1 rfl)) rfl ?_
      refine gv_pureN 2 [23, 24] [(24, (.int .i64 (IntKind.i64.wrap (((List.length a_0.2 : Nat) : Int) - 1))))] (by kernel_rfl) ?_
      refine gv_sub [9, 17, 20, 22, 24] (σ' := [(9, (.bool true)), (17, (.bool false)), (20, (.bool true)), (22, (.slice pa0_0 (List.length a_0.2) pc0_0)), (24, (.int .i64 (IntKind.i64.wrap (((List.length a_0.2 : Nat) : Int) - 1))))]) (by kernel_rfl) ?_
      refine bindE h1 ?_; clear h1; intro x14 hx15 h1
      have hB16 := bg hB0 hg3 nb
      refine gv_idxaddr (t := 22) (e := 76) (a := pa0_0) (len := List.length a_0.2) (cap := pc0_0) (kk := .i64) (i := (IntKind.i64.wrap (((List.length a_0.2 : Nat) : Int) - 1))) (sz := 1) [] (fun e => by cases e) rfl rfl rfl (by kernel_rfl) (by kernel_rfl) Try.underlying22 (by kernel_rfl) ((hpa0_0.below hB16 hX0).has hx15) (idx_spec hx15).1 (idx_spec hx15).2.1 rfl ?_
      refine gv_load (t := 76) (A := (elemAddr pa0_0 (((IntKind.i64.wrap (((List.length a_0.2 : Nat) : Int) - 1))).toNat * 1))) (.int .u32 x14) [] (fun e => by cases e) rfl rfl rfl (by kernel_rfl) (by kernel_rfl) (by kernel_rfl) (inw0 ((hpa0_0.below hB16 hX0).cell hx15)) rfl ?_
      refine gv_pureN 5 [2, 27, 28, 29, 30] [(2, (.bool (x14 != 0)))] (by kernel_rfl) ?_
      refine gv_nil ?_
      have e := sj h1; subst e
      refine gv_goal fun a hd hs hok => ?_
      exact ⟨hB16, (Nat.le_refl _), hd, hs, ok_pick [2] hok (by kernel_rfl)⟩
     ·skip
      replace h1 := ite_f hc13 h1
      refine gv_pureN 11 [2, 21, 22, 23, 24, 25, 26, 27, 28, 29, 30] [(2, (.bool false))] (by kernel_rfl) ?_
      refine gv_nil ?_
      have e := sj h1; subst e
      refine gv_goal fun a hd hs hok => ?_
      have hB17 := bg hB0 hg3 nb
      exact ⟨hB17, (Nat.le_refl _), hd, hs, ok_pick [2] hok (by kernel_rfl)⟩
   ·skip
    replace h1 := ite_f hc10 h1
    refine gv_pureN 8 [13, 14, 15, 16, 17, 18, 19, 20] [(17, (.bool false)), (20, (.bool (decide (((List.length a_0.2 : Nat) : Int) > 0))))] (by kernel_rfl) ?_
    refine gv_split (s := 20) (g := (decide (((List.length a_0.2 : Nat) : Int) > 0))) (by kernel_rfl) (fun hc18 => ?_) (fun hc18 => ?_)
    ·skip
     replace h1 := ite_t hc18 h1
     refine gv_pureN 1 [21] [(21, (.pointer (some ⟨b1, 1, none⟩)))] (by kernel_rfl) ?_
     refine gv_load (t := 22) (A := ⟨b1, 1, none⟩) (.slice pa0_0 (List.length a_0.2) pc0_0) [] (fun e => by cases e) rfl rfl rfl (by kernel_rfl) (by kernel_rfl) (by kernel_rfl) (inw0 (hb4.cell 1 rfl)) rfl ?_
     refine gv_pureN 2 [23, 24] [(24, (.int .i64 (IntKind.i64.wrap (((List.length a_0.2 : Nat) : Int) - 1))))] (by kernel_rfl) ?_
     refine bindE h1 ?_; clear h1; intro x19 hx20 h1
     have hB21 := bg hB0 hg3 nb
     refine gv_idxaddr (t := 22) (e := 76) (a := pa0_0) (len := List.length a_0.2) (cap := pc0_0) (kk := .i64) (i := (IntKind.i64.wrap (((List.length a_0.2 : Nat) : Int) - 1))) (sz := 1) [] (fun e => by cases e) rfl rfl rfl (by kernel_rfl) (by kernel_rfl) Try.underlying22 (by kernel_rfl) ((hpa0_0.below hB21 hX0).has hx20) (idx_spec hx20).1 (idx_spec hx20).2.1 rfl ?_
     refine gv_load (t := 76) (A := (elemAddr pa0_0 (((IntKind.i64.wrap (((List.length a_0.2 : Nat) : Int) - 1))).toNat * 1))) (.int .u32 x19) [] (fun e => by cases e) rfl rfl rfl (by kernel_rfl) (by kernel_rfl) (by kernel_rfl) (inw0 ((hpa0_0.below hB21 hX0).cell hx20)) rfl ?_
     refine gv_pureN 5 [2, 27, 28, 29, 30] [(2, (.bool (x19 != 0)))] (by kernel_rfl) ?_
     refine gv_sub [2] (σ' := [(2, (.bool (x19 != 0)))]) (by kernel_rfl) ?_
     refine gv_nil ?_
     have e := sj h1; subst e
     refine gv_goal fun a hd hs hok => ?_
     exact ⟨hB21, (Nat.le_refl _), hd, hs, ok_pick [2] hok (by kernel_rfl)⟩
    ·skip
     replace h1 := ite_f hc18 h1
     refine gv_pureN 11 [2, 21, 22, 23, 24, 25, 26, 27, 28, 29, 30] [(2, (.bool false))] (by kernel_rfl) ?_
     refine gv_nil ?_
     have e := sj h1; subst e
     refine gv_goal fun a hd hs hok => ?_
     have hB22 := bg hB0 hg3 nb
     exact ⟨hB22, (Nat.le_refl _), hd, hs, ok_pick [2] hok (by kernel_rfl)⟩
  ·skip
   replace h1 := ite_f hc9 h1
   refine gv_pureN 22 [2, 10, 11, 12, 13, 14, 15, 16, 17, 18, 19, 20, 21, 22, 23, 24, 25, 26, 27, 28, 29, 30] [(2, (.bool false))] (by kernel_rfl) ?_
   refine gv_nil ?_
   have e := sj h1; subst e
   refine gv_goal fun a hd hs hok => ?_
   have hB23 := bg hB0 hg3 nb
   exact ⟨hB23, (Nat.le_refl _), hd, hs, ok_pick [2] hok (by kernel_rfl)⟩
 ·rintro a w8 ⟨hB24, hz25, hd, hs, hok⟩
  refine gv_in ?_ hd hs hok
  clear hd hs hok
  clear hz25 hz6 hbe5 hb4 hg3
  refine gv_cret ?_
  have e := sj h0; subst e
  refine gv_ret (gv_done [(.bool j7)] rfl ⟨(by kernel_rfl), trivial⟩ ?_)
  exact ⟨grown_of_below hB24, rfl⟩

theorem random_at_ok (fuel : Nat) (code_0 : Int) (index_1 : Int) (w0 : World)  (r0 : (Int × Int)) (h0 : random_at fuel code_0 index_1 = some r0) :
    Calls Try.prog 37 ([(.int .i64 code_0), (.int .i64 index_1)] : List Value).toArray w0 (Ret fun v w' => w0.grownBy w' none ∧ v = tup [(.agg #[(.int .i64 r0.1), (.int .i64 r0.2)])]) := by
 have hB0 : Below w0.heap.size w0 w0 := Below.refl _ _
 unfold random_at at h0
 refine calls_run Try.func37 rfl Try.ntmps37 (by kernel_rfl) ?_
 refine gv_sub [0, 1] (σ' := [(0, (.int .i64 code_0)), (1, (.int .i64 index_1))]) (by kernel_rfl) ?_
 refine gv_seq <| gv_region <| gv_new0 (fun b => .pointer (some ⟨b, 0, none⟩)) #[(.int .i64 0), (.int .i64 0)] 29 (by kernel_rfl) (by kernel_rfl) ?_
 intro b1 w2 hg3 hb4 hbe5 hz6
 refine gv_nil <| gv_seq <| gv_region <| gv_pureN 3 [5, 6, 7] [(7, (.agg #[(.int .i64 code_0), (.int .i64 index_1)]))] (by kernel_rfl) ?_
 refine gv_store0 29 0 (.agg #[(.int .i64 code_0), (.int .i64 index_1)]) #[(.int .i64 code_0), (.int .i64 index_1)] hb4 (by kernel_rfl) (by kernel_rfl) (by kernel_rfl) ?_
 intro w7 hg8 hb9 hz10
 refine gv_nil <| gv_cret ?_
 have e := sj h0; subst e
 refine gv_ret (gv_done [(.agg #[(.int .i64 code_0), (.int .i64 index_1)])] rfl ⟨⟨⟨b1, 0, none⟩, (by kernel_rfl), run_loadVar_row w7 b1 _ 29 _ _ _ hb9 Try.underlying29 rfl (by kernel_rfl)⟩, trivial⟩ ?_)
 have hB11 := bg hB0 hg3 nb
 have hlo12 : w0.heap.size ≤ b1 := lob hbe5 hB0.size
 have hB13 := bg hB11 hg8 (rowlo hlo12)
 exact ⟨grown_of_below hB13, rfl⟩

theorem random_mix_ok (fuel : Nat) (x_0 : Int) (w0 : World)  (r0 : Int) (h0 : random_mix fuel x_0 = some r0) :
    Calls Try.prog 38 ([(.int .u64 x_0)] : List Value).toArray w0 (Ret fun v w' => w0.grownBy w' none ∧ v = tup [(.int .u64 r0)]) := by
 have hB0 : Below w0.heap.size w0 w0 := Below.refl _ _
 unfold random_mix at h0
 refine calls_run Try.func38 rfl Try.ntmps38 (by kernel_rfl) ?_
 refine gv_sub [0] (σ' := [(0, (.int .u64 x_0))]) (by kernel_rfl) ?_
 refine gv_seq <| gv_region <| gv_pureN 1 [2] [] (by kernel_rfl) ?_
 refine gv_nil <| gv_seq <| gv_region <| gv_pureN 6 [0, 3, 4, 5, 6, 7] [(0, (.int .u64 (IntKind.u64.wrap ((bwXor .u64 x_0 ((x_0).fdiv (2 ^ 30))) * 13787848793156543929))))] (by kernel_rfl) ?_
 refine bindE h0 ?_; clear h0; intro n1 hn2 h0
 refine gv_name (s := 0) (v := (.int .u64 (IntKind.u64.wrap ((bwXor .u64 x_0 ((x_0).fdiv (2 ^ 30))) * 13787848793156543929)))) (v' := (.int .u64 n1)) (by kernel_rfl) (congrArg (Value.int .u64) (sj hn2)) ?_
 refine gv_nil <| gv_seq <| gv_region <| gv_pureN 6 [0, 8, 9, 10, 11, 12] [(0, (.int .u64 (IntKind.u64.wrap ((bwXor .u64 n1 ((n1).fdiv (2 ^ 27))) * 10723151780598845931))))] (by kernel_rfl) ?_
 refine bindE h0 ?_; clear h0; intro n3 hn4 h0
 refine gv_name (s := 0) (v := (.int .u64 (IntKind.u64.wrap ((bwXor .u64 n1 ((n1).fdiv (2 ^ 27))) * 10723151780598845931)))) (v' := (.int .u64 n3)) (by kernel_rfl) (congrArg (Value.int .u64) (sj hn4)) ?_
 refine gv_nil <| gv_seq <| gv_region <| gv_pureN 5 [2, 13, 14, 15, 16] [(2, (.int .u64 (bwXor .u64 n3 ((n3).fdiv (2 ^ 31)))))] (by kernel_rfl) ?_
 refine gv_nil <| gv_cret ?_
 have e := sj h0; subst e
 refine gv_ret (gv_done [(.int .u64 (bwXor .u64 n3 ((n3).fdiv (2 ^ 31))))] rfl ⟨(by kernel_rfl), trivial⟩ ?_)
 exact ⟨grown_of_below hB0, rfl⟩

theorem random_Seed_ok (fuel : Nat) (pa0_0 : Option Addr) (pc0_0 : Nat) (n_0 : (Bool × (List Int))) (w0 : World) (X0 : Nat → Prop) (hX0 : ∀ k, X0 k → k < w0.heap.size) (hpa0_0 : Rd (iE .u32) w0 X0 pa0_0 pc0_0 n_0.2) (r0 : ((Int × Int) × (Int × Int))) (h0 : random_Seed fuel n_0 = some r0) :
    Calls Try.prog 8 ([(.agg #[(.bool n_0.1), (.slice pa0_0 (List.length n_0.2) pc0_0)])] : List Value).toArray w0 (Ret fun v w' => w0.grownBy w' none ∧ v = tup [(.agg #[(.int .u64 r0.1.1), (.int .u64 r0.1.2)]), (.agg #[(.int .i64 r0.2.1), (.int .i64 r0.2.2)])]) := by
 have hB0 : Below w0.heap.size w0 w0 := Below.refl _ _
 unfold random_Seed at h0
 refine calls_run Try.func8 rfl Try.ntmps8 (by kernel_rfl) ?_
 refine gv_sub [0] (σ' := [(0, (.agg #[(.bool n_0.1), (.slice pa0_0 (List.length n_0.2) pc0_0)]))]) (by kernel_rfl) ?_
 refine gv_seq <| gv_region <| gv_new0 (fun b => .pointer (some ⟨b, 0, none⟩)) #[(.bool n_0.1), (.slice pa0_0 (List.length n_0.2) pc0_0)] 24 (by kernel_rfl) (by kernel_rfl) ?_
 intro b1 w2 hg3 hb4 hbe5 hz6
 refine gv_new0 (fun b => .pointer (some ⟨b, 0, none⟩)) #[(.int .u64 0), (.int .u64 0)] 27 (by kernel_rfl) (by kernel_rfl) ?_
 intro b7 w8 hg9 hb10 hbe11 hz12
 refine gv_new0 (fun b => .pointer (some ⟨b, 0, none⟩)) #[(.int .i64 0), (.int .i64 0)] 29 (by kernel_rfl) (by kernel_rfl) ?_
 intro b13 w14 hg15 hb16 hbe17 hz18
 refine gv_nil <| gv_seq <| gv_seq <| gv_region ?_
 have hg19 := (grown_trans hg9 hg15)
 have hk20 := hb4.grown hg19 nb
 refine gv_loadBox (t := 24) (b := b1) (t' := 24) (fr := (0, 0)) #[(.bool n_0.1), (.slice pa0_0 (List.length n_0.2) pc0_0)] [] (fun e => by cases e) rfl rfl rfl (by kernel_rfl) (by kernel_rfl) (by kernel_rfl) (by kernel_rfl) (inw0 hk20) rfl ?_
 refine bindE h0 ?_; clear h0; intro r21 hr22 h0
 have hg23 := (grown_trans hg3 hg19)
 have hB24 := bg hB0 hg23 nb
 refine gv_call0 (by kernel_rfl) rfl (by kernel_rfl) enters36 (integer_Valid_ok fuel pa0_0 pc0_0 (n_0.1, n_0.2) w14 (fun k => X0 k) (fun k hk => (fun k (hk : X0 k) => ltl (hX0 k hk) hB24.size) k hk) ((hpa0_0.below hB24 hX0).wide (fun k hk => hk)) r21 hr22) ?_
 rintro v27 w25 ⟨hg26, rfl⟩
 refine gv_pureN 1 [9] [(9, (.bool (!r21)))] (by kernel_rfl) ?_
 refine gv_nil <| gv_cond (b := (!r21)) (by kernel_rfl) (fun hc28 => ?_) (fun hc28 => ?_)
 ·replace h0 := ite_t hc28 h0
  refine gv_seq <| gv_region <| gv_pureN 1 [10] [(10, (.agg #[(.int .u64 0), (.int .u64 0)]))] (by kernel_rfl) ?_
  refine bindE h0 ?_; clear h0; intro r29 hr30 h0
  refine gv_call0 (by kernel_rfl) rfl (by kernel_rfl) enters37 (random_at_ok fuel 6 (-1) w25  r29 hr30) ?_
  rintro v33 w31 ⟨hg32, rfl⟩
  have hg38 := (grown_trans (grown_trans hg15 hg26) hg32)
  have hk39 := hb10.grown hg38 nb
  refine gv_store0 27 0 (.agg #[(.int .u64 0), (.int .u64 0)]) #[(.int .u64 0), (.int .u64 0)] hk39 (by kernel_rfl) (by kernel_rfl) (by kernel_rfl) ?_
  intro w34 hg35 hb36 hz37
  have hg44 := (grown_trans hg26 hg32)
  have lt45 := ltl ((ltb hb10) _ rfl) ((lowb hbe17) _ rfl)
  have hk46 := (hb16.grown hg44 nb).grown hg35 (rowne (Nat.ne_of_lt lt45))
  refine gv_store0 29 0 (.agg #[(.int .i64 r29.1), (.int .i64 r29.2)]) #[(.int .i64 r29.1), (.int .i64 r29.2)] hk46 (by kernel_rfl) (by kernel_rfl) (by kernel_rfl) ?_
  intro w40 hg41 hb42 hz43
  refine gv_nil <| gv_cret ?_
  have e := sj h0; subst e
  have hk47 := hb36.grown hg41 (rowne (ng lt45))
  refine gv_ret (gv_done [(.agg #[(.int .u64 0), (.int .u64 0)]), (.agg #[(.int .i64 r29.1), (.int .i64 r29.2)])] rfl ⟨⟨⟨b7, 0, none⟩, (by kernel_rfl), run_loadVar_row w40 b7 _ 27 _ _ _ hk47 Try.underlying27 rfl (by kernel_rfl)⟩, ⟨⟨b13, 0, none⟩, (by kernel_rfl), run_loadVar_row w40 b13 _ 29 _ _ _ hb42 Try.underlying29 rfl (by kernel_rfl)⟩, trivial⟩ ?_)
  have hB48 := bg hB24 hg44 nb
  have hB49 := bg hB0 hg3 nb
  have hlo50 : w0.heap.size ≤ b7 := lob hbe11 hB49.size
  have hB51 := bg hB48 hg35 (rowlo hlo50)
  have hB52 := bg hB49 hg9 nb
  have hlo53 : w0.heap.size ≤ b13 := lob hbe17 hB52.size
  have hB54 := bg hB51 hg41 (rowlo hlo53)
  exact ⟨grown_of_below hB54, rfl⟩
 ·replace h0 := ite_f hc28 h0
  refine gv_skip <| gv_seq <| gv_region <| gv_pureN 1 [12] [(12, (.pointer (some ⟨b1, 1, none⟩)))] (by kernel_rfl) ?_
  have hk55 := hk20.grown hg26 nb
  refine gv_load (t := 22) (A := ⟨b1, 1, none⟩) (.slice pa0_0 (List.length n_0.2) pc0_0) [] (fun e => by cases e) rfl rfl rfl (by kernel_rfl) (by kernel_rfl) (by kernel_rfl) (inw0 (hk55.cell 1 rfl)) rfl ?_
  refine gv_pureN 3 [4, 14, 15] [(4, (.int .u64 (IntKind.u64.wrap (((List.length n_0.2 : Nat) : Int)))))] (by kernel_rfl) ?_
  refine bindE h0 ?_; clear h0; intro n56 hn57 h0
  refine gv_name (s := 4) (v := (.int .u64 (IntKind.u64.wrap (((List.length n_0.2 : Nat) : Int))))) (v' := (.int .u64 n56)) (by kernel_rfl) (congrArg (Value.int .u64) (sj hn57)) ?_
  refine gv_nil <| gv_seq <| gv_seq <| gv_region <| gv_pureN 1 [16] [(16, (bp b1))] (by kernel_rfl) ?_
  refine gv_load (t := 4) (A := ⟨b1, 0, none⟩) (.bool n_0.1) [] (fun e => by cases e) rfl rfl rfl (by kernel_rfl) (by kernel_rfl) (by kernel_rfl) (inw0 (hk55.cell 0 rfl)) rfl ?_
  refine gv_nil <| bindE h0 ?_; clear h0; intro j58 h1 h0
  refine gv_cut_code (J := fun a w59 => Below w0.heap.size w0 w59 ∧ w25.heap.size ≤ w59.heap.size ∧ Box w59 b1 24 #[(.bool n_0.1), (.slice pa0_0 (List.length n_0.2) pc0_0)] ∧ Box w59 b7 27 #[(.int .u64 0), (.int .u64 0)] ∧ Box w59 b13 29 #[(.int .i64 0), (.int .i64 0)] ∧ a.defers = [] ∧ a.tmps.size = 38 ∧ Ok [(1, (bp b1)), (2, (bp b7)), (3, (bp b13)), (4, (.int .u64 j58))] a.tmps) ?_ ?_
  ·skip
   refine gv_cond (b := n_0.1) (by kernel_rfl) (fun hc60 => ?_) (fun hc60 => ?_)
   ·replace h1 := ite_t hc60 h1
    refine gv_region <| gv_pureN 3 [4, 18, 19] [(4, (.int .u64 (bwXor .u64 18446744073709551615 n56)))] (by kernel_rfl) ?_
    refine gv_nil ?_
    have e := sj h1; subst e
    refine gv_goal fun a hd hs hok => ?_
    have hB61 := bg hB24 hg26 nb
    have hg62 := (grown_trans hg15 hg26)
    have hk63 := hb10.grown hg62 nb
    have hk64 := hb16.grown hg26 nb
    exact ⟨hB61, (Nat.le_refl _), hk55, hk63, hk64, hd, hs, ok_pick [1, 2, 3, 4] hok (by kernel_rfl)⟩
   ·replace h1 := ite_f hc60 h1
    refine gv_skip ?_
    have e := sj h1; subst e
    refine gv_goal fun a hd hs hok => ?_
    have hB65 := bg hB24 hg26 nb
    have hg66 := (grown_trans hg15 hg26)
    have hk67 := hb10.grown hg66 nb
    have hk68 := hb16.grown hg26 nb
    exact ⟨hB65, (Nat.le_refl _), hk55, hk67, hk68, hd, hs, ok_pick [1, 2, 3, 4] hok (by kernel_rfl)⟩
  ·rintro a w59 ⟨hB69, hz70, hb71, hb72, hb73, hd, hs, hok⟩
   refine gv_in ?_ hd hs hok
   clear hd hs hok
   clear hz70 hn57 hk55 hc28 hg26 hB24 hg23 hr22 hk20 hg19 hz18 hb16 hg15 hz12 hz6
   refine gv_seq <| gv_seq <| gv_region <| gv_pureN 1 [20] [(20, (.pointer (some ⟨b1, 1, none⟩)))] (by kernel_rfl) ?_
   refine gv_load (t := 22) (A := ⟨b1, 1, none⟩) (.slice pa0_0 (List.length n_0.2) pc0_0) [] (fun e => by cases e) rfl rfl rfl (by kernel_rfl) (by kernel_rfl) (by kernel_rfl) (inw0 (hb71.cell 1 rfl)) rfl ?_
   refine gv_pureN 2 [22, 23] [(22, (.int .i64 ((List.length n_0.2 : Nat) : Int))), (23, (.int .i64 0))] (by kernel_rfl) ?_
   refine gv_nil <| bindE h0 ?_; clear h0; intro j74 h1 h0
   refine gv_cut_code (J := fun a w75 => Below w0.heap.size w0 w75 ∧ w59.heap.size ≤ w75.heap.size ∧ Box w75 b7 27 #[(.int .u64 0), (.int .u64 0)] ∧ Box w75 b13 29 #[(.int .i64 0), (.int .i64 0)] ∧ a.defers = [] ∧ a.tmps.size = 38 ∧ Ok [(2, (bp b7)), (3, (bp b13)), (4, (.int .u64 j74))] a.tmps) ?_ ?_
   ·skip
    refine gv_block <| gv_loop (A := fun (s76 : (Int × Int)) a w77 => Below w0.heap.size w0 w77 ∧ w59.heap.size ≤ w77.heap.size ∧ Box w77 b7 27 #[(.int .u64 0), (.int .u64 0)] ∧ Box w77 b13 29 #[(.int .i64 0), (.int .i64 0)] ∧ a.defers = [] ∧ a.tmps.size = 38 ∧ Ok [(2, (bp b7)), (3, (bp b13)), (4, (.int .u64 s76.1)), (21, (.slice pa0_0 (List.length n_0.2) pc0_0)), (22, (.int .i64 ((List.length n_0.2 : Nat) : Int))), (23, (.int .i64 s76.2))] a.tmps) h1 ?_ ?_
    ·intro a hd hs hok
     exact ⟨hB69, (Nat.le_refl _), hb72, hb73, hd, hs, ok_pick [2, 3, 4, 21, 22, 23] hok (by kernel_rfl)⟩
    ·rintro s76 r2 h2 hR2 a w77 ⟨hB78, hz79, hb80, hb81, hd, hs, hok⟩
     refine gv_in ?_ hd hs hok
     clear hd hs hok
     clear hb73 hb72 hb71 hB69 hbe5 hb4
     refine gv_seq <| gv_region <| gv_pureN 1 [24] [(24, (.bool (decide (s76.2 < ((List.length n_0.2 : Nat) : Int)))))] (by kernel_rfl) ?_
     refine gv_nil <| gv_seq <| gv_cond (b := (decide (s76.2 < ((List.length n_0.2 : Nat) : Int)))) (by kernel_rfl) (fun hc82 => ?_) (fun hc82 => ?_)
     ·replace h2 := ite_t hc82 h2
      refine gv_skip <| gv_seq <| gv_block <| gv_seq <| gv_region <| bindE h2 ?_; clear h2; intro x83 hx84 h2
      refine gv_idxaddr (t := 22) (e := 76) (a := pa0_0) (len := List.length n_0.2) (cap := pc0_0) (kk := .i64) (i := s76.2) (sz := 1) [] (fun e => by cases e) rfl rfl rfl (by kernel_rfl) (by kernel_rfl) Try.underlying22 (by kernel_rfl) ((hpa0_0.below hB78 hX0).has hx84) (idx_spec hx84).1 (idx_spec hx84).2.1 rfl ?_
      refine gv_load (t := 76) (A := (elemAddr pa0_0 ((s76.2).toNat * 1))) (.int .u32 x83) [] (fun e => by cases e) rfl rfl rfl (by kernel_rfl) (by kernel_rfl) (by kernel_rfl) (inw0 ((hpa0_0.below hB78 hX0).cell hx84)) rfl ?_
      refine gv_pureN 1 [6] [(6, (.int .u32 x83))] (by kernel_rfl) ?_
      refine gv_nil <| gv_region <| gv_pureN 6 [27, 28, 29, 30, 31, 32] [(32, (.int .u64 (IntKind.u64.wrap ((IntKind.u64.wrap ((IntKind.u64.wrap (s76.1 * 6364136223846793005)) + (IntKind.u64.wrap (x83)))) + 1))))] (by kernel_rfl) ?_
      refine bindE h2 ?_; clear h2; intro r85 hr86 h2
      refine gv_call0 (by kernel_rfl) rfl (by kernel_rfl) enters38 (random_mix_ok fuel (IntKind.u64.wrap ((IntKind.u64.wrap ((IntKind.u64.wrap (s76.1 * 6364136223846793005)) + (IntKind.u64.wrap (x83)))) + 1)) w77  r85 hr86) ?_
      rintro v89 w87 ⟨hg88, rfl⟩
      have hz90 := (nt hz79 hg88.size)
      clear hr86 hx84 hc82 hz79
      refine gv_pureN 1 [4] [(4, (.int .u64 r85))] (by kernel_rfl) ?_
      refine gv_nil <| gv_blk <| gv_region <| gv_pureN 2 [23, 34] [(23, (.int .i64 (IntKind.i64.wrap (s76.2 + 1))))] (by kernel_rfl) ?_
      refine gv_nil ?_
      have e := sj h2; subst e
      refine gv_goal fun a hd hs hok => ?_
      have hB91 := bg hB78 hg88 nb
      have hz92 := hz90
      have hk93 := hb80.grown hg88 nb
      have hk94 := hb81.grown hg88 nb
      exact ⟨(r85, (IntKind.i64.wrap (s76.2 + 1))), rfl, hB91, hz92, hk93, hk94, hd, hs, ok_pick [2, 3, 4, 21, 22, 23] hok (by kernel_rfl)⟩
     ·replace h2 := ite_f hc82 h2
      refine gv_cexit <| gv_exit rfl ?_
      have e := sj h2; subst e
      replace h1 := congrArg some (hR2 _ rfl)
      have e := sj h1; subst e
      refine gv_goal fun a hd hs hok => ?_
      have hz95 := hz79
      exact ⟨hB78, hz95, hb80, hb81, hd, hs, ok_pick [2, 3, 4] hok (by kernel_rfl)⟩
   ·rintro a w75 ⟨hB96, hz97, hb98, hb99, hd, hs, hok⟩
    refine gv_in ?_ hd hs hok
    clear hd hs hok
    clear hz97 hb73 hb72 hb71 hB69 hbe5 hb4
    refine gv_seq <| gv_region <| gv_pureN 3 [35, 36, 37] [(36, (.agg #[(.int .u64 j74), (.int .u64 1442695040888963407)])), (37, (.agg #[(.int .i64 0), (.int .i64 0)]))] (by kernel_rfl) ?_
    refine gv_store0 27 0 (.agg #[(.int .u64 j74), (.int .u64 1442695040888963407)]) #[(.int .u64 j74), (.int .u64 1442695040888963407)] hb98 (by kernel_rfl) (by kernel_rfl) (by kernel_rfl) ?_
    intro w100 hg101 hb102 hz103
    have lt108 := ltl ((ltb hb10) _ rfl) ((lowb hbe17) _ rfl)
    have hk109 := hb99.grown hg101 (rowne (Nat.ne_of_lt lt108))
    refine gv_store0 29 0 (.agg #[(.int .i64 0), (.int .i64 0)]) #[(.int .i64 0), (.int .i64 0)] hk109 (by kernel_rfl) (by kernel_rfl) (by kernel_rfl) ?_
    intro w104 hg105 hb106 hz107
    refine gv_nil <| gv_cret ?_
    have e := sj h0; subst e
    have hk110 := hb102.grown hg105 (rowne (ng lt108))
    refine gv_ret (gv_done [(.agg #[(.int .u64 j74), (.int .u64 1442695040888963407)]), (.agg #[(.int .i64 0), (.int .i64 0)])] rfl ⟨⟨⟨b7, 0, none⟩, (by kernel_rfl), run_loadVar_row w104 b7 _ 27 _ _ _ hk110 Try.underlying27 rfl (by kernel_rfl)⟩, ⟨⟨b13, 0, none⟩, (by kernel_rfl), run_loadVar_row w104 b13 _ 29 _ _ _ hb106 Try.underlying29 rfl (by kernel_rfl)⟩, trivial⟩ ?_)
    have hB111 := bg hB0 hg3 nb
    have hlo112 : w0.heap.size ≤ b7 := lob hbe11 hB111.size
    have hB113 := bg hB96 hg101 (rowlo hlo112)
    have hB114 := bg hB111 hg9 nb
    have hlo115 : w0.heap.size ≤ b13 := lob hbe17 hB114.size
    have hB116 := bg hB113 hg105 (rowlo hlo115)
    exact ⟨grown_of_below hB116, rfl⟩

theorem random_open_ok (fuel : Nat) (g_0 : (Int × Int)) (w0 : World)  (r0 : ((Option ((Int × Int))) × (Int × Int))) (h0 : random_open fuel g_0 = some r0) :
    Calls Try.prog 39 ([(.agg #[(.int .u64 g_0.1), (.int .u64 g_0.2)])] : List Value).toArray w0 (Ret fun v w' => w0.grownBy w' none ∧ ∃ (p0r : Option Addr), v = tup [(.pointer p0r), (.agg #[(.int .i64 r0.2.1), (.int .i64 r0.2.2)])] ∧ PBox w' w0.heap.size 81 (fun (x : ((Int × Int))) => #[(.int .u64 x.1), (.int .u64 x.2)]) p0r r0.1) := by
 have hB0 : Below w0.heap.size w0 w0 := Below.refl _ _
 unfold random_open at h0
 refine calls_run Try.func39 rfl Try.ntmps39 (by kernel_rfl) ?_
 refine gv_sub [0] (σ' := [(0, (.agg #[(.int .u64 g_0.1), (.int .u64 g_0.2)]))]) (by kernel_rfl) ?_
 refine gv_seq <| gv_region <| gv_new0 (fun b => .pointer (some ⟨b, 0, none⟩)) #[(.int .u64 g_0.1), (.int .u64 g_0.2)] 27 (by kernel_rfl) (by kernel_rfl) ?_
 intro b1 w2 hg3 hb4 hbe5 hz6
 refine gv_pureN 1 [2] [] (by kernel_rfl) ?_
 refine gv_new0 (fun b => .pointer (some ⟨b, 0, none⟩)) #[(.int .i64 0), (.int .i64 0)] 29 (by kernel_rfl) (by kernel_rfl) ?_
 intro b7 w8 hg9 hb10 hbe11 hz12
 refine gv_nil <| gv_seq <| gv_seq <| gv_region <| gv_pureN 1 [4] [(4, (.pointer (some ⟨b1, 1, none⟩)))] (by kernel_rfl) ?_
 have hk13 := hb4.grown hg9 nb
 refine gv_load (t := 25) (A := ⟨b1, 1, none⟩) (.int .u64 g_0.2) [] (fun e => by cases e) rfl rfl rfl (by kernel_rfl) (by kernel_rfl) (by kernel_rfl) (inw0 (hk13.cell 1 rfl)) rfl ?_
 refine gv_pureN 2 [6, 7] [(7, (.bool (((g_0.2).tmod 2) == 0)))] (by kernel_rfl) ?_
 refine gv_nil <| gv_cond (b := (((g_0.2).tmod 2) == 0)) (by kernel_rfl) (fun hc14 => ?_) (fun hc14 => ?_)
 ·replace h0 := ite_t hc14 h0
  refine gv_seq <| gv_region <| bindE h0 ?_; clear h0; intro r15 hr16 h0
  refine gv_call0 (by kernel_rfl) rfl (by kernel_rfl) enters37 (random_at_ok fuel 6 (-1) w8  r15 hr16) ?_
  rintro v19 w17 ⟨hg18, rfl⟩
  refine gv_pureN 1 [2] [(2, (.pointer none))] (by kernel_rfl) ?_
  have hk24 := hb10.grown hg18 nb
  refine gv_store0 29 0 (.agg #[(.int .i64 r15.1), (.int .i64 r15.2)]) #[(.int .i64 r15.1), (.int .i64 r15.2)] hk24 (by kernel_rfl) (by kernel_rfl) (by kernel_rfl) ?_
  intro w20 hg21 hb22 hz23
  refine gv_nil <| gv_cret ?_
  have e := sj h0; subst e
  refine gv_ret (gv_done [(.pointer none), (.agg #[(.int .i64 r15.1), (.int .i64 r15.2)])] rfl ⟨(by kernel_rfl), ⟨⟨b7, 0, none⟩, (by kernel_rfl), run_loadVar_row w20 b7 _ 29 _ _ _ hb22 Try.underlying29 rfl (by kernel_rfl)⟩, trivial⟩ ?_)
  have hg25 := (grown_trans (grown_trans hg3 hg9) hg18)
  have hB26 := bg hB0 hg25 nb
  have hB27 := bg hB0 hg3 nb
  have hlo28 : w0.heap.size ≤ b7 := lob hbe11 hB27.size
  have hB29 := bg hB26 hg21 (rowlo hlo28)
  exact ⟨grown_of_below hB29, none, rfl, (.inl ⟨rfl, rfl⟩)⟩
 ·replace h0 := ite_f hc14 h0
  refine gv_skip <| gv_seq <| gv_region <| gv_loadBox (t := 27) (b := b1) (t' := 27) (fr := (0, 0)) #[(.int .u64 g_0.1), (.int .u64 g_0.2)] [] (fun e => by cases e) rfl rfl rfl (by kernel_rfl) (by kernel_rfl) (by kernel_rfl) (by kernel_rfl) (inw0 hk13) rfl ?_
  refine gv_pureN 1 [10] [(10, (.agg #[(.int .u64 g_0.1), (.int .u64 g_0.2)]))] (by kernel_rfl) ?_
  refine gv_new0 (fun b => .pointer (some ⟨b, 0, none⟩)) #[(.int .u64 g_0.1), (.int .u64 g_0.2)] 81 (by kernel_rfl) (by kernel_rfl) ?_
  intro b30 w31 hg32 hb33 hbe34 hz35
  refine gv_pureN 2 [2, 12] [(2, (bp b30)), (12, (.agg #[(.int .i64 0), (.int .i64 0)]))] (by kernel_rfl) ?_
  have hk40 := hb10.grown hg32 nb
  refine gv_store0 29 0 (.agg #[(.int .i64 0), (.int .i64 0)]) #[(.int .i64 0), (.int .i64 0)] hk40 (by kernel_rfl) (by kernel_rfl) (by kernel_rfl) ?_
  intro w36 hg37 hb38 hz39
  refine gv_nil <| gv_cret ?_
  have e := sj h0; subst e
  refine gv_ret (gv_done [(bp b30), (.agg #[(.int .i64 0), (.int .i64 0)])] rfl ⟨(by kernel_rfl), ⟨⟨b7, 0, none⟩, (by kernel_rfl), run_loadVar_row w36 b7 _ 29 _ _ _ hb38 Try.underlying29 rfl (by kernel_rfl)⟩, trivial⟩ ?_)
  have hg41 := (grown_trans (grown_trans hg3 hg9) hg32)
  have hB42 := bg hB0 hg41 nb
  have hB43 := bg hB0 hg3 nb
  have hlo44 : w0.heap.size ≤ b7 := lob hbe11 hB43.size
  have hB45 := bg hB42 hg37 (rowlo hlo44)
  have lt46 := ltl ((ltb hb10) _ rfl) ((lowb hbe34) _ rfl)
  have hk47 := hb33.grown hg37 (rowne (Nat.ne_of_lt lt46))
  have hB48 := bg hB43 hg9 nb
  have hlo49 : w0.heap.size ≤ b30 := lob hbe34 hB48.size
  exact ⟨grown_of_below hB45, (some ⟨b30, 0, none⟩), rfl, (.inr ⟨_, _, rfl, rfl, hk47, hlo49⟩)⟩

theorem random_source_next_ok (fuel : Nat) (pb0 : Nat) (s_0 : ((Int × Int))) (w0 : World) (hp0 : Box w0 pb0 81 #[(.int .u64 s_0.1), (.int .u64 s_0.2)]) (r0 : (Int × ((Int × Int)))) (h0 : random_source_next fuel s_0 = some r0) :
    Calls Try.prog 40 ([(bp pb0)] : List Value).toArray w0 (Ret fun v w' => w0.grownBy w' (some pb0) ∧ v = tup [(.int .u64 r0.1)] ∧ Box w' pb0 81 #[(.int .u64 r0.2.1), (.int .u64 r0.2.2)]) := by
 have hB0 : w0.grownBy w0 (some pb0) := grown_refl _ _
 unfold random_source_next at h0
 refine calls_run Try.func40 rfl Try.ntmps40 (by kernel_rfl) ?_
 refine gv_sub [0] (σ' := [(0, (bp pb0))]) (by kernel_rfl) ?_
 have hpl0 := hp0.lt
 refine gv_seq <| gv_region <| gv_pureN 1 [2] [] (by kernel_rfl) ?_
 refine gv_nil <| gv_seq <| gv_drawA (by kernel_rfl) ?_
 intro w1 hg2
 refine gv_pre [0, 1, 2, 3, 4, 7, 8, 9, 10] (bA 17 [0, 1, 2, 3, 4, 7, 8, 9, 10]) 8 (by kernel_rfl) (by kernel_rfl) ?_
 refine gv_pureN 9 [3, 4, 5, 6, 7, 10, 11, 12, 13] [(3, (bp pb0)), (7, (bp pb0)), (13, (.pointer (some ⟨pb0, 1, none⟩)))] (by kernel_rfl) ?_
 refine gv_nil <| gv_goA ?_
 refine gv_stage (Cls w1 []) [0, 1, 2, 3, 4, 5, 6, 7, 8, 9, 10, 11] [(5, some true), (6, some true), (11, some true)] (bA 17 [0, 1, 2, 3, 4, 5, 6, 7, 8, 9, 10, 11]) 5 (by kernel_rfl) (by kernel_rfl) (Cls.refl _ _) ?_
 have hC3 := Cls.refl w1 []
 have hk4 := hp0.grown hg2 nb
 refine gv_load (t := 25) (A := ⟨pb0, 0, none⟩) (.int .u64 s_0.1) [] (fun e => by cases e) rfl rfl rfl (by kernel_rfl) (by kernel_rfl) (by kernel_rfl) (inw1 fun w' hC' => ((hC'.box hk4 nm_nil).cell 0 rfl)) rfl ?_
 refine gv_pureN 1 [9] [(9, (.int .u64 (IntKind.u64.wrap (s_0.1 * 6364136223846793005))))] (by kernel_rfl) ?_
 refine gv_load (t := 25) (A := ⟨pb0, 1, none⟩) (.int .u64 s_0.2) [] (fun e => by cases e) rfl rfl rfl (by kernel_rfl) (by kernel_rfl) (by kernel_rfl) (inw1 fun w' hC' => ((hC'.box hk4 nm_nil).cell 1 rfl)) rfl ?_
 refine gv_nil <| gv_goA ?_
 refine gv_pre [12, 13, 14, 15] (bA 17 [0, 1, 2, 3, 4, 5, 6, 7, 8, 9, 10, 11, 12, 13, 14, 15]) 1 (by kernel_rfl) (by kernel_rfl) ?_
 refine gv_pureN 4 [15, 16, 17, 18] [(15, (.int .u64 (IntKind.u64.wrap ((IntKind.u64.wrap (s_0.1 * 6364136223846793005)) + s_0.2)))), (18, (bp pb0))] (by kernel_rfl) ?_
 refine gv_nil <| gv_goA ?_
 refine gv_stage (fun _ => True) [0, 1, 2, 3, 4, 5, 6, 7, 8, 9, 10, 11, 12, 13, 14, 15, 16] [(16, some false)] (bA 17 [0, 1, 2, 3, 4, 5, 6, 7, 8, 9, 10, 11, 12, 13, 14, 15, 16]) 0 (by kernel_rfl) (by kernel_rfl) trivial ?_
 refine gv_store (t := 25) (b := pb0) (off := 0) (v := (.int .u64 (IntKind.u64.wrap ((IntKind.u64.wrap (s_0.1 * 6364136223846793005)) + s_0.2)))) (t' := 81) (cs := #[(.int .u64 s_0.1), (.int .u64 s_0.2)]) #[(.int .u64 (IntKind.u64.wrap ((IntKind.u64.wrap (s_0.1 * 6364136223846793005)) + s_0.2))), (.int .u64 s_0.2)] (by decide) rfl rfl (by kernel_rfl) (by kernel_rfl) (by kernel_rfl) (by intro u hu; simp [Value.cells] at hu; subst hu; rfl) (show 0 + 1 ≤ 2 by decide) (by rfl) hk4 ?_
 intro w5 hg6 hb7 hz8
 refine ⟨(fun _ => trivial), ?_⟩
 refine gv_nil <| gv_goA ?_
 refine gv_stageE (by kernel_rfl) ?_
 refine gv_seq <| gv_region <| gv_pureN 4 [19, 20, 21, 22] [(22, (bp pb0))] (by kernel_rfl) ?_
 refine gv_load (t := 25) (A := ⟨pb0, 0, none⟩) (.int .u64 (IntKind.u64.wrap ((IntKind.u64.wrap (s_0.1 * 6364136223846793005)) + s_0.2))) [] (fun e => by cases e) rfl rfl rfl (by kernel_rfl) (by kernel_rfl) (by kernel_rfl) (inw0 (hb7.cell 0 rfl)) rfl ?_
 refine bindE h0 ?_; clear h0; intro r9 hr10 h0
 refine gv_call0 (by kernel_rfl) rfl (by kernel_rfl) enters38 (random_mix_ok fuel (IntKind.u64.wrap ((IntKind.u64.wrap (s_0.1 * 6364136223846793005)) + s_0.2)) w5  r9 hr10) ?_
 rintro v13 w11 ⟨hg12, rfl⟩
 refine gv_pureN 1 [2] [(2, (.int .u64 r9))] (by kernel_rfl) ?_
 refine gv_nil <| gv_cret ?_
 have e := sj h0; subst e
 refine gv_ret (gv_done [(.int .u64 r9)] rfl ⟨(by kernel_rfl), trivial⟩ ?_)
 have hB14 := grown_step hB0 hg2 nb
 have hB15 := grown_step hB14 hg6 rowpp
 have hB16 := grown_step hB15 hg12 nb
 have hk17 := hb7.grown hg12 nb
 exact ⟨hB16, rfl, hk17⟩

theorem random_Next_ok (fuel : Nat) (g_0 : (Int × Int)) (w0 : World)  (r0 : (Int × (Int × Int) × (Int × Int))) (h0 : random_Next fuel g_0 = some r0) :
    Calls Try.prog 9 ([(.agg #[(.int .u64 g_0.1), (.int .u64 g_0.2)])] : List Value).toArray w0 (Ret fun v w' => w0.grownBy w' none ∧ v = tup [(.int .u64 r0.1), (.agg #[(.int .u64 r0.2.1.1), (.int .u64 r0.2.1.2)]), (.agg #[(.int .i64 r0.2.2.1), (.int .i64 r0.2.2.2)])]) := by
 have hB0 : Below w0.heap.size w0 w0 := Below.refl _ _
 unfold random_Next at h0
 refine calls_run Try.func9 rfl Try.ntmps9 (by kernel_rfl) ?_
 refine gv_sub [0] (σ' := [(0, (.agg #[(.int .u64 g_0.1), (.int .u64 g_0.2)]))]) (by kernel_rfl) ?_
 refine gv_seq <| gv_region <| gv_new0 (fun b => .pointer (some ⟨b, 0, none⟩)) #[(.int .u64 g_0.1), (.int .u64 g_0.2)] 27 (by kernel_rfl) (by kernel_rfl) ?_
 intro b1 w2 hg3 hb4 hbe5 hz6
 refine gv_pureN 1 [2] [] (by kernel_rfl) ?_
 refine gv_new0 (fun b => .pointer (some ⟨b, 0, none⟩)) #[(.int .u64 0), (.int .u64 0)] 27 (by kernel_rfl) (by kernel_rfl) ?_
 intro b7 w8 hg9 hb10 hbe11 hz12
 refine gv_new0 (fun b => .pointer (some ⟨b, 0, none⟩)) #[(.int .i64 0), (.int .i64 0)] 29 (by kernel_rfl) (by kernel_rfl) ?_
 intro b13 w14 hg15 hb16 hbe17 hz18
 refine gv_nil <| gv_seq <| gv_region ?_
 have hg19 := (grown_trans hg9 hg15)
 have hk20 := hb4.grown hg19 nb
 refine gv_loadBox (t := 27) (b := b1) (t' := 27) (fr := (0, 0)) #[(.int .u64 g_0.1), (.int .u64 g_0.2)] [] (fun e => by cases e) rfl rfl rfl (by kernel_rfl) (by kernel_rfl) (by kernel_rfl) (by kernel_rfl) (inw0 hk20) rfl ?_
 refine bindE h0 ?_; clear h0; intro r21 hr22 h0
 refine gv_call0 (by kernel_rfl) rfl (by kernel_rfl) enters39 (random_open_ok fuel (g_0.1, g_0.2) w14  r21 hr22) ?_
 rintro v25 w23 ⟨hg24, p26, rfl, hp27⟩
 rcases hp27 with ⟨hn28, rfl⟩ | ⟨x30, b31, hn29, rfl, hb32, hlo33⟩
 ·skip
  replace h0 := optc_none hn28 h0
  refine gv_pureN 3 [8, 11, 12] [(11, (.pointer none)), (12, (.agg #[(.int .i64 r21.2.1), (.int .i64 r21.2.2)]))] (by kernel_rfl) ?_
  refine gv_new0 (fun b => .pointer (some ⟨b, 0, none⟩)) #[(.int .i64 0), (.int .i64 0)] 29 (by kernel_rfl) (by kernel_rfl) ?_
  intro b34 w35 hg36 hb37 hbe38 hz39
  refine gv_pureN 1 [5] [(5, (.pointer none))] (by kernel_rfl) ?_
  refine gv_store0 29 0 (.agg #[(.int .i64 r21.2.1), (.int .i64 r21.2.2)]) #[(.int .i64 r21.2.1), (.int .i64 r21.2.2)] hb37 (by kernel_rfl) (by kernel_rfl) (by kernel_rfl) ?_
  intro w40 hg41 hb42 hz43
  refine gv_nil <| gv_seq <| gv_seq <| gv_region <| gv_pureN 1 [13] [(13, (bp b34))] (by kernel_rfl) ?_
  refine gv_load (t := 3) (A := ⟨b34, 0, none⟩) (.int .i64 r21.2.1) [] (fun e => by cases e) rfl rfl rfl (by kernel_rfl) (by kernel_rfl) (by kernel_rfl) (inw0 (hb42.cell 0 rfl)) rfl ?_
  refine gv_pureN 1 [15] [(15, (.bool (r21.2.1 != 0)))] (by kernel_rfl) ?_
  refine gv_nil <| gv_cond (b := (r21.2.1 != 0)) (by kernel_rfl) (fun hc44 => ?_) (fun hc44 => ?_)
  ·replace h0 := ite_t hc44 h0
   refine gv_seq <| gv_drawA (by kernel_rfl) ?_
   intro w45 hg46
   refine gv_pre [0, 2] (bA 5 [0, 2]) 3 (by kernel_rfl) (by kernel_rfl) ?_
   refine gv_pureN 2 [2, 16] [(2, (.int .u64 0)), (16, (.agg #[(.int .u64 0), (.int .u64 0)]))] (by kernel_rfl) ?_
   refine gv_sub [2, 3, 4, 6, 16] (σ' := [(2, (.int .u64 0)), (3, (bp b7)), (4, (bp b13)), (6, (bp b34)), (16, (.agg #[(.int .u64 0), (.int .u64 0)]))]) (by kernel_rfl) ?_
   refine gv_nil <| gv_goA ?_
   refine gv_stage (Cls w45 [b7]) [0, 1, 2, 3] [(1, some true), (3, some false)] (bA 5 [0, 1, 2, 3]) 1 (by kernel_rfl) (by kernel_rfl) (Cls.refl _ _) ?_
   have hC47 := Cls.refl w45 [b7]
   have hk48 := hb42.grown hg46 nb
   have lt49 := ltl ((ltb hb10) _ rfl) ((lowb hbe17) _ rfl)
   have hk50 := hb16.grown hg24 nb
   have lt51 := ltl ((ltb hk50) _ rfl) ((lowb hbe38) _ rfl)
   have lt52 := ltt lt49 lt51
   refine gv_loadBox (t := 29) (b := b34) (t' := 29) (fr := (0, 0)) #[(.int .i64 r21.2.1), (.int .i64 r21.2.2)] [] (fun e => by cases e) rfl rfl rfl (by kernel_rfl) (by kernel_rfl) (by kernel_rfl) (by kernel_rfl) (inw1 fun w' hC' => (hC'.box hk48 (nm_cons (ng lt52) nm_nil))) rfl ?_
   have hg57 := (grown_trans (grown_trans hg15 hg24) hg36)
   have hk58 := ((hb10.grown hg57 nb).grown hg41 (rowne (ng lt52))).grown hg46 nb
   refine gv_store (t := 27) (b := b7) (off := 0) (v := (.agg #[(.int .u64 0), (.int .u64 0)])) (t' := 27) (cs := #[(.int .u64 0), (.int .u64 0)]) #[(.int .u64 0), (.int .u64 0)] (by decide) rfl rfl (by kernel_rfl) (by kernel_rfl) (by kernel_rfl) (by intro u hu; simp [Value.cells] at hu; rcases hu with rfl | rfl <;> rfl) (show 0 + 2 ≤ 2 by decide) (by rfl) hk58 ?_
   intro w53 hg54 hb55 hz56
   refine ⟨(fun _ => hC47.grown hg54 (rowm (List.Mem.head _))), ?_⟩
   clear hz56 hg57 lt52 hc44 hz43 hb42 hz39 hb37 hr22 hg19 hz18 hb16 hz12 hb10 hz6
   refine gv_nil <| gv_goA ?_
   refine gv_stage (fun _ => True) [0, 1, 2, 3, 4] [(4, some false)] (bA 5 [0, 1, 2, 3, 4]) 0 (by kernel_rfl) (by kernel_rfl) trivial ?_
   have hk63 := (((hk50.grown hg36 nb).grown hg41 (rowne (ng lt51))).grown hg46 nb).grown hg54 (rowne (Nat.ne_of_lt lt49))
   refine gv_store (t := 29) (b := b13) (off := 0) (v := (.agg #[(.int .i64 r21.2.1), (.int .i64 r21.2.2)])) (t' := 29) (cs := #[(.int .i64 0), (.int .i64 0)]) #[(.int .i64 r21.2.1), (.int .i64 r21.2.2)] (by decide) rfl rfl (by kernel_rfl) (by kernel_rfl) (by kernel_rfl) (by intro u hu; simp [Value.cells] at hu; rcases hu with rfl | rfl <;> rfl) (show 0 + 2 ≤ 2 by decide) (by rfl) hk63 ?_
   intro w59 hg60 hb61 hz62
   refine ⟨(fun _ => trivial), ?_⟩
   refine gv_nil <| gv_goA ?_
   refine gv_stageE (by kernel_rfl) ?_
   refine gv_cret ?_
   have e := sj h0; subst e
   have hk64 := hb55.grown hg60 (rowne (ng lt49))
   refine gv_ret (gv_done [(.int .u64 0), (.agg #[(.int .u64 0), (.int .u64 0)]), (.agg #[(.int .i64 r21.2.1), (.int .i64 r21.2.2)])] rfl ⟨(by kernel_rfl), ⟨⟨b7, 0, none⟩, (by kernel_rfl), run_loadVar_row w59 b7 _ 27 _ _ _ hk64 Try.underlying27 rfl (by kernel_rfl)⟩, ⟨⟨b13, 0, none⟩, (by kernel_rfl), run_loadVar_row w59 b13 _ 29 _ _ _ hb61 Try.underlying29 rfl (by kernel_rfl)⟩, trivial⟩ ?_)
   have hg65 := (grown_trans (grown_trans (grown_trans (grown_trans hg3 hg9) hg15) hg24) hg36)
   have hB66 := bg hB0 hg65 nb
   have hg67 := (grown_trans (grown_trans (grown_trans hg3 hg9) hg15) hg24)
   have hB68 := bg hB0 hg67 nb
   have hlo69 : w0.heap.size ≤ b34 := lob hbe38 hB68.size
   have hB70 := bg hB66 hg41 (rowlo hlo69)
   have hB71 := bg hB70 hg46 nb
   have hB72 := bg hB0 hg3 nb
   have hlo73 : w0.heap.size ≤ b7 := lob hbe11 hB72.size
   have hB74 := bg hB71 hg54 (rowlo hlo73)
   have hB75 := bg hB72 hg9 nb
   have hlo76 : w0.heap.size ≤ b13 := lob hbe17 hB75.size
   have hB77 := bg hB74 hg60 (rowlo hlo76)
   exact ⟨grown_of_below hB77, rfl⟩
  ·replace h0 := ite_f hc44 h0
   refine gv_skip <| gv_seq <| gv_region <| gv_pureN 1 [18] [(18, (.pointer none))] (by kernel_rfl) ?_
   refine gv_sub [3, 4, 5, 18] (σ' := [(3, (bp b7)), (4, (bp b13)), (5, (.pointer none)), (18, (.pointer none))]) (by kernel_rfl) ?_
   cases h0
 ·skip
  replace h0 := optc_some hn29 h0
  have hg81 := (grown_trans hg3 hg19)
  have hB82 := bg hB0 hg81 nb
  have hl80 : w0.heap.size ≤ b31 := Nat.le_trans hB82.size hlo33
  refine gv_pureN 3 [8, 11, 12] [(11, (bp b31)), (12, (.agg #[(.int .i64 r21.2.1), (.int .i64 r21.2.2)]))] (by kernel_rfl) ?_
  refine gv_new0 (fun b => .pointer (some ⟨b, 0, none⟩)) #[(.int .i64 0), (.int .i64 0)] 29 (by kernel_rfl) (by kernel_rfl) ?_
  intro b83 w84 hg85 hb86 hbe87 hz88
  refine gv_pureN 1 [5] [(5, (bp b31))] (by kernel_rfl) ?_
  refine gv_store0 29 0 (.agg #[(.int .i64 r21.2.1), (.int .i64 r21.2.2)]) #[(.int .i64 r21.2.1), (.int .i64 r21.2.2)] hb86 (by kernel_rfl) (by kernel_rfl) (by kernel_rfl) ?_
  intro w89 hg90 hb91 hz92
  refine gv_nil <| gv_seq <| gv_seq <| gv_region <| gv_pureN 1 [13] [(13, (bp b83))] (by kernel_rfl) ?_
  refine gv_load (t := 3) (A := ⟨b83, 0, none⟩) (.int .i64 r21.2.1) [] (fun e => by cases e) rfl rfl rfl (by kernel_rfl) (by kernel_rfl) (by kernel_rfl) (inw0 (hb91.cell 0 rfl)) rfl ?_
  refine gv_pureN 1 [15] [(15, (.bool (r21.2.1 != 0)))] (by kernel_rfl) ?_
  refine gv_nil <| gv_cond (b := (r21.2.1 != 0)) (by kernel_rfl) (fun hc93 => ?_) (fun hc93 => ?_)
  ·replace h0 := ite_t hc93 h0
   refine gv_seq <| gv_drawA (by kernel_rfl) ?_
   intro w94 hg95
   refine gv_pre [0, 2] (bA 5 [0, 2]) 3 (by kernel_rfl) (by kernel_rfl) ?_
   refine gv_pureN 2 [2, 16] [(2, (.int .u64 0)), (16, (.agg #[(.int .u64 0), (.int .u64 0)]))] (by kernel_rfl) ?_
   refine gv_sub [2, 3, 4, 6, 16] (σ' := [(2, (.int .u64 0)), (3, (bp b7)), (4, (bp b13)), (6, (bp b83)), (16, (.agg #[(.int .u64 0), (.int .u64 0)]))]) (by kernel_rfl) ?_
   refine gv_nil <| gv_goA ?_
   refine gv_stage (Cls w94 [b7]) [0, 1, 2, 3] [(1, some true), (3, some false)] (bA 5 [0, 1, 2, 3]) 1 (by kernel_rfl) (by kernel_rfl) (Cls.refl _ _) ?_
   have hC96 := Cls.refl w94 [b7]
   have hk97 := hb91.grown hg95 nb
   have lt98 := ltl ((ltb hb10) _ rfl) ((lowb hbe17) _ rfl)
   have lt99 := ltl ((ltb hb16) _ rfl) ((lowe hlo33) _ rfl)
   have lt100 := ltt lt98 lt99
   have lt101 := ltl ((ltb hb32) _ rfl) ((lowb hbe87) _ rfl)
   have lt102 := ltt lt100 lt101
   refine gv_loadBox (t := 29) (b := b83) (t' := 29) (fr := (0, 0)) #[(.int .i64 r21.2.1), (.int .i64 r21.2.2)] [] (fun e => by cases e) rfl rfl rfl (by kernel_rfl) (by kernel_rfl) (by kernel_rfl) (by kernel_rfl) (inw1 fun w' hC' => (hC'.box hk97 (nm_cons (ng lt102) nm_nil))) rfl ?_
   have hg107 := (grown_trans (grown_trans hg15 hg24) hg85)
   have hk108 := ((hb10.grown hg107 nb).grown hg90 (rowne (ng lt102))).grown hg95 nb
   refine gv_store (t := 27) (b := b7) (off := 0) (v := (.agg #[(.int .u64 0), (.int .u64 0)])) (t' := 27) (cs := #[(.int .u64 0), (.int .u64 0)]) #[(.int .u64 0), (.int .u64 0)] (by decide) rfl rfl (by kernel_rfl) (by kernel_rfl) (by kernel_rfl) (by intro u hu; simp [Value.cells] at hu; rcases hu with rfl | rfl <;> rfl) (show 0 + 2 ≤ 2 by decide) (by rfl) hk108 ?_
   intro w103 hg104 hb105 hz106
   refine ⟨(fun _ => hC96.grown hg104 (rowm (List.Mem.head _))), ?_⟩
   refine gv_nil <| gv_goA ?_
   refine gv_stage (fun _ => True) [0, 1, 2, 3, 4] [(4, some false)] (bA 5 [0, 1, 2, 3, 4]) 0 (by kernel_rfl) (by kernel_rfl) trivial ?_
   have hg113 := (grown_trans hg24 hg85)
   have lt114 := ltt lt99 lt101
   have hk115 := (((hb16.grown hg113 nb).grown hg90 (rowne (ng lt114))).grown hg95 nb).grown hg104 (rowne (Nat.ne_of_lt lt98))
   refine gv_store (t := 29) (b := b13) (off := 0) (v := (.agg #[(.int .i64 r21.2.1), (.int .i64 r21.2.2)])) (t' := 29) (cs := #[(.int .i64 0), (.int .i64 0)]) #[(.int .i64 r21.2.1), (.int .i64 r21.2.2)] (by decide) rfl rfl (by kernel_rfl) (by kernel_rfl) (by kernel_rfl) (by intro u hu; simp [Value.cells] at hu; rcases hu with rfl | rfl <;> rfl) (show 0 + 2 ≤ 2 by decide) (by rfl) hk115 ?_
   intro w109 hg110 hb111 hz112
   refine ⟨(fun _ => trivial), ?_⟩
   refine gv_nil <| gv_goA ?_
   refine gv_stageE (by kernel_rfl) ?_
   refine gv_cret ?_
   have e := sj h0; subst e
   have hk116 := hb105.grown hg110 (rowne (ng lt98))
   refine gv_ret (gv_done [(.int .u64 0), (.agg #[(.int .u64 0), (.int .u64 0)]), (.agg #[(.int .i64 r21.2.1), (.int .i64 r21.2.2)])] rfl ⟨(by kernel_rfl), ⟨⟨b7, 0, none⟩, (by kernel_rfl), run_loadVar_row w109 b7 _ 27 _ _ _ hk116 Try.underlying27 rfl (by kernel_rfl)⟩, ⟨⟨b13, 0, none⟩, (by kernel_rfl), run_loadVar_row w109 b13 _ 29 _ _ _ hb111 Try.underlying29 rfl (by kernel_rfl)⟩, trivial⟩ ?_)
   have hB117 := bg hB82 hg113 nb
   have hB118 := bg hB82 hg24 nb
   have hlo119 : w0.heap.size ≤ b83 := lob hbe87 hB118.size
   have hB120 := bg hB117 hg90 (rowlo hlo119)
   have hB121 := bg hB120 hg95 nb
   have hB122 := bg hB0 hg3 nb
   have hlo123 : w0.heap.size ≤ b7 := lob hbe11 hB122.size
   have hB124 := bg hB121 hg104 (rowlo hlo123)
   have hB125 := bg hB122 hg9 nb
   have hlo126 : w0.heap.size ≤ b13 := lob hbe17 hB125.size
   have hB127 := bg hB124 hg110 (rowlo hlo126)
   exact ⟨grown_of_below hB127, rfl⟩
  ·replace h0 := ite_f hc93 h0
   refine gv_skip <| gv_seq <| gv_region <| gv_pureN 1 [18] [(18, (bp b31))] (by kernel_rfl) ?_
   refine gv_sub [3, 4, 5, 18] (σ' := [(3, (bp b7)), (4, (bp b13)), (5, (bp b31)), (18, (bp b31))]) (by kernel_rfl) ?_
   refine bindE h0 ?_; clear h0; intro r128 hr129 h0
   have lt130 := ltl ((ltb hb32) _ rfl) ((lowb hbe87) _ rfl)
   have hk131 := (hb32.grown hg85 nb).grown hg90 (rowne (ng lt130))
   refine gv_call0 (by kernel_rfl) rfl (by kernel_rfl) enters40 (random_source_next_ok fuel b31 (x30.1, x30.2) w89 hk131 r128 hr129) ?_
   rintro v134 w132 ⟨hg133, rfl, hb135⟩
   refine gv_pureN 1 [7] [(7, (.int .u64 r128.1))] (by kernel_rfl) ?_
   refine gv_nil <| gv_seq <| gv_drawA (by kernel_rfl) ?_
   intro w136 hg137
   refine gv_pre [0, 1, 2, 3, 5, 6] (bA 9 [0, 1, 2, 3, 5, 6]) 3 (by kernel_rfl) (by kernel_rfl) ?_
   clear hk131 hr129 hc93 hz92 hz88 hb86 hg81 hr22 hg19 hz18 hz12 hz6
   refine gv_pureN 6 [2, 20, 21, 22, 23, 25] [(2, (.int .u64 r128.1)), (23, (bp b31)), (25, (.agg #[(.int .i64 0), (.int .i64 0)]))] (by kernel_rfl) ?_
   refine gv_nil <| gv_goA ?_
   refine gv_stage (Cls w136 []) [0, 1, 2, 3, 4, 5, 6] [(4, some true)] (bA 9 [0, 1, 2, 3, 4, 5, 6]) 2 (by kernel_rfl) (by kernel_rfl) (Cls.refl _ _) ?_
   have hC138 := Cls.refl w136 []
   have hk139 := hb135.grown hg137 nb
   refine gv_loadBox (t := 27) (b := b31) (t' := 81) (fr := (0, 0)) #[(.int .u64 r128.2.1), (.int .u64 r128.2.2)] [] (fun e => by cases e) rfl rfl rfl (by kernel_rfl) (by kernel_rfl) (by kernel_rfl) (by kernel_rfl) (inw1 fun w' hC' => (hC'.box hk139 nm_nil)) rfl ?_
   refine gv_nil <| gv_goA ?_
   refine gv_stage (fun _ => True) [0, 1, 2, 3, 4, 5, 6, 7] [(7, some false)] (bA 9 [0, 1, 2, 3, 4, 5, 6, 7]) 1 (by kernel_rfl) (by kernel_rfl) trivial ?_
   have hg144 := (grown_trans (grown_trans hg15 hg24) hg85)
   have lt145 := ltl ((ltb hb10) _ rfl) ((lowb hbe17) _ rfl)
   have lt146 := ltl ((ltb hb16) _ rfl) ((lowe hlo33) _ rfl)
   have lt147 := ltt lt145 lt146
   have lt148 := ltt lt147 lt130
   have hk149 := (((hb10.grown hg144 nb).grown hg90 (rowne (ng lt148))).grown hg133 (rowne (ng lt147))).grown hg137 nb
   refine gv_store (t := 27) (b := b7) (off := 0) (v := (.agg #[(.int .u64 r128.2.1), (.int .u64 r128.2.2)])) (t' := 27) (cs := #[(.int .u64 0), (.int .u64 0)]) #[(.int .u64 r128.2.1), (.int .u64 r128.2.2)] (by decide) rfl rfl (by kernel_rfl) (by kernel_rfl) (by kernel_rfl) (by intro u hu; simp [Value.cells] at hu; rcases hu with rfl | rfl <;> rfl) (show 0 + 2 ≤ 2 by decide) (by rfl) hk149 ?_
   intro w140 hg141 hb142 hz143
   refine ⟨(fun _ => trivial), ?_⟩
   refine gv_nil <| gv_goA ?_
   refine gv_stage (fun _ => True) [0, 1, 2, 3, 4, 5, 6, 7, 8] [(8, some false)] (bA 9 [0, 1, 2, 3, 4, 5, 6, 7, 8]) 0 (by kernel_rfl) (by kernel_rfl) trivial ?_
   have hg154 := (grown_trans hg24 hg85)
   have lt155 := ltt lt146 lt130
   have hk156 := ((((hb16.grown hg154 nb).grown hg90 (rowne (ng lt155))).grown hg133 (rowne (ng lt146))).grown hg137 nb).grown hg141 (rowne (Nat.ne_of_lt lt145))
   refine gv_store (t := 29) (b := b13) (off := 0) (v := (.agg #[(.int .i64 0), (.int .i64 0)])) (t' := 29) (cs := #[(.int .i64 0), (.int .i64 0)]) #[(.int .i64 0), (.int .i64 0)] (by decide) rfl rfl (by kernel_rfl) (by kernel_rfl) (by kernel_rfl) (by intro u hu; simp [Value.cells] at hu; rcases hu with rfl | rfl <;> rfl) (show 0 + 2 ≤ 2 by decide) (by rfl) hk156 ?_
   intro w150 hg151 hb152 hz153
   refine ⟨(fun _ => trivial), ?_⟩
   refine gv_nil <| gv_goA ?_
   refine gv_stageE (by kernel_rfl) ?_
   refine gv_cret ?_
   have e := sj h0; subst e
   have hk157 := hb142.grown hg151 (rowne (ng lt145))
   refine gv_ret (gv_done [(.int .u64 r128.1), (.agg #[(.int .u64 r128.2.1), (.int .u64 r128.2.2)]), (.agg #[(.int .i64 0), (.int .i64 0)])] rfl ⟨(by kernel_rfl), ⟨⟨b7, 0, none⟩, (by kernel_rfl), run_loadVar_row w150 b7 _ 27 _ _ _ hk157 Try.underlying27 rfl (by kernel_rfl)⟩, ⟨⟨b13, 0, none⟩, (by kernel_rfl), run_loadVar_row w150 b13 _ 29 _ _ _ hb152 Try.underlying29 rfl (by kernel_rfl)⟩, trivial⟩ ?_)
   have hB158 := bg hB82 hg154 nb
   have hB159 := bg hB82 hg24 nb
   have hlo160 : w0.heap.size ≤ b83 := lob hbe87 hB159.size
   have hB161 := bg hB158 hg90 (rowlo hlo160)
   have hB162 := bg hB161 hg133 (rowlo hl80)
   have hB163 := bg hB162 hg137 nb
   have hB164 := bg hB0 hg3 nb
   have hlo165 : w0.heap.size ≤ b7 := lob hbe11 hB164.size
   have hB166 := bg hB163 hg141 (rowlo hlo165)
   have hB167 := bg hB164 hg9 nb
   have hlo168 : w0.heap.size ≤ b13 := lob hbe17 hB167.size
   have hB169 := bg hB166 hg151 (rowlo hlo168)
   exact ⟨grown_of_below hB169, rfl⟩

theorem integer_Of_ok (fuel : Nat) (n_0 : Int) (w0 : World)  (r0 : (Bool × (List Int))) (h0 : integer_Of fuel n_0 = some r0) :
    Calls Try.prog 47 ([(.int .i64 n_0)] : List Value).toArray w0 (Ret fun v w' => w0.grownBy w' none ∧ ∃ (a0_0r : Option Addr) (c0_0r : Nat), v = tup [(.agg #[(.bool r0.1), (.slice a0_0r (List.length r0.2) c0_0r)])] ∧ Own (iE .u32) 76 w' (fun _ => False) a0_0r c0_0r r0.2 ∧ (∀ g, blk a0_0r = some g → w0.heap.size ≤ g)) := by
 have hB0 : Below w0.heap.size w0 w0 := Below.refl _ _
 unfold integer_Of at h0
 refine calls_run Try.func47 rfl Try.ntmps47 (by kernel_rfl) ?_
 refine gv_sub [0] (σ' := [(0, (.int .i64 n_0))]) (by kernel_rfl) ?_
 refine gv_seq <| gv_region <| gv_new0 (fun b => .pointer (some ⟨b, 0, none⟩)) #[(.bool false), (.slice none (List.length ([] : List Int)) 0)] 24 (by kernel_rfl) (by kernel_rfl) ?_
 intro b1 w2 hg3 hb4 hbe5 hz6
 refine gv_nil <| gv_seq <| gv_region <| gv_pureN 3 [3, 5, 6] [(3, (.int .u64 (IntKind.u64.wrap (n_0))))] (by kernel_rfl) ?_
 refine gv_nil <| gv_seq <| gv_seq <| gv_region <| gv_pureN 2 [7, 8] [(8, (.bool (decide (n_0 < 0))))] (by kernel_rfl) ?_
 refine gv_nil <| bindE h0 ?_; clear h0; intro j7 h1 h0
 refine gv_cut_code (J := fun a w8 => Below w0.heap.size w0 w8 ∧ w2.heap.size ≤ w8.heap.size ∧ Box w8 b1 24 #[(.bool false), (.slice none (List.length ([] : List Int)) 0)] ∧ a.defers = [] ∧ a.tmps.size = 38 ∧ Ok [(0, (.int .i64 n_0)), (2, (bp b1)), (3, (.int .u64 j7))] a.tmps) ?_ ?_
 ·skip
  refine gv_cond (b := (decide (n_0 < 0))) (by kernel_rfl) (fun hc9 => ?_) (fun hc9 => ?_)
  ·replace h1 := ite_t hc9 h1
   refine gv_region <| gv_pureN 3 [3, 9, 10] [(3, (.int .u64 (IntKind.u64.wrap (0 - (IntKind.u64.wrap (n_0))))))] (by kernel_rfl) ?_
   refine bindE h1 ?_; clear h1; intro n10 hn11 h1
   refine gv_name (s := 3) (v := (.int .u64 (IntKind.u64.wrap (0 - (IntKind.u64.wrap (n_0)))))) (v' := (.int .u64 n10)) (by kernel_rfl) (congrArg (Value.int .u64) (sj hn11)) ?_
   refine gv_nil ?_
   have e := sj h1; subst e
   refine gv_goal fun a hd hs hok => ?_
   have hB12 := bg hB0 hg3 nb
   exact ⟨hB12, (Nat.le_refl _), hb4, hd, hs, ok_pick [0, 2, 3] hok (by kernel_rfl)⟩
  ·replace h1 := ite_f hc9 h1
   refine gv_skip ?_
   have e := sj h1; subst e
   refine gv_goal fun a hd hs hok => ?_
   have hB13 := bg hB0 hg3 nb
   exact ⟨hB13, (Nat.le_refl _), hb4, hd, hs, ok_pick [0, 2, 3] hok (by kernel_rfl)⟩
 ·rintro a w8 ⟨hB14, hz15, hb16, hd, hs, hok⟩
  refine gv_in ?_ hd hs hok
  clear hd hs hok
  clear hz15 hz6 hb4 hg3
  refine gv_seq <| gv_region <| gv_pureN 5 [11, 12, 13, 14, 15] [(12, (.int .u32 (IntKind.u32.wrap (j7)))), (15, (.int .u32 (IntKind.u32.wrap (((j7).fdiv (2 ^ 32))))))] (by kernel_rfl) ?_
  refine gv_new0 (fun b => .slice (some ⟨b, 0, none⟩) 2 2) #[(.int .u32 (IntKind.u32.wrap (j7))), (.int .u32 (IntKind.u32.wrap (((j7).fdiv (2 ^ 32)))))] 76 (by kernel_rfl) (by kernel_rfl) ?_
  intro b17 w18 hg19 hb20 hbe21 hz22
  have ho23 : Own (iE .u32) 76 w18 (fun _ => False) (some ⟨b17, 0, none⟩) 2 ([(IntKind.u32.wrap (j7)), (IntKind.u32.wrap (((j7).fdiv (2 ^ 32))))] : List Int) := Box.ownE hb20 ⟨[(.int .u32 (IntKind.u32.wrap (j7)))], [(.int .u32 (IntKind.u32.wrap (((j7).fdiv (2 ^ 32)))))], rfl, rfl, ⟨[(.int .u32 (IntKind.u32.wrap (((j7).fdiv (2 ^ 32)))))], [], rfl, rfl, rfl⟩⟩ (show 2 ≤ maxLen by decide) (fun h => h)
  have hl24 : ∀ g, blk (some ⟨b17, 0, none⟩) = some g → w0.heap.size ≤ g := loo hbe21 hB14.size
  refine gv_pureN 1 [4] [(4, (.slice (some ⟨b17, 0, none⟩) (List.length ([(IntKind.u32.wrap (j7)), (IntKind.u32.wrap (((j7).fdiv (2 ^ 32))))] : List Int)) 2))] (by kernel_rfl) ?_
  refine gv_nil <| gv_seq <| bindE h0 ?_; clear h0; intro j28 h1 h0
  refine gv_cut_code (J := fun a w29 => ∃ (a4_0j : Option Addr) (c4_0j : Nat), Below w0.heap.size w0 w29 ∧ w18.heap.size ≤ w29.heap.size ∧ Own (iE .u32) 76 w29 (fun _ => False) a4_0j c4_0j j28 ∧ (∀ g, blk a4_0j = some g → w0.heap.size ≤ g) ∧ (∀ g, blk a4_0j = some g → ¬ (· = b1) g) ∧ ¬ (fun k => blk a4_0j = some k) b1 ∧ Box w29 b1 24 #[(.bool false), (.slice none (List.length ([] : List Int)) 0)] ∧ a.defers = [] ∧ a.tmps.size = 38 ∧ Ok [(0, (.int .i64 n_0)), (2, (bp b1)), (4, (.slice a4_0j (List.length j28) c4_0j))] a.tmps) ?_ ?_
  ·skip
   refine gv_block <| gv_loop (A := fun (s30 : (List Int)) a w31 => ∃ (a4_0j : Option Addr) (c4_0j : Nat), Below w0.heap.size w0 w31 ∧ w18.heap.size ≤ w31.heap.size ∧ Own (iE .u32) 76 w31 (fun _ => False) a4_0j c4_0j s30 ∧ (∀ g, blk a4_0j = some g → w0.heap.size ≤ g) ∧ (∀ g, blk a4_0j = some g → ¬ (· = b1) g) ∧ ¬ (fun k => blk a4_0j = some k) b1 ∧ Box w31 b1 24 #[(.bool false), (.slice none (List.length ([] : List Int)) 0)] ∧ a.defers = [] ∧ a.tmps.size = 38 ∧ Ok [(0, (.int .i64 n_0)), (2, (bp b1)), (4, (.slice a4_0j (List.length s30) c4_0j))] a.tmps) h1 ?_ ?_
   ·intro a hd hs hok
    have hB32 := bg hB14 hg19 nb
    have ap33 : ∀ g, blk (some ⟨b17, 0, none⟩) = some g → ¬ (· = b1) g := fun g e hx => nl ((lowo hbe21) g e) ((ltb hb16) _ hx)
    have ap34 : ¬ (fun k => blk (some ⟨b17, 0, none⟩) = some k) b1 := fun hx => nl ((lowo hbe21) _ hx) ((ltb hb16) _ rfl)
    have hk35 := hb16.grown hg19 nb
    exact ⟨(some ⟨b17, 0, none⟩), 2, hB32, (Nat.le_refl _), ho23, hl24, ap33, ap34, hk35, hd, hs, ok_pick [0, 2, 4] hok (by kernel_rfl)⟩
   ·rintro s30 r2 h2 hR2 a w31 ⟨a38, c39, hB36, hz37, ho40, hl41, ap42, ap43, hb44, hd, hs, hok⟩
    refine gv_in ?_ hd hs hok
    clear hd hs hok
    clear hl24 ho23 hz22 hbe21 hb20 hg19 hb16 hB14
    refine gv_seq <| gv_seq <| gv_region <| bindE h2 ?_; clear h2; intro j45 h3 h2
    refine gv_cut_ops (J := fun a w46 => Below w0.heap.size w0 w46 ∧ w31.heap.size ≤ w46.heap.size ∧ Box w46 b1 24 #[(.bool false), (.slice none (List.length ([] : List Int)) 0)] ∧ Own (iE .u32) 76 w46 (fun _ => False) a38 c39 s30 ∧ a.defers = [] ∧ a.tmps.size = 38 ∧ Ok [(0, (.int .i64 n_0)), (2, (bp b1)), (4, (.slice a38 (List.length s30) c39)), (28, (.bool j45))] a.tmps) ?_ ?_
    ·skip
     refine gv_pureN 4 [17, 18, 19, 20] [(20, (.bool (decide (((List.length s30 : Nat) : Int) > 0))))] (by kernel_rfl) ?_
     refine gv_split (s := 20) (g := (decide (((List.length s30 : Nat) : Int) > 0))) (by kernel_rfl) (fun hc47 => ?_) (fun hc47 => ?_)
     ·skip
      replace h3 := ite_t hc47 h3
      refine gv_pureN 4 [21, 22, 23, 24] [(21, (.slice a38 (List.length s30) c39)), (24, (.int .i64 (IntKind.i64.wrap (((List.length s30 : Nat) : Int) - 1))))] (by kernel_rfl) ?_
      refine bindE h3 ?_; clear h3; intro x48 hx49 h3
      refine gv_idxaddr (t := 22) (e := 76) (a := a38) (len := List.length s30) (cap := c39) (kk := .i64) (i := (IntKind.i64.wrap (((List.length s30 : Nat) : Int) - 1))) (sz := 1) [] (fun e => by cases e) rfl rfl rfl (by kernel_rfl) (by kernel_rfl) Try.underlying22 (by kernel_rfl) ((ho40.rd (Y := fun k => blk a38 = some k) (fun _ h => h.elim) (fun g e => e)).has hx49) (idx_spec hx49).1 (idx_spec hx49).2.1 rfl ?_
      refine gv_load (t := 76) (A := (elemAddr a38 (((IntKind.i64.wrap (((List.length s30 : Nat) : Int) - 1))).toNat * 1))) (.int .u32 x48) [] (fun e => by cases e) rfl rfl rfl (by kernel_rfl) (by kernel_rfl) (by kernel_rfl) (inw0 ((ho40.rd (Y := fun k => blk a38 = some k) (fun _ h => h.elim) (fun g e => e)).cell hx49)) rfl ?_
      refine gv_pureN 2 [27, 28] [(28, (.bool (x48 == 0)))] (by kernel_rfl) ?_
      refine gv_nil ?_
      have e := sj h3; subst e
      refine gv_goal fun a hd hs hok => ?_
      exact ⟨hB36, (Nat.le_refl _), hb44, ho40, hd, hs, ok_pick [0, 2, 4, 28] hok (by kernel_rfl)⟩
     ·skip
      replace h3 := ite_f hc47 h3
      refine gv_pureN 8 [21, 22, 23, 24, 25, 26, 27, 28] [(28, (.bool false))] (by kernel_rfl) ?_
      refine gv_nil ?_
      have e := sj h3; subst e
      refine gv_goal fun a hd hs hok => ?_
      exact ⟨hB36, (Nat.le_refl _), hb44, ho40, hd, hs, ok_pick [0, 2, 4, 28] hok (by kernel_rfl)⟩
    ·rintro a w46 ⟨hB50, hz51, hb52, hk53, hd, hs, hok⟩
     refine gv_in ?_ hd hs hok
     clear hd hs hok
     have hz54 := (nt hz37 hz51)
     clear hz51 hb44 ho40 hz37 hB36
     refine gv_cond (b := j45) (by kernel_rfl) (fun hc55 => ?_) (fun hc55 => ?_)
     ·replace h2 := ite_t hc55 h2
      refine gv_skip <| gv_block <| gv_region <| gv_pureN 4 [29, 30, 31, 32] [(29, (.slice a38 (List.length s30) c39)), (32, (.int .i64 (IntKind.i64.wrap (((List.length s30 : Nat) : Int) - 1))))] (by kernel_rfl) ?_
      refine bindE h2 ?_; clear h2; intro x56 hx57 h2
      refine gv_pop (iE .u32) (t := 22) (e := 76) (xs := s30) (a := a38) (cap := c39) (lo := none) (hi := (some (.int .i64 (IntKind.i64.wrap (((List.length s30 : Nat) : Int) - 1))))) (IntKind.i64.wrap (((List.length s30 : Nat) : Int) - 1)) x56 (fun e => by cases e) rfl rfl rfl (by kernel_rfl) (by kernel_rfl) Try.underlying22 (by kernel_rfl) (.inl ⟨rfl, rfl⟩) (.inr ⟨_, rfl⟩) hx57 (hk53.rd (Y := fun k => blk a38 = some k) (fun _ h => h.elim) (fun g e => e)).1 ?_
      have ho58 := hk53.pop hx57
      refine gv_pureN 1 [4] [(4, (.slice a38 (List.length x56) c39))] (by kernel_rfl) ?_
      refine gv_nil <| gv_blk ?_
      have e := sj h2; subst e
      refine gv_goal fun a hd hs hok => ?_
      have hz59 := hz54
      exact ⟨x56, rfl, a38, c39, hB50, hz59, ho58, hl41, ap42, ap43, hb52, hd, hs, ok_pick [0, 2, 4] hok (by kernel_rfl)⟩
     ·replace h2 := ite_f hc55 h2
      refine gv_cexit <| gv_exit rfl ?_
      have e := sj h2; subst e
      replace h1 := congrArg some (hR2 _ rfl)
      have e := sj h1; subst e
      refine gv_goal fun a hd hs hok => ?_
      have hz60 := hz54
      exact ⟨a38, c39, hB50, hz60, hk53, hl41, ap42, ap43, hb52, hd, hs, ok_pick [0, 2, 4] hok (by kernel_rfl)⟩
  ·rintro a w29 ⟨a63, c64, hB61, hz62, ho65, hl66, ap67, ap68, hb69, hd, hs, hok⟩
   refine gv_in ?_ hd hs hok
   clear hd hs hok
   clear hz62 hl24 ho23 hz22 hbe21 hb20 hg19 hb16 hB14
   refine gv_seq <| gv_region <| gv_pureN 4 [34, 35, 36, 37] [(37, (.agg #[(.bool (decide (n_0 < 0))), (.slice a63 (List.length j28) c64)]))] (by kernel_rfl) ?_
   refine gv_store0 24 0 (.agg #[(.bool (decide (n_0 < 0))), (.slice a63 (List.length j28) c64)]) #[(.bool (decide (n_0 < 0))), (.slice a63 (List.length j28) c64)] hb69 (by kernel_rfl) (by kernel_rfl) (by kernel_rfl) ?_
   intro w70 hg71 hb72 hz73
   refine gv_nil <| gv_cret ?_
   have e := sj h0; subst e
   refine gv_ret (gv_done [(.agg #[(.bool (decide (n_0 < 0))), (.slice a63 (List.length j28) c64)])] rfl ⟨⟨⟨b1, 0, none⟩, (by kernel_rfl), run_loadVar_row w70 b1 _ 24 _ _ _ hb72 Try.underlying24 rfl (by kernel_rfl)⟩, trivial⟩ ?_)
   have hlo74 : w0.heap.size ≤ b1 := lob hbe5 hB0.size
   have hB75 := bg hB61 hg71 (rowlo hlo74)
   have hk76 := ho65.grown hg71 (fun _ h => h.elim) (rdnn (rowne ap68))
   exact ⟨grown_of_below hB75, a63, c64, rfl, hk76, hl66⟩

theorem law4_whole_ok (fuel : Nat) (n_0 : Int) (w0 : World)  (r0 : (Int × (Bool × (List Int)) × (Bool × (List Int)) × ByteArray × Int)) (h0 : law4_whole fuel n_0 = some r0) :
    Calls Try.prog 41 ([(.int .i64 n_0)] : List Value).toArray w0 (Ret fun v w' => w0.grownBy w' none ∧ ∃ (a0_0r : Option Addr) (c0_0r : Nat), ∃ (a0_1r : Option Addr) (c0_1r : Nat), v = tup [(.agg #[(.int .i64 r0.1), (.bool r0.2.1.1), (.slice a0_0r (List.length r0.2.1.2) c0_0r), (.bool r0.2.2.1.1), (.slice a0_1r (List.length r0.2.2.1.2) c0_1r), (.string r0.2.2.2.1), (.int .i64 r0.2.2.2.2)])] ∧ Own (iE .u32) 76 w' (fun _ => False) a0_0r c0_0r r0.2.1.2 ∧ (∀ g, blk a0_0r = some g → w0.heap.size ≤ g) ∧ Own (iE .u32) 76 w' (fun _ => False) a0_1r c0_1r r0.2.2.1.2 ∧ (∀ g, blk a0_1r = some g → w0.heap.size ≤ g) ∧ (∀ g, blk a0_0r = some g → blk a0_1r ≠ some g)) := by
 have hB0 : Below w0.heap.size w0 w0 := Below.refl _ _
 unfold law4_whole at h0
 refine calls_run Try.func41 rfl Try.ntmps41 (by kernel_rfl) ?_
 refine gv_sub [0] (σ' := [(0, (.int .i64 n_0))]) (by kernel_rfl) ?_
 refine gv_seq <| gv_region <| gv_new0 (fun b => .pointer (some ⟨b, 0, none⟩)) #[(.int .i64 0), (.bool false), (.slice none (List.length ([] : List Int)) 0), (.bool false), (.slice none (List.length ([] : List Int)) 0), (.string (strOf [])), (.int .i64 0)] 84 (by kernel_rfl) (by kernel_rfl) ?_
 intro b1 w2 hg3 hb4 hbe5 hz6
 refine gv_nil <| gv_seq <| gv_region <| gv_pureN 1 [3] [(3, (.int .i64 n_0))] (by kernel_rfl) ?_
 refine bindE h0 ?_; clear h0; intro r7 hr8 h0
 refine gv_call0 (by kernel_rfl) rfl (by kernel_rfl) enters47 (integer_Of_ok fuel n_0 w2  r7 hr8) ?_
 rintro v11 w9 ⟨hg10, a12, c13, rfl, ho14, hl15⟩
 have hB17 := bg hB0 hg3 nb
 have hl16 : ∀ g, blk a12 = some g → w0.heap.size ≤ g := fun g e => Nat.le_trans hB17.size (hl15 g e)
 refine gv_pureN 1 [5] [(5, (.agg #[(.int .i64 2), (.bool r7.1), (.slice a12 (List.length r7.2) c13), (.bool false), (.slice none (List.length ([] : List Int)) 0), (.string (strOf [])), (.int .i64 0)]))] (by kernel_rfl) ?_
 have hk22 := hb4.grown hg10 nb
 refine gv_store0 84 0 (.agg #[(.int .i64 2), (.bool r7.1), (.slice a12 (List.length r7.2) c13), (.bool false), (.slice none (List.length ([] : List Int)) 0), (.string (strOf [])), (.int .i64 0)]) #[(.int .i64 2), (.bool r7.1), (.slice a12 (List.length r7.2) c13), (.bool false), (.slice none (List.length ([] : List Int)) 0), (.string (strOf [])), (.int .i64 0)] hk22 (by kernel_rfl) (by kernel_rfl) (by kernel_rfl) ?_
 intro w18 hg19 hb20 hz21
 refine gv_nil <| gv_cret ?_
 have e := sj h0; subst e
 refine gv_ret (gv_done [(.agg #[(.int .i64 2), (.bool r7.1), (.slice a12 (List.length r7.2) c13), (.bool false), (.slice none (List.length ([] : List Int)) 0), (.string (strOf [])), (.int .i64 0)])] rfl ⟨⟨⟨b1, 0, none⟩, (by kernel_rfl), run_loadVar_row w18 b1 _ 84 _ _ _ hb20 Try.underlying84 rfl (by kernel_rfl)⟩, trivial⟩ ?_)
 have hB23 := bg hB17 hg10 nb
 have hlo24 : w0.heap.size ≤ b1 := lob hbe5 hB0.size
 have hB25 := bg hB23 hg19 (rowlo hlo24)
 have ap26 : ¬ (fun k => blk a12 = some k) b1 := fun hx => nl ((show ∀ k, blk a12 = some k → w2.heap.size ≤ k from hl15) _ hx) ((ltb hb4) _ rfl)
 have hk27 := ho14.grown hg19 (fun _ h => h.elim) (rdnn (rowne ap26))
 exact ⟨grown_of_below hB25, a12, c13, none, 0, rfl, hk27, hl16, (Own.nil (iE .u32) 76 w18 (fun _ => False)), (fun _ h => by cases h), (fun _ _ h => by cases h)⟩

theorem integer_at_ok (fuel : Nat) (code_0 : Int) (index_1 : Int) (w0 : World)  (r0 : (Int × Int)) (h0 : integer_at fuel code_0 index_1 = some r0) :
    Calls Try.prog 69 ([(.int .i64 code_0), (.int .i64 index_1)] : List Value).toArray w0 (Ret fun v w' => w0.grownBy w' none ∧ v = tup [(.agg #[(.int .i64 r0.1), (.int .i64 r0.2)])]) := by
 have hB0 : Below w0.heap.size w0 w0 := Below.refl _ _
 unfold integer_at at h0
 refine calls_run Try.func69 rfl Try.ntmps69 (by kernel_rfl) ?_
 refine gv_sub [0, 1] (σ' := [(0, (.int .i64 code_0)), (1, (.int .i64 index_1))]) (by kernel_rfl) ?_
 refine gv_seq <| gv_region <| gv_new0 (fun b => .pointer (some ⟨b, 0, none⟩)) #[(.int .i64 0), (.int .i64 0)] 29 (by kernel_rfl) (by kernel_rfl) ?_
 intro b1 w2 hg3 hb4 hbe5 hz6
 refine gv_nil <| gv_seq <| gv_region <| gv_pureN 3 [5, 6, 7] [(7, (.agg #[(.int .i64 code_0), (.int .i64 index_1)]))] (by kernel_rfl) ?_
 refine gv_store0 29 0 (.agg #[(.int .i64 code_0), (.int .i64 index_1)]) #[(.int .i64 code_0), (.int .i64 index_1)] hb4 (by kernel_rfl) (by kernel_rfl) (by kernel_rfl) ?_
 intro w7 hg8 hb9 hz10
 refine gv_nil <| gv_cret ?_
 have e := sj h0; subst e
 refine gv_ret (gv_done [(.agg #[(.int .i64 code_0), (.int .i64 index_1)])] rfl ⟨⟨⟨b1, 0, none⟩, (by kernel_rfl), run_loadVar_row w7 b1 _ 29 _ _ _ hb9 Try.underlying29 rfl (by kernel_rfl)⟩, trivial⟩ ?_)
 have hB11 := bg hB0 hg3 nb
 have hlo12 : w0.heap.size ≤ b1 := lob hbe5 hB0.size
 have hB13 := bg hB11 hg8 (rowlo hlo12)
 exact ⟨grown_of_below hB13, rfl⟩

theorem integer_check_ok (fuel : Nat) (pa0_0 : Option Addr) (pc0_0 : Nat) (l_0 : (List (Bool × (List Int)))) (w0 : World) (X0 : Nat → Prop) (hX0 : ∀ k, X0 k → k < w0.heap.size) (hpa0_0 : Rd (prE tE (slE (iE .u32))) w0 X0 pa0_0 pc0_0 l_0) (r0 : (Int × Int)) (h0 : integer_check fuel l_0 = some r0) :
    Calls Try.prog 62 ([(.slice pa0_0 (List.length l_0) pc0_0)] : List Value).toArray w0 (Ret fun v w' => w0.grownBy w' none ∧ v = tup [(.agg #[(.int .i64 r0.1), (.int .i64 r0.2)])]) := by
 have hB0 : Below w0.heap.size w0 w0 := Below.refl _ _
 unfold integer_check at h0
 refine calls_run Try.func62 rfl Try.ntmps62 (by kernel_rfl) ?_
 refine gv_sub [0] (σ' := [(0, (.slice pa0_0 (List.length l_0) pc0_0))]) (by kernel_rfl) ?_
 refine gv_seq <| gv_region <| gv_new0 (fun b => .pointer (some ⟨b, 0, none⟩)) #[(.int .i64 0), (.int .i64 0)] 29 (by kernel_rfl) (by kernel_rfl) ?_
 intro b1 w2 hg3 hb4 hbe5 hz6
 refine gv_nil <| gv_seq <| gv_seq <| gv_region <| gv_pureN 3 [5, 6, 7] [(5, (.slice pa0_0 (List.length l_0) pc0_0)), (6, (.int .i64 ((List.length l_0 : Nat) : Int))), (7, (.int .i64 0))] (by kernel_rfl) ?_
 refine gv_nil <| bindE h0 ?_; clear h0; intro j7 h1 h0
 refine gv_cut_code (J := fun a w9 => ∃ s8 : (Int × Int), j7 = .inl s8 ∧ Below w0.heap.size w0 w9 ∧ w2.heap.size ≤ w9.heap.size ∧ Box w9 b1 29 #[(.int .i64 s8.1), (.int .i64 s8.2)] ∧ a.defers = [] ∧ a.tmps.size = 20 ∧ Ok [(2, (bp b1))] a.tmps) ?_ ?_
 ·skip
  refine gv_block <| gv_loop (A := fun (s10 : (Int × (Int × Int))) a w11 => Below w0.heap.size w0 w11 ∧ w2.heap.size ≤ w11.heap.size ∧ Box w11 b1 29 #[(.int .i64 s10.2.1), (.int .i64 s10.2.2)] ∧ a.defers = [] ∧ a.tmps.size = 20 ∧ Ok [(2, (bp b1)), (5, (.slice pa0_0 (List.length l_0) pc0_0)), (6, (.int .i64 ((List.length l_0 : Nat) : Int))), (7, (.int .i64 s10.1))] a.tmps) h1 ?_ ?_
  ·intro a hd hs hok
   have hB12 := bg hB0 hg3 nb
   exact ⟨hB12, (Nat.le_refl _), hb4, hd, hs, ok_pick [2, 5, 6, 7] hok (by kernel_rfl)⟩
  ·rintro s10 r2 h2 hR2 a w11 ⟨hB13, hz14, hb15, hd, hs, hok⟩
   refine gv_in ?_ hd hs hok
   clear hd hs hok
   refine gv_seq <| gv_region <| gv_pureN 1 [8] [(8, (.bool (decide (s10.1 < ((List.length l_0 : Nat) : Int)))))] (by kernel_rfl) ?_
   refine gv_nil <| gv_seq <| gv_cond (b := (decide (s10.1 < ((List.length l_0 : Nat) : Int)))) (by kernel_rfl) (fun hc16 => ?_) (fun hc16 => ?_)
   ·replace h2 := ite_t hc16 h2
    refine gv_skip <| gv_seq <| gv_block <| gv_seq <| gv_region <| gv_pureN 1 [9] [(9, (.int .i64 s10.1))] (by kernel_rfl) ?_
    refine bindE h2 ?_; clear h2; intro x17 hx18 h2
    refine gv_idxaddr (t := 102) (e := 24) (a := pa0_0) (len := List.length l_0) (cap := pc0_0) (kk := .i64) (i := s10.1) (sz := 2) [] (fun e => by cases e) rfl rfl rfl (by kernel_rfl) (by kernel_rfl) Try.underlying102 (by kernel_rfl) ((hpa0_0.below hB13 hX0).has hx18) (idx_spec hx18).1 (idx_spec hx18).2.1 rfl ?_
    obtain ⟨_, ⟨_, _, rfl, rfl, ⟨a20, c21, rfl, hr22⟩⟩, hc19⟩ := hpa0_0.cellsK hx18
    refine gv_loadAgg (t := 24) (A := (elemAddr pa0_0 ((s10.1).toNat * 2))) #[(.bool x17.1), (.slice a20 (List.length x17.2) c21)] [] (fun e => by cases e) rfl rfl rfl (by kernel_rfl) (by kernel_rfl) (by kernel_rfl) (by kernel_rfl) (inw0 (hc19 w11 (fun k hk => hB13.block k (hX0 k hk)))) rfl ?_
    refine gv_new0 (fun b => .pointer (some ⟨b, 0, none⟩)) #[(.bool false), (.slice none (List.length ([] : List Int)) 0)] 24 (by kernel_rfl) (by kernel_rfl) ?_
    intro b23 w24 hg25 hb26 hbe27 hz28
    refine gv_pureN 1 [3] [(3, (.int .i64 s10.1))] (by kernel_rfl) ?_
    refine gv_store0 24 0 (.agg #[(.bool x17.1), (.slice a20 (List.length x17.2) c21)]) #[(.bool x17.1), (.slice a20 (List.length x17.2) c21)] hb26 (by kernel_rfl) (by kernel_rfl) (by kernel_rfl) ?_
    intro w29 hg30 hb31 hz32
    refine gv_nil <| gv_seq <| gv_region <| gv_loadBox (t := 24) (b := b23) (t' := 24) (fr := (0, 0)) #[(.bool x17.1), (.slice a20 (List.length x17.2) c21)] [] (fun e => by cases e) rfl rfl rfl (by kernel_rfl) (by kernel_rfl) (by kernel_rfl) (by kernel_rfl) (inw0 hb31) rfl ?_
    refine bindE h2 ?_; clear h2; intro r33 hr34 h2
    have hB35 := bg hB13 hg25 nb
    have hlo36 : w0.heap.size ≤ b23 := lob hbe27 hB13.size
    have hB37 := bg hB35 hg30 (rowlo hlo36)
    refine gv_call0 (by kernel_rfl) rfl (by kernel_rfl) enters36 (integer_Valid_ok fuel a20 c21 (x17.1, x17.2) w29 (fun k => X0 k) (fun k hk => (fun k (hk : X0 k) => ltl (hX0 k hk) hB37.size) k hk) ((hr22.below hB37 hX0).wide (fun k hk => hk)) r33 hr34) ?_
    rintro v40 w38 ⟨hg39, rfl⟩
    refine gv_pureN 1 [14] [(14, (.bool (!r33)))] (by kernel_rfl) ?_
    refine gv_nil <| gv_cond (b := (!r33)) (by kernel_rfl) (fun hc41 => ?_) (fun hc41 => ?_)
    ·replace h2 := ite_t hc41 h2
     refine gv_seq <| gv_region <| gv_pureN 2 [15, 16] [(16, (.int .i64 (IntKind.i64.wrap ((-1) - s10.1))))] (by kernel_rfl) ?_
     refine bindE h2 ?_; clear h2; intro r42 hr43 h2
     refine gv_call0 (by kernel_rfl) rfl (by kernel_rfl) enters69 (integer_at_ok fuel 6 (IntKind.i64.wrap ((-1) - s10.1)) w38  r42 hr43) ?_
     rintro v46 w44 ⟨hg45, rfl⟩
     have lt51 := ltl ((ltb hb15) _ rfl) ((lowb hbe27) _ rfl)
     have hg52 := (grown_trans hg39 hg45)
     have hk53 := ((hb15.grown hg25 nb).grown hg30 (rowne (ng lt51))).grown hg52 nb
     refine gv_store0 29 0 (.agg #[(.int .i64 r42.1), (.int .i64 r42.2)]) #[(.int .i64 r42.1), (.int .i64 r42.2)] hk53 (by kernel_rfl) (by kernel_rfl) (by kernel_rfl) ?_
     intro w47 hg48 hb49 hz50
     refine gv_nil <| gv_cret ?_
     have e := sj h2; subst e
     replace h1 := congrArg some (hR2 _ rfl)
     have e := sj h1; subst e
     replace h0 := cont_inr h0
     have e := sj h0; subst e
     refine gv_ret (gv_done [(.agg #[(.int .i64 r42.1), (.int .i64 r42.2)])] rfl ⟨⟨⟨b1, 0, none⟩, (by kernel_rfl), run_loadVar_row w47 b1 _ 29 _ _ _ hb49 Try.underlying29 rfl (by kernel_rfl)⟩, trivial⟩ ?_)
     have hB54 := bg hB37 hg52 nb
     have hlo55 : w0.heap.size ≤ b1 := lob hbe5 hB0.size
     have hB56 := bg hB54 hg48 (rowlo hlo55)
     exact ⟨grown_of_below hB56, rfl⟩
    ·replace h2 := ite_f hc41 h2
     refine gv_skip <| gv_blk <| gv_region <| gv_pureN 2 [7, 18] [(7, (.int .i64 (IntKind.i64.wrap (s10.1 + 1))))] (by kernel_rfl) ?_
     refine gv_nil ?_
     have e := sj h2; subst e
     refine gv_goal fun a hd hs hok => ?_
     have hB57 := bg hB37 hg39 nb
     have hz58 := (nt (nt (nt hz14 hg25.size) hg30.size) hg39.size)
     have lt59 := ltl ((ltb hb15) _ rfl) ((lowb hbe27) _ rfl)
     have hk60 := ((hb15.grown hg25 nb).grown hg30 (rowne (ng lt59))).grown hg39 nb
     exact ⟨((IntKind.i64.wrap (s10.1 + 1)), (s10.2.1, s10.2.2)), rfl, hB57, hz58, hk60, hd, hs, ok_pick [2, 5, 6, 7] hok (by kernel_rfl)⟩
   ·replace h2 := ite_f hc16 h2
    refine gv_cexit <| gv_exit rfl ?_
    have e := sj h2; subst e
    replace h1 := congrArg some (hR2 _ rfl)
    have e := sj h1; subst e
    refine gv_goal fun a hd hs hok => ?_
    have hz61 := hz14
    exact ⟨(s10.2.1, s10.2.2), rfl, hB13, hz61, hb15, hd, hs, ok_pick [2] hok (by kernel_rfl)⟩
 ·rintro a w9 ⟨s8, e, hB62, hz63, hb64, hd, hs, hok⟩
  subst e
  refine gv_in ?_ hd hs hok
  clear hd hs hok
  replace h0 := cont_inl h0
  clear hz63 hz6 hb4 hg3
  refine gv_seq <| gv_region <| gv_pureN 1 [19] [(19, (.agg #[(.int .i64 0), (.int .i64 0)]))] (by kernel_rfl) ?_
  refine gv_store0 29 0 (.agg #[(.int .i64 0), (.int .i64 0)]) #[(.int .i64 0), (.int .i64 0)] hb64 (by kernel_rfl) (by kernel_rfl) (by kernel_rfl) ?_
  intro w65 hg66 hb67 hz68
  refine gv_nil <| gv_cret ?_
  have e := sj h0; subst e
  refine gv_ret (gv_done [(.agg #[(.int .i64 0), (.int .i64 0)])] rfl ⟨⟨⟨b1, 0, none⟩, (by kernel_rfl), run_loadVar_row w65 b1 _ 29 _ _ _ hb67 Try.underlying29 rfl (by kernel_rfl)⟩, trivial⟩ ?_)
  have hlo69 : w0.heap.size ≤ b1 := lob hbe5 hB0.size
  have hB70 := bg hB62 hg66 (rowlo hlo69)
  exact ⟨grown_of_below hB70, rfl⟩

theorem natural_Valid_ok (fuel : Nat) (pa0_0 : Option Addr) (pc0_0 : Nat) (a_0 : (List Int)) (w0 : World) (X0 : Nat → Prop) (hX0 : ∀ k, X0 k → k < w0.heap.size) (hpa0_0 : Rd (iE .u32) w0 X0 pa0_0 pc0_0 a_0) (r0 : Bool) (h0 : natural_Valid fuel a_0 = some r0) :
    Calls Try.prog 75 ([(.slice pa0_0 (List.length a_0) pc0_0)] : List Value).toArray w0 (Ret fun v w' => w0.grownBy w' none ∧ v = tup [(.bool r0)]) := by
 have hB0 : Below w0.heap.size w0 w0 := Below.refl _ _
 unfold natural_Valid at h0
 refine calls_run Try.func75 rfl Try.ntmps75 (by kernel_rfl) ?_
 refine gv_sub [0] (σ' := [(0, (.slice pa0_0 (List.length a_0) pc0_0))]) (by kernel_rfl) ?_
 refine gv_seq <| gv_region <| gv_pureN 1 [2] [] (by kernel_rfl) ?_
 refine gv_nil <| gv_seq <| gv_region <| bindE h0 ?_; clear h0; intro j1 h1 h0
 refine gv_cut_ops (J := fun a w2 => Below w0.heap.size w0 w2 ∧ w0.heap.size ≤ w2.heap.size ∧ a.defers = [] ∧ a.tmps.size = 20 ∧ Ok [(2, (.bool j1))] a.tmps) ?_ ?_
 ·skip
  refine gv_pureN 4 [3, 4, 5, 6] [(6, (.bool (decide (((List.length a_0 : Nat) : Int) ≤ 600))))] (by kernel_rfl) ?_
  refine gv_split (s := 6) (g := (decide (((List.length a_0 : Nat) : Int) ≤ 600))) (by kernel_rfl) (fun hc3 => ?_) (fun hc3 => ?_)
  ·skip
   replace h1 := ite_t hc3 h1
   refine gv_pureN 4 [7, 8, 9, 10] [(10, (.bool (((List.length a_0 : Nat) : Int) == 0)))] (by kernel_rfl) ?_
   refine gv_split (s := 10) (g := (((List.length a_0 : Nat) : Int) == 0)) (by kernel_rfl) (fun hc4 => ?_) (fun hc4 => ?_)
   ·skip
    replace h1 := ite_t hc4 h1
    refine gv_pureN 10 [2, 11, 12, 13, 14, 15, 16, 17, 18, 19] [(2, (.bool true))] (by kernel_rfl) ?_
    refine gv_nil ?_
    have e := sj h1; subst e
    refine gv_goal fun a hd hs hok => ?_
    exact ⟨hB0, (Nat.le_refl _), hd, hs, ok_pick [2] hok (by kernel_rfl)⟩
   ·skip
    replace h1 := ite_f hc4 h1
    refine gv_pureN 4 [11, 12, 13, 14] [(11, (.slice pa0_0 (List.length a_0) pc0_0)), (14, (.int .i64 (IntKind.i64.wrap (((List.length a_0 : Nat) : Int) - 1))))] (by kernel_rfl) ?_
    refine bindE h1 ?_; clear h1; intro x5 hx6 h1
    refine gv_idxaddr (t := 22) (e := 76) (a := pa0_0) (len := List.length a_0) (cap := pc0_0) (kk := .i64) (i := (IntKind.i64.wrap (((List.length a_0 : Nat) : Int) - 1))) (sz := 1) [] (fun e => by cases e) rfl rfl rfl (by kernel_rfl) (by kernel_rfl) Try.underlying22 (by kernel_rfl) ((hpa0_0.below hB0 hX0).has hx6) (idx_spec hx6).1 (idx_spec hx6).2.1 rfl ?_
    refine gv_load (t := 76) (A := (elemAddr pa0_0 (((IntKind.i64.wrap (((List.length a_0 : Nat) : Int) - 1))).toNat * 1))) (.int .u32 x5) [] (fun e => by cases e) rfl rfl rfl (by kernel_rfl) (by kernel_rfl) (by kernel_rfl) (inw0 ((hpa0_0.below hB0 hX0).cell hx6)) rfl ?_
    refine gv_pureN 4 [2, 17, 18, 19] [(2, (.bool (x5 != 0)))] (by kernel_rfl) ?_
    refine gv_nil ?_
    have e := sj h1; subst e
    refine gv_goal fun a hd hs hok => ?_
    exact ⟨hB0, (Nat.le_refl _), hd, hs, ok_pick [2] hok (by kernel_rfl)⟩
  ·skip
   replace h1 := ite_f hc3 h1
   refine gv_pureN 14 [2, 7, 8, 9, 10, 11, 12, 13, 14, 15, 16, 17, 18, 19] [(2, (.bool false))] (by kernel_rfl) ?_
   refine gv_nil ?_
   have e := sj h1; subst e
   refine gv_goal fun a hd hs hok => ?_
   exact ⟨hB0, (Nat.le_refl _), hd, hs, ok_pick [2] hok (by kernel_rfl)⟩
 ·rintro a w2 ⟨hB7, hz8, hd, hs, hok⟩
  refine gv_in ?_ hd hs hok
  clear hd hs hok
  refine gv_cret ?_
  have e := sj h0; subst e
  refine gv_ret (gv_done [(.bool j1)] rfl ⟨(by kernel_rfl), trivial⟩ ?_)
  exact ⟨grown_of_below hB7, rfl⟩

theorem natural_at_ok (fuel : Nat) (code_0 : Int) (index_1 : Int) (w0 : World)  (r0 : (Int × Int)) (h0 : natural_at fuel code_0 index_1 = some r0) :
    Calls Try.prog 76 ([(.int .i64 code_0), (.int .i64 index_1)] : List Value).toArray w0 (Ret fun v w' => w0.grownBy w' none ∧ v = tup [(.agg #[(.int .i64 r0.1), (.int .i64 r0.2)])]) := by
 have hB0 : Below w0.heap.size w0 w0 := Below.refl _ _
 unfold natural_at at h0
 refine calls_run Try.func76 rfl Try.ntmps76 (by kernel_rfl) ?_
 refine gv_sub [0, 1] (σ' := [(0, (.int .i64 code_0)), (1, (.int .i64 index_1))]) (by kernel_rfl) ?_
 refine gv_seq <| gv_region <| gv_new0 (fun b => .pointer (some ⟨b, 0, none⟩)) #[(.int .i64 0), (.int .i64 0)] 29 (by kernel_rfl) (by kernel_rfl) ?_
 intro b1 w2 hg3 hb4 hbe5 hz6
 refine gv_nil <| gv_seq <| gv_region <| gv_pureN 3 [5, 6, 7] [(7, (.agg #[(.int .i64 code_0), (.int .i64 index_1)]))] (by kernel_rfl) ?_
 refine gv_store0 29 0 (.agg #[(.int .i64 code_0), (.int .i64 index_1)]) #[(.int .i64 code_0), (.int .i64 index_1)] hb4 (by kernel_rfl) (by kernel_rfl) (by kernel_rfl) ?_
 intro w7 hg8 hb9 hz10
 refine gv_nil <| gv_cret ?_
 have e := sj h0; subst e
 refine gv_ret (gv_done [(.agg #[(.int .i64 code_0), (.int .i64 index_1)])] rfl ⟨⟨⟨b1, 0, none⟩, (by kernel_rfl), run_loadVar_row w7 b1 _ 29 _ _ _ hb9 Try.underlying29 rfl (by kernel_rfl)⟩, trivial⟩ ?_)
 have hB11 := bg hB0 hg3 nb
 have hlo12 : w0.heap.size ≤ b1 := lob hbe5 hB0.size
 have hB13 := bg hB11 hg8 (rowlo hlo12)
 exact ⟨grown_of_below hB13, rfl⟩

theorem natural_check_ok (fuel : Nat) (pa0_0 : Option Addr) (pc0_0 : Nat) (a_0 : (List Int)) (pa1_0 : Option Addr) (pc1_0 : Nat) (b_1 : (List Int)) (w0 : World) (X0 : Nat → Prop) (hX0 : ∀ k, X0 k → k < w0.heap.size) (hpa0_0 : Rd (iE .u32) w0 X0 pa0_0 pc0_0 a_0) (hpa1_0 : Rd (iE .u32) w0 X0 pa1_0 pc1_0 b_1) (r0 : (Int × Int)) (h0 : natural_check fuel a_0 b_1 = some r0) :
    Calls Try.prog 70 ([(.slice pa0_0 (List.length a_0) pc0_0), (.slice pa1_0 (List.length b_1) pc1_0)] : List Value).toArray w0 (Ret fun v w' => w0.grownBy w' none ∧ v = tup [(.agg #[(.int .i64 r0.1), (.int .i64 r0.2)])]) := by
 have hB0 : Below w0.heap.size w0 w0 := Below.refl _ _
 unfold natural_check at h0
 refine calls_run Try.func70 rfl Try.ntmps70 (by kernel_rfl) ?_
 refine gv_sub [0, 1] (σ' := [(0, (.slice pa0_0 (List.length a_0) pc0_0)), (1, (.slice pa1_0 (List.length b_1) pc1_0))]) (by kernel_rfl) ?_
 refine gv_seq <| gv_region <| gv_new0 (fun b => .pointer (some ⟨b, 0, none⟩)) #[(.int .i64 0), (.int .i64 0)] 29 (by kernel_rfl) (by kernel_rfl) ?_
 intro b1 w2 hg3 hb4 hbe5 hz6
 refine gv_nil <| gv_seq <| gv_block <| gv_seq <| gv_region <| gv_pureN 1 [6] [(6, (.slice pa0_0 (List.length a_0) pc0_0))] (by kernel_rfl) ?_
 refine bindE h0 ?_; clear h0; intro r7 hr8 h0
 have hB9 := bg hB0 hg3 nb
 refine gv_call0 (by kernel_rfl) rfl (by kernel_rfl) enters75 (natural_Valid_ok fuel pa0_0 pc0_0 a_0 w2 (fun k => X0 k) (fun k hk => (fun k (hk : X0 k) => ltl (hX0 k hk) hB9.size) k hk) ((hpa0_0.below hB9 hX0).wide (fun k hk => hk)) r7 hr8) ?_
 rintro v12 w10 ⟨hg11, rfl⟩
 refine gv_pureN 2 [5, 8] [(5, (.bool (!r7)))] (by kernel_rfl) ?_
 refine gv_nil <| gv_cond (b := (!r7)) (by kernel_rfl) (fun hc13 => ?_) (fun hc13 => ?_)
 ·replace h0 := ite_t hc13 h0
  refine gv_seq <| gv_region <| bindE h0 ?_; clear h0; intro r14 hr15 h0
  refine gv_call0 (by kernel_rfl) rfl (by kernel_rfl) enters76 (natural_at_ok fuel 6 (-1) w10  r14 hr15) ?_
  rintro v18 w16 ⟨hg17, rfl⟩
  have hg23 := (grown_trans hg11 hg17)
  have hk24 := hb4.grown hg23 nb
  refine gv_store0 29 0 (.agg #[(.int .i64 r14.1), (.int .i64 r14.2)]) #[(.int .i64 r14.1), (.int .i64 r14.2)] hk24 (by kernel_rfl) (by kernel_rfl) (by kernel_rfl) ?_
  intro w19 hg20 hb21 hz22
  refine gv_nil <| gv_cret ?_
  have e := sj h0; subst e
  refine gv_ret (gv_done [(.agg #[(.int .i64 r14.1), (.int .i64 r14.2)])] rfl ⟨⟨⟨b1, 0, none⟩, (by kernel_rfl), run_loadVar_row w19 b1 _ 29 _ _ _ hb21 Try.underlying29 rfl (by kernel_rfl)⟩, trivial⟩ ?_)
  have hB25 := bg hB9 hg23 nb
  have hlo26 : w0.heap.size ≤ b1 := lob hbe5 hB0.size
  have hB27 := bg hB25 hg20 (rowlo hlo26)
  exact ⟨grown_of_below hB27, rfl⟩
 ·replace h0 := ite_f hc13 h0
  refine gv_seq <| gv_region <| gv_pureN 1 [11] [(11, (.slice pa1_0 (List.length b_1) pc1_0))] (by kernel_rfl) ?_
  refine bindE h0 ?_; clear h0; intro r28 hr29 h0
  have hB30 := bg hB9 hg11 nb
  refine gv_call0 (by kernel_rfl) rfl (by kernel_rfl) enters75 (natural_Valid_ok fuel pa1_0 pc1_0 b_1 w10 (fun k => X0 k) (fun k hk => (fun k (hk : X0 k) => ltl (hX0 k hk) hB30.size) k hk) ((hpa1_0.below hB30 hX0).wide (fun k hk => hk)) r28 hr29) ?_
  rintro v33 w31 ⟨hg32, rfl⟩
  refine gv_pureN 2 [10, 13] [(10, (.bool (!r28)))] (by kernel_rfl) ?_
  refine gv_nil <| gv_cond (b := (!r28)) (by kernel_rfl) (fun hc34 => ?_) (fun hc34 => ?_)
  ·replace h0 := ite_t hc34 h0
   refine gv_seq <| gv_region <| bindE h0 ?_; clear h0; intro r35 hr36 h0
   refine gv_call0 (by kernel_rfl) rfl (by kernel_rfl) enters76 (natural_at_ok fuel 6 (-2) w31  r35 hr36) ?_
   rintro v39 w37 ⟨hg38, rfl⟩
   have hg44 := (grown_trans (grown_trans hg11 hg32) hg38)
   have hk45 := hb4.grown hg44 nb
   refine gv_store0 29 0 (.agg #[(.int .i64 r35.1), (.int .i64 r35.2)]) #[(.int .i64 r35.1), (.int .i64 r35.2)] hk45 (by kernel_rfl) (by kernel_rfl) (by kernel_rfl) ?_
   intro w40 hg41 hb42 hz43
   refine gv_nil <| gv_cret ?_
   have e := sj h0; subst e
   refine gv_ret (gv_done [(.agg #[(.int .i64 r35.1), (.int .i64 r35.2)])] rfl ⟨⟨⟨b1, 0, none⟩, (by kernel_rfl), run_loadVar_row w40 b1 _ 29 _ _ _ hb42 Try.underlying29 rfl (by kernel_rfl)⟩, trivial⟩ ?_)
   have hg46 := (grown_trans hg32 hg38)
   have hB47 := bg hB30 hg46 nb
   have hlo48 : w0.heap.size ≤ b1 := lob hbe5 hB0.size
   have hB49 := bg hB47 hg41 (rowlo hlo48)
   exact ⟨grown_of_below hB49, rfl⟩
  ·replace h0 := ite_f hc34 h0
   refine gv_skip <| gv_blk <| gv_seq <| gv_region <| gv_pureN 1 [15] [(15, (.agg #[(.int .i64 0), (.int .i64 0)]))] (by kernel_rfl) ?_
   have hg54 := (grown_trans hg11 hg32)
   have hk55 := hb4.grown hg54 nb
   refine gv_store0 29 0 (.agg #[(.int .i64 0), (.int .i64 0)]) #[(.int .i64 0), (.int .i64 0)] hk55 (by kernel_rfl) (by kernel_rfl) (by kernel_rfl) ?_
   intro w50 hg51 hb52 hz53
   clear hz53 hk55 hg54 hc34 hr29 hc13 hg11 hB9 hr8 hz6 hb4 hg3
   refine gv_nil <| gv_cret ?_
   have e := sj h0; subst e
   refine gv_ret (gv_done [(.agg #[(.int .i64 0), (.int .i64 0)])] rfl ⟨⟨⟨b1, 0, none⟩, (by kernel_rfl), run_loadVar_row w50 b1 _ 29 _ _ _ hb52 Try.underlying29 rfl (by kernel_rfl)⟩, trivial⟩ ?_)
   have hB56 := bg hB30 hg32 nb
   have hlo57 : w0.heap.size ≤ b1 := lob hbe5 hB0.size
   have hB58 := bg hB56 hg51 (rowlo hlo57)
   exact ⟨grown_of_below hB58, rfl⟩

theorem natural_trim_ok (fuel : Nat) (pa0_0 : Option Addr) (pc0_0 : Nat) (a_0 : (List Int)) (w0 : World) (X0 : Nat → Prop) (hX0 : ∀ k, X0 k → k < w0.heap.size) (hpa0_0 : Rd (iE .u32) w0 X0 pa0_0 pc0_0 a_0) (r0 : (List Int)) (h0 : natural_trim fuel a_0 = some r0) :
    Calls Try.prog 81 ([(.slice pa0_0 (List.length a_0) pc0_0)] : List Value).toArray w0 (Ret fun v w' => w0.grownBy w' none ∧ ∃ (a0_0r : Option Addr) (c0_0r : Nat), ∃ (X0_0r : Nat → Prop), v = tup [(.slice a0_0r (List.length r0) c0_0r)] ∧ Rd (iE .u32) w' X0_0r a0_0r c0_0r r0 ∧ (∀ k, X0_0r k → k < w'.heap.size ∧ (X0 k ∨ w0.heap.size ≤ k))) := by
 have hB0 : Below w0.heap.size w0 w0 := Below.refl _ _
 unfold natural_trim at h0
 refine calls_run Try.func81 rfl Try.ntmps81 (by kernel_rfl) ?_
 refine gv_sub [0] (σ' := [(0, (.slice pa0_0 (List.length a_0) pc0_0))]) (by kernel_rfl) ?_
 refine gv_seq <| gv_region <| gv_pureN 1 [2] [] (by kernel_rfl) ?_
 refine gv_nil <| gv_seq <| bindE h0 ?_; clear h0; intro j1 h1 h0
 refine gv_cut_code (J := fun a w2 => ∃ (a0_0j : Option Addr) (c0_0j : Nat), Below w0.heap.size w0 w2 ∧ w0.heap.size ≤ w2.heap.size ∧ Rd (iE .u32) w0 X0 a0_0j c0_0j j1 ∧ a.defers = [] ∧ a.tmps.size = 21 ∧ Ok [(0, (.slice a0_0j (List.length j1) c0_0j))] a.tmps) ?_ ?_
 ·skip
  refine gv_block <| gv_loop (A := fun (s3 : (List Int)) a w4 => ∃ (a0_0j : Option Addr) (c0_0j : Nat), Below w0.heap.size w0 w4 ∧ w0.heap.size ≤ w4.heap.size ∧ Rd (iE .u32) w0 X0 a0_0j c0_0j s3 ∧ a.defers = [] ∧ a.tmps.size = 21 ∧ Ok [(0, (.slice a0_0j (List.length s3) c0_0j))] a.tmps) h1 ?_ ?_
  ·intro a hd hs hok
   exact ⟨pa0_0, pc0_0, hB0, (Nat.le_refl _), hpa0_0, hd, hs, ok_pick [0] hok (by kernel_rfl)⟩
  ·rintro s3 r2 h2 hR2 a w4 ⟨a7, c8, hB5, hz6, hp9, hd, hs, hok⟩
   refine gv_in ?_ hd hs hok
   clear hd hs hok
   refine gv_seq <| gv_seq <| gv_region <| bindE h2 ?_; clear h2; intro j10 h3 h2
   refine gv_cut_ops (J := fun a w11 => Below w0.heap.size w0 w11 ∧ w4.heap.size ≤ w11.heap.size ∧ a.defers = [] ∧ a.tmps.size = 21 ∧ Ok [(0, (.slice a7 (List.length s3) c8)), (14, (.bool j10))] a.tmps) ?_ ?_
   ·skip
    refine gv_pureN 4 [3, 4, 5, 6] [(6, (.bool (decide (((List.length s3 : Nat) : Int) > 0))))] (by kernel_rfl) ?_
    refine gv_split (s := 6) (g := (decide (((List.length s3 : Nat) : Int) > 0))) (by kernel_rfl) (fun hc12 => ?_) (fun hc12 => ?_)
    ·skip
     replace h3 := ite_t hc12 h3
     refine gv_pureN 4 [7, 8, 9, 10] [(7, (.slice a7 (List.length s3) c8)), (10, (.int .i64 (IntKind.i64.wrap (((List.length s3 : Nat) : Int) - 1))))] (by kernel_rfl) ?_
     refine bindE h3 ?_; clear h3; intro x13 hx14 h3
     refine gv_idxaddr (t := 22) (e := 76) (a := a7) (len := List.length s3) (cap := c8) (kk := .i64) (i := (IntKind.i64.wrap (((List.length s3 : Nat) : Int) - 1))) (sz := 1) [] (fun e => by cases e) rfl rfl rfl (by kernel_rfl) (by kernel_rfl) Try.underlying22 (by kernel_rfl) ((hp9.below hB5 hX0).has hx14) (idx_spec hx14).1 (idx_spec hx14).2.1 rfl ?_
     refine gv_load (t := 76) (A := (elemAddr a7 (((IntKind.i64.wrap (((List.length s3 : Nat) : Int) - 1))).toNat * 1))) (.int .u32 x13) [] (fun e => by cases e) rfl rfl rfl (by kernel_rfl) (by kernel_rfl) (by kernel_rfl) (inw0 ((hp9.below hB5 hX0).cell hx14)) rfl ?_
     refine gv_pureN 2 [13, 14] [(14, (.bool (x13 == 0)))] (by kernel_rfl) ?_
     refine gv_nil ?_
     have e := sj h3; subst e
     refine gv_goal fun a hd hs hok => ?_
     exact ⟨hB5, (Nat.le_refl _), hd, hs, ok_pick [0, 14] hok (by kernel_rfl)⟩
    ·skip
     replace h3 := ite_f hc12 h3
     refine gv_pureN 8 [7, 8, 9, 10, 11, 12, 13, 14] [(14, (.bool false))] (by kernel_rfl) ?_
     refine gv_nil ?_
     have e := sj h3; subst e
     refine gv_goal fun a hd hs hok => ?_
     exact ⟨hB5, (Nat.le_refl _), hd, hs, ok_pick [0, 14] hok (by kernel_rfl)⟩
   ·rintro a w11 ⟨hB15, hz16, hd, hs, hok⟩
    refine gv_in ?_ hd hs hok
    clear hd hs hok
    have hz17 := (nt hz6 hz16)
    refine gv_cond (b := j10) (by kernel_rfl) (fun hc18 => ?_) (fun hc18 => ?_)
    ·replace h2 := ite_t hc18 h2
     refine gv_skip <| gv_block <| gv_region <| gv_pureN 4 [15, 16, 17, 18] [(15, (.slice a7 (List.length s3) c8)), (18, (.int .i64 (IntKind.i64.wrap (((List.length s3 : Nat) : Int) - 1))))] (by kernel_rfl) ?_
     refine bindE h2 ?_; clear h2; intro x19 hx20 h2
     refine gv_ssl2 (iE .u32) (t := 22) (e := 76) (xs := s3) (a := a7) (cap := c8) (lo := none) (hi := (some (.int .i64 (IntKind.i64.wrap (((List.length s3 : Nat) : Int) - 1))))) 0 (IntKind.i64.wrap (((List.length s3 : Nat) : Int) - 1)) x19 (fun e => by cases e) rfl rfl rfl (by kernel_rfl) (by kernel_rfl) Try.underlying22 (by kernel_rfl) (.inl ⟨rfl, rfl⟩) (.inr ⟨_, rfl⟩) hx20 (hp9.below hB15 hX0).1 ?_
     intro a21 c22 hsub23
     have hp24 := hsub23 _ _ hp9
     refine gv_pureN 1 [0] [(0, (.slice a21 (List.length x19) c22))] (by kernel_rfl) ?_
     refine gv_nil <| gv_blk ?_
     have e := sj h2; subst e
     refine gv_goal fun a hd hs hok => ?_
     have hz25 := hz17
     exact ⟨x19, rfl, a21, c22, hB15, hz25, hp24, hd, hs, ok_pick [0] hok (by kernel_rfl)⟩
    ·replace h2 := ite_f hc18 h2
     refine gv_cexit <| gv_exit rfl ?_
     have e := sj h2; subst e
     replace h1 := congrArg some (hR2 _ rfl)
     have e := sj h1; subst e
     refine gv_goal fun a hd hs hok => ?_
     have hz26 := hz17
     exact ⟨a7, c8, hB15, hz26, hp9, hd, hs, ok_pick [0] hok (by kernel_rfl)⟩
 ·rintro a w2 ⟨a29, c30, hB27, hz28, hp31, hd, hs, hok⟩
  refine gv_in ?_ hd hs hok
  clear hd hs hok
  refine gv_seq <| gv_region <| gv_pureN 2 [2, 20] [(2, (.slice a29 (List.length j1) c30))] (by kernel_rfl) ?_
  refine gv_nil <| gv_cret ?_
  have e := sj h0; subst e
  refine gv_ret (gv_done [(.slice a29 (List.length j1) c30)] rfl ⟨(by kernel_rfl), trivial⟩ ?_)
  exact ⟨grown_of_below hB27, a29, c30, X0, rfl, (hp31.below hB27 hX0), (fun k hk => ⟨(fun k (hk : X0 k) => ltl (hX0 k hk) hB27.size) k hk, (fun k (hk : X0 k) => Or.inl hk) k hk⟩)⟩

theorem natural_add_ok (fuel : Nat) (pa0_0 : Option Addr) (pc0_0 : Nat) (a_0 : (List Int)) (pa1_0 : Option Addr) (pc1_0 : Nat) (b_1 : (List Int)) (w0 : World) (X0 : Nat → Prop) (hX0 : ∀ k, X0 k → k < w0.heap.size) (hpa0_0 : Rd (iE .u32) w0 X0 pa0_0 pc0_0 a_0) (hpa1_0 : Rd (iE .u32) w0 X0 pa1_0 pc1_0 b_1) (r0 : (List Int)) (h0 : natural_add fuel a_0 b_1 = some r0) :
    Calls Try.prog 79 ([(.slice pa0_0 (List.length a_0) pc0_0), (.slice pa1_0 (List.length b_1) pc1_0)] : List Value).toArray w0 (Ret fun v w' => w0.grownBy w' none ∧ ∃ (a0_0r : Option Addr) (c0_0r : Nat), ∃ (X0_0r : Nat → Prop), v = tup [(.slice a0_0r (List.length r0) c0_0r)] ∧ Rd (iE .u32) w' X0_0r a0_0r c0_0r r0 ∧ (∀ k, X0_0r k → k < w'.heap.size ∧ (X0 k ∨ w0.heap.size ≤ k))) := by
 have hB0 : Below w0.heap.size w0 w0 := Below.refl _ _
 unfold natural_add at h0
 refine calls_run Try.func79 rfl Try.ntmps79 (by kernel_rfl) ?_
 refine gv_sub [0, 1] (σ' := [(0, (.slice pa0_0 (List.length a_0) pc0_0)), (1, (.slice pa1_0 (List.length b_1) pc1_0))]) (by kernel_rfl) ?_
 refine gv_seq <| gv_region <| gv_pureN 1 [4] [] (by kernel_rfl) ?_
 refine gv_nil <| gv_seq <| gv_seq <| gv_region <| gv_pureN 5 [9, 10, 11, 12, 13] [(13, (.bool (decide (((List.length a_0 : Nat) : Int) < ((List.length b_1 : Nat) : Int)))))] (by kernel_rfl) ?_
 refine gv_nil <| bindE h0 ?_; clear h0; intro j1 h1 h0
 refine gv_cut_code (J := fun a w2 => ∃ (a0_0j : Option Addr) (c0_0j : Nat), ∃ (a1_0j : Option Addr) (c1_0j : Nat), Below w0.heap.size w0 w2 ∧ w0.heap.size ≤ w2.heap.size ∧ Rd (iE .u32) w0 X0 a0_0j c0_0j j1.1 ∧ Rd (iE .u32) w0 X0 a1_0j c1_0j j1.2 ∧ a.defers = [] ∧ a.tmps.size = 56 ∧ Ok [(0, (.slice a0_0j (List.length j1.1) c0_0j)), (1, (.slice a1_0j (List.length j1.2) c1_0j))] a.tmps) ?_ ?_
 ·skip
  refine gv_cond (b := (decide (((List.length a_0 : Nat) : Int) < ((List.length b_1 : Nat) : Int)))) (by kernel_rfl) (fun hc3 => ?_) (fun hc3 => ?_)
  ·replace h1 := ite_t hc3 h1
   refine gv_region <| gv_pureN 4 [0, 1, 14, 15] [(0, (.slice pa1_0 (List.length b_1) pc1_0)), (1, (.slice pa0_0 (List.length a_0) pc0_0))] (by kernel_rfl) ?_
   refine gv_nil ?_
   have e := sj h1; subst e
   refine gv_goal fun a hd hs hok => ?_
   exact ⟨pa1_0, pc1_0, pa0_0, pc0_0, hB0, (Nat.le_refl _), hpa1_0, hpa0_0, hd, hs, ok_pick [0, 1] hok (by kernel_rfl)⟩
  ·replace h1 := ite_f hc3 h1
   refine gv_skip ?_
   have e := sj h1; subst e
   refine gv_goal fun a hd hs hok => ?_
   exact ⟨pa0_0, pc0_0, pa1_0, pc1_0, hB0, (Nat.le_refl _), hpa0_0, hpa1_0, hd, hs, ok_pick [0, 1] hok (by kernel_rfl)⟩
 ·rintro a w2 ⟨a6, c7, a8, c9, hB4, hz5, hp10, hp11, hd, hs, hok⟩
  refine gv_in ?_ hd hs hok
  clear hd hs hok
  refine gv_seq <| gv_region <| gv_pureN 3 [16, 17, 18] [(18, (.int .i64 (IntKind.i64.wrap (((List.length j1.1 : Nat) : Int) + 1))))] (by kernel_rfl) ?_
  refine bindE h0 ?_; clear h0; intro l12 hx13 h0
  refine gv_makeC (f := (fun n : Int => Value.int .u32 n)) (hf := fun _ => rfl) (t := 22) (e := 76) (kl := .i64) (kc := .i64) (l := 0) (c := (IntKind.i64.wrap (((List.length j1.1 : Nat) : Int) + 1))) (bytes := 4) 0 l12 (by decide) rfl rfl (by kernel_rfl) (by kernel_rfl) Try.underlying22 (by kernel_rfl) (by decide) hx13 ?_
  intro b14 w15 hg16 ho17 hbe18 hz19
  refine ⟨(fun e => by cases e), ?_⟩
  have hl20 : ∀ g, blk (some ⟨b14, 0, none⟩) = some g → w0.heap.size ≤ g := loo hbe18 hB4.size
  refine gv_pureN 1 [5] [(5, (.slice (some ⟨b14, 0, none⟩) (List.length l12) ((IntKind.i64.wrap (((List.length j1.1 : Nat) : Int) + 1))).toNat))] (by kernel_rfl) ?_
  refine gv_nil <| gv_seq <| gv_region <| gv_pureN 1 [6] [(6, (.int .u64 0))] (by kernel_rfl) ?_
  refine gv_nil <| gv_seq <| gv_seq <| gv_region <| gv_pureN 3 [20, 21, 22] [(20, (.slice a6 (List.length j1.1) c7)), (21, (.int .i64 ((List.length j1.1 : Nat) : Int))), (22, (.int .i64 0))] (by kernel_rfl) ?_
  refine gv_nil <| bindE h0 ?_; clear h0; intro j21 h1 h0
  refine gv_cut_code (J := fun a w22 => ∃ (a5_0j : Option Addr) (c5_0j : Nat), Below w0.heap.size w0 w22 ∧ w15.heap.size ≤ w22.heap.size ∧ Own (iE .u32) 76 w22 (fun _ => False) a5_0j c5_0j j21.1 ∧ (∀ g, blk a5_0j = some g → w0.heap.size ≤ g) ∧ a.defers = [] ∧ a.tmps.size = 56 ∧ Ok [(5, (.slice a5_0j (List.length j21.1) c5_0j)), (6, (.int .u64 j21.2))] a.tmps) ?_ ?_
  ·skip
   refine gv_block <| gv_loop (A := fun (s23 : ((List Int) × Int × Int)) a w24 => ∃ (a5_0j : Option Addr) (c5_0j : Nat), Below w0.heap.size w0 w24 ∧ w15.heap.size ≤ w24.heap.size ∧ Own (iE .u32) 76 w24 (fun _ => False) a5_0j c5_0j s23.1 ∧ (∀ g, blk a5_0j = some g → w0.heap.size ≤ g) ∧ a.defers = [] ∧ a.tmps.size = 56 ∧ Ok [(1, (.slice a8 (List.length j1.2) c9)), (5, (.slice a5_0j (List.length s23.1) c5_0j)), (6, (.int .u64 s23.2.1)), (20, (.slice a6 (List.length j1.1) c7)), (21, (.int .i64 ((List.length j1.1 : Nat) : Int))), (22, (.int .i64 s23.2.2))] a.tmps) h1 ?_ ?_
   ·intro a hd hs hok
    have hB25 := bg hB4 hg16 nb
    exact ⟨(some ⟨b14, 0, none⟩), ((IntKind.i64.wrap (((List.length j1.1 : Nat) : Int) + 1))).toNat, hB25, (Nat.le_refl _), ho17, hl20, hd, hs, ok_pick [1, 5, 6, 20, 21, 22] hok (by kernel_rfl)⟩
   ·rintro s23 r2 h2 hR2 a w24 ⟨a28, c29, hB26, hz27, ho30, hl31, hd, hs, hok⟩
    refine gv_in ?_ hd hs hok
    clear hd hs hok
    clear hl20 hz19 hbe18 ho17 hg16 hx13 hz5 hB4
    refine gv_seq <| gv_region <| gv_pureN 1 [23] [(23, (.bool (decide (s23.2.2 < ((List.length j1.1 : Nat) : Int)))))] (by kernel_rfl) ?_
    refine gv_nil <| gv_seq <| gv_cond (b := (decide (s23.2.2 < ((List.length j1.1 : Nat) : Int)))) (by kernel_rfl) (fun hc32 => ?_) (fun hc32 => ?_)
    ·replace h2 := ite_t hc32 h2
     refine gv_skip <| gv_seq <| gv_block <| gv_seq <| gv_region <| gv_pureN 1 [24] [(24, (.int .i64 s23.2.2))] (by kernel_rfl) ?_
     refine bindE h2 ?_; clear h2; intro x33 hx34 h2
     refine gv_idxaddr (t := 22) (e := 76) (a := a6) (len := List.length j1.1) (cap := c7) (kk := .i64) (i := s23.2.2) (sz := 1) [] (fun e => by cases e) rfl rfl rfl (by kernel_rfl) (by kernel_rfl) Try.underlying22 (by kernel_rfl) ((hp10.below hB26 hX0).has hx34) (idx_spec hx34).1 (idx_spec hx34).2.1 rfl ?_
     refine gv_load (t := 76) (A := (elemAddr a6 ((s23.2.2).toNat * 1))) (.int .u32 x33) [] (fun e => by cases e) rfl rfl rfl (by kernel_rfl) (by kernel_rfl) (by kernel_rfl) (inw0 ((hp10.below hB26 hX0).cell hx34)) rfl ?_
     refine gv_pureN 2 [7, 8] [(7, (.int .i64 s23.2.2)), (8, (.int .u32 x33))] (by kernel_rfl) ?_
     refine gv_nil <| gv_seq <| gv_region <| gv_pureN 5 [6, 27, 28, 29, 30] [(6, (.int .u64 (IntKind.u64.wrap (s23.2.1 + (IntKind.u64.wrap (x33))))))] (by kernel_rfl) ?_
     refine bindE h2 ?_; clear h2; intro n35 hn36 h2
     refine gv_name (s := 6) (v := (.int .u64 (IntKind.u64.wrap (s23.2.1 + (IntKind.u64.wrap (x33)))))) (v' := (.int .u64 n35)) (by kernel_rfl) (congrArg (Value.int .u64) (sj hn36)) ?_
     refine gv_nil <| gv_seq <| gv_seq <| gv_region <| gv_pureN 4 [31, 32, 33, 34] [(34, (.bool (decide (s23.2.2 < ((List.length j1.2 : Nat) : Int)))))] (by kernel_rfl) ?_
     refine gv_nil <| bindE h2 ?_; clear h2; intro j37 h3 h2
     refine gv_cut_code (J := fun a w38 => Below w0.heap.size w0 w38 ∧ w24.heap.size ≤ w38.heap.size ∧ Own (iE .u32) 76 w38 (fun _ => False) a28 c29 s23.1 ∧ a.defers = [] ∧ a.tmps.size = 56 ∧ Ok [(1, (.slice a8 (List.length j1.2) c9)), (5, (.slice a28 (List.length s23.1) c29)), (6, (.int .u64 j37)), (20, (.slice a6 (List.length j1.1) c7)), (21, (.int .i64 ((List.length j1.1 : Nat) : Int))), (22, (.int .i64 s23.2.2))] a.tmps) ?_ ?_
     ·skip
      refine gv_cond (b := (decide (s23.2.2 < ((List.length j1.2 : Nat) : Int)))) (by kernel_rfl) (fun hc39 => ?_) (fun hc39 => ?_)
      ·replace h3 := ite_t hc39 h3
       refine gv_region <| gv_pureN 3 [35, 36, 37] [(35, (.int .u64 n35)), (36, (.slice a8 (List.length j1.2) c9)), (37, (.int .i64 s23.2.2))] (by kernel_rfl) ?_
       refine bindE h3 ?_; clear h3; intro x40 hx41 h3
       refine gv_idxaddr (t := 22) (e := 76) (a := a8) (len := List.length j1.2) (cap := c9) (kk := .i64) (i := s23.2.2) (sz := 1) [] (fun e => by cases e) rfl rfl rfl (by kernel_rfl) (by kernel_rfl) Try.underlying22 (by kernel_rfl) ((hp11.below hB26 hX0).has hx41) (idx_spec hx41).1 (idx_spec hx41).2.1 rfl ?_
       refine gv_load (t := 76) (A := (elemAddr a8 ((s23.2.2).toNat * 1))) (.int .u32 x40) [] (fun e => by cases e) rfl rfl rfl (by kernel_rfl) (by kernel_rfl) (by kernel_rfl) (inw0 ((hp11.below hB26 hX0).cell hx41)) rfl ?_
       refine gv_pureN 3 [6, 40, 41] [(6, (.int .u64 (IntKind.u64.wrap (n35 + (IntKind.u64.wrap (x40))))))] (by kernel_rfl) ?_
       refine bindE h3 ?_; clear h3; intro n42 hn43 h3
       refine gv_name (s := 6) (v := (.int .u64 (IntKind.u64.wrap (n35 + (IntKind.u64.wrap (x40)))))) (v' := (.int .u64 n42)) (by kernel_rfl) (congrArg (Value.int .u64) (sj hn43)) ?_
       refine gv_nil ?_
       have e := sj h3; subst e
       refine gv_goal fun a hd hs hok => ?_
       exact ⟨hB26, (Nat.le_refl _), ho30, hd, hs, ok_pick [1, 5, 6, 20, 21, 22] hok (by kernel_rfl)⟩
      ·replace h3 := ite_f hc39 h3
       refine gv_skip ?_
       have e := sj h3; subst e
       refine gv_goal fun a hd hs hok => ?_
       exact ⟨hB26, (Nat.le_refl _), ho30, hd, hs, ok_pick [1, 5, 6, 20, 21, 22] hok (by kernel_rfl)⟩
     ·rintro a w38 ⟨hB44, hz45, hk46, hd, hs, hok⟩
      refine gv_in ?_ hd hs hok
      clear hd hs hok
      have hz47 := (nt hz27 hz45)
      clear hz45 hn36 hx34 hc32 ho30 hz27 hB26
      refine gv_seq <| gv_region <| gv_pureN 3 [42, 43, 44] [(42, (.slice a28 (List.length s23.1) c29)), (44, (.int .u32 (IntKind.u32.wrap (j37))))] (by kernel_rfl) ?_
      refine gv_new0 (fun b => .slice (some ⟨b, 0, none⟩) 1 1) #[(.int .u32 (IntKind.u32.wrap (j37)))] 76 (by kernel_rfl) (by kernel_rfl) ?_
      intro b48 w49 hg50 hb51 hbe52 hz53
      have ho54 : Own (iE .u32) 76 w49 (fun _ => False) (some ⟨b48, 0, none⟩) 1 ([(IntKind.u32.wrap (j37))] : List Int) := Box.ownE hb51 ⟨[(.int .u32 (IntKind.u32.wrap (j37)))], [], rfl, rfl, rfl⟩ (show 1 ≤ maxLen by decide) (fun h => h)
      have hl55 : ∀ g, blk (some ⟨b48, 0, none⟩) = some g → w0.heap.size ≤ g := loo hbe52 hB44.size
      refine bindE h2 ?_; clear h2; intro l59 hx60 h2
      have hk67 := hk46.grown hg50 (fun _ h => h.elim) nb
      refine gv_append (iE .u32) (t := 22) (ty := 22) (e := 76) (a := a28) (ax := (some ⟨b48, 0, none⟩)) (cap := c29) (cx := 1) (xs := s23.1) (ys := ([(IntKind.u32.wrap (j37))] : List Int)) l59 (X := (fun _ => False)) (Y := (fun k => blk (some ⟨b48, 0, none⟩) = some k)) (by decide) rfl rfl (by kernel_rfl) (by kernel_rfl) Try.underlying22 info76 hk67 (ho54.rd (Y := fun k => blk (some ⟨b48, 0, none⟩) = some k) (fun _ h => h.elim) (fun g e => e)) hx60 (.inr fun _ _ _ _ _ h => h) (fun _ h => h.elim) ?_
      intro a61 c62 w63 hg64 ho65 hk66
      refine ⟨(fun e => by cases e), ?_⟩
      have hB69 := bg hB44 hg50 nb
      have hl68 : ∀ g, blk a61 = some g → w0.heap.size ≤ g := blk_step hk66 hl31 hB69.size
      have ap71 : ∀ g, blk a28 = some g → ¬ (fun k => blk (some ⟨b48, 0, none⟩) = some k) g := fun g e hx => nl ((lowo hbe52) _ hx) ((fun k (hk : blk a28 = some k) => hk46.lt k hk) g e)
      have ap70 : ∀ g, blk a61 = some g → ¬ (fun k => blk (some ⟨b48, 0, none⟩) = some k) g := blk_neX hk66 ap71 (fun k (hk : blk (some ⟨b48, 0, none⟩) = some k) => ho54.lt k hk)
      have ap73 : ∀ g, blk (some ⟨b48, 0, none⟩) = some g → ¬ (fun k => blk a28 = some k) g := fun g e hx => nl ((lowo hbe52) g e) ((fun k (hk : blk a28 = some k) => hk46.lt k hk) _ hx)
      have ap72 : ∀ g, blk (some ⟨b48, 0, none⟩) = some g → ¬ (fun k => blk a61 = some k) g := fun g e h => blk_rev hk66 (fun h => ((ap73) g e) h) (ho54.lt g e) h
      refine gv_pureN 1 [5] [(5, (.slice a61 (List.length l59) c62))] (by kernel_rfl) ?_
      refine gv_nil <| gv_region <| gv_pureN 3 [6, 47, 48] [(6, (.int .u64 ((j37).fdiv (2 ^ 32))))] (by kernel_rfl) ?_
      refine gv_nil <| gv_blk <| gv_region <| gv_pureN 2 [22, 49] [(22, (.int .i64 (IntKind.i64.wrap (s23.2.2 + 1))))] (by kernel_rfl) ?_
      refine gv_nil ?_
      have e := sj h2; subst e
      refine gv_goal fun a hd hs hok => ?_
      have hB74 := bg hB69 hg64 hl31
      have hz75 := (nt (nt hz47 hg50.size) hg64.size)
      exact ⟨(l59, ((j37).fdiv (2 ^ 32)), (IntKind.i64.wrap (s23.2.2 + 1))), rfl, a61, c62, hB74, hz75, ho65, hl68, hd, hs, ok_pick [1, 5, 6, 20, 21, 22] hok (by kernel_rfl)⟩
    ·replace h2 := ite_f hc32 h2
     refine gv_cexit <| gv_exit rfl ?_
     have e := sj h2; subst e
     replace h1 := congrArg some (hR2 _ rfl)
     have e := sj h1; subst e
     refine gv_goal fun a hd hs hok => ?_
     have hz76 := hz27
     exact ⟨a28, c29, hB26, hz76, ho30, hl31, hd, hs, ok_pick [5, 6] hok (by kernel_rfl)⟩
  ·rintro a w22 ⟨a79, c80, hB77, hz78, ho81, hl82, hd, hs, hok⟩
   refine gv_in ?_ hd hs hok
   clear hd hs hok
   clear hz78 hl20 hz19 hbe18 ho17 hg16 hx13 hz5 hB4
   refine gv_seq <| gv_region <| gv_pureN 3 [50, 51, 52] [(50, (.slice a79 (List.length j21.1) c80)), (52, (.int .u32 (IntKind.u32.wrap (j21.2))))] (by kernel_rfl) ?_
   refine gv_new0 (fun b => .slice (some ⟨b, 0, none⟩) 1 1) #[(.int .u32 (IntKind.u32.wrap (j21.2)))] 76 (by kernel_rfl) (by kernel_rfl) ?_
   intro b83 w84 hg85 hb86 hbe87 hz88
   have ho89 : Own (iE .u32) 76 w84 (fun _ => False) (some ⟨b83, 0, none⟩) 1 ([(IntKind.u32.wrap (j21.2))] : List Int) := Box.ownE hb86 ⟨[(.int .u32 (IntKind.u32.wrap (j21.2)))], [], rfl, rfl, rfl⟩ (show 1 ≤ maxLen by decide) (fun h => h)
   have hl90 : ∀ g, blk (some ⟨b83, 0, none⟩) = some g → w0.heap.size ≤ g := loo hbe87 hB77.size
   refine bindE h0 ?_; clear h0; intro l94 hx95 h0
   have hk102 := ho81.grown hg85 (fun _ h => h.elim) nb
   refine gv_append (iE .u32) (t := 22) (ty := 22) (e := 76) (a := a79) (ax := (some ⟨b83, 0, none⟩)) (cap := c80) (cx := 1) (xs := j21.1) (ys := ([(IntKind.u32.wrap (j21.2))] : List Int)) l94 (X := (fun _ => False)) (Y := (fun k => blk (some ⟨b83, 0, none⟩) = some k)) (by decide) rfl rfl (by kernel_rfl) (by kernel_rfl) Try.underlying22 info76 hk102 (ho89.rd (Y := fun k => blk (some ⟨b83, 0, none⟩) = some k) (fun _ h => h.elim) (fun g e => e)) hx95 (.inr fun _ _ _ _ _ h => h) (fun _ h => h.elim) ?_
   intro a96 c97 w98 hg99 ho100 hk101
   refine ⟨(fun e => by cases e), ?_⟩
   have hB104 := bg hB77 hg85 nb
   have hl103 : ∀ g, blk a96 = some g → w0.heap.size ≤ g := blk_step hk101 hl82 hB104.size
   have ap106 : ∀ g, blk a79 = some g → ¬ (fun k => blk (some ⟨b83, 0, none⟩) = some k) g := fun g e hx => nl ((lowo hbe87) _ hx) ((fun k (hk : blk a79 = some k) => ho81.lt k hk) g e)
   have ap105 : ∀ g, blk a96 = some g → ¬ (fun k => blk (some ⟨b83, 0, none⟩) = some k) g := blk_neX hk101 ap106 (fun k (hk : blk (some ⟨b83, 0, none⟩) = some k) => ho89.lt k hk)
   have ap108 : ∀ g, blk (some ⟨b83, 0, none⟩) = some g → ¬ (fun k => blk a79 = some k) g := fun g e hx => nl ((lowo hbe87) g e) ((fun k (hk : blk a79 = some k) => ho81.lt k hk) _ hx)
   have ap107 : ∀ g, blk (some ⟨b83, 0, none⟩) = some g → ¬ (fun k => blk a96 = some k) g := fun g e h => blk_rev hk101 (fun h => ((ap108) g e) h) (ho89.lt g e) h
   refine bindE h0 ?_; clear h0; intro r109 hr110 h0
   refine gv_call0 (by kernel_rfl) rfl (by kernel_rfl) enters81 (natural_trim_ok fuel a96 c97 l94 w98 (fun k => (fun k => blk a96 = some k) k) (fun k hk => (fun k (hk : blk a96 = some k) => ho100.lt k hk) k hk) ((ho100.rd (Y := fun k => blk a96 = some k) (fun _ h => h.elim) (fun g e => e)).wide (fun k hk => hk)) r109 hr110) ?_
   rintro v113 w111 ⟨hg112, a114, c115, X117, rfl, ho116, hx118⟩
   have hx119 : ∀ k, X117 k → k < w111.heap.size := fun k hk => (hx118 k hk).1
   have hB121 := bg hB104 hg99 hl82
   have hx120 : ∀ k, X117 k → X0 k ∨ w0.heap.size ≤ k := fun k hk => (hx118 k hk).2.elim (fun h => (fun k (hk : blk a96 = some k) => Or.inr (hl103 k hk)) k h) (fun h => .inr (Nat.le_trans hB121.size h))
   refine gv_pureN 1 [4] [(4, (.slice a114 (List.length r109) c115))] (by kernel_rfl) ?_
   refine gv_nil <| gv_cret ?_
   have e := sj h0; subst e
   refine gv_ret (gv_done [(.slice a114 (List.length r109) c115)] rfl ⟨(by kernel_rfl), trivial⟩ ?_)
   have hB122 := bg hB121 hg112 nb
   exact ⟨grown_of_below hB122, a114, c115, X117, rfl, ho116, (fun k hk => ⟨hx119 k hk, hx120 k hk⟩)⟩

theorem natural_fit_ok (fuel : Nat) (pa0_0 : Option Addr) (pc0_0 : Nat) (a_0 : (List Int)) (w0 : World) (X0 : Nat → Prop) (hX0 : ∀ k, X0 k → k < w0.heap.size) (hpa0_0 : Rd (iE .u32) w0 X0 pa0_0 pc0_0 a_0) (r0 : ((List Int) × (Int × Int))) (h0 : natural_fit fuel a_0 = some r0) :
    Calls Try.prog 78 ([(.slice pa0_0 (List.length a_0) pc0_0)] : List Value).toArray w0 (Ret fun v w' => w0.grownBy w' none ∧ ∃ (a0_0r : Option Addr) (c0_0r : Nat), ∃ (X0_0r : Nat → Prop), v = tup [(.slice a0_0r (List.length r0.1) c0_0r), (.agg #[(.int .i64 r0.2.1), (.int .i64 r0.2.2)])] ∧ Rd (iE .u32) w' X0_0r a0_0r c0_0r r0.1 ∧ (∀ k, X0_0r k → k < w'.heap.size ∧ (X0 k ∨ w0.heap.size ≤ k))) := by
 have hB0 : Below w0.heap.size w0 w0 := Below.refl _ _
 unfold natural_fit at h0
 refine calls_run Try.func78 rfl Try.ntmps78 (by kernel_rfl) ?_
 refine gv_sub [0] (σ' := [(0, (.slice pa0_0 (List.length a_0) pc0_0))]) (by kernel_rfl) ?_
 refine gv_seq <| gv_region <| gv_pureN 1 [2] [] (by kernel_rfl) ?_
 refine gv_new0 (fun b => .pointer (some ⟨b, 0, none⟩)) #[(.int .i64 0), (.int .i64 0)] 29 (by kernel_rfl) (by kernel_rfl) ?_
 intro b1 w2 hg3 hb4 hbe5 hz6
 refine gv_nil <| gv_seq <| gv_seq <| gv_region <| gv_pureN 1 [4] [(4, (.slice pa0_0 (List.length a_0) pc0_0))] (by kernel_rfl) ?_
 refine bindE h0 ?_; clear h0; intro r7 hr8 h0
 have hB9 := bg hB0 hg3 nb
 refine gv_call0 (by kernel_rfl) rfl (by kernel_rfl) enters81 (natural_trim_ok fuel pa0_0 pc0_0 a_0 w2 (fun k => X0 k) (fun k hk => (fun k (hk : X0 k) => ltl (hX0 k hk) hB9.size) k hk) ((hpa0_0.below hB9 hX0).wide (fun k hk => hk)) r7 hr8) ?_
 rintro v12 w10 ⟨hg11, a13, c14, X16, rfl, ho15, hx17⟩
 have hx18 : ∀ k, X16 k → k < w10.heap.size := fun k hk => (hx17 k hk).1
 have hx19 : ∀ k, X16 k → X0 k ∨ w0.heap.size ≤ k := fun k hk => (hx17 k hk).2.elim (fun h => (fun k (hk : X0 k) => Or.inl hk) k h) (fun h => .inr (Nat.le_trans hB9.size h))
 refine gv_pureN 1 [0] [(0, (.slice a13 (List.length r7) c14))] (by kernel_rfl) ?_
 refine gv_nil <| gv_seq <| gv_region <| gv_pureN 3 [6, 7, 8] [(8, (.bool (decide (((List.length r7 : Nat) : Int) > 600))))] (by kernel_rfl) ?_
 refine gv_nil <| gv_cond (b := (decide (((List.length r7 : Nat) : Int) > 600))) (by kernel_rfl) (fun hc20 => ?_) (fun hc20 => ?_)
 ·replace h0 := ite_t hc20 h0
  refine gv_seq <| gv_region <| bindE h0 ?_; clear h0; intro r21 hr22 h0
  refine gv_call0 (by kernel_rfl) rfl (by kernel_rfl) enters76 (natural_at_ok fuel 14 (-1) w10  r21 hr22) ?_
  rintro v25 w23 ⟨hg24, rfl⟩
  refine gv_pureN 1 [2] [(2, (.slice none (List.length ([] : List Int)) 0))] (by kernel_rfl) ?_
  have hg30 := (grown_trans hg11 hg24)
  have hk31 := hb4.grown hg30 nb
  refine gv_store0 29 0 (.agg #[(.int .i64 r21.1), (.int .i64 r21.2)]) #[(.int .i64 r21.1), (.int .i64 r21.2)] hk31 (by kernel_rfl) (by kernel_rfl) (by kernel_rfl) ?_
  intro w26 hg27 hb28 hz29
  refine gv_nil <| gv_cret ?_
  have e := sj h0; subst e
  refine gv_ret (gv_done [(.slice none (List.length ([] : List Int)) 0), (.agg #[(.int .i64 r21.1), (.int .i64 r21.2)])] rfl ⟨(by kernel_rfl), ⟨⟨b1, 0, none⟩, (by kernel_rfl), run_loadVar_row w26 b1 _ 29 _ _ _ hb28 Try.underlying29 rfl (by kernel_rfl)⟩, trivial⟩ ?_)
  have hB32 := bg hB9 hg30 nb
  have hlo33 : w0.heap.size ≤ b1 := lob hbe5 hB0.size
  have hB34 := bg hB32 hg27 (rowlo hlo33)
  exact ⟨grown_of_below hB34, none, 0, (fun _ => False), rfl, (Rd.nil (iE .u32) w26 (fun _ => False) none 0), (fun k hk => ⟨(fun _ h => h.elim) k hk, (fun _ h => h.elim) k hk⟩)⟩
 ·replace h0 := ite_f hc20 h0
  refine gv_skip <| gv_seq <| gv_region <| gv_pureN 3 [2, 10, 11] [(2, (.slice a13 (List.length r7) c14)), (11, (.agg #[(.int .i64 0), (.int .i64 0)]))] (by kernel_rfl) ?_
  have hk39 := hb4.grown hg11 nb
  refine gv_store0 29 0 (.agg #[(.int .i64 0), (.int .i64 0)]) #[(.int .i64 0), (.int .i64 0)] hk39 (by kernel_rfl) (by kernel_rfl) (by kernel_rfl) ?_
  intro w35 hg36 hb37 hz38
  refine gv_nil <| gv_cret ?_
  have e := sj h0; subst e
  refine gv_ret (gv_done [(.slice a13 (List.length r7) c14), (.agg #[(.int .i64 0), (.int .i64 0)])] rfl ⟨(by kernel_rfl), ⟨⟨b1, 0, none⟩, (by kernel_rfl), run_loadVar_row w35 b1 _ 29 _ _ _ hb37 Try.underlying29 rfl (by kernel_rfl)⟩, trivial⟩ ?_)
  have hB40 := bg hB9 hg11 nb
  have hlo41 : w0.heap.size ≤ b1 := lob hbe5 hB0.size
  have hB42 := bg hB40 hg36 (rowlo hlo41)
  have ap43 : ¬ X16 b1 := fun h => ((hx17 _ h).2.elim (fun h => ((fun (hx : X0 b1) => nl hlo41 (hX0 _ hx)))  h) (fun h => nl h (hb4.lt)))
  have hk44 := ho15.grown hg36 hx18 (rowne ap43)
  have hx45 := ltx hx18 hg36.size
  exact ⟨grown_of_below hB42, a13, c14, X16, rfl, hk44, (fun k hk => ⟨hx45 k hk, hx19 k hk⟩)⟩

theorem natural_Add_ok (fuel : Nat) (pa0_0 : Option Addr) (pc0_0 : Nat) (a_0 : (List Int)) (pa1_0 : Option Addr) (pc1_0 : Nat) (b_1 : (List Int)) (w0 : World) (X0 : Nat → Prop) (hX0 : ∀ k, X0 k → k < w0.heap.size) (hpa0_0 : Rd (iE .u32) w0 X0 pa0_0 pc0_0 a_0) (hpa1_0 : Rd (iE .u32) w0 X0 pa1_0 pc1_0 b_1) (r0 : ((List Int) × (Int × Int))) (h0 : natural_Add fuel a_0 b_1 = some r0) :
    Calls Try.prog 72 ([(.slice pa0_0 (List.length a_0) pc0_0), (.slice pa1_0 (List.length b_1) pc1_0)] : List Value).toArray w0 (Ret fun v w' => w0.grownBy w' none ∧ ∃ (a0_0r : Option Addr) (c0_0r : Nat), ∃ (X0_0r : Nat → Prop), v = tup [(.slice a0_0r (List.length r0.1) c0_0r), (.agg #[(.int .i64 r0.2.1), (.int .i64 r0.2.2)])] ∧ Rd (iE .u32) w' X0_0r a0_0r c0_0r r0.1 ∧ (∀ k, X0_0r k → k < w'.heap.size ∧ (X0 k ∨ w0.heap.size ≤ k))) := by
 have hB0 : Below w0.heap.size w0 w0 := Below.refl _ _
 unfold natural_Add at h0
 refine calls_run Try.func72 rfl Try.ntmps72 (by kernel_rfl) ?_
 refine gv_sub [0, 1] (σ' := [(0, (.slice pa0_0 (List.length a_0) pc0_0)), (1, (.slice pa1_0 (List.length b_1) pc1_0))]) (by kernel_rfl) ?_
 refine gv_seq <| gv_region <| gv_pureN 1 [4] [] (by kernel_rfl) ?_
 refine gv_new0 (fun b => .pointer (some ⟨b, 0, none⟩)) #[(.int .i64 0), (.int .i64 0)] 29 (by kernel_rfl) (by kernel_rfl) ?_
 intro b1 w2 hg3 hb4 hbe5 hz6
 refine gv_nil <| gv_seq <| gv_seq <| gv_region <| gv_pureN 2 [7, 8] [(7, (.slice pa0_0 (List.length a_0) pc0_0)), (8, (.slice pa1_0 (List.length b_1) pc1_0))] (by kernel_rfl) ?_
 refine bindE h0 ?_; clear h0; intro r7 hr8 h0
 have hB9 := bg hB0 hg3 nb
 refine gv_call0 (by kernel_rfl) rfl (by kernel_rfl) enters70 (natural_check_ok fuel pa0_0 pc0_0 a_0 pa1_0 pc1_0 b_1 w2 (fun k => X0 k ∨ X0 k) (fun k hk => (hk).elim (fun h => (fun k (hk : X0 k) => ltl (hX0 k hk) hB9.size) k h) (fun h => (fun k (hk : X0 k) => ltl (hX0 k hk) hB9.size) k h)) ((hpa0_0.below hB9 hX0).wide (fun k hk => (.inl hk))) ((hpa1_0.below hB9 hX0).wide (fun k hk => (.inr hk))) r7 hr8) ?_
 rintro v12 w10 ⟨hg11, rfl⟩
 refine gv_new0 (fun b => .pointer (some ⟨b, 0, none⟩)) #[(.int .i64 0), (.int .i64 0)] 29 (by kernel_rfl) (by kernel_rfl) ?_
 intro b13 w14 hg15 hb16 hbe17 hz18
 refine gv_store0 29 0 (.agg #[(.int .i64 r7.1), (.int .i64 r7.2)]) #[(.int .i64 r7.1), (.int .i64 r7.2)] hb16 (by kernel_rfl) (by kernel_rfl) (by kernel_rfl) ?_
 intro w19 hg20 hb21 hz22
 refine gv_nil <| gv_seq <| gv_region <| gv_pureN 1 [10] [(10, (bp b13))] (by kernel_rfl) ?_
 refine gv_load (t := 3) (A := ⟨b13, 0, none⟩) (.int .i64 r7.1) [] (fun e => by cases e) rfl rfl rfl (by kernel_rfl) (by kernel_rfl) (by kernel_rfl) (inw0 (hb21.cell 0 rfl)) rfl ?_
 refine gv_pureN 1 [12] [(12, (.bool (r7.1 != 0)))] (by kernel_rfl) ?_
 refine gv_nil <| gv_cond (b := (r7.1 != 0)) (by kernel_rfl) (fun hc23 => ?_) (fun hc23 => ?_)
 ·replace h0 := ite_t hc23 h0
  refine gv_seq <| gv_drawA (by kernel_rfl) ?_
  intro w24 hg25
  refine gv_pre [1] (bA 3 [1]) 2 (by kernel_rfl) (by kernel_rfl) ?_
  refine gv_pureN 1 [4] [(4, (.slice none (List.length ([] : List Int)) 0))] (by kernel_rfl) ?_
  refine gv_nil <| gv_goA ?_
  refine gv_stage (Cls w24 []) [0, 1] [(0, some true)] (bA 3 [0, 1]) 1 (by kernel_rfl) (by kernel_rfl) (Cls.refl _ _) ?_
  have hC26 := Cls.refl w24 []
  have hk27 := hb21.grown hg25 nb
  refine gv_loadBox (t := 29) (b := b13) (t' := 29) (fr := (0, 0)) #[(.int .i64 r7.1), (.int .i64 r7.2)] [] (fun e => by cases e) rfl rfl rfl (by kernel_rfl) (by kernel_rfl) (by kernel_rfl) (by kernel_rfl) (inw1 fun w' hC' => (hC'.box hk27 nm_nil)) rfl ?_
  refine gv_nil <| gv_goA ?_
  refine gv_stage (fun _ => True) [0, 1, 2] [(2, some false)] (bA 3 [0, 1, 2]) 0 (by kernel_rfl) (by kernel_rfl) trivial ?_
  have hg32 := (grown_trans hg11 hg15)
  have hk33 := hb4.grown hg11 nb
  have lt34 := ltl ((ltb hk33) _ rfl) ((lowb hbe17) _ rfl)
  have hk35 := ((hb4.grown hg32 nb).grown hg20 (rowne (ng lt34))).grown hg25 nb
  refine gv_store (t := 29) (b := b1) (off := 0) (v := (.agg #[(.int .i64 r7.1), (.int .i64 r7.2)])) (t' := 29) (cs := #[(.int .i64 0), (.int .i64 0)]) #[(.int .i64 r7.1), (.int .i64 r7.2)] (by decide) rfl rfl (by kernel_rfl) (by kernel_rfl) (by kernel_rfl) (by intro u hu; simp [Value.cells] at hu; rcases hu with rfl | rfl <;> rfl) (show 0 + 2 ≤ 2 by decide) (by rfl) hk35 ?_
  intro w28 hg29 hb30 hz31
  refine ⟨(fun _ => trivial), ?_⟩
  refine gv_nil <| gv_goA ?_
  refine gv_stageE (by kernel_rfl) ?_
  refine gv_cret ?_
  have e := sj h0; subst e
  refine gv_ret (gv_done [(.slice none (List.length ([] : List Int)) 0), (.agg #[(.int .i64 r7.1), (.int .i64 r7.2)])] rfl ⟨(by kernel_rfl), ⟨⟨b1, 0, none⟩, (by kernel_rfl), run_loadVar_row w28 b1 _ 29 _ _ _ hb30 Try.underlying29 rfl (by kernel_rfl)⟩, trivial⟩ ?_)
  have hB36 := bg hB9 hg32 nb
  have hB37 := bg hB9 hg11 nb
  have hlo38 : w0.heap.size ≤ b13 := lob hbe17 hB37.size
  have hB39 := bg hB36 hg20 (rowlo hlo38)
  have hB40 := bg hB39 hg25 nb
  have hlo41 : w0.heap.size ≤ b1 := lob hbe5 hB0.size
  have hB42 := bg hB40 hg29 (rowlo hlo41)
  exact ⟨grown_of_below hB42, none, 0, (fun _ => False), rfl, (Rd.nil (iE .u32) w28 (fun _ => False) none 0), (fun k hk => ⟨(fun _ h => h.elim) k hk, (fun _ h => h.elim) k hk⟩)⟩
 ·replace h0 := ite_f hc23 h0
  refine gv_skip <| gv_seq <| gv_region <| gv_pureN 2 [14, 15] [(14, (.slice pa0_0 (List.length a_0) pc0_0)), (15, (.slice pa1_0 (List.length b_1) pc1_0))] (by kernel_rfl) ?_
  refine bindE h0 ?_; clear h0; intro r43 hr44 h0
  have hg45 := (grown_trans hg11 hg15)
  have hB46 := bg hB9 hg45 nb
  have hB47 := bg hB9 hg11 nb
  have hlo48 : w0.heap.size ≤ b13 := lob hbe17 hB47.size
  have hB49 := bg hB46 hg20 (rowlo hlo48)
  refine gv_call0 (by kernel_rfl) rfl (by kernel_rfl) enters79 (natural_add_ok fuel pa0_0 pc0_0 a_0 pa1_0 pc1_0 b_1 w19 (fun k => X0 k ∨ X0 k) (fun k hk => (hk).elim (fun h => (fun k (hk : X0 k) => ltl (hX0 k hk) hB49.size) k h) (fun h => (fun k (hk : X0 k) => ltl (hX0 k hk) hB49.size) k h)) ((hpa0_0.below hB49 hX0).wide (fun k hk => (.inl hk))) ((hpa1_0.below hB49 hX0).wide (fun k hk => (.inr hk))) r43 hr44) ?_
  rintro v52 w50 ⟨hg51, a53, c54, X56, rfl, ho55, hx57⟩
  have hx58 : ∀ k, X56 k → k < w50.heap.size := fun k hk => (hx57 k hk).1
  have hx59 : ∀ k, X56 k → X0 k ∨ w0.heap.size ≤ k := fun k hk => (hx57 k hk).2.elim (fun h => (h).elim (fun h => (fun k (hk : X0 k) => Or.inl hk) k h) (fun h => (fun k (hk : X0 k) => Or.inl hk) k h)) (fun h => .inr (Nat.le_trans hB49.size h))
  refine bindE h0 ?_; clear h0; intro r60 hr61 h0
  refine gv_call0 (by kernel_rfl) rfl (by kernel_rfl) enters78 (natural_fit_ok fuel a53 c54 r43 w50 (fun k => X56 k) (fun k hk => hx58 k hk) (ho55.wide (fun k hk => hk)) r60 hr61) ?_
  rintro v64 w62 ⟨hg63, a65, c66, X68, rfl, ho67, hx69⟩
  have hx70 : ∀ k, X68 k → k < w62.heap.size := fun k hk => (hx69 k hk).1
  have hB72 := bg hB49 hg51 nb
  have hx71 : ∀ k, X68 k → X0 k ∨ w0.heap.size ≤ k := fun k hk => (hx69 k hk).2.elim (fun h => hx59 k h) (fun h => .inr (Nat.le_trans hB72.size h))
  clear hr61 hx59 hx58 ho55 hB49 hlo48 hB47 hB46 hg45 hr44 hc23 hz22 hb21 hz18 hb16 hB9 hr8 hz6 hg3
  refine gv_pureN 3 [4, 18, 19] [(4, (.slice a65 (List.length r60.1) c66)), (19, (.agg #[(.int .i64 r60.2.1), (.int .i64 r60.2.2)]))] (by kernel_rfl) ?_
  have hg77 := (grown_trans hg11 hg15)
  have hk78 := hb4.grown hg11 nb
  have lt79 := ltl ((ltb hk78) _ rfl) ((lowb hbe17) _ rfl)
  have hg80 := (grown_trans hg51 hg63)
  have hk81 := ((hb4.grown hg77 nb).grown hg20 (rowne (ng lt79))).grown hg80 nb
  refine gv_store0 29 0 (.agg #[(.int .i64 r60.2.1), (.int .i64 r60.2.2)]) #[(.int .i64 r60.2.1), (.int .i64 r60.2.2)] hk81 (by kernel_rfl) (by kernel_rfl) (by kernel_rfl) ?_
  intro w73 hg74 hb75 hz76
  refine gv_nil <| gv_cret ?_
  have e := sj h0; subst e
  refine gv_ret (gv_done [(.slice a65 (List.length r60.1) c66), (.agg #[(.int .i64 r60.2.1), (.int .i64 r60.2.2)])] rfl ⟨(by kernel_rfl), ⟨⟨b1, 0, none⟩, (by kernel_rfl), run_loadVar_row w73 b1 _ 29 _ _ _ hb75 Try.underlying29 rfl (by kernel_rfl)⟩, trivial⟩ ?_)
  have hB82 := bg hB72 hg63 nb
  have hlo83 : w0.heap.size ≤ b1 := lob hbe5 hB0.size
  have hB84 := bg hB82 hg74 (rowlo hlo83)
  have hk85 := (hk78.grown hg15 nb).grown hg20 (rowne (ng lt79))
  have ap86 : ¬ X56 b1 := fun h => ((hx57 _ h).2.elim (fun h => (h).elim (fun h => ((fun (hx : X0 b1) => nl hlo83 (hX0 _ hx)))  h) (fun h => ((fun (hx : X0 b1) => nl hlo83 (hX0 _ hx)))  h)) (fun h => nl h (hk85.lt)))
  have hk87 := hk85.grown hg51 nb
  have ap88 : ¬ X68 b1 := fun h => ((hx69 _ h).2.elim (fun h => (ap86)  h) (fun h => nl h (hk87.lt)))
  have hk89 := ho67.grown hg74 hx70 (rowne ap88)
  have hx90 := ltx hx70 hg74.size
  exact ⟨grown_of_below hB84, a65, c66, X68, rfl, hk89, (fun k hk => ⟨hx90 k hk, hx71 k hk⟩)⟩

theorem integer_signed_ok (fuel : Nat) (neg_0 : Bool) (pa1_0 : Option Addr) (pc1_0 : Nat) (limbs_1 : (List Int)) (w0 : World) (X0 : Nat → Prop) (hX0 : ∀ k, X0 k → k < w0.heap.size) (hpa1_0 : Rd (iE .u32) w0 X0 pa1_0 pc1_0 limbs_1) (r0 : ((Bool × (List Int)) × (Int × Int))) (h0 : integer_signed fuel neg_0 limbs_1 = some r0) :
    Calls Try.prog 73 ([(.bool neg_0), (.slice pa1_0 (List.length limbs_1) pc1_0)] : List Value).toArray w0 (Ret fun v w' => w0.grownBy w' none ∧ ∃ (a0_0r : Option Addr) (c0_0r : Nat), ∃ (X0_0r : Nat → Prop), v = tup [(.agg #[(.bool r0.1.1), (.slice a0_0r (List.length r0.1.2) c0_0r)]), (.agg #[(.int .i64 r0.2.1), (.int .i64 r0.2.2)])] ∧ Rd (iE .u32) w' X0_0r a0_0r c0_0r r0.1.2 ∧ (∀ k, X0_0r k → k < w'.heap.size ∧ (X0 k ∨ w0.heap.size ≤ k))) := by
 have hB0 : Below w0.heap.size w0 w0 := Below.refl _ _
 unfold integer_signed at h0
 refine calls_run Try.func73 rfl Try.ntmps73 (by kernel_rfl) ?_
 refine gv_sub [0, 1] (σ' := [(0, (.bool neg_0)), (1, (.slice pa1_0 (List.length limbs_1) pc1_0))]) (by kernel_rfl) ?_
 refine gv_seq <| gv_region <| gv_new0 (fun b => .pointer (some ⟨b, 0, none⟩)) #[(.bool false), (.slice none (List.length ([] : List Int)) 0)] 24 (by kernel_rfl) (by kernel_rfl) ?_
 intro b1 w2 hg3 hb4 hbe5 hz6
 refine gv_new0 (fun b => .pointer (some ⟨b, 0, none⟩)) #[(.int .i64 0), (.int .i64 0)] 29 (by kernel_rfl) (by kernel_rfl) ?_
 intro b7 w8 hg9 hb10 hbe11 hz12
 refine gv_nil <| gv_seq <| gv_seq <| gv_region <| gv_pureN 3 [6, 7, 8] [(8, (.bool (decide (((List.length limbs_1 : Nat) : Int) > 128))))] (by kernel_rfl) ?_
 refine gv_nil <| gv_cond (b := (decide (((List.length limbs_1 : Nat) : Int) > 128))) (by kernel_rfl) (fun hc13 => ?_) (fun hc13 => ?_)
 ·replace h0 := ite_t hc13 h0
  refine gv_seq <| gv_region <| gv_pureN 1 [9] [(9, (.agg #[(.bool false), (.slice none (List.length ([] : List Int)) 0)]))] (by kernel_rfl) ?_
  refine bindE h0 ?_; clear h0; intro r14 hr15 h0
  refine gv_call0 (by kernel_rfl) rfl (by kernel_rfl) enters69 (integer_at_ok fuel 14 (-1) w8  r14 hr15) ?_
  rintro v18 w16 ⟨hg17, rfl⟩
  have hg23 := (grown_trans hg9 hg17)
  have hk24 := hb4.grown hg23 nb
  refine gv_store0 24 0 (.agg #[(.bool false), (.slice none (List.length ([] : List Int)) 0)]) #[(.bool false), (.slice none (List.length ([] : List Int)) 0)] hk24 (by kernel_rfl) (by kernel_rfl) (by kernel_rfl) ?_
  intro w19 hg20 hb21 hz22
  have lt29 := ltl ((ltb hb4) _ rfl) ((lowb hbe11) _ rfl)
  have hk30 := (hb10.grown hg17 nb).grown hg20 (rowne (Nat.ne_of_lt lt29))
  refine gv_store0 29 0 (.agg #[(.int .i64 r14.1), (.int .i64 r14.2)]) #[(.int .i64 r14.1), (.int .i64 r14.2)] hk30 (by kernel_rfl) (by kernel_rfl) (by kernel_rfl) ?_
  intro w25 hg26 hb27 hz28
  refine gv_nil <| gv_cret ?_
  have e := sj h0; subst e
  have hk31 := hb21.grown hg26 (rowne (ng lt29))
  refine gv_ret (gv_done [(.agg #[(.bool false), (.slice none (List.length ([] : List Int)) 0)]), (.agg #[(.int .i64 r14.1), (.int .i64 r14.2)])] rfl ⟨⟨⟨b1, 0, none⟩, (by kernel_rfl), run_loadVar_row w25 b1 _ 24 _ _ _ hk31 Try.underlying24 rfl (by kernel_rfl)⟩, ⟨⟨b7, 0, none⟩, (by kernel_rfl), run_loadVar_row w25 b7 _ 29 _ _ _ hb27 Try.underlying29 rfl (by kernel_rfl)⟩, trivial⟩ ?_)
  have hg32 := (grown_trans hg3 hg23)
  have hB33 := bg hB0 hg32 nb
  have hlo34 : w0.heap.size ≤ b1 := lob hbe5 hB0.size
  have hB35 := bg hB33 hg20 (rowlo hlo34)
  have hB36 := bg hB0 hg3 nb
  have hlo37 : w0.heap.size ≤ b7 := lob hbe11 hB36.size
  have hB38 := bg hB35 hg26 (rowlo hlo37)
  exact ⟨grown_of_below hB38, none, 0, (fun _ => False), rfl, (Rd.nil (iE .u32) w25 (fun _ => False) none 0), (fun k hk => ⟨(fun _ h => h.elim) k hk, (fun _ h => h.elim) k hk⟩)⟩
 ·replace h0 := ite_f hc13 h0
  refine gv_skip <| gv_seq <| gv_region <| bindE h0 ?_; clear h0; intro j39 h1 h0
  refine gv_cut_ops (J := fun a w40 => ∃ (abb1_0j : Option Addr) (cbb1_0j : Nat), Below w0.heap.size w0 w40 ∧ w8.heap.size ≤ w40.heap.size ∧ Rd (iE .u32) w0 X0 abb1_0j cbb1_0j j39.1.2 ∧ Box w40 b1 24 #[(.bool j39.1.1), (.slice abb1_0j (List.length j39.1.2) cbb1_0j)] ∧ Box w40 b7 29 #[(.int .i64 j39.2.1), (.int .i64 j39.2.2)] ∧ a.defers = [] ∧ a.tmps.size = 20 ∧ Ok [(4, (bp b1)), (5, (bp b7))] a.tmps) ?_ ?_
  ·skip
   refine gv_pureN 2 [11, 12] [(12, (.bool neg_0))] (by kernel_rfl) ?_
   refine gv_split (s := 12) (g := neg_0) (by kernel_rfl) (fun hc41 => ?_) (fun hc41 => ?_)
   ·skip
    replace h1 := ite_t hc41 h1
    refine gv_pureN 7 [13, 14, 15, 16, 17, 18, 19] [(18, (.agg #[(.bool (decide (((List.length limbs_1 : Nat) : Int) > 0))), (.slice pa1_0 (List.length limbs_1) pc1_0)])), (19, (.agg #[(.int .i64 0), (.int .i64 0)]))] (by kernel_rfl) ?_
    have hk46 := hb4.grown hg9 nb
    refine gv_store0 24 0 (.agg #[(.bool (decide (((List.length limbs_1 : Nat) : Int) > 0))), (.slice pa1_0 (List.length limbs_1) pc1_0)]) #[(.bool (decide (((List.length limbs_1 : Nat) : Int) > 0))), (.slice pa1_0 (List.length limbs_1) pc1_0)] hk46 (by kernel_rfl) (by kernel_rfl) (by kernel_rfl) ?_
    intro w42 hg43 hb44 hz45
    have lt51 := ltl ((ltb hb4) _ rfl) ((lowb hbe11) _ rfl)
    have hk52 := hb10.grown hg43 (rowne (Nat.ne_of_lt lt51))
    refine gv_store0 29 0 (.agg #[(.int .i64 0), (.int .i64 0)]) #[(.int .i64 0), (.int .i64 0)] hk52 (by kernel_rfl) (by kernel_rfl) (by kernel_rfl) ?_
    intro w47 hg48 hb49 hz50
    refine gv_nil ?_
    have e := sj h1; subst e
    refine gv_goal fun a hd hs hok => ?_
    have hg53 := (grown_trans hg3 hg9)
    have hB54 := bg hB0 hg53 nb
    have hlo55 : w0.heap.size ≤ b1 := lob hbe5 hB0.size
    have hB56 := bg hB54 hg43 (rowlo hlo55)
    have hB57 := bg hB0 hg3 nb
    have hlo58 : w0.heap.size ≤ b7 := lob hbe11 hB57.size
    have hB59 := bg hB56 hg48 (rowlo hlo58)
    have hz60 := (nt hg43.size hg48.size)
    have hk61 := hb44.grown hg48 (rowne (ng lt51))
    exact ⟨pa1_0, pc1_0, hB59, hz60, hpa1_0, hk61, hb49, hd, hs, ok_pick [4, 5] hok (by kernel_rfl)⟩
   ·skip
    replace h1 := ite_f hc41 h1
    refine gv_pureN 7 [13, 14, 15, 16, 17, 18, 19] [(18, (.agg #[(.bool false), (.slice pa1_0 (List.length limbs_1) pc1_0)])), (19, (.agg #[(.int .i64 0), (.int .i64 0)]))] (by kernel_rfl) ?_
    have hk66 := hb4.grown hg9 nb
    refine gv_store0 24 0 (.agg #[(.bool false), (.slice pa1_0 (List.length limbs_1) pc1_0)]) #[(.bool false), (.slice pa1_0 (List.length limbs_1) pc1_0)] hk66 (by kernel_rfl) (by kernel_rfl) (by kernel_rfl) ?_
    intro w62 hg63 hb64 hz65
    clear hz65 hk66 hc41 hc13 hz12 hz6
    have lt71 := ltl ((ltb hb4) _ rfl) ((lowb hbe11) _ rfl)
    have hk72 := hb10.grown hg63 (rowne (Nat.ne_of_lt lt71))
    refine gv_store0 29 0 (.agg #[(.int .i64 0), (.int .i64 0)]) #[(.int .i64 0), (.int .i64 0)] hk72 (by kernel_rfl) (by kernel_rfl) (by kernel_rfl) ?_
    intro w67 hg68 hb69 hz70
    refine gv_nil ?_
    have e := sj h1; subst e
    refine gv_goal fun a hd hs hok => ?_
    have hg73 := (grown_trans hg3 hg9)
    have hB74 := bg hB0 hg73 nb
    have hlo75 : w0.heap.size ≤ b1 := lob hbe5 hB0.size
    have hB76 := bg hB74 hg63 (rowlo hlo75)
    have hB77 := bg hB0 hg3 nb
    have hlo78 : w0.heap.size ≤ b7 := lob hbe11 hB77.size
    have hB79 := bg hB76 hg68 (rowlo hlo78)
    have hz80 := (nt hg63.size hg68.size)
    have hk81 := hb64.grown hg68 (rowne (ng lt71))
    exact ⟨pa1_0, pc1_0, hB79, hz80, hpa1_0, hk81, hb69, hd, hs, ok_pick [4, 5] hok (by kernel_rfl)⟩
  ·rintro a w40 ⟨a84, c85, hB82, hz83, hp86, hb87, hb88, hd, hs, hok⟩
   refine gv_in ?_ hd hs hok
   clear hd hs hok
   clear hz83 hc13 hz12 hb10 hg9 hz6
   refine gv_cret ?_
   have e := sj h0; subst e
   refine gv_ret (gv_done [(.agg #[(.bool j39.1.1), (.slice a84 (List.length j39.1.2) c85)]), (.agg #[(.int .i64 j39.2.1), (.int .i64 j39.2.2)])] rfl ⟨⟨⟨b1, 0, none⟩, (by kernel_rfl), run_loadVar_row w40 b1 _ 24 _ _ _ hb87 Try.underlying24 rfl (by kernel_rfl)⟩, ⟨⟨b7, 0, none⟩, (by kernel_rfl), run_loadVar_row w40 b7 _ 29 _ _ _ hb88 Try.underlying29 rfl (by kernel_rfl)⟩, trivial⟩ ?_)
   exact ⟨grown_of_below hB82, a84, c85, X0, rfl, (hp86.below hB82 hX0), (fun k hk => ⟨(fun k (hk : X0 k) => ltl (hX0 k hk) hB82.size) k hk, (fun k (hk : X0 k) => Or.inl hk) k hk⟩)⟩

theorem natural_compare_ok (fuel : Nat) (pa0_0 : Option Addr) (pc0_0 : Nat) (a_0 : (List Int)) (pa1_0 : Option Addr) (pc1_0 : Nat) (b_1 : (List Int)) (w0 : World) (X0 : Nat → Prop) (hX0 : ∀ k, X0 k → k < w0.heap.size) (hpa0_0 : Rd (iE .u32) w0 X0 pa0_0 pc0_0 a_0) (hpa1_0 : Rd (iE .u32) w0 X0 pa1_0 pc1_0 b_1) (r0 : Int) (h0 : natural_compare fuel a_0 b_1 = some r0) :
    Calls Try.prog 71 ([(.slice pa0_0 (List.length a_0) pc0_0), (.slice pa1_0 (List.length b_1) pc1_0)] : List Value).toArray w0 (Ret fun v w' => w0.grownBy w' none ∧ v = tup [(.int .i64 r0)]) := by
 have hB0 : Below w0.heap.size w0 w0 := Below.refl _ _
 unfold natural_compare at h0
 refine calls_run Try.func71 rfl Try.ntmps71 (by kernel_rfl) ?_
 refine gv_sub [0, 1] (σ' := [(0, (.slice pa0_0 (List.length a_0) pc0_0)), (1, (.slice pa1_0 (List.length b_1) pc1_0))]) (by kernel_rfl) ?_
 refine gv_seq <| gv_region <| gv_pureN 1 [4] [] (by kernel_rfl) ?_
 refine gv_nil <| gv_seq <| gv_seq <| gv_region <| gv_pureN 5 [6, 7, 8, 9, 10] [(10, (.bool (((List.length a_0 : Nat) : Int) != ((List.length b_1 : Nat) : Int))))] (by kernel_rfl) ?_
 refine gv_nil <| gv_cond (b := (((List.length a_0 : Nat) : Int) != ((List.length b_1 : Nat) : Int))) (by kernel_rfl) (fun hc1 => ?_) (fun hc1 => ?_)
 ·replace h0 := ite_t hc1 h0
  refine gv_seq <| gv_region <| gv_pureN 6 [4, 11, 12, 13, 14, 15] [(4, (.int .i64 (IntKind.i64.wrap (((List.length a_0 : Nat) : Int) - ((List.length b_1 : Nat) : Int)))))] (by kernel_rfl) ?_
  refine bindE h0 ?_; clear h0; intro n2 hn3 h0
  refine gv_name (s := 4) (v := (.int .i64 (IntKind.i64.wrap (((List.length a_0 : Nat) : Int) - ((List.length b_1 : Nat) : Int))))) (v' := (.int .i64 n2)) (by kernel_rfl) (congrArg (Value.int .i64) (sj hn3)) ?_
  refine gv_nil <| gv_cret ?_
  have e := sj h0; subst e
  refine gv_ret (gv_done [(.int .i64 n2)] rfl ⟨(by kernel_rfl), trivial⟩ ?_)
  exact ⟨grown_of_below hB0, rfl⟩
 ·replace h0 := ite_f hc1 h0
  refine gv_skip <| gv_seq <| gv_seq <| gv_region <| gv_pureN 4 [5, 16, 17, 18] [(5, (.int .i64 (IntKind.i64.wrap (((List.length a_0 : Nat) : Int) - 1))))] (by kernel_rfl) ?_
  refine bindE h0 ?_; clear h0; intro n4 hn5 h0
  refine gv_name (s := 5) (v := (.int .i64 (IntKind.i64.wrap (((List.length a_0 : Nat) : Int) - 1)))) (v' := (.int .i64 n4)) (by kernel_rfl) (congrArg (Value.int .i64) (sj hn5)) ?_
  refine gv_nil <| bindE h0 ?_; clear h0; intro j6 h1 h0
  refine gv_cut_code (J := fun a w8 => ∃ s7 : Unit, j6 = .inl s7 ∧ Below w0.heap.size w0 w8 ∧ w0.heap.size ≤ w8.heap.size ∧ a.defers = [] ∧ a.tmps.size = 41 ∧ Ok [] a.tmps) ?_ ?_
  ·skip
   refine gv_block <| gv_loop (A := fun (s9 : Int) a w10 => Below w0.heap.size w0 w10 ∧ w0.heap.size ≤ w10.heap.size ∧ a.defers = [] ∧ a.tmps.size = 41 ∧ Ok [(0, (.slice pa0_0 (List.length a_0) pc0_0)), (1, (.slice pa1_0 (List.length b_1) pc1_0)), (5, (.int .i64 s9))] a.tmps) h1 ?_ ?_
   ·intro a hd hs hok
    exact ⟨hB0, (Nat.le_refl _), hd, hs, ok_pick [0, 1, 5] hok (by kernel_rfl)⟩
   ·rintro s9 r2 h2 hR2 a w10 ⟨hB11, hz12, hd, hs, hok⟩
    refine gv_in ?_ hd hs hok
    clear hd hs hok
    refine gv_seq <| gv_seq <| gv_region <| gv_pureN 2 [19, 20] [(20, (.bool (decide (s9 ≥ 0))))] (by kernel_rfl) ?_
    refine gv_nil <| gv_cond (b := (decide (s9 ≥ 0))) (by kernel_rfl) (fun hc13 => ?_) (fun hc13 => ?_)
    ·replace h2 := ite_t hc13 h2
     refine gv_skip <| gv_seq <| gv_block <| gv_seq <| gv_drawA (by kernel_rfl) ?_
     intro w14 hg15
     refine gv_pre [0, 1, 2, 4, 5, 6] (bA 9 [0, 1, 2, 4, 5, 6]) 3 (by kernel_rfl) (by kernel_rfl) ?_
     refine gv_pureN 2 [23, 24] [(23, (.slice pa0_0 (List.length a_0) pc0_0)), (24, (.int .i64 s9))] (by kernel_rfl) ?_
     refine bindE h2 ?_; clear h2; intro x16 hx17 h2
     have hB18 := bg hB11 hg15 nb
     refine gv_idxaddr (t := 22) (e := 76) (a := pa0_0) (len := List.length a_0) (cap := pc0_0) (kk := .i64) (i := s9) (sz := 1) [] (fun e => by cases e) rfl rfl rfl (by kernel_rfl) (by kernel_rfl) Try.underlying22 (by kernel_rfl) ((hpa0_0.below hB18 hX0).has hx17) (idx_spec hx17).1 (idx_spec hx17).2.1 rfl ?_
     refine gv_pureN 2 [27, 28] [(27, (.slice pa1_0 (List.length b_1) pc1_0)), (28, (.int .i64 s9))] (by kernel_rfl) ?_
     refine bindE h2 ?_; clear h2; intro x19 hx20 h2
     refine gv_idxaddr (t := 22) (e := 76) (a := pa1_0) (len := List.length b_1) (cap := pc1_0) (kk := .i64) (i := s9) (sz := 1) [] (fun e => by cases e) rfl rfl rfl (by kernel_rfl) (by kernel_rfl) Try.underlying22 (by kernel_rfl) ((hpa1_0.below hB18 hX0).has hx20) (idx_spec hx20).1 (idx_spec hx20).2.1 rfl ?_
     refine gv_nil <| gv_goA ?_
     refine gv_stage (Cls w14 []) [0, 1, 2, 3, 4, 5, 6, 7] [(3, some true), (7, some true)] (bA 9 [0, 1, 2, 3, 4, 5, 6, 7]) 1 (by kernel_rfl) (by kernel_rfl) (Cls.refl _ _) ?_
     have hC21 := Cls.refl w14 []
     refine gv_load (t := 76) (A := (elemAddr pa0_0 ((s9).toNat * 1))) (.int .u32 x16) [] (fun e => by cases e) rfl rfl rfl (by kernel_rfl) (by kernel_rfl) (by kernel_rfl) (inw1 fun w' hC' => ((hC'.rd (hpa0_0.below hB18 hX0) (fun k (hk : X0 k) => ltl (hX0 k hk) hB18.size) nmx_nil).cell hx17)) rfl ?_
     refine gv_load (t := 76) (A := (elemAddr pa1_0 ((s9).toNat * 1))) (.int .u32 x19) [] (fun e => by cases e) rfl rfl rfl (by kernel_rfl) (by kernel_rfl) (by kernel_rfl) (inw1 fun w' hC' => ((hC'.rd (hpa1_0.below hB18 hX0) (fun k (hk : X0 k) => ltl (hX0 k hk) hB18.size) nmx_nil).cell hx20)) rfl ?_
     refine gv_nil <| gv_goA ?_
     refine gv_pre [8] (bA 9 [0, 1, 2, 3, 4, 5, 6, 7, 8]) 0 (by kernel_rfl) (by kernel_rfl) ?_
     refine gv_pureN 1 [31] [(31, (.bool (x16 != x19)))] (by kernel_rfl) ?_
     refine gv_nil <| gv_goA ?_
     refine gv_stageE (by kernel_rfl) ?_
     refine gv_cond (b := (x16 != x19)) (by kernel_rfl) (fun hc22 => ?_) (fun hc22 => ?_)
     ·replace h2 := ite_t hc22 h2
      refine gv_seq <| gv_seq <| gv_drawA (by kernel_rfl) ?_
      intro w23 hg24
      refine gv_pre [0, 1, 2, 4, 5, 6] (bA 9 [0, 1, 2, 4, 5, 6]) 3 (by kernel_rfl) (by kernel_rfl) ?_
      refine gv_pureN 2 [32, 33] [(32, (.slice pa0_0 (List.length a_0) pc0_0)), (33, (.int .i64 s9))] (by kernel_rfl) ?_
      refine bindE h2 ?_; clear h2; intro x25 hx26 h2
      have hB27 := bg hB18 hg24 nb
      refine gv_idxaddr (t := 22) (e := 76) (a := pa0_0) (len := List.length a_0) (cap := pc0_0) (kk := .i64) (i := s9) (sz := 1) [] (fun e => by cases e) rfl rfl rfl (by kernel_rfl) (by kernel_rfl) Try.underlying22 (by kernel_rfl) ((hpa0_0.below hB27 hX0).has hx26) (idx_spec hx26).1 (idx_spec hx26).2.1 rfl ?_
      refine gv_pureN 2 [36, 37] [(36, (.slice pa1_0 (List.length b_1) pc1_0)), (37, (.int .i64 s9))] (by kernel_rfl) ?_
      refine bindE h2 ?_; clear h2; intro x28 hx29 h2
      refine gv_idxaddr (t := 22) (e := 76) (a := pa1_0) (len := List.length b_1) (cap := pc1_0) (kk := .i64) (i := s9) (sz := 1) [] (fun e => by cases e) rfl rfl rfl (by kernel_rfl) (by kernel_rfl) Try.underlying22 (by kernel_rfl) ((hpa1_0.below hB27 hX0).has hx29) (idx_spec hx29).1 (idx_spec hx29).2.1 rfl ?_
      refine gv_nil <| gv_goA ?_
      refine gv_stage (Cls w23 []) [0, 1, 2, 3, 4, 5, 6, 7] [(3, some true), (7, some true)] (bA 9 [0, 1, 2, 3, 4, 5, 6, 7]) 1 (by kernel_rfl) (by kernel_rfl) (Cls.refl _ _) ?_
      have hC30 := Cls.refl w23 []
      refine gv_load (t := 76) (A := (elemAddr pa0_0 ((s9).toNat * 1))) (.int .u32 x25) [] (fun e => by cases e) rfl rfl rfl (by kernel_rfl) (by kernel_rfl) (by kernel_rfl) (inw1 fun w' hC' => ((hC'.rd (hpa0_0.below hB27 hX0) (fun k (hk : X0 k) => ltl (hX0 k hk) hB27.size) nmx_nil).cell hx26)) rfl ?_
      refine gv_load (t := 76) (A := (elemAddr pa1_0 ((s9).toNat * 1))) (.int .u32 x28) [] (fun e => by cases e) rfl rfl rfl (by kernel_rfl) (by kernel_rfl) (by kernel_rfl) (inw1 fun w' hC' => ((hC'.rd (hpa1_0.below hB27 hX0) (fun k (hk : X0 k) => ltl (hX0 k hk) hB27.size) nmx_nil).cell hx29)) rfl ?_
      refine gv_nil <| gv_goA ?_
      refine gv_pre [8] (bA 9 [0, 1, 2, 3, 4, 5, 6, 7, 8]) 0 (by kernel_rfl) (by kernel_rfl) ?_
      refine gv_pureN 1 [40] [(40, (.bool (decide (x25 < x28))))] (by kernel_rfl) ?_
      refine gv_sub [40] (σ' := [(40, (.bool (decide (x25 < x28))))]) (by kernel_rfl) ?_
      refine gv_nil <| gv_goA ?_
      refine gv_stageE (by kernel_rfl) ?_
      refine gv_cond (b := (decide (x25 < x28))) (by kernel_rfl) (fun hc31 => ?_) (fun hc31 => ?_)
      ·replace h2 := ite_t hc31 h2
       refine gv_seq <| gv_region <| gv_pureN 1 [4] [(4, (.int .i64 (-1)))] (by kernel_rfl) ?_
       refine gv_nil <| gv_cret ?_
       have e := sj h2; subst e
       replace h1 := congrArg some (hR2 _ rfl)
       have e := sj h1; subst e
       replace h0 := cont_inr h0
       have e := sj h0; subst e
       refine gv_ret (gv_done [(.int .i64 (-1))] rfl ⟨(by kernel_rfl), trivial⟩ ?_)
       exact ⟨grown_of_below hB27, rfl⟩
      ·replace h2 := ite_f hc31 h2
       refine gv_skip <| gv_seq <| gv_region <| gv_pureN 1 [4] [(4, (.int .i64 1))] (by kernel_rfl) ?_
       refine gv_nil <| gv_cret ?_
       have e := sj h2; subst e
       replace h1 := congrArg some (hR2 _ rfl)
       have e := sj h1; subst e
       replace h0 := cont_inr h0
       have e := sj h0; subst e
       refine gv_ret (gv_done [(.int .i64 1)] rfl ⟨(by kernel_rfl), trivial⟩ ?_)
       exact ⟨grown_of_below hB27, rfl⟩
     ·replace h2 := ite_f hc22 h2
      refine gv_skip <| gv_blk <| gv_region <| gv_pureN 3 [5, 21, 22] [(5, (.int .i64 (IntKind.i64.wrap (s9 - 1))))] (by kernel_rfl) ?_
      refine gv_nil ?_
      have e := sj h2; subst e
      refine gv_goal fun a hd hs hok => ?_
      have hz32 := (nt hz12 hg15.size)
      exact ⟨(IntKind.i64.wrap (s9 - 1)), rfl, hB18, hz32, hd, hs, ok_pick [0, 1, 5] hok (by kernel_rfl)⟩
    ·replace h2 := ite_f hc13 h2
     refine gv_cexit <| gv_exit rfl ?_
     have e := sj h2; subst e
     replace h1 := congrArg some (hR2 _ rfl)
     have e := sj h1; subst e
     refine gv_goal fun a hd hs hok => ?_
     have hz33 := hz12
     exact ⟨(), rfl, hB11, hz33, hd, hs, ok_pick [] hok (by kernel_rfl)⟩
  ·rintro a w8 ⟨s7, e, hB34, hz35, hd, hs, hok⟩
   subst e
   refine gv_in ?_ hd hs hok
   clear hd hs hok
   replace h0 := cont_inl h0
   refine gv_seq <| gv_region <| gv_pureN 1 [4] [(4, (.int .i64 0))] (by kernel_rfl) ?_
   refine gv_nil <| gv_cret ?_
   have e := sj h0; subst e
   refine gv_ret (gv_done [(.int .i64 0)] rfl ⟨(by kernel_rfl), trivial⟩ ?_)
   exact ⟨grown_of_below hB34, rfl⟩

theorem natural_Cmp_ok (fuel : Nat) (pa0_0 : Option Addr) (pc0_0 : Nat) (a_0 : (List Int)) (pa1_0 : Option Addr) (pc1_0 : Nat) (b_1 : (List Int)) (w0 : World) (X0 : Nat → Prop) (hX0 : ∀ k, X0 k → k < w0.heap.size) (hpa0_0 : Rd (iE .u32) w0 X0 pa0_0 pc0_0 a_0) (hpa1_0 : Rd (iE .u32) w0 X0 pa1_0 pc1_0 b_1) (r0 : (Int × (Int × Int))) (h0 : natural_Cmp fuel a_0 b_1 = some r0) :
    Calls Try.prog 63 ([(.slice pa0_0 (List.length a_0) pc0_0), (.slice pa1_0 (List.length b_1) pc1_0)] : List Value).toArray w0 (Ret fun v w' => w0.grownBy w' none ∧ v = tup [(.int .i64 r0.1), (.agg #[(.int .i64 r0.2.1), (.int .i64 r0.2.2)])]) := by
 have hB0 : Below w0.heap.size w0 w0 := Below.refl _ _
 unfold natural_Cmp at h0
 refine calls_run Try.func63 rfl Try.ntmps63 (by kernel_rfl) ?_
 refine gv_sub [0, 1] (σ' := [(0, (.slice pa0_0 (List.length a_0) pc0_0)), (1, (.slice pa1_0 (List.length b_1) pc1_0))]) (by kernel_rfl) ?_
 refine gv_seq <| gv_region <| gv_pureN 1 [4] [] (by kernel_rfl) ?_
 refine gv_new0 (fun b => .pointer (some ⟨b, 0, none⟩)) #[(.int .i64 0), (.int .i64 0)] 29 (by kernel_rfl) (by kernel_rfl) ?_
 intro b1 w2 hg3 hb4 hbe5 hz6
 refine gv_nil <| gv_seq <| gv_seq <| gv_region <| gv_pureN 2 [7, 8] [(7, (.slice pa0_0 (List.length a_0) pc0_0)), (8, (.slice pa1_0 (List.length b_1) pc1_0))] (by kernel_rfl) ?_
 refine bindE h0 ?_; clear h0; intro r7 hr8 h0
 have hB9 := bg hB0 hg3 nb
 refine gv_call0 (by kernel_rfl) rfl (by kernel_rfl) enters70 (natural_check_ok fuel pa0_0 pc0_0 a_0 pa1_0 pc1_0 b_1 w2 (fun k => X0 k ∨ X0 k) (fun k hk => (hk).elim (fun h => (fun k (hk : X0 k) => ltl (hX0 k hk) hB9.size) k h) (fun h => (fun k (hk : X0 k) => ltl (hX0 k hk) hB9.size) k h)) ((hpa0_0.below hB9 hX0).wide (fun k hk => (.inl hk))) ((hpa1_0.below hB9 hX0).wide (fun k hk => (.inr hk))) r7 hr8) ?_
 rintro v12 w10 ⟨hg11, rfl⟩
 refine gv_new0 (fun b => .pointer (some ⟨b, 0, none⟩)) #[(.int .i64 0), (.int .i64 0)] 29 (by kernel_rfl) (by kernel_rfl) ?_
 intro b13 w14 hg15 hb16 hbe17 hz18
 refine gv_store0 29 0 (.agg #[(.int .i64 r7.1), (.int .i64 r7.2)]) #[(.int .i64 r7.1), (.int .i64 r7.2)] hb16 (by kernel_rfl) (by kernel_rfl) (by kernel_rfl) ?_
 intro w19 hg20 hb21 hz22
 refine gv_nil <| gv_seq <| gv_region <| gv_pureN 1 [10] [(10, (bp b13))] (by kernel_rfl) ?_
 refine gv_load (t := 3) (A := ⟨b13, 0, none⟩) (.int .i64 r7.1) [] (fun e => by cases e) rfl rfl rfl (by kernel_rfl) (by kernel_rfl) (by kernel_rfl) (inw0 (hb21.cell 0 rfl)) rfl ?_
 refine gv_pureN 1 [12] [(12, (.bool (r7.1 != 0)))] (by kernel_rfl) ?_
 refine gv_nil <| gv_cond (b := (r7.1 != 0)) (by kernel_rfl) (fun hc23 => ?_) (fun hc23 => ?_)
 ·replace h0 := ite_t hc23 h0
  refine gv_seq <| gv_drawA (by kernel_rfl) ?_
  intro w24 hg25
  refine gv_pre [1] (bA 3 [1]) 2 (by kernel_rfl) (by kernel_rfl) ?_
  refine gv_pureN 1 [4] [(4, (.int .i64 0))] (by kernel_rfl) ?_
  refine gv_nil <| gv_goA ?_
  refine gv_stage (Cls w24 []) [0, 1] [(0, some true)] (bA 3 [0, 1]) 1 (by kernel_rfl) (by kernel_rfl) (Cls.refl _ _) ?_
  have hC26 := Cls.refl w24 []
  have hk27 := hb21.grown hg25 nb
  refine gv_loadBox (t := 29) (b := b13) (t' := 29) (fr := (0, 0)) #[(.int .i64 r7.1), (.int .i64 r7.2)] [] (fun e => by cases e) rfl rfl rfl (by kernel_rfl) (by kernel_rfl) (by kernel_rfl) (by kernel_rfl) (inw1 fun w' hC' => (hC'.box hk27 nm_nil)) rfl ?_
  refine gv_nil <| gv_goA ?_
  refine gv_stage (fun _ => True) [0, 1, 2] [(2, some false)] (bA 3 [0, 1, 2]) 0 (by kernel_rfl) (by kernel_rfl) trivial ?_
  have hg32 := (grown_trans hg11 hg15)
  have hk33 := hb4.grown hg11 nb
  have lt34 := ltl ((ltb hk33) _ rfl) ((lowb hbe17) _ rfl)
  have hk35 := ((hb4.grown hg32 nb).grown hg20 (rowne (ng lt34))).grown hg25 nb
  refine gv_store (t := 29) (b := b1) (off := 0) (v := (.agg #[(.int .i64 r7.1), (.int .i64 r7.2)])) (t' := 29) (cs := #[(.int .i64 0), (.int .i64 0)]) #[(.int .i64 r7.1), (.int .i64 r7.2)] (by decide) rfl rfl (by kernel_rfl) (by kernel_rfl) (by kernel_rfl) (by intro u hu; simp [Value.cells] at hu; rcases hu with rfl | rfl <;> rfl) (show 0 + 2 ≤ 2 by decide) (by rfl) hk35 ?_
  intro w28 hg29 hb30 hz31
  refine ⟨(fun _ => trivial), ?_⟩
  refine gv_nil <| gv_goA ?_
  refine gv_stageE (by kernel_rfl) ?_
  refine gv_cret ?_
  have e := sj h0; subst e
  refine gv_ret (gv_done [(.int .i64 0), (.agg #[(.int .i64 r7.1), (.int .i64 r7.2)])] rfl ⟨(by kernel_rfl), ⟨⟨b1, 0, none⟩, (by kernel_rfl), run_loadVar_row w28 b1 _ 29 _ _ _ hb30 Try.underlying29 rfl (by kernel_rfl)⟩, trivial⟩ ?_)
  have hB36 := bg hB9 hg32 nb
  have hB37 := bg hB9 hg11 nb
  have hlo38 : w0.heap.size ≤ b13 := lob hbe17 hB37.size
  have hB39 := bg hB36 hg20 (rowlo hlo38)
  have hB40 := bg hB39 hg25 nb
  have hlo41 : w0.heap.size ≤ b1 := lob hbe5 hB0.size
  have hB42 := bg hB40 hg29 (rowlo hlo41)
  exact ⟨grown_of_below hB42, rfl⟩
 ·replace h0 := ite_f hc23 h0
  refine gv_skip <| gv_seq <| gv_region <| gv_pureN 2 [14, 15] [(14, (.slice pa0_0 (List.length a_0) pc0_0)), (15, (.slice pa1_0 (List.length b_1) pc1_0))] (by kernel_rfl) ?_
  refine bindE h0 ?_; clear h0; intro r43 hr44 h0
  have hg45 := (grown_trans hg11 hg15)
  have hB46 := bg hB9 hg45 nb
  have hB47 := bg hB9 hg11 nb
  have hlo48 : w0.heap.size ≤ b13 := lob hbe17 hB47.size
  have hB49 := bg hB46 hg20 (rowlo hlo48)
  refine gv_call0 (by kernel_rfl) rfl (by kernel_rfl) enters71 (natural_compare_ok fuel pa0_0 pc0_0 a_0 pa1_0 pc1_0 b_1 w19 (fun k => X0 k ∨ X0 k) (fun k hk => (hk).elim (fun h => (fun k (hk : X0 k) => ltl (hX0 k hk) hB49.size) k h) (fun h => (fun k (hk : X0 k) => ltl (hX0 k hk) hB49.size) k h)) ((hpa0_0.below hB49 hX0).wide (fun k hk => (.inl hk))) ((hpa1_0.below hB49 hX0).wide (fun k hk => (.inr hk))) r43 hr44) ?_
  rintro v52 w50 ⟨hg51, rfl⟩
  refine gv_pureN 4 [4, 17, 18, 19] [(4, (.int .i64 (if 1 < (if r43 < (-1) then (-1) else r43) then 1 else (if r43 < (-1) then (-1) else r43)))), (19, (.agg #[(.int .i64 0), (.int .i64 0)]))] (by kernel_rfl) ?_
  have hk57 := hb4.grown hg11 nb
  have lt58 := ltl ((ltb hk57) _ rfl) ((lowb hbe17) _ rfl)
  have hk59 := ((hb4.grown hg45 nb).grown hg20 (rowne (ng lt58))).grown hg51 nb
  refine gv_store0 29 0 (.agg #[(.int .i64 0), (.int .i64 0)]) #[(.int .i64 0), (.int .i64 0)] hk59 (by kernel_rfl) (by kernel_rfl) (by kernel_rfl) ?_
  intro w53 hg54 hb55 hz56
  clear hz56 hk59 lt58 hk57 hlo48 hB47 hB46 hg45 hr44 hc23 hz22 hb21 hg20 hz18 hbe17 hb16 hg15 hg11 hB9 hr8 hz6 hb4 hg3
  refine bindE h0 ?_; clear h0; intro n60 hn61 h0
  refine gv_name (s := 4) (v := (.int .i64 (if 1 < (if r43 < (-1) then (-1) else r43) then 1 else (if r43 < (-1) then (-1) else r43)))) (v' := (.int .i64 n60)) (by kernel_rfl) (congrArg (Value.int .i64) (sj hn61)) ?_
  refine gv_nil <| gv_cret ?_
  have e := sj h0; subst e
  refine gv_ret (gv_done [(.int .i64 n60), (.agg #[(.int .i64 0), (.int .i64 0)])] rfl ⟨(by kernel_rfl), ⟨⟨b1, 0, none⟩, (by kernel_rfl), run_loadVar_row w53 b1 _ 29 _ _ _ hb55 Try.underlying29 rfl (by kernel_rfl)⟩, trivial⟩ ?_)
  have hB62 := bg hB49 hg51 nb
  have hlo63 : w0.heap.size ≤ b1 := lob hbe5 hB0.size
  have hB64 := bg hB62 hg54 (rowlo hlo63)
  exact ⟨grown_of_below hB64, rfl⟩

theorem slices_Clone_suint32_uint32_ok (fuel : Nat) (pa0_0 : Option Addr) (pc0_0 : Nat) (s_0 : (List Int)) (w0 : World) (X0 : Nat → Prop) (hX0 : ∀ k, X0 k → k < w0.heap.size) (hpa0_0 : Rd (iE .u32) w0 X0 pa0_0 pc0_0 s_0) (r0 : (List Int)) (h0 : slices_Clone_suint32_uint32 fuel s_0 = some r0) :
    Calls Try.prog 82 ([(.slice pa0_0 (List.length s_0) pc0_0)] : List Value).toArray w0 (Ret fun v w' => w0.grownBy w' none ∧ ∃ (a0_0r : Option Addr) (c0_0r : Nat), v = tup [(.slice a0_0r (List.length r0) c0_0r)] ∧ Own (iE .u32) 76 w' (fun _ => False) a0_0r c0_0r r0 ∧ (∀ g, blk a0_0r = some g → w0.heap.size ≤ g)) := by
 have hB0 : Below w0.heap.size w0 w0 := Below.refl _ _
 unfold slices_Clone_suint32_uint32 at h0
 refine calls_run Try.func82 rfl Try.ntmps82 (by kernel_rfl) ?_
 refine gv_sub [0] (σ' := [(0, (.slice pa0_0 (List.length s_0) pc0_0))]) (by kernel_rfl) ?_
 refine gv_seq <| gv_region <| gv_pureN 1 [2] [] (by kernel_rfl) ?_
 refine gv_nil <| gv_seq <| gv_seq <| gv_region <| gv_pureN 1 [3] [(3, (.slice pa0_0 (List.length s_0) pc0_0))] (by kernel_rfl) ?_
 refine gv_nilcmp (t := 22) (x := (.tmp 3)) (y := (.const (.slice none 0 0))) (a := pa0_0) (len := List.length s_0) (cap := pc0_0) [] (fun e => by cases e) rfl rfl rfl (by kernel_rfl) (by kernel_rfl) Try.underlying22 rfl ?_
 refine gv_nil ?_
 have hc1n := fun e => nil_of_none (hpa0_0.below hB0 hX0) e
 refine gv_cond (b := (Option.isNone pa0_0)) (by kernel_rfl) (fun hc1 => ?_) (fun hc1 => ?_)
 ·skip
  replace h0 : (some (([] : List Int))) = some r0 := by have e := hc1n hc1; simp only [e] at h0; simpa [app] using h0
  refine gv_seq <| gv_region <| gv_pureN 1 [2] [(2, (.slice none (List.length ([] : List Int)) 0))] (by kernel_rfl) ?_
  refine gv_nil <| gv_cret ?_
  have e := sj h0; subst e
  refine gv_ret (gv_done [(.slice none (List.length ([] : List Int)) 0)] rfl ⟨(by kernel_rfl), trivial⟩ ?_)
  exact ⟨grown_of_below hB0, none, 0, rfl, (Own.nil (iE .u32) 76 w0 (fun _ => False)), (fun _ h => by cases h)⟩
 ·skip
  refine gv_skip <| gv_seq <| gv_region <| gv_new0 (fun b => .slice (some ⟨b, 0, none⟩) 0 0) #[] 76 (by kernel_rfl) (by kernel_rfl) ?_
  intro b2 w3 hg4 hb5 hbe6 hz7
  have ho8 : Own (iE .u32) 76 w3 (fun _ => False) (some ⟨b2, 0, none⟩) 0 ([] : List Int) := Box.ownE hb5 rfl (show 0 ≤ maxLen by decide) (fun h => h)
  have hl9 : ∀ g, blk (some ⟨b2, 0, none⟩) = some g → w0.heap.size ≤ g := loo hbe6 hB0.size
  refine gv_pureN 1 [6] [(6, (.slice pa0_0 (List.length s_0) pc0_0))] (by kernel_rfl) ?_
  refine bindE h0 ?_; clear h0; intro l13 hx14 h0
  have hB21 := bg hB0 hg4 nb
  refine gv_append (iE .u32) (t := 22) (ty := 22) (e := 76) (a := (some ⟨b2, 0, none⟩)) (ax := pa0_0) (cap := 0) (cx := pc0_0) (xs := ([] : List Int)) (ys := s_0) l13 (X := (fun _ => False)) (Y := X0) (by decide) rfl rfl (by kernel_rfl) (by kernel_rfl) Try.underlying22 info76 ho8 (hpa0_0.below hB21 hX0) hx14 (.inr fun _ _ _ _ _ h => h) (fun _ h => h.elim) ?_
  intro a15 c16 w17 hg18 ho19 hk20
  refine ⟨(fun e => by cases e), ?_⟩
  have hl22 : ∀ g, blk a15 = some g → w0.heap.size ≤ g := blk_step hk20 hl9 hB21.size
  refine gv_pureN 1 [2] [(2, (.slice a15 (List.length l13) c16))] (by kernel_rfl) ?_
  refine gv_nil <| gv_cret ?_
  have e := sj h0; subst e
  refine gv_ret (gv_done [(.slice a15 (List.length l13) c16)] rfl ⟨(by kernel_rfl), trivial⟩ ?_)
  have hB23 := bg hB21 hg18 hl9
  exact ⟨grown_of_below hB23, a15, c16, rfl, ho19, hl22⟩

theorem bits_Sub32_ok (fuel : Nat) (x_0 : Int) (y_1 : Int) (borrow_2 : Int) (w0 : World)  (r0 : (Int × Int)) (h0 : bits_Sub32 fuel x_0 y_1 borrow_2 = some r0) :
    Calls Try.prog 83 ([(.int .u32 x_0), (.int .u32 y_1), (.int .u32 borrow_2)] : List Value).toArray w0 (Ret fun v w' => w0.grownBy w' none ∧ v = tup [(.int .u32 r0.1), (.int .u32 r0.2)]) := by
 have hB0 : Below w0.heap.size w0 w0 := Below.refl _ _
 unfold bits_Sub32 at h0
 refine calls_run Try.func83 rfl Try.ntmps83 (by kernel_rfl) ?_
 refine gv_sub [0, 1, 2] (σ' := [(0, (.int .u32 x_0)), (1, (.int .u32 y_1)), (2, (.int .u32 borrow_2))]) (by kernel_rfl) ?_
 refine gv_seq <| gv_region <| gv_pureN 2 [6, 7] [] (by kernel_rfl) ?_
 refine gv_nil <| gv_seq <| gv_region <| gv_pureN 6 [6, 8, 9, 10, 11, 12] [(6, (.int .u32 (IntKind.u32.wrap ((IntKind.u32.wrap (x_0 - y_1)) - borrow_2))))] (by kernel_rfl) ?_
 refine bindE h0 ?_; clear h0; intro n1 hn2 h0
 refine gv_name (s := 6) (v := (.int .u32 (IntKind.u32.wrap ((IntKind.u32.wrap (x_0 - y_1)) - borrow_2)))) (v' := (.int .u32 n1)) (by kernel_rfl) (congrArg (Value.int .u32) (sj hn2)) ?_
 refine gv_nil <| gv_seq <| gv_region <| gv_pureN 13 [7, 13, 14, 15, 16, 17, 18, 19, 20, 21, 22, 23, 24] [(7, (.int .u32 (((bwOr .u32 (bwAnd .u32 (bwXor .u32 4294967295 x_0) y_1) (bwAnd .u32 (bwXor .u32 4294967295 (bwXor .u32 x_0 y_1)) n1))).fdiv (2 ^ 31))))] (by kernel_rfl) ?_
 refine bindE h0 ?_; clear h0; intro n3 hn4 h0
 refine gv_name (s := 7) (v := (.int .u32 (((bwOr .u32 (bwAnd .u32 (bwXor .u32 4294967295 x_0) y_1) (bwAnd .u32 (bwXor .u32 4294967295 (bwXor .u32 x_0 y_1)) n1))).fdiv (2 ^ 31)))) (v' := (.int .u32 n3)) (by kernel_rfl) (congrArg (Value.int .u32) (sj hn4)) ?_
 refine gv_nil <| gv_cret ?_
 have e := sj h0; subst e
 refine gv_ret (gv_done [(.int .u32 n1), (.int .u32 n3)] rfl ⟨(by kernel_rfl), (by kernel_rfl), trivial⟩ ?_)
 exact ⟨grown_of_below hB0, rfl⟩

theorem natural_sub_ok (fuel : Nat) (pa0_0 : Option Addr) (pc0_0 : Nat) (a_0 : (List Int)) (pa1_0 : Option Addr) (pc1_0 : Nat) (b_1 : (List Int)) (w0 : World) (X0 : Nat → Prop) (hX0 : ∀ k, X0 k → k < w0.heap.size) (hpa0_0 : Rd (iE .u32) w0 X0 pa0_0 pc0_0 a_0) (hpa1_0 : Rd (iE .u32) w0 X0 pa1_0 pc1_0 b_1) (r0 : (List Int)) (h0 : natural_sub fuel a_0 b_1 = some r0) :
    Calls Try.prog 80 ([(.slice pa0_0 (List.length a_0) pc0_0), (.slice pa1_0 (List.length b_1) pc1_0)] : List Value).toArray w0 (Ret fun v w' => w0.grownBy w' none ∧ ∃ (a0_0r : Option Addr) (c0_0r : Nat), ∃ (X0_0r : Nat → Prop), v = tup [(.slice a0_0r (List.length r0) c0_0r)] ∧ Rd (iE .u32) w' X0_0r a0_0r c0_0r r0 ∧ (∀ k, X0_0r k → k < w'.heap.size ∧ (X0 k ∨ w0.heap.size ≤ k))) := by
 have hB0 : Below w0.heap.size w0 w0 := Below.refl _ _
 unfold natural_sub at h0
 refine calls_run Try.func80 rfl Try.ntmps80 (by kernel_rfl) ?_
 refine gv_sub [0, 1] (σ' := [(0, (.slice pa0_0 (List.length a_0) pc0_0)), (1, (.slice pa1_0 (List.length b_1) pc1_0))]) (by kernel_rfl) ?_
 refine gv_seq <| gv_region <| gv_pureN 1 [4] [] (by kernel_rfl) ?_
 refine gv_nil <| gv_seq <| gv_region <| gv_pureN 1 [9] [(9, (.slice pa0_0 (List.length a_0) pc0_0))] (by kernel_rfl) ?_
 refine bindE h0 ?_; clear h0; intro r1 hr2 h0
 refine gv_call0 (by kernel_rfl) rfl (by kernel_rfl) enters82 (slices_Clone_suint32_uint32_ok fuel pa0_0 pc0_0 a_0 w0 (fun k => X0 k) (fun k hk => (fun k (hk : X0 k) => ltl (hX0 k hk) hB0.size) k hk) ((hpa0_0.below hB0 hX0).wide (fun k hk => hk)) r1 hr2) ?_
 rintro v5 w3 ⟨hg4, a6, c7, rfl, ho8, hl9⟩
 have hl10 : ∀ g, blk a6 = some g → w0.heap.size ≤ g := fun g e => Nat.le_trans hB0.size (hl9 g e)
 refine gv_pureN 1 [5] [(5, (.slice a6 (List.length r1) c7))] (by kernel_rfl) ?_
 refine gv_nil <| gv_seq <| gv_region <| gv_pureN 1 [6] [(6, (.int .u32 0))] (by kernel_rfl) ?_
 refine gv_nil <| gv_seq <| gv_seq <| gv_region <| gv_pureN 3 [11, 12, 13] [(12, (.int .i64 ((List.length r1 : Nat) : Int))), (13, (.int .i64 0))] (by kernel_rfl) ?_
 refine gv_nil <| bindE h0 ?_; clear h0; intro j11 h1 h0
 refine gv_cut_code (J := fun a w12 => ∃ (a5_0j : Option Addr) (c5_0j : Nat), Below w0.heap.size w0 w12 ∧ w3.heap.size ≤ w12.heap.size ∧ Own (iE .u32) 76 w12 (fun _ => False) a5_0j c5_0j j11 ∧ (∀ g, blk a5_0j = some g → w0.heap.size ≤ g) ∧ a.defers = [] ∧ a.tmps.size = 40 ∧ Ok [(5, (.slice a5_0j (List.length j11) c5_0j))] a.tmps) ?_ ?_
 ·skip
  refine gv_block <| gv_loop (A := fun (s13 : ((List Int) × Int × Int)) a w14 => ∃ (a5_0j : Option Addr) (c5_0j : Nat), Below w0.heap.size w0 w14 ∧ w3.heap.size ≤ w14.heap.size ∧ Own (iE .u32) 76 w14 (fun _ => False) a5_0j c5_0j s13.1 ∧ (∀ g, blk a5_0j = some g → w0.heap.size ≤ g) ∧ a.defers = [] ∧ a.tmps.size = 40 ∧ Ok [(1, (.slice pa1_0 (List.length b_1) pc1_0)), (5, (.slice a5_0j (List.length s13.1) c5_0j)), (6, (.int .u32 s13.2.1)), (12, (.int .i64 ((List.length r1 : Nat) : Int))), (13, (.int .i64 s13.2.2))] a.tmps) h1 ?_ ?_
  ·intro a hd hs hok
   have hB15 := bg hB0 hg4 nb
   exact ⟨a6, c7, hB15, (Nat.le_refl _), ho8, hl10, hd, hs, ok_pick [1, 5, 6, 12, 13] hok (by kernel_rfl)⟩
  ·rintro s13 r2 h2 hR2 a w14 ⟨a18, c19, hB16, hz17, ho20, hl21, hd, hs, hok⟩
   refine gv_in ?_ hd hs hok
   clear hd hs hok
   clear hl10 hl9 ho8 hg4 hr2
   refine gv_seq <| gv_region <| gv_pureN 1 [14] [(14, (.bool (decide (s13.2.2 < ((List.length r1 : Nat) : Int)))))] (by kernel_rfl) ?_
   refine gv_nil <| gv_seq <| gv_cond (b := (decide (s13.2.2 < ((List.length r1 : Nat) : Int)))) (by kernel_rfl) (fun hc22 => ?_) (fun hc22 => ?_)
   ·replace h2 := ite_t hc22 h2
    refine gv_skip <| gv_seq <| gv_block <| gv_seq <| gv_region <| gv_pureN 2 [7, 15] [(7, (.int .i64 s13.2.2))] (by kernel_rfl) ?_
    refine gv_nil <| gv_seq <| gv_region <| gv_pureN 1 [8] [(8, (.int .u32 0))] (by kernel_rfl) ?_
    refine gv_nil <| gv_seq <| gv_seq <| gv_region <| gv_pureN 4 [16, 17, 18, 19] [(19, (.bool (decide (s13.2.2 < ((List.length b_1 : Nat) : Int)))))] (by kernel_rfl) ?_
    refine gv_nil <| bindE h2 ?_; clear h2; intro j23 h3 h2
    refine gv_cut_code (J := fun a w24 => Below w0.heap.size w0 w24 ∧ w14.heap.size ≤ w24.heap.size ∧ Own (iE .u32) 76 w24 (fun _ => False) a18 c19 s13.1 ∧ a.defers = [] ∧ a.tmps.size = 40 ∧ Ok [(1, (.slice pa1_0 (List.length b_1) pc1_0)), (5, (.slice a18 (List.length s13.1) c19)), (6, (.int .u32 s13.2.1)), (7, (.int .i64 s13.2.2)), (8, (.int .u32 j23)), (12, (.int .i64 ((List.length r1 : Nat) : Int))), (13, (.int .i64 s13.2.2))] a.tmps) ?_ ?_
    ·skip
     refine gv_cond (b := (decide (s13.2.2 < ((List.length b_1 : Nat) : Int)))) (by kernel_rfl) (fun hc25 => ?_) (fun hc25 => ?_)
     ·replace h3 := ite_t hc25 h3
      refine gv_region <| gv_pureN 2 [20, 21] [(20, (.slice pa1_0 (List.length b_1) pc1_0)), (21, (.int .i64 s13.2.2))] (by kernel_rfl) ?_
      refine bindE h3 ?_; clear h3; intro x26 hx27 h3
      refine gv_idxaddr (t := 22) (e := 76) (a := pa1_0) (len := List.length b_1) (cap := pc1_0) (kk := .i64) (i := s13.2.2) (sz := 1) [] (fun e => by cases e) rfl rfl rfl (by kernel_rfl) (by kernel_rfl) Try.underlying22 (by kernel_rfl) ((hpa1_0.below hB16 hX0).has hx27) (idx_spec hx27).1 (idx_spec hx27).2.1 rfl ?_
      refine gv_load (t := 76) (A := (elemAddr pa1_0 ((s13.2.2).toNat * 1))) (.int .u32 x26) [] (fun e => by cases e) rfl rfl rfl (by kernel_rfl) (by kernel_rfl) (by kernel_rfl) (inw0 ((hpa1_0.below hB16 hX0).cell hx27)) rfl ?_
      refine gv_pureN 1 [8] [(8, (.int .u32 x26))] (by kernel_rfl) ?_
      refine gv_nil ?_
      have e := sj h3; subst e
      refine gv_goal fun a hd hs hok => ?_
      exact ⟨hB16, (Nat.le_refl _), ho20, hd, hs, ok_pick [1, 5, 6, 7, 8, 12, 13] hok (by kernel_rfl)⟩
     ·replace h3 := ite_f hc25 h3
      refine gv_skip ?_
      have e := sj h3; subst e
      refine gv_goal fun a hd hs hok => ?_
      exact ⟨hB16, (Nat.le_refl _), ho20, hd, hs, ok_pick [1, 5, 6, 7, 8, 12, 13] hok (by kernel_rfl)⟩
    ·rintro a w24 ⟨hB28, hz29, hk30, hd, hs, hok⟩
     refine gv_in ?_ hd hs hok
     clear hd hs hok
     have hz31 := (nt hz17 hz29)
     clear hz29 hc22 ho20 hz17 hB16
     refine gv_region <| gv_pureN 4 [25, 26, 27, 28] [(25, (.slice a18 (List.length s13.1) c19)), (26, (.int .i64 s13.2.2)), (27, (.slice a18 (List.length s13.1) c19)), (28, (.int .i64 s13.2.2))] (by kernel_rfl) ?_
     refine bindE h2 ?_; clear h2; intro x32 hx33 h2
     refine gv_idxaddr (t := 22) (e := 76) (a := a18) (len := List.length s13.1) (cap := c19) (kk := .i64) (i := s13.2.2) (sz := 1) [] (fun e => by cases e) rfl rfl rfl (by kernel_rfl) (by kernel_rfl) Try.underlying22 (by kernel_rfl) ((hk30.rd (Y := fun k => blk a18 = some k) (fun _ h => h.elim) (fun g e => e)).has hx33) (idx_spec hx33).1 (idx_spec hx33).2.1 rfl ?_
     refine gv_load (t := 76) (A := (elemAddr a18 ((s13.2.2).toNat * 1))) (.int .u32 x32) [] (fun e => by cases e) rfl rfl rfl (by kernel_rfl) (by kernel_rfl) (by kernel_rfl) (inw0 ((hk30.rd (Y := fun k => blk a18 = some k) (fun _ h => h.elim) (fun g e => e)).cell hx33)) rfl ?_
     refine gv_pureN 2 [31, 32] [(31, (.int .u32 j23)), (32, (.int .u32 s13.2.1))] (by kernel_rfl) ?_
     refine bindE h2 ?_; clear h2; intro r34 hr35 h2
     refine gv_call0 (by kernel_rfl) rfl (by kernel_rfl) enters83 (bits_Sub32_ok fuel x32 j23 s13.2.1 w24  r34 hr35) ?_
     rintro v38 w36 ⟨hg37, rfl⟩
     refine gv_pureN 3 [24, 34, 35] [(34, (.int .u32 r34.1)), (35, (.int .u32 r34.2))] (by kernel_rfl) ?_
     refine bindE h2 ?_; clear h2; intro x39 hx40 h2
     have hk41 := hk30.grown hg37 (fun _ h => h.elim) nb
     refine gv_idxaddr (t := 22) (e := 76) (a := a18) (len := List.length s13.1) (cap := c19) (kk := .i64) (i := s13.2.2) (sz := 1) [] (fun e => by cases e) rfl rfl rfl (by kernel_rfl) (by kernel_rfl) Try.underlying22 (by kernel_rfl) ((hk41.rd (Y := fun k => blk a18 = some k) (fun _ h => h.elim) (fun g e => e)).has hx40) (idx_spec hx40).1 (idx_spec hx40).2.1 rfl ?_
     refine bindE h2 ?_; clear h2; intro l42 hx43 h2
     refine gv_upd (f := (fun n : Int => Value.int .u32 n)) (hf := fun _ => rfl) (t := 76) (e := 76) (a := a18) (cap := c19) (xs := s13.1) (i := s13.2.2) r34.1 l42 (by decide) rfl rfl (by kernel_rfl) rfl (by kernel_rfl) (by kernel_rfl) hk41 hx43 ?_
     intro w44 hg45 ho46 hz47
     refine ⟨(fun e => by cases e), ?_⟩
     have hln48 : List.length s13.1 = List.length l42 := by obtain ⟨_, _, e⟩ := upd_spec hx43; rw [e, List.length_set]
     refine gv_name (s := 5) (v := (.slice a18 (List.length s13.1) c19)) (v' := (.slice a18 (List.length l42) c19)) (by kernel_rfl) (by rw [hln48]) ?_
     refine gv_pureN 1 [6] [(6, (.int .u32 r34.2))] (by kernel_rfl) ?_
     refine gv_nil <| gv_blk <| gv_region <| gv_pureN 2 [13, 37] [(13, (.int .i64 (IntKind.i64.wrap (s13.2.2 + 1))))] (by kernel_rfl) ?_
     refine gv_nil ?_
     have e := sj h2; subst e
     refine gv_goal fun a hd hs hok => ?_
     have hB49 := bg hB28 hg37 nb
     have hB50 := bg hB49 hg45 hl21
     have hz51 := (nt (nt hz31 hg37.size) hg45.size)
     exact ⟨(l42, r34.2, (IntKind.i64.wrap (s13.2.2 + 1))), rfl, a18, c19, hB50, hz51, ho46, hl21, hd, hs, ok_pick [1, 5, 6, 12, 13] hok (by kernel_rfl)⟩
   ·replace h2 := ite_f hc22 h2
    refine gv_cexit <| gv_exit rfl ?_
    have e := sj h2; subst e
    replace h1 := congrArg some (hR2 _ rfl)
    have e := sj h1; subst e
    refine gv_goal fun a hd hs hok => ?_
    have hz52 := hz17
    exact ⟨a18, c19, hB16, hz52, ho20, hl21, hd, hs, ok_pick [5] hok (by kernel_rfl)⟩
 ·rintro a w12 ⟨a55, c56, hB53, hz54, ho57, hl58, hd, hs, hok⟩
  refine gv_in ?_ hd hs hok
  clear hd hs hok
  clear hz54 hl10 hl9 ho8 hg4 hr2
  refine gv_seq <| gv_region <| gv_pureN 1 [38] [(38, (.slice a55 (List.length j11) c56))] (by kernel_rfl) ?_
  refine bindE h0 ?_; clear h0; intro r59 hr60 h0
  refine gv_call0 (by kernel_rfl) rfl (by kernel_rfl) enters81 (natural_trim_ok fuel a55 c56 j11 w12 (fun k => (fun k => blk a55 = some k) k) (fun k hk => (fun k (hk : blk a55 = some k) => ho57.lt k hk) k hk) ((ho57.rd (Y := fun k => blk a55 = some k) (fun _ h => h.elim) (fun g e => e)).wide (fun k hk => hk)) r59 hr60) ?_
  rintro v63 w61 ⟨hg62, a64, c65, X67, rfl, ho66, hx68⟩
  have hx69 : ∀ k, X67 k → k < w61.heap.size := fun k hk => (hx68 k hk).1
  have hx70 : ∀ k, X67 k → X0 k ∨ w0.heap.size ≤ k := fun k hk => (hx68 k hk).2.elim (fun h => (fun k (hk : blk a55 = some k) => Or.inr (hl58 k hk)) k h) (fun h => .inr (Nat.le_trans hB53.size h))
  refine gv_pureN 1 [4] [(4, (.slice a64 (List.length r59) c65))] (by kernel_rfl) ?_
  refine gv_nil <| gv_cret ?_
  have e := sj h0; subst e
  refine gv_ret (gv_done [(.slice a64 (List.length r59) c65)] rfl ⟨(by kernel_rfl), trivial⟩ ?_)
  have hB71 := bg hB53 hg62 nb
  exact ⟨grown_of_below hB71, a64, c65, X67, rfl, ho66, (fun k hk => ⟨hx69 k hk, hx70 k hk⟩)⟩

theorem natural_Sub_ok (fuel : Nat) (pa0_0 : Option Addr) (pc0_0 : Nat) (a_0 : (List Int)) (pa1_0 : Option Addr) (pc1_0 : Nat) (b_1 : (List Int)) (w0 : World) (X0 : Nat → Prop) (hX0 : ∀ k, X0 k → k < w0.heap.size) (hpa0_0 : Rd (iE .u32) w0 X0 pa0_0 pc0_0 a_0) (hpa1_0 : Rd (iE .u32) w0 X0 pa1_0 pc1_0 b_1) (r0 : ((List Int) × (Int × Int))) (h0 : natural_Sub fuel a_0 b_1 = some r0) :
    Calls Try.prog 74 ([(.slice pa0_0 (List.length a_0) pc0_0), (.slice pa1_0 (List.length b_1) pc1_0)] : List Value).toArray w0 (Ret fun v w' => w0.grownBy w' none ∧ ∃ (a0_0r : Option Addr) (c0_0r : Nat), ∃ (X0_0r : Nat → Prop), v = tup [(.slice a0_0r (List.length r0.1) c0_0r), (.agg #[(.int .i64 r0.2.1), (.int .i64 r0.2.2)])] ∧ Rd (iE .u32) w' X0_0r a0_0r c0_0r r0.1 ∧ (∀ k, X0_0r k → k < w'.heap.size ∧ (X0 k ∨ w0.heap.size ≤ k))) := by
 have hB0 : Below w0.heap.size w0 w0 := Below.refl _ _
 unfold natural_Sub at h0
 refine calls_run Try.func74 rfl Try.ntmps74 (by kernel_rfl) ?_
 refine gv_sub [0, 1] (σ' := [(0, (.slice pa0_0 (List.length a_0) pc0_0)), (1, (.slice pa1_0 (List.length b_1) pc1_0))]) (by kernel_rfl) ?_
 refine gv_seq <| gv_region <| gv_pureN 1 [4] [] (by kernel_rfl) ?_
 refine gv_new0 (fun b => .pointer (some ⟨b, 0, none⟩)) #[(.int .i64 0), (.int .i64 0)] 29 (by kernel_rfl) (by kernel_rfl) ?_
 intro b1 w2 hg3 hb4 hbe5 hz6
 refine gv_nil <| gv_seq <| gv_seq <| gv_region <| gv_pureN 2 [7, 8] [(7, (.slice pa0_0 (List.length a_0) pc0_0)), (8, (.slice pa1_0 (List.length b_1) pc1_0))] (by kernel_rfl) ?_
 refine bindE h0 ?_; clear h0; intro r7 hr8 h0
 have hB9 := bg hB0 hg3 nb
 refine gv_call0 (by kernel_rfl) rfl (by kernel_rfl) enters70 (natural_check_ok fuel pa0_0 pc0_0 a_0 pa1_0 pc1_0 b_1 w2 (fun k => X0 k ∨ X0 k) (fun k hk => (hk).elim (fun h => (fun k (hk : X0 k) => ltl (hX0 k hk) hB9.size) k h) (fun h => (fun k (hk : X0 k) => ltl (hX0 k hk) hB9.size) k h)) ((hpa0_0.below hB9 hX0).wide (fun k hk => (.inl hk))) ((hpa1_0.below hB9 hX0).wide (fun k hk => (.inr hk))) r7 hr8) ?_
 rintro v12 w10 ⟨hg11, rfl⟩
 refine gv_new0 (fun b => .pointer (some ⟨b, 0, none⟩)) #[(.int .i64 0), (.int .i64 0)] 29 (by kernel_rfl) (by kernel_rfl) ?_
 intro b13 w14 hg15 hb16 hbe17 hz18
 refine gv_store0 29 0 (.agg #[(.int .i64 r7.1), (.int .i64 r7.2)]) #[(.int .i64 r7.1), (.int .i64 r7.2)] hb16 (by kernel_rfl) (by kernel_rfl) (by kernel_rfl) ?_
 intro w19 hg20 hb21 hz22
 refine gv_nil <| gv_seq <| gv_region <| gv_pureN 1 [10] [(10, (bp b13))] (by kernel_rfl) ?_
 refine gv_load (t := 3) (A := ⟨b13, 0, none⟩) (.int .i64 r7.1) [] (fun e => by cases e) rfl rfl rfl (by kernel_rfl) (by kernel_rfl) (by kernel_rfl) (inw0 (hb21.cell 0 rfl)) rfl ?_
 refine gv_pureN 1 [12] [(12, (.bool (r7.1 != 0)))] (by kernel_rfl) ?_
 refine gv_nil <| gv_cond (b := (r7.1 != 0)) (by kernel_rfl) (fun hc23 => ?_) (fun hc23 => ?_)
 ·replace h0 := ite_t hc23 h0
  refine gv_seq <| gv_drawA (by kernel_rfl) ?_
  intro w24 hg25
  refine gv_pre [1] (bA 3 [1]) 2 (by kernel_rfl) (by kernel_rfl) ?_
  refine gv_pureN 1 [4] [(4, (.slice none (List.length ([] : List Int)) 0))] (by kernel_rfl) ?_
  refine gv_nil <| gv_goA ?_
  refine gv_stage (Cls w24 []) [0, 1] [(0, some true)] (bA 3 [0, 1]) 1 (by kernel_rfl) (by kernel_rfl) (Cls.refl _ _) ?_
  have hC26 := Cls.refl w24 []
  have hk27 := hb21.grown hg25 nb
  refine gv_loadBox (t := 29) (b := b13) (t' := 29) (fr := (0, 0)) #[(.int .i64 r7.1), (.int .i64 r7.2)] [] (fun e => by cases e) rfl rfl rfl (by kernel_rfl) (by kernel_rfl) (by kernel_rfl) (by kernel_rfl) (inw1 fun w' hC' => (hC'.box hk27 nm_nil)) rfl ?_
  refine gv_nil <| gv_goA ?_
  refine gv_stage (fun _ => True) [0, 1, 2] [(2, some false)] (bA 3 [0, 1, 2]) 0 (by kernel_rfl) (by kernel_rfl) trivial ?_
  have hg32 := (grown_trans hg11 hg15)
  have hk33 := hb4.grown hg11 nb
  have lt34 := ltl ((ltb hk33) _ rfl) ((lowb hbe17) _ rfl)
  have hk35 := ((hb4.grown hg32 nb).grown hg20 (rowne (ng lt34))).grown hg25 nb
  refine gv_store (t := 29) (b := b1) (off := 0) (v := (.agg #[(.int .i64 r7.1), (.int .i64 r7.2)])) (t' := 29) (cs := #[(.int .i64 0), (.int .i64 0)]) #[(.int .i64 r7.1), (.int .i64 r7.2)] (by decide) rfl rfl (by kernel_rfl) (by kernel_rfl) (by kernel_rfl) (by intro u hu; simp [Value.cells] at hu; rcases hu with rfl | rfl <;> rfl) (show 0 + 2 ≤ 2 by decide) (by rfl) hk35 ?_
  intro w28 hg29 hb30 hz31
  refine ⟨(fun _ => trivial), ?_⟩
  refine gv_nil <| gv_goA ?_
  refine gv_stageE (by kernel_rfl) ?_
  refine gv_cret ?_
  have e := sj h0; subst e
  refine gv_ret (gv_done [(.slice none (List.length ([] : List Int)) 0), (.agg #[(.int .i64 r7.1), (.int .i64 r7.2)])] rfl ⟨(by kernel_rfl), ⟨⟨b1, 0, none⟩, (by kernel_rfl), run_loadVar_row w28 b1 _ 29 _ _ _ hb30 Try.underlying29 rfl (by kernel_rfl)⟩, trivial⟩ ?_)
  have hB36 := bg hB9 hg32 nb
  have hB37 := bg hB9 hg11 nb
  have hlo38 : w0.heap.size ≤ b13 := lob hbe17 hB37.size
  have hB39 := bg hB36 hg20 (rowlo hlo38)
  have hB40 := bg hB39 hg25 nb
  have hlo41 : w0.heap.size ≤ b1 := lob hbe5 hB0.size
  have hB42 := bg hB40 hg29 (rowlo hlo41)
  exact ⟨grown_of_below hB42, none, 0, (fun _ => False), rfl, (Rd.nil (iE .u32) w28 (fun _ => False) none 0), (fun k hk => ⟨(fun _ h => h.elim) k hk, (fun _ h => h.elim) k hk⟩)⟩
 ·replace h0 := ite_f hc23 h0
  refine gv_skip <| gv_seq <| gv_seq <| gv_region <| gv_pureN 2 [14, 15] [(14, (.slice pa0_0 (List.length a_0) pc0_0)), (15, (.slice pa1_0 (List.length b_1) pc1_0))] (by kernel_rfl) ?_
  refine bindE h0 ?_; clear h0; intro r43 hr44 h0
  have hg45 := (grown_trans hg11 hg15)
  have hB46 := bg hB9 hg45 nb
  have hB47 := bg hB9 hg11 nb
  have hlo48 : w0.heap.size ≤ b13 := lob hbe17 hB47.size
  have hB49 := bg hB46 hg20 (rowlo hlo48)
  refine gv_call0 (by kernel_rfl) rfl (by kernel_rfl) enters71 (natural_compare_ok fuel pa0_0 pc0_0 a_0 pa1_0 pc1_0 b_1 w19 (fun k => X0 k ∨ X0 k) (fun k hk => (hk).elim (fun h => (fun k (hk : X0 k) => ltl (hX0 k hk) hB49.size) k h) (fun h => (fun k (hk : X0 k) => ltl (hX0 k hk) hB49.size) k h)) ((hpa0_0.below hB49 hX0).wide (fun k hk => (.inl hk))) ((hpa1_0.below hB49 hX0).wide (fun k hk => (.inr hk))) r43 hr44) ?_
  rintro v52 w50 ⟨hg51, rfl⟩
  refine gv_pureN 1 [17] [(17, (.bool (decide (r43 < 0))))] (by kernel_rfl) ?_
  refine gv_nil <| gv_cond (b := (decide (r43 < 0))) (by kernel_rfl) (fun hc53 => ?_) (fun hc53 => ?_)
  ·replace h0 := ite_t hc53 h0
   refine gv_seq <| gv_region <| bindE h0 ?_; clear h0; intro r54 hr55 h0
   refine gv_call0 (by kernel_rfl) rfl (by kernel_rfl) enters76 (natural_at_ok fuel 4 (-2) w50  r54 hr55) ?_
   rintro v58 w56 ⟨hg57, rfl⟩
   clear hr55 hc53 hlo48 hB47 hB46 hg45 hr44 hc23 hz22 hb21 hz18 hb16 hB9 hr8 hz6 hg3
   refine gv_pureN 1 [4] [(4, (.slice none (List.length ([] : List Int)) 0))] (by kernel_rfl) ?_
   refine gv_sub [4, 5, 18] (σ' := [(4, (.slice none (List.length ([] : List Int)) 0)), (5, (bp b1)), (18, (.agg #[(.int .i64 r54.1), (.int .i64 r54.2)]))]) (by kernel_rfl) ?_
   have hg63 := (grown_trans hg11 hg15)
   have hk64 := hb4.grown hg11 nb
   have lt65 := ltl ((ltb hk64) _ rfl) ((lowb hbe17) _ rfl)
   have hg66 := (grown_trans hg51 hg57)
   have hk67 := ((hb4.grown hg63 nb).grown hg20 (rowne (ng lt65))).grown hg66 nb
   refine gv_store0 29 0 (.agg #[(.int .i64 r54.1), (.int .i64 r54.2)]) #[(.int .i64 r54.1), (.int .i64 r54.2)] hk67 (by kernel_rfl) (by kernel_rfl) (by kernel_rfl) ?_
   intro w59 hg60 hb61 hz62
   refine gv_nil <| gv_cret ?_
   have e := sj h0; subst e
   refine gv_ret (gv_done [(.slice none (List.length ([] : List Int)) 0), (.agg #[(.int .i64 r54.1), (.int .i64 r54.2)])] rfl ⟨(by kernel_rfl), ⟨⟨b1, 0, none⟩, (by kernel_rfl), run_loadVar_row w59 b1 _ 29 _ _ _ hb61 Try.underlying29 rfl (by kernel_rfl)⟩, trivial⟩ ?_)
   have hB68 := bg hB49 hg66 nb
   have hlo69 : w0.heap.size ≤ b1 := lob hbe5 hB0.size
   have hB70 := bg hB68 hg60 (rowlo hlo69)
   exact ⟨grown_of_below hB70, none, 0, (fun _ => False), rfl, (Rd.nil (iE .u32) w59 (fun _ => False) none 0), (fun k hk => ⟨(fun _ h => h.elim) k hk, (fun _ h => h.elim) k hk⟩)⟩
  ·replace h0 := ite_f hc53 h0
   refine gv_skip <| gv_seq <| gv_region <| gv_pureN 2 [19, 20] [(19, (.slice pa0_0 (List.length a_0) pc0_0)), (20, (.slice pa1_0 (List.length b_1) pc1_0))] (by kernel_rfl) ?_
   refine bindE h0 ?_; clear h0; intro r71 hr72 h0
   have hB73 := bg hB49 hg51 nb
   refine gv_call0 (by kernel_rfl) rfl (by kernel_rfl) enters80 (natural_sub_ok fuel pa0_0 pc0_0 a_0 pa1_0 pc1_0 b_1 w50 (fun k => X0 k ∨ X0 k) (fun k hk => (hk).elim (fun h => (fun k (hk : X0 k) => ltl (hX0 k hk) hB73.size) k h) (fun h => (fun k (hk : X0 k) => ltl (hX0 k hk) hB73.size) k h)) ((hpa0_0.below hB73 hX0).wide (fun k hk => (.inl hk))) ((hpa1_0.below hB73 hX0).wide (fun k hk => (.inr hk))) r71 hr72) ?_
   rintro v76 w74 ⟨hg75, a77, c78, X80, rfl, ho79, hx81⟩
   have hx82 : ∀ k, X80 k → k < w74.heap.size := fun k hk => (hx81 k hk).1
   have hx83 : ∀ k, X80 k → X0 k ∨ w0.heap.size ≤ k := fun k hk => (hx81 k hk).2.elim (fun h => (h).elim (fun h => (fun k (hk : X0 k) => Or.inl hk) k h) (fun h => (fun k (hk : X0 k) => Or.inl hk) k h)) (fun h => .inr (Nat.le_trans hB73.size h))
   refine gv_pureN 2 [4, 22] [(4, (.slice a77 (List.length r71) c78)), (22, (.agg #[(.int .i64 0), (.int .i64 0)]))] (by kernel_rfl) ?_
   refine gv_sub [4, 5, 22] (σ' := [(4, (.slice a77 (List.length r71) c78)), (5, (bp b1)), (22, (.agg #[(.int .i64 0), (.int .i64 0)]))]) (by kernel_rfl) ?_
   have hk88 := hb4.grown hg11 nb
   have lt89 := ltl ((ltb hk88) _ rfl) ((lowb hbe17) _ rfl)
   have hg90 := (grown_trans hg51 hg75)
   have hk91 := ((hb4.grown hg45 nb).grown hg20 (rowne (ng lt89))).grown hg90 nb
   refine gv_store0 29 0 (.agg #[(.int .i64 0), (.int .i64 0)]) #[(.int .i64 0), (.int .i64 0)] hk91 (by kernel_rfl) (by kernel_rfl) (by kernel_rfl) ?_
   intro w84 hg85 hb86 hz87
   refine gv_nil <| gv_cret ?_
   have e := sj h0; subst e
   refine gv_ret (gv_done [(.slice a77 (List.length r71) c78), (.agg #[(.int .i64 0), (.int .i64 0)])] rfl ⟨(by kernel_rfl), ⟨⟨b1, 0, none⟩, (by kernel_rfl), run_loadVar_row w84 b1 _ 29 _ _ _ hb86 Try.underlying29 rfl (by kernel_rfl)⟩, trivial⟩ ?_)
   have hB92 := bg hB73 hg75 nb
   have hlo93 : w0.heap.size ≤ b1 := lob hbe5 hB0.size
   have hB94 := bg hB92 hg85 (rowlo hlo93)
   have hk95 := ((hk88.grown hg15 nb).grown hg20 (rowne (ng lt89))).grown hg51 nb
   have ap96 : ¬ X80 b1 := fun h => ((hx81 _ h).2.elim (fun h => (h).elim (fun h => ((fun (hx : X0 b1) => nl hlo93 (hX0 _ hx)))  h) (fun h => ((fun (hx : X0 b1) => nl hlo93 (hX0 _ hx)))  h)) (fun h => nl h (hk95.lt)))
   have hk97 := ho79.grown hg85 hx82 (rowne ap96)
   have hx98 := ltx hx82 hg85.size
   exact ⟨grown_of_below hB94, a77, c78, X80, rfl, hk97, (fun k hk => ⟨hx98 k hk, hx83 k hk⟩)⟩

theorem integer_plus_ok (fuel : Nat) (pa0_0 : Option Addr) (pc0_0 : Nat) (a_0 : (Bool × (List Int))) (pa1_0 : Option Addr) (pc1_0 : Nat) (b_1 : (Bool × (List Int))) (w0 : World) (X0 : Nat → Prop) (hX0 : ∀ k, X0 k → k < w0.heap.size) (hpa0_0 : Rd (iE .u32) w0 X0 pa0_0 pc0_0 a_0.2) (hpa1_0 : Rd (iE .u32) w0 X0 pa1_0 pc1_0 b_1.2) (r0 : ((Bool × (List Int)) × (Int × Int))) (h0 : integer_plus fuel a_0 b_1 = some r0) :
    Calls Try.prog 64 ([(.agg #[(.bool a_0.1), (.slice pa0_0 (List.length a_0.2) pc0_0)]), (.agg #[(.bool b_1.1), (.slice pa1_0 (List.length b_1.2) pc1_0)])] : List Value).toArray w0 (Ret fun v w' => w0.grownBy w' none ∧ ∃ (a0_0r : Option Addr) (c0_0r : Nat), ∃ (X0_0r : Nat → Prop), v = tup [(.agg #[(.bool r0.1.1), (.slice a0_0r (List.length r0.1.2) c0_0r)]), (.agg #[(.int .i64 r0.2.1), (.int .i64 r0.2.2)])] ∧ Rd (iE .u32) w' X0_0r a0_0r c0_0r r0.1.2 ∧ (∀ k, X0_0r k → k < w'.heap.size ∧ (X0 k ∨ w0.heap.size ≤ k))) := by
 have hB0 : Below w0.heap.size w0 w0 := Below.refl _ _
 unfold integer_plus at h0
 refine calls_run Try.func64 rfl Try.ntmps64 (by kernel_rfl) ?_
 refine gv_sub [0, 1] (σ' := [(0, (.agg #[(.bool a_0.1), (.slice pa0_0 (List.length a_0.2) pc0_0)])), (1, (.agg #[(.bool b_1.1), (.slice pa1_0 (List.length b_1.2) pc1_0)]))]) (by kernel_rfl) ?_
 refine gv_seq <| gv_region <| gv_new0 (fun b => .pointer (some ⟨b, 0, none⟩)) #[(.bool a_0.1), (.slice pa0_0 (List.length a_0.2) pc0_0)] 24 (by kernel_rfl) (by kernel_rfl) ?_
 intro b1 w2 hg3 hb4 hbe5 hz6
 refine gv_new0 (fun b => .pointer (some ⟨b, 0, none⟩)) #[(.bool b_1.1), (.slice pa1_0 (List.length b_1.2) pc1_0)] 24 (by kernel_rfl) (by kernel_rfl) ?_
 intro b7 w8 hg9 hb10 hbe11 hz12
 refine gv_new0 (fun b => .pointer (some ⟨b, 0, none⟩)) #[(.bool false), (.slice none (List.length ([] : List Int)) 0)] 24 (by kernel_rfl) (by kernel_rfl) ?_
 intro b13 w14 hg15 hb16 hbe17 hz18
 refine gv_new0 (fun b => .pointer (some ⟨b, 0, none⟩)) #[(.int .i64 0), (.int .i64 0)] 29 (by kernel_rfl) (by kernel_rfl) ?_
 intro b19 w20 hg21 hb22 hbe23 hz24
 refine gv_nil <| gv_seq <| gv_seq <| gv_region <| gv_pureN 1 [12] [(12, (bp b1))] (by kernel_rfl) ?_
 have hg25 := (grown_trans (grown_trans hg9 hg15) hg21)
 have hk26 := hb4.grown hg25 nb
 refine gv_load (t := 4) (A := ⟨b1, 0, none⟩) (.bool a_0.1) [] (fun e => by cases e) rfl rfl rfl (by kernel_rfl) (by kernel_rfl) (by kernel_rfl) (inw0 (hk26.cell 0 rfl)) rfl ?_
 refine gv_pureN 1 [14] [(14, (bp b7))] (by kernel_rfl) ?_
 have hg27 := (grown_trans hg15 hg21)
 have hk28 := hb10.grown hg27 nb
 refine gv_load (t := 4) (A := ⟨b7, 0, none⟩) (.bool b_1.1) [] (fun e => by cases e) rfl rfl rfl (by kernel_rfl) (by kernel_rfl) (by kernel_rfl) (inw0 (hk28.cell 0 rfl)) rfl ?_
 refine gv_pureN 1 [16] [(16, (.bool (a_0.1 == b_1.1)))] (by kernel_rfl) ?_
 refine gv_nil <| gv_cond (b := (a_0.1 == b_1.1)) (by kernel_rfl) (fun hc29 => ?_) (fun hc29 => ?_)
 ·replace h0 := ite_t hc29 h0
  refine gv_seq <| gv_region <| gv_pureN 1 [18] [(18, (.pointer (some ⟨b1, 1, none⟩)))] (by kernel_rfl) ?_
  refine gv_load (t := 22) (A := ⟨b1, 1, none⟩) (.slice pa0_0 (List.length a_0.2) pc0_0) [] (fun e => by cases e) rfl rfl rfl (by kernel_rfl) (by kernel_rfl) (by kernel_rfl) (inw0 (hk26.cell 1 rfl)) rfl ?_
  refine gv_pureN 1 [20] [(20, (.pointer (some ⟨b7, 1, none⟩)))] (by kernel_rfl) ?_
  refine gv_load (t := 22) (A := ⟨b7, 1, none⟩) (.slice pa1_0 (List.length b_1.2) pc1_0) [] (fun e => by cases e) rfl rfl rfl (by kernel_rfl) (by kernel_rfl) (by kernel_rfl) (inw0 (hk28.cell 1 rfl)) rfl ?_
  refine bindE h0 ?_; clear h0; intro r30 hr31 h0
  have hg32 := (grown_trans hg3 hg25)
  have hB33 := bg hB0 hg32 nb
  refine gv_call0 (by kernel_rfl) rfl (by kernel_rfl) enters72 (natural_Add_ok fuel pa0_0 pc0_0 a_0.2 pa1_0 pc1_0 b_1.2 w20 (fun k => X0 k ∨ X0 k) (fun k hk => (hk).elim (fun h => (fun k (hk : X0 k) => ltl (hX0 k hk) hB33.size) k h) (fun h => (fun k (hk : X0 k) => ltl (hX0 k hk) hB33.size) k h)) ((hpa0_0.below hB33 hX0).wide (fun k hk => (.inl hk))) ((hpa1_0.below hB33 hX0).wide (fun k hk => (.inr hk))) r30 hr31) ?_
  rintro v36 w34 ⟨hg35, a37, c38, X40, rfl, ho39, hx41⟩
  have hx42 : ∀ k, X40 k → k < w34.heap.size := fun k hk => (hx41 k hk).1
  have hx43 : ∀ k, X40 k → X0 k ∨ w0.heap.size ≤ k := fun k hk => (hx41 k hk).2.elim (fun h => (h).elim (fun h => (fun k (hk : X0 k) => Or.inl hk) k h) (fun h => (fun k (hk : X0 k) => Or.inl hk) k h)) (fun h => .inr (Nat.le_trans hB33.size h))
  refine gv_pureN 3 [17, 23, 24] [(23, (.slice a37 (List.length r30.1) c38)), (24, (.agg #[(.int .i64 r30.2.1), (.int .i64 r30.2.2)]))] (by kernel_rfl) ?_
  refine gv_sub [2, 4, 5, 23, 24] (σ' := [(2, (bp b1)), (4, (bp b13)), (5, (bp b19)), (23, (.slice a37 (List.length r30.1) c38)), (24, (.agg #[(.int .i64 r30.2.1), (.int .i64 r30.2.2)]))]) (by kernel_rfl) ?_
  refine gv_new0 (fun b => .pointer (some ⟨b, 0, none⟩)) #[(.int .i64 0), (.int .i64 0)] 29 (by kernel_rfl) (by kernel_rfl) ?_
  intro b44 w45 hg46 hb47 hbe48 hz49
  refine gv_pureN 1 [6] [(6, (.slice a37 (List.length r30.1) c38))] (by kernel_rfl) ?_
  refine gv_store0 29 0 (.agg #[(.int .i64 r30.2.1), (.int .i64 r30.2.2)]) #[(.int .i64 r30.2.1), (.int .i64 r30.2.2)] hb47 (by kernel_rfl) (by kernel_rfl) (by kernel_rfl) ?_
  intro w50 hg51 hb52 hz53
  refine gv_nil <| gv_seq <| gv_region <| gv_pureN 1 [25] [(25, (bp b1))] (by kernel_rfl) ?_
  have hg54 := (grown_trans hg35 hg46)
  have lt55 := ltl ((ltb hb4) _ rfl) ((lowb hbe11) _ rfl)
  have lt56 := ltl ((ltb hb10) _ rfl) ((lowb hbe17) _ rfl)
  have lt57 := ltt lt55 lt56
  have lt58 := ltl ((ltb hb16) _ rfl) ((lowb hbe23) _ rfl)
  have lt59 := ltt lt57 lt58
  have hk60 := hb22.grown hg35 nb
  have lt61 := ltl ((ltb hk60) _ rfl) ((lowb hbe48) _ rfl)
  have lt62 := ltt lt59 lt61
  have hk63 := (hk26.grown hg54 nb).grown hg51 (rowne (ng lt62))
  refine gv_load (t := 4) (A := ⟨b1, 0, none⟩) (.bool a_0.1) [] (fun e => by cases e) rfl rfl rfl (by kernel_rfl) (by kernel_rfl) (by kernel_rfl) (inw0 (hk63.cell 0 rfl)) rfl ?_
  refine gv_pureN 1 [27] [(27, (.slice a37 (List.length r30.1) c38))] (by kernel_rfl) ?_
  refine bindE h0 ?_; clear h0; intro r64 hr65 h0
  have hx66 := ltx (ltx hx42 hg46.size) hg51.size
  have ap67 : ¬ X40 b44 := fun hx => nl ((lowb hbe48) _ rfl) (hx42 _ hx)
  have hx68 := ltx hx42 hg46.size
  have hk69 := (ho39.grown hg46 hx42 nb).grown hg51 hx68 (rowne ap67)
  refine gv_call0 (by kernel_rfl) rfl (by kernel_rfl) enters73 (integer_signed_ok fuel a_0.1 a37 c38 r30.1 w50 (fun k => X40 k) (fun k hk => hx66 k hk) (hk69.wide (fun k hk => hk)) r64 hr65) ?_
  rintro v72 w70 ⟨hg71, a73, c74, X76, rfl, ho75, hx77⟩
  have hx78 : ∀ k, X76 k → k < w70.heap.size := fun k hk => (hx77 k hk).1
  have hB80 := bg hB33 hg54 nb
  have hB81 := bg hB33 hg35 nb
  have hlo82 : w0.heap.size ≤ b44 := lob hbe48 hB81.size
  have hB83 := bg hB80 hg51 (rowlo hlo82)
  have hx79 : ∀ k, X76 k → X0 k ∨ w0.heap.size ≤ k := fun k hk => (hx77 k hk).2.elim (fun h => hx43 k h) (fun h => .inr (Nat.le_trans hB83.size h))
  clear hlo82 hB81 hB80 hk69 hx68 ap67 hx66 hr65 hk63 lt62 lt59 lt57 lt56 lt55 hg54 hz53 hb52 hz49 hbe48 hb47 hx43 hx42 ho39 hB33 hg32 hr31 hc29 hk28 hg27 hk26 hg25 hz24 hz18 hz12 hbe11 hb10 hz6 hbe5 hb4
  refine gv_pureN 2 [29, 30] [(29, (.agg #[(.bool r64.1.1), (.slice a73 (List.length r64.1.2) c74)])), (30, (.agg #[(.int .i64 r64.2.1), (.int .i64 r64.2.2)]))] (by kernel_rfl) ?_
  have hg88 := (grown_trans (grown_trans hg21 hg35) hg46)
  have lt89 := ltt lt58 lt61
  have hk90 := ((hb16.grown hg88 nb).grown hg51 (rowne (ng lt89))).grown hg71 nb
  refine gv_store0 24 0 (.agg #[(.bool r64.1.1), (.slice a73 (List.length r64.1.2) c74)]) #[(.bool r64.1.1), (.slice a73 (List.length r64.1.2) c74)] hk90 (by kernel_rfl) (by kernel_rfl) (by kernel_rfl) ?_
  intro w84 hg85 hb86 hz87
  have hk95 := (((hk60.grown hg46 nb).grown hg51 (rowne (ng lt61))).grown hg71 nb).grown hg85 (rowne (Nat.ne_of_lt lt58))
  refine gv_store0 29 0 (.agg #[(.int .i64 r64.2.1), (.int .i64 r64.2.2)]) #[(.int .i64 r64.2.1), (.int .i64 r64.2.2)] hk95 (by kernel_rfl) (by kernel_rfl) (by kernel_rfl) ?_
  intro w91 hg92 hb93 hz94
  refine gv_nil <| gv_cret ?_
  have e := sj h0; subst e
  have hk96 := hb86.grown hg92 (rowne (ng lt58))
  refine gv_ret (gv_done [(.agg #[(.bool r64.1.1), (.slice a73 (List.length r64.1.2) c74)]), (.agg #[(.int .i64 r64.2.1), (.int .i64 r64.2.2)])] rfl ⟨⟨⟨b13, 0, none⟩, (by kernel_rfl), run_loadVar_row w91 b13 _ 24 _ _ _ hk96 Try.underlying24 rfl (by kernel_rfl)⟩, ⟨⟨b19, 0, none⟩, (by kernel_rfl), run_loadVar_row w91 b19 _ 29 _ _ _ hb93 Try.underlying29 rfl (by kernel_rfl)⟩, trivial⟩ ?_)
  have hB97 := bg hB83 hg71 nb
  have hg98 := (grown_trans hg3 hg9)
  have hB99 := bg hB0 hg98 nb
  have hlo100 : w0.heap.size ≤ b13 := lob hbe17 hB99.size
  have hB101 := bg hB97 hg85 (rowlo hlo100)
  have hB102 := bg hB99 hg15 nb
  have hlo103 : w0.heap.size ≤ b19 := lob hbe23 hB102.size
  have hB104 := bg hB101 hg92 (rowlo hlo103)
  have hk105 := hb16.grown hg21 nb
  have ap106 : ¬ X40 b13 := fun h => ((hx41 _ h).2.elim (fun h => (h).elim (fun h => ((fun (hx : X0 b13) => nl hlo100 (hX0 _ hx)))  h) (fun h => ((fun (hx : X0 b13) => nl hlo100 (hX0 _ hx)))  h)) (fun h => nl h (hk105.lt)))
  have hg107 := (grown_trans hg35 hg46)
  have hk108 := (hk105.grown hg107 nb).grown hg51 (rowne (ng lt89))
  have ap109 : ¬ X76 b13 := fun h => ((hx77 _ h).2.elim (fun h => (ap106)  h) (fun h => nl h (hk108.lt)))
  have ap110 : ¬ X40 b19 := fun h => ((hx41 _ h).2.elim (fun h => (h).elim (fun h => ((fun (hx : X0 b19) => nl hlo103 (hX0 _ hx)))  h) (fun h => ((fun (hx : X0 b19) => nl hlo103 (hX0 _ hx)))  h)) (fun h => nl h (hb22.lt)))
  have hk111 := (hk60.grown hg46 nb).grown hg51 (rowne (ng lt61))
  have ap112 : ¬ X76 b19 := fun h => ((hx77 _ h).2.elim (fun h => (ap110)  h) (fun h => nl h (hk111.lt)))
  have hx113 := ltx hx78 hg85.size
  have hk114 := (ho75.grown hg85 hx78 (rowne ap109)).grown hg92 hx113 (rowne ap112)
  have hx115 := ltx hx113 hg92.size
  exact ⟨grown_of_below hB104, a73, c74, X76, rfl, hk114, (fun k hk => ⟨hx115 k hk, hx79 k hk⟩)⟩
 ·replace h0 := ite_f hc29 h0
  refine gv_skip <| gv_seq <| gv_seq <| gv_region <| gv_pureN 1 [32] [(32, (.pointer (some ⟨b1, 1, none⟩)))] (by kernel_rfl) ?_
  refine gv_load (t := 22) (A := ⟨b1, 1, none⟩) (.slice pa0_0 (List.length a_0.2) pc0_0) [] (fun e => by cases e) rfl rfl rfl (by kernel_rfl) (by kernel_rfl) (by kernel_rfl) (inw0 (hk26.cell 1 rfl)) rfl ?_
  refine gv_pureN 1 [34] [(34, (.pointer (some ⟨b7, 1, none⟩)))] (by kernel_rfl) ?_
  refine gv_load (t := 22) (A := ⟨b7, 1, none⟩) (.slice pa1_0 (List.length b_1.2) pc1_0) [] (fun e => by cases e) rfl rfl rfl (by kernel_rfl) (by kernel_rfl) (by kernel_rfl) (inw0 (hk28.cell 1 rfl)) rfl ?_
  refine bindE h0 ?_; clear h0; intro r116 hr117 h0
  have hg118 := (grown_trans hg3 hg25)
  have hB119 := bg hB0 hg118 nb
  refine gv_call0 (by kernel_rfl) rfl (by kernel_rfl) enters63 (natural_Cmp_ok fuel pa0_0 pc0_0 a_0.2 pa1_0 pc1_0 b_1.2 w20 (fun k => X0 k ∨ X0 k) (fun k hk => (hk).elim (fun h => (fun k (hk : X0 k) => ltl (hX0 k hk) hB119.size) k h) (fun h => (fun k (hk : X0 k) => ltl (hX0 k hk) hB119.size) k h)) ((hpa0_0.below hB119 hX0).wide (fun k hk => (.inl hk))) ((hpa1_0.below hB119 hX0).wide (fun k hk => (.inr hk))) r116 hr117) ?_
  rintro v122 w120 ⟨hg121, rfl⟩
  refine gv_pureN 3 [31, 37, 38] [(37, (.int .i64 r116.1)), (38, (.agg #[(.int .i64 r116.2.1), (.int .i64 r116.2.2)]))] (by kernel_rfl) ?_
  refine gv_sub [2, 3, 4, 5, 37, 38] (σ' := [(2, (bp b1)), (3, (bp b7)), (4, (bp b13)), (5, (bp b19)), (37, (.int .i64 r116.1)), (38, (.agg #[(.int .i64 r116.2.1), (.int .i64 r116.2.2)]))]) (by kernel_rfl) ?_
  refine gv_new0 (fun b => .pointer (some ⟨b, 0, none⟩)) #[(.int .i64 0), (.int .i64 0)] 29 (by kernel_rfl) (by kernel_rfl) ?_
  intro b123 w124 hg125 hb126 hbe127 hz128
  refine gv_pureN 1 [8] [(8, (.int .i64 r116.1))] (by kernel_rfl) ?_
  refine gv_store0 29 0 (.agg #[(.int .i64 r116.2.1), (.int .i64 r116.2.2)]) #[(.int .i64 r116.2.1), (.int .i64 r116.2.2)] hb126 (by kernel_rfl) (by kernel_rfl) (by kernel_rfl) ?_
  intro w129 hg130 hb131 hz132
  refine gv_nil <| gv_seq <| gv_region <| gv_pureN 2 [39, 40] [(40, (.bool (decide (r116.1 < 0))))] (by kernel_rfl) ?_
  refine gv_nil <| bindE h0 ?_; clear h0; intro j133 h1 h0
  refine gv_cut_code (J := fun a w134 => ∃ (abb1_0j : Option Addr) (cbb1_0j : Nat), ∃ (abb7_0j : Option Addr) (cbb7_0j : Nat), Below w0.heap.size w0 w134 ∧ w129.heap.size ≤ w134.heap.size ∧ Rd (iE .u32) w0 X0 abb1_0j cbb1_0j j133.1.2 ∧ Rd (iE .u32) w0 X0 abb7_0j cbb7_0j j133.2.2 ∧ Box w134 b1 24 #[(.bool j133.1.1), (.slice abb1_0j (List.length j133.1.2) cbb1_0j)] ∧ Box w134 b7 24 #[(.bool j133.2.1), (.slice abb7_0j (List.length j133.2.2) cbb7_0j)] ∧ Box w134 b13 24 #[(.bool false), (.slice none (List.length ([] : List Int)) 0)] ∧ Box w134 b19 29 #[(.int .i64 0), (.int .i64 0)] ∧ a.defers = [] ∧ a.tmps.size = 57 ∧ Ok [(2, (bp b1)), (3, (bp b7)), (4, (bp b13)), (5, (bp b19))] a.tmps) ?_ ?_
  ·skip
   refine gv_cond (b := (decide (r116.1 < 0))) (by kernel_rfl) (fun hc135 => ?_) (fun hc135 => ?_)
   ·replace h1 := ite_t hc135 h1
    refine gv_region ?_
    have hg136 := (grown_trans hg121 hg125)
    have lt137 := ltl ((ltb hb10) _ rfl) ((lowb hbe17) _ rfl)
    have lt138 := ltl ((ltb hb16) _ rfl) ((lowb hbe23) _ rfl)
    have lt139 := ltt lt137 lt138
    have hk140 := hb22.grown hg121 nb
    have lt141 := ltl ((ltb hk140) _ rfl) ((lowb hbe127) _ rfl)
    have lt142 := ltt lt139 lt141
    have hk143 := (hk28.grown hg136 nb).grown hg130 (rowne (ng lt142))
    refine gv_loadBox (t := 24) (b := b7) (t' := 24) (fr := (0, 0)) #[(.bool b_1.1), (.slice pa1_0 (List.length b_1.2) pc1_0)] [] (fun e => by cases e) rfl rfl rfl (by kernel_rfl) (by kernel_rfl) (by kernel_rfl) (by kernel_rfl) (inw0 hk143) rfl ?_
    have lt144 := ltl ((ltb hb4) _ rfl) ((lowb hbe11) _ rfl)
    have lt145 := ltt lt144 lt137
    have lt146 := ltt lt145 lt138
    have lt147 := ltt lt146 lt141
    have hk148 := (hk26.grown hg136 nb).grown hg130 (rowne (ng lt147))
    refine gv_loadBox (t := 24) (b := b1) (t' := 24) (fr := (0, 0)) #[(.bool a_0.1), (.slice pa0_0 (List.length a_0.2) pc0_0)] [] (fun e => by cases e) rfl rfl rfl (by kernel_rfl) (by kernel_rfl) (by kernel_rfl) (by kernel_rfl) (inw0 hk148) rfl ?_
    refine gv_store0 24 0 (.agg #[(.bool b_1.1), (.slice pa1_0 (List.length b_1.2) pc1_0)]) #[(.bool b_1.1), (.slice pa1_0 (List.length b_1.2) pc1_0)] hk148 (by kernel_rfl) (by kernel_rfl) (by kernel_rfl) ?_
    intro w149 hg150 hb151 hz152
    have hk157 := hk143.grown hg150 (rowne (Nat.ne_of_lt lt144))
    refine gv_store0 24 0 (.agg #[(.bool a_0.1), (.slice pa0_0 (List.length a_0.2) pc0_0)]) #[(.bool a_0.1), (.slice pa0_0 (List.length a_0.2) pc0_0)] hk157 (by kernel_rfl) (by kernel_rfl) (by kernel_rfl) ?_
    intro w153 hg154 hb155 hz156
    refine gv_nil ?_
    have e := sj h1; subst e
    refine gv_goal fun a hd hs hok => ?_
    have hB158 := bg hB119 hg136 nb
    have hB159 := bg hB119 hg121 nb
    have hlo160 : w0.heap.size ≤ b123 := lob hbe127 hB159.size
    have hB161 := bg hB158 hg130 (rowlo hlo160)
    have hlo162 : w0.heap.size ≤ b1 := lob hbe5 hB0.size
    have hB163 := bg hB161 hg150 (rowlo hlo162)
    have hB164 := bg hB0 hg3 nb
    have hlo165 : w0.heap.size ≤ b7 := lob hbe11 hB164.size
    have hB166 := bg hB163 hg154 (rowlo hlo165)
    have hz167 := (nt hg150.size hg154.size)
    have hk168 := hb151.grown hg154 (rowne (ng lt144))
    have hg169 := (grown_trans hg21 hg136)
    have lt170 := ltt lt138 lt141
    have hk171 := (((hb16.grown hg169 nb).grown hg130 (rowne (ng lt170))).grown hg150 (rowne (Nat.ne_of_lt lt145))).grown hg154 (rowne (Nat.ne_of_lt lt137))
    have hk172 := (((hk140.grown hg125 nb).grown hg130 (rowne (ng lt141))).grown hg150 (rowne (Nat.ne_of_lt lt146))).grown hg154 (rowne (Nat.ne_of_lt lt139))
    exact ⟨pa1_0, pc1_0, pa0_0, pc0_0, hB166, hz167, hpa1_0, hpa0_0, hk168, hb155, hk171, hk172, hd, hs, ok_pick [2, 3, 4, 5] hok (by kernel_rfl)⟩
   ·replace h1 := ite_f hc135 h1
    refine gv_skip ?_
    have e := sj h1; subst e
    refine gv_goal fun a hd hs hok => ?_
    have hg173 := (grown_trans hg121 hg125)
    have hB174 := bg hB119 hg173 nb
    have hB175 := bg hB119 hg121 nb
    have hlo176 : w0.heap.size ≤ b123 := lob hbe127 hB175.size
    have hB177 := bg hB174 hg130 (rowlo hlo176)
    have lt178 := ltl ((ltb hb4) _ rfl) ((lowb hbe11) _ rfl)
    have lt179 := ltl ((ltb hb10) _ rfl) ((lowb hbe17) _ rfl)
    have lt180 := ltt lt178 lt179
    have lt181 := ltl ((ltb hb16) _ rfl) ((lowb hbe23) _ rfl)
    have lt182 := ltt lt180 lt181
    have hk183 := hb22.grown hg121 nb
    have lt184 := ltl ((ltb hk183) _ rfl) ((lowb hbe127) _ rfl)
    have lt185 := ltt lt182 lt184
    have hk186 := (hk26.grown hg173 nb).grown hg130 (rowne (ng lt185))
    have lt187 := ltt lt179 lt181
    have lt188 := ltt lt187 lt184
    have hk189 := (hk28.grown hg173 nb).grown hg130 (rowne (ng lt188))
    have hg190 := (grown_trans hg21 hg173)
    have lt191 := ltt lt181 lt184
    have hk192 := (hb16.grown hg190 nb).grown hg130 (rowne (ng lt191))
    have hk193 := (hk183.grown hg125 nb).grown hg130 (rowne (ng lt184))
    exact ⟨pa0_0, pc0_0, pa1_0, pc1_0, hB177, (Nat.le_refl _), hpa0_0, hpa1_0, hk186, hk189, hk192, hk193, hd, hs, ok_pick [2, 3, 4, 5] hok (by kernel_rfl)⟩
  ·rintro a w134 ⟨a196, c197, a198, c199, hB194, hz195, hp200, hp201, hb202, hb203, hb204, hb205, hd, hs, hok⟩
   refine gv_in ?_ hd hs hok
   clear hd hs hok
   clear hz195 hz132 hb131 hg130 hz128 hbe127 hb126 hg125 hg121 hB119 hg118 hr117 hc29 hk28 hg27 hk26 hg25 hz24 hb22 hg21 hz18 hz12 hz6
   refine gv_seq <| gv_region <| gv_pureN 1 [44] [(44, (.pointer (some ⟨b1, 1, none⟩)))] (by kernel_rfl) ?_
   refine gv_load (t := 22) (A := ⟨b1, 1, none⟩) (.slice a196 (List.length j133.1.2) c197) [] (fun e => by cases e) rfl rfl rfl (by kernel_rfl) (by kernel_rfl) (by kernel_rfl) (inw0 (hb202.cell 1 rfl)) rfl ?_
   refine gv_pureN 1 [46] [(46, (.pointer (some ⟨b7, 1, none⟩)))] (by kernel_rfl) ?_
   refine gv_load (t := 22) (A := ⟨b7, 1, none⟩) (.slice a198 (List.length j133.2.2) c199) [] (fun e => by cases e) rfl rfl rfl (by kernel_rfl) (by kernel_rfl) (by kernel_rfl) (inw0 (hb203.cell 1 rfl)) rfl ?_
   refine bindE h0 ?_; clear h0; intro r206 hr207 h0
   refine gv_call0 (by kernel_rfl) rfl (by kernel_rfl) enters74 (natural_Sub_ok fuel a196 c197 j133.1.2 a198 c199 j133.2.2 w134 (fun k => X0 k ∨ X0 k) (fun k hk => (hk).elim (fun h => (fun k (hk : X0 k) => ltl (hX0 k hk) hB194.size) k h) (fun h => (fun k (hk : X0 k) => ltl (hX0 k hk) hB194.size) k h)) ((hp200.below hB194 hX0).wide (fun k hk => (.inl hk))) ((hp201.below hB194 hX0).wide (fun k hk => (.inr hk))) r206 hr207) ?_
   rintro v210 w208 ⟨hg209, a211, c212, X214, rfl, ho213, hx215⟩
   have hx216 : ∀ k, X214 k → k < w208.heap.size := fun k hk => (hx215 k hk).1
   have hx217 : ∀ k, X214 k → X0 k ∨ w0.heap.size ≤ k := fun k hk => (hx215 k hk).2.elim (fun h => (h).elim (fun h => (fun k (hk : X0 k) => Or.inl hk) k h) (fun h => (fun k (hk : X0 k) => Or.inl hk) k h)) (fun h => .inr (Nat.le_trans hB194.size h))
   refine gv_pureN 3 [43, 49, 50] [(49, (.slice a211 (List.length r206.1) c212)), (50, (.agg #[(.int .i64 r206.2.1), (.int .i64 r206.2.2)]))] (by kernel_rfl) ?_
   refine gv_new0 (fun b => .pointer (some ⟨b, 0, none⟩)) #[(.int .i64 0), (.int .i64 0)] 29 (by kernel_rfl) (by kernel_rfl) ?_
   intro b218 w219 hg220 hb221 hbe222 hz223
   refine gv_pureN 1 [10] [(10, (.slice a211 (List.length r206.1) c212))] (by kernel_rfl) ?_
   refine gv_store0 29 0 (.agg #[(.int .i64 r206.2.1), (.int .i64 r206.2.2)]) #[(.int .i64 r206.2.1), (.int .i64 r206.2.2)] hb221 (by kernel_rfl) (by kernel_rfl) (by kernel_rfl) ?_
   intro w224 hg225 hb226 hz227
   refine gv_nil <| gv_seq <| gv_region <| gv_pureN 1 [51] [(51, (bp b1))] (by kernel_rfl) ?_
   have hg228 := (grown_trans hg209 hg220)
   have lt229 := ltl ((ltb hb4) _ rfl) ((lowb hbe11) _ rfl)
   have lt230 := ltl ((ltb hb10) _ rfl) ((lowb hbe17) _ rfl)
   have lt231 := ltt lt229 lt230
   have lt232 := ltl ((ltb hb16) _ rfl) ((lowb hbe23) _ rfl)
   have lt233 := ltt lt231 lt232
   have hk234 := hb205.grown hg209 nb
   have lt235 := ltl ((ltb hk234) _ rfl) ((lowb hbe222) _ rfl)
   have lt236 := ltt lt233 lt235
   have hk237 := (hb202.grown hg228 nb).grown hg225 (rowne (ng lt236))
   refine gv_load (t := 4) (A := ⟨b1, 0, none⟩) (.bool j133.1.1) [] (fun e => by cases e) rfl rfl rfl (by kernel_rfl) (by kernel_rfl) (by kernel_rfl) (inw0 (hk237.cell 0 rfl)) rfl ?_
   refine gv_pureN 1 [53] [(53, (.slice a211 (List.length r206.1) c212))] (by kernel_rfl) ?_
   refine bindE h0 ?_; clear h0; intro r238 hr239 h0
   have hx240 := ltx (ltx hx216 hg220.size) hg225.size
   have ap241 : ¬ X214 b218 := fun hx => nl ((lowb hbe222) _ rfl) (hx216 _ hx)
   have hx242 := ltx hx216 hg220.size
   have hk243 := (ho213.grown hg220 hx216 nb).grown hg225 hx242 (rowne ap241)
   refine gv_call0 (by kernel_rfl) rfl (by kernel_rfl) enters73 (integer_signed_ok fuel j133.1.1 a211 c212 r206.1 w224 (fun k => X214 k) (fun k hk => hx240 k hk) (hk243.wide (fun k hk => hk)) r238 hr239) ?_
   rintro v246 w244 ⟨hg245, a247, c248, X250, rfl, ho249, hx251⟩
   have hx252 : ∀ k, X250 k → k < w244.heap.size := fun k hk => (hx251 k hk).1
   have hB254 := bg hB194 hg228 nb
   have hB255 := bg hB194 hg209 nb
   have hlo256 : w0.heap.size ≤ b218 := lob hbe222 hB255.size
   have hB257 := bg hB254 hg225 (rowlo hlo256)
   have hx253 : ∀ k, X250 k → X0 k ∨ w0.heap.size ≤ k := fun k hk => (hx251 k hk).2.elim (fun h => hx217 k h) (fun h => .inr (Nat.le_trans hB257.size h))
   refine gv_pureN 2 [55, 56] [(55, (.agg #[(.bool r238.1.1), (.slice a247 (List.length r238.1.2) c248)])), (56, (.agg #[(.int .i64 r238.2.1), (.int .i64 r238.2.2)]))] (by kernel_rfl) ?_
   refine gv_sub [4, 5, 55, 56] (σ' := [(4, (bp b13)), (5, (bp b19)), (55, (.agg #[(.bool r238.1.1), (.slice a247 (List.length r238.1.2) c248)])), (56, (.agg #[(.int .i64 r238.2.1), (.int .i64 r238.2.2)]))]) (by kernel_rfl) ?_
   have lt262 := ltt lt232 lt235
   have hk263 := ((hb204.grown hg228 nb).grown hg225 (rowne (ng lt262))).grown hg245 nb
   refine gv_store0 24 0 (.agg #[(.bool r238.1.1), (.slice a247 (List.length r238.1.2) c248)]) #[(.bool r238.1.1), (.slice a247 (List.length r238.1.2) c248)] hk263 (by kernel_rfl) (by kernel_rfl) (by kernel_rfl) ?_
   intro w258 hg259 hb260 hz261
   have hk268 := (((hk234.grown hg220 nb).grown hg225 (rowne (ng lt235))).grown hg245 nb).grown hg259 (rowne (Nat.ne_of_lt lt232))
   refine gv_store0 29 0 (.agg #[(.int .i64 r238.2.1), (.int .i64 r238.2.2)]) #[(.int .i64 r238.2.1), (.int .i64 r238.2.2)] hk268 (by kernel_rfl) (by kernel_rfl) (by kernel_rfl) ?_
   intro w264 hg265 hb266 hz267
   refine gv_nil <| gv_cret ?_
   have e := sj h0; subst e
   have hk269 := hb260.grown hg265 (rowne (ng lt232))
   refine gv_ret (gv_done [(.agg #[(.bool r238.1.1), (.slice a247 (List.length r238.1.2) c248)]), (.agg #[(.int .i64 r238.2.1), (.int .i64 r238.2.2)])] rfl ⟨⟨⟨b13, 0, none⟩, (by kernel_rfl), run_loadVar_row w264 b13 _ 24 _ _ _ hk269 Try.underlying24 rfl (by kernel_rfl)⟩, ⟨⟨b19, 0, none⟩, (by kernel_rfl), run_loadVar_row w264 b19 _ 29 _ _ _ hb266 Try.underlying29 rfl (by kernel_rfl)⟩, trivial⟩ ?_)
   have hB270 := bg hB257 hg245 nb
   have hg271 := (grown_trans hg3 hg9)
   have hB272 := bg hB0 hg271 nb
   have hlo273 : w0.heap.size ≤ b13 := lob hbe17 hB272.size
   have hB274 := bg hB270 hg259 (rowlo hlo273)
   have hB275 := bg hB272 hg15 nb
   have hlo276 : w0.heap.size ≤ b19 := lob hbe23 hB275.size
   have hB277 := bg hB274 hg265 (rowlo hlo276)
   have ap278 : ¬ X214 b13 := fun h => ((hx215 _ h).2.elim (fun h => (h).elim (fun h => ((fun (hx : X0 b13) => nl hlo273 (hX0 _ hx)))  h) (fun h => ((fun (hx : X0 b13) => nl hlo273 (hX0 _ hx)))  h)) (fun h => nl h (hb204.lt)))
   have hk279 := (hb204.grown hg228 nb).grown hg225 (rowne (ng lt262))
   have ap280 : ¬ X250 b13 := fun h => ((hx251 _ h).2.elim (fun h => (ap278)  h) (fun h => nl h (hk279.lt)))
   have ap281 : ¬ X214 b19 := fun h => ((hx215 _ h).2.elim (fun h => (h).elim (fun h => ((fun (hx : X0 b19) => nl hlo276 (hX0 _ hx)))  h) (fun h => ((fun (hx : X0 b19) => nl hlo276 (hX0 _ hx)))  h)) (fun h => nl h (hb205.lt)))
   have hk282 := (hk234.grown hg220 nb).grown hg225 (rowne (ng lt235))
   have ap283 : ¬ X250 b19 := fun h => ((hx251 _ h).2.elim (fun h => (ap281)  h) (fun h => nl h (hk282.lt)))
   have hx284 := ltx hx252 hg259.size
   have hk285 := (ho249.grown hg259 hx252 (rowne ap280)).grown hg265 hx284 (rowne ap283)
   have hx286 := ltx hx284 hg265.size
   exact ⟨grown_of_below hB277, a247, c248, X250, rfl, hk285, (fun k hk => ⟨hx286 k hk, hx253 k hk⟩)⟩

theorem integer_Sub_ok (fuel : Nat) (pa0_0 : Option Addr) (pc0_0 : Nat) (a_0 : (Bool × (List Int))) (pa1_0 : Option Addr) (pc1_0 : Nat) (b_1 : (Bool × (List Int))) (w0 : World) (X0 : Nat → Prop) (hX0 : ∀ k, X0 k → k < w0.heap.size) (hpa0_0 : Rd (iE .u32) w0 X0 pa0_0 pc0_0 a_0.2) (hpa1_0 : Rd (iE .u32) w0 X0 pa1_0 pc1_0 b_1.2) (r0 : ((Bool × (List Int)) × (Int × Int))) (h0 : integer_Sub fuel a_0 b_1 = some r0) :
    Calls Try.prog 45 ([(.agg #[(.bool a_0.1), (.slice pa0_0 (List.length a_0.2) pc0_0)]), (.agg #[(.bool b_1.1), (.slice pa1_0 (List.length b_1.2) pc1_0)])] : List Value).toArray w0 (Ret fun v w' => w0.grownBy w' none ∧ ∃ (a0_0r : Option Addr) (c0_0r : Nat), ∃ (X0_0r : Nat → Prop), v = tup [(.agg #[(.bool r0.1.1), (.slice a0_0r (List.length r0.1.2) c0_0r)]), (.agg #[(.int .i64 r0.2.1), (.int .i64 r0.2.2)])] ∧ Rd (iE .u32) w' X0_0r a0_0r c0_0r r0.1.2 ∧ (∀ k, X0_0r k → k < w'.heap.size ∧ (X0 k ∨ w0.heap.size ≤ k))) := by
 have hB0 : Below w0.heap.size w0 w0 := Below.refl _ _
 unfold integer_Sub at h0
 refine calls_run Try.func45 rfl Try.ntmps45 (by kernel_rfl) ?_
 refine gv_sub [0, 1] (σ' := [(0, (.agg #[(.bool a_0.1), (.slice pa0_0 (List.length a_0.2) pc0_0)])), (1, (.agg #[(.bool b_1.1), (.slice pa1_0 (List.length b_1.2) pc1_0)]))]) (by kernel_rfl) ?_
 refine gv_seq <| gv_region <| gv_new0 (fun b => .pointer (some ⟨b, 0, none⟩)) #[(.bool a_0.1), (.slice pa0_0 (List.length a_0.2) pc0_0)] 24 (by kernel_rfl) (by kernel_rfl) ?_
 intro b1 w2 hg3 hb4 hbe5 hz6
 refine gv_new0 (fun b => .pointer (some ⟨b, 0, none⟩)) #[(.bool b_1.1), (.slice pa1_0 (List.length b_1.2) pc1_0)] 24 (by kernel_rfl) (by kernel_rfl) ?_
 intro b7 w8 hg9 hb10 hbe11 hz12
 refine gv_new0 (fun b => .pointer (some ⟨b, 0, none⟩)) #[(.bool false), (.slice none (List.length ([] : List Int)) 0)] 24 (by kernel_rfl) (by kernel_rfl) ?_
 intro b13 w14 hg15 hb16 hbe17 hz18
 refine gv_new0 (fun b => .pointer (some ⟨b, 0, none⟩)) #[(.int .i64 0), (.int .i64 0)] 29 (by kernel_rfl) (by kernel_rfl) ?_
 intro b19 w20 hg21 hb22 hbe23 hz24
 refine gv_nil <| gv_seq <| gv_seq <| gv_region ?_
 have hg25 := (grown_trans (grown_trans hg9 hg15) hg21)
 have hk26 := hb4.grown hg25 nb
 refine gv_loadBox (t := 24) (b := b1) (t' := 24) (fr := (0, 0)) #[(.bool a_0.1), (.slice pa0_0 (List.length a_0.2) pc0_0)] [] (fun e => by cases e) rfl rfl rfl (by kernel_rfl) (by kernel_rfl) (by kernel_rfl) (by kernel_rfl) (inw0 hk26) rfl ?_
 have hg27 := (grown_trans hg15 hg21)
 have hk28 := hb10.grown hg27 nb
 refine gv_loadBox (t := 24) (b := b7) (t' := 24) (fr := (0, 0)) #[(.bool b_1.1), (.slice pa1_0 (List.length b_1.2) pc1_0)] [] (fun e => by cases e) rfl rfl rfl (by kernel_rfl) (by kernel_rfl) (by kernel_rfl) (by kernel_rfl) (inw0 hk28) rfl ?_
 refine gv_new0 (fun b => .slice (some ⟨b, 0, none⟩) 2 2) #[(.bool a_0.1), (.slice pa0_0 (List.length a_0.2) pc0_0), (.bool b_1.1), (.slice pa1_0 (List.length b_1.2) pc1_0)] 24 (by kernel_rfl) (by kernel_rfl) ?_
 intro b29 w30 hg31 hb32 hbe33 hz34
 obtain ⟨X40, e⟩ : ∃ X : Nat → Prop, X = (fun k => X0 k) := ⟨_, rfl⟩
 have hg41 := (grown_trans hg3 hg25)
 have hB42 := bg hB0 hg41 nb
 have hx38 : ∀ k, X40 k → k < w20.heap.size := fun k h => by rw [e] at h; exact (fun k (hk : X0 k) => ltl (hX0 k hk) hB42.size) k h
 have hz43 := hg31.size
 have hx37 : ∀ k, X40 k → k < w30.heap.size := fun k h => ltl (hx38 k h) hz43
 have hx39 : ∀ k, X40 k → X0 k ∨ w0.heap.size ≤ k := fun k h => by rw [e] at h; exact (fun k (hk : X0 k) => Or.inl hk) k h
 have hB44 := bg hB42 hg31 nb
 have ho35 : Own (prE tE (slE (iE .u32))) 24 w30 X40 (some ⟨b29, 0, none⟩) 2 ([(a_0.1, a_0.2), (b_1.1, b_1.2)] : List (Bool × (List Int))) := Box.ownE hb32 (by rw [e]; exact ⟨[(.bool a_0.1), (.slice pa0_0 (List.length a_0.2) pc0_0)], [(.bool b_1.1), (.slice pa1_0 (List.length b_1.2) pc1_0)], rfl, ⟨[(.bool a_0.1)], [(.slice pa0_0 (List.length a_0.2) pc0_0)], rfl, rfl, ⟨pa0_0, pc0_0, rfl, ((hpa0_0.below hB44 hX0).wide (fun _ h => h))⟩⟩, ⟨[(.bool b_1.1), (.slice pa1_0 (List.length b_1.2) pc1_0)], [], rfl, ⟨[(.bool b_1.1)], [(.slice pa1_0 (List.length b_1.2) pc1_0)], rfl, rfl, ⟨pa1_0, pc1_0, rfl, ((hpa1_0.below hB44 hX0).wide (fun _ h => h))⟩⟩, rfl⟩⟩) (show 2 ≤ maxLen by decide) (fun h => noteq hbe33 (hx38 _ h))
 have hx45 : ∀ k, X40 k → (fun k => X0 k) k := fun k h => by rw [e] at h; exact h
 clear e
 have hl36 : ∀ g, blk (some ⟨b29, 0, none⟩) = some g → w0.heap.size ≤ g := loo hbe33 hB42.size
 have ap46 : ∀ g, blk (some ⟨b29, 0, none⟩) = some g → ¬ (· = b1) g := fun g e hx => nl (lowo hbe33 g e) ((ltb hk26) _ hx)
 have hlo48 : w0.heap.size ≤ b1 := lob hbe5 hB0.size
 have ap47 : ¬ (fun k => blk (some ⟨b29, 0, none⟩) = some k ∨ X40 k) b1 := fun h => h.elim (fun h => nl (lowo hbe33 _ h) ((ltb hk26) _ rfl)) (fun h => ((fun (hx : X0 b1) => nl hlo48 (hX0 _ hx)))  (hx45 _ h))
 have ap49 : ∀ g, blk (some ⟨b29, 0, none⟩) = some g → ¬ (· = b7) g := fun g e hx => nl (lowo hbe33 g e) ((ltb hk28) _ hx)
 have hB51 := bg hB0 hg3 nb
 have hlo52 : w0.heap.size ≤ b7 := lob hbe11 hB51.size
 have ap50 : ¬ (fun k => blk (some ⟨b29, 0, none⟩) = some k ∨ X40 k) b7 := fun h => h.elim (fun h => nl (lowo hbe33 _ h) ((ltb hk28) _ rfl)) (fun h => ((fun (hx : X0 b7) => nl hlo52 (hX0 _ hx)))  (hx45 _ h))
 have hk54 := hb16.grown hg21 nb
 have ap53 : ∀ g, blk (some ⟨b29, 0, none⟩) = some g → ¬ (· = b13) g := fun g e hx => nl (lowo hbe33 g e) ((ltb hk54) _ hx)
 have hB56 := bg hB51 hg9 nb
 have hlo57 : w0.heap.size ≤ b13 := lob hbe17 hB56.size
 have ap55 : ¬ (fun k => blk (some ⟨b29, 0, none⟩) = some k ∨ X40 k) b13 := fun h => h.elim (fun h => nl (lowo hbe33 _ h) ((ltb hk54) _ rfl)) (fun h => ((fun (hx : X0 b13) => nl hlo57 (hX0 _ hx)))  (hx45 _ h))
 have ap58 : ∀ g, blk (some ⟨b29, 0, none⟩) = some g → ¬ (· = b19) g := fun g e hx => nl (lowo hbe33 g e) ((ltb hb22) _ hx)
 have hB60 := bg hB56 hg15 nb
 have hlo61 : w0.heap.size ≤ b19 := lob hbe23 hB60.size
 have ap59 : ¬ (fun k => blk (some ⟨b29, 0, none⟩) = some k ∨ X40 k) b19 := fun h => h.elim (fun h => nl (lowo hbe33 _ h) ((ltb hb22) _ rfl)) (fun h => ((fun (hx : X0 b19) => nl hlo61 (hX0 _ hx)))  (hx45 _ h))
 refine bindE h0 ?_; clear h0; intro r62 hr63 h0
 refine gv_call0 (by kernel_rfl) rfl (by kernel_rfl) enters62 (integer_check_ok fuel (some ⟨b29, 0, none⟩) 2 ([(a_0.1, a_0.2), (b_1.1, b_1.2)] : List (Bool × (List Int))) w30 (fun k => (fun k => blk (some ⟨b29, 0, none⟩) = some k ∨ X40 k) k) (fun k hk => (fun k (hk : blk (some ⟨b29, 0, none⟩) = some k ∨ X40 k) => hk.elim (fun h => ho35.lt k h) (fun h => hx37 k h)) k hk) ((ho35.rd (Y := fun k => blk (some ⟨b29, 0, none⟩) = some k ∨ X40 k) (fun _ h => .inr h) (fun g e => .inl e)).wide (fun k hk => hk)) r62 hr63) ?_
 rintro v66 w64 ⟨hg65, rfl⟩
 refine gv_new0 (fun b => .pointer (some ⟨b, 0, none⟩)) #[(.int .i64 0), (.int .i64 0)] 29 (by kernel_rfl) (by kernel_rfl) ?_
 intro b67 w68 hg69 hb70 hbe71 hz72
 refine gv_store0 29 0 (.agg #[(.int .i64 r62.1), (.int .i64 r62.2)]) #[(.int .i64 r62.1), (.int .i64 r62.2)] hb70 (by kernel_rfl) (by kernel_rfl) (by kernel_rfl) ?_
 intro w73 hg74 hb75 hz76
 clear hz76 hz72 hb70 hr63 ap59 hB60 ap58 ap55 hB56 ap53 ap50 hB51 ap49 ap47 ap46 hl36 hx45 ho35 hx39 hx37 hz43 hx38 hB42 hg41 hz34 hbe33 hb32 hg27 hg25 hz24 hg21 hz18 hg15 hz12 hg9 hz6 hbe5 hg3
 refine gv_nil <| gv_seq <| gv_region <| gv_pureN 1 [11] [(11, (bp b67))] (by kernel_rfl) ?_
 refine gv_load (t := 3) (A := ⟨b67, 0, none⟩) (.int .i64 r62.1) [] (fun e => by cases e) rfl rfl rfl (by kernel_rfl) (by kernel_rfl) (by kernel_rfl) (inw0 (hb75.cell 0 rfl)) rfl ?_
 refine gv_pureN 1 [13] [(13, (.bool (r62.1 != 0)))] (by kernel_rfl) ?_
 refine gv_nil <| gv_cond (b := (r62.1 != 0)) (by kernel_rfl) (fun hc77 => ?_) (fun hc77 => ?_)
 ·replace h0 := ite_t hc77 h0
  refine gv_seq <| gv_drawA (by kernel_rfl) ?_
  intro w78 hg79
  refine gv_pre [0] (bA 4 [0]) 3 (by kernel_rfl) (by kernel_rfl) ?_
  refine gv_pureN 1 [14] [(14, (.agg #[(.bool false), (.slice none (List.length ([] : List Int)) 0)]))] (by kernel_rfl) ?_
  refine gv_sub [4, 5, 6, 14] (σ' := [(4, (bp b13)), (5, (bp b19)), (6, (bp b67)), (14, (.agg #[(.bool false), (.slice none (List.length ([] : List Int)) 0)]))]) (by kernel_rfl) ?_
  refine gv_nil <| gv_goA ?_
  refine gv_stage (Cls w78 [b13]) [0, 1, 2] [(1, some true), (2, some false)] (bA 4 [0, 1, 2]) 1 (by kernel_rfl) (by kernel_rfl) (Cls.refl _ _) ?_
  have hC80 := Cls.refl w78 [b13]
  have hk81 := hb75.grown hg79 nb
  have lt82 := ltl ((ltb hb16) _ rfl) ((lowb hbe23) _ rfl)
  have hg83 := (grown_trans hg31 hg65)
  have hk84 := hb22.grown hg83 nb
  have lt85 := ltl ((ltb hk84) _ rfl) ((lowb hbe71) _ rfl)
  have lt86 := ltt lt82 lt85
  refine gv_loadBox (t := 29) (b := b67) (t' := 29) (fr := (0, 0)) #[(.int .i64 r62.1), (.int .i64 r62.2)] [] (fun e => by cases e) rfl rfl rfl (by kernel_rfl) (by kernel_rfl) (by kernel_rfl) (by kernel_rfl) (inw1 fun w' hC' => (hC'.box hk81 (nm_cons (ng lt86) nm_nil))) rfl ?_
  have hg91 := (grown_trans hg83 hg69)
  have hk92 := ((hk54.grown hg91 nb).grown hg74 (rowne (ng lt86))).grown hg79 nb
  refine gv_store (t := 24) (b := b13) (off := 0) (v := (.agg #[(.bool false), (.slice none (List.length ([] : List Int)) 0)])) (t' := 24) (cs := #[(.bool false), (.slice none (List.length ([] : List Int)) 0)]) #[(.bool false), (.slice none (List.length ([] : List Int)) 0)] (by decide) rfl rfl (by kernel_rfl) (by kernel_rfl) (by kernel_rfl) (by intro u hu; simp [Value.cells] at hu; rcases hu with rfl | rfl <;> rfl) (show 0 + 2 ≤ 2 by decide) (by rfl) hk92 ?_
  intro w87 hg88 hb89 hz90
  refine ⟨(fun _ => hC80.grown hg88 (rowm (List.Mem.head _))), ?_⟩
  refine gv_nil <| gv_goA ?_
  refine gv_stage (fun _ => True) [0, 1, 2, 3] [(3, some false)] (bA 4 [0, 1, 2, 3]) 0 (by kernel_rfl) (by kernel_rfl) trivial ?_
  have hk97 := (((hk84.grown hg69 nb).grown hg74 (rowne (ng lt85))).grown hg79 nb).grown hg88 (rowne (Nat.ne_of_lt lt82))
  refine gv_store (t := 29) (b := b19) (off := 0) (v := (.agg #[(.int .i64 r62.1), (.int .i64 r62.2)])) (t' := 29) (cs := #[(.int .i64 0), (.int .i64 0)]) #[(.int .i64 r62.1), (.int .i64 r62.2)] (by decide) rfl rfl (by kernel_rfl) (by kernel_rfl) (by kernel_rfl) (by intro u hu; simp [Value.cells] at hu; rcases hu with rfl | rfl <;> rfl) (show 0 + 2 ≤ 2 by decide) (by rfl) hk97 ?_
  intro w93 hg94 hb95 hz96
  refine ⟨(fun _ => trivial), ?_⟩
  refine gv_nil <| gv_goA ?_
  refine gv_stageE (by kernel_rfl) ?_
  refine gv_cret ?_
  have e := sj h0; subst e
  have hk98 := hb89.grown hg94 (rowne (ng lt82))
  refine gv_ret (gv_done [(.agg #[(.bool false), (.slice none (List.length ([] : List Int)) 0)]), (.agg #[(.int .i64 r62.1), (.int .i64 r62.2)])] rfl ⟨⟨⟨b13, 0, none⟩, (by kernel_rfl), run_loadVar_row w93 b13 _ 24 _ _ _ hk98 Try.underlying24 rfl (by kernel_rfl)⟩, ⟨⟨b19, 0, none⟩, (by kernel_rfl), run_loadVar_row w93 b19 _ 29 _ _ _ hb95 Try.underlying29 rfl (by kernel_rfl)⟩, trivial⟩ ?_)
  have hg99 := (grown_trans hg65 hg69)
  have hB100 := bg hB44 hg99 nb
  have hB101 := bg hB44 hg65 nb
  have hlo102 : w0.heap.size ≤ b67 := lob hbe71 hB101.size
  have hB103 := bg hB100 hg74 (rowlo hlo102)
  have hB104 := bg hB103 hg79 nb
  have hB105 := bg hB104 hg88 (rowlo hlo57)
  have hB106 := bg hB105 hg94 (rowlo hlo61)
  exact ⟨grown_of_below hB106, none, 0, (fun _ => False), rfl, (Rd.nil (iE .u32) w93 (fun _ => False) none 0), (fun k hk => ⟨(fun _ h => h.elim) k hk, (fun _ h => h.elim) k hk⟩)⟩
 ·replace h0 := ite_f hc77 h0
  refine gv_skip <| gv_seq <| gv_region ?_
  have hg107 := (grown_trans (grown_trans hg31 hg65) hg69)
  have lt108 := ltl ((ltb hb4) _ rfl) ((lowb hbe11) _ rfl)
  have lt109 := ltl ((ltb hb10) _ rfl) ((lowb hbe17) _ rfl)
  have lt110 := ltt lt108 lt109
  have lt111 := ltl ((ltb hb16) _ rfl) ((lowb hbe23) _ rfl)
  have lt112 := ltt lt110 lt111
  have hg113 := (grown_trans hg31 hg65)
  have hk114 := hb22.grown hg113 nb
  have lt115 := ltl ((ltb hk114) _ rfl) ((lowb hbe71) _ rfl)
  have lt116 := ltt lt112 lt115
  have hk117 := (hk26.grown hg107 nb).grown hg74 (rowne (ng lt116))
  refine gv_loadBox (t := 24) (b := b1) (t' := 24) (fr := (0, 0)) #[(.bool a_0.1), (.slice pa0_0 (List.length a_0.2) pc0_0)] [] (fun e => by cases e) rfl rfl rfl (by kernel_rfl) (by kernel_rfl) (by kernel_rfl) (by kernel_rfl) (inw0 hk117) rfl ?_
  refine gv_pureN 1 [17] [(17, (bp b7))] (by kernel_rfl) ?_
  refine gv_sub [3, 4, 5, 16, 17] (σ' := [(3, (bp b7)), (4, (bp b13)), (5, (bp b19)), (16, (.agg #[(.bool a_0.1), (.slice pa0_0 (List.length a_0.2) pc0_0)])), (17, (bp b7))]) (by kernel_rfl) ?_
  have lt118 := ltt lt109 lt111
  have lt119 := ltt lt118 lt115
  have hk120 := (hk28.grown hg107 nb).grown hg74 (rowne (ng lt119))
  refine gv_load (t := 4) (A := ⟨b7, 0, none⟩) (.bool b_1.1) [] (fun e => by cases e) rfl rfl rfl (by kernel_rfl) (by kernel_rfl) (by kernel_rfl) (inw0 (hk120.cell 0 rfl)) rfl ?_
  refine gv_pureN 2 [19, 20] [(19, (.bool (!b_1.1))), (20, (.pointer (some ⟨b7, 1, none⟩)))] (by kernel_rfl) ?_
  refine gv_load (t := 22) (A := ⟨b7, 1, none⟩) (.slice pa1_0 (List.length b_1.2) pc1_0) [] (fun e => by cases e) rfl rfl rfl (by kernel_rfl) (by kernel_rfl) (by kernel_rfl) (inw0 (hk120.cell 1 rfl)) rfl ?_
  refine gv_pureN 1 [22] [(22, (.agg #[(.bool (!b_1.1)), (.slice pa1_0 (List.length b_1.2) pc1_0)]))] (by kernel_rfl) ?_
  refine bindE h0 ?_; clear h0; intro r121 hr122 h0
  have hg123 := (grown_trans hg65 hg69)
  have hB124 := bg hB44 hg123 nb
  have hB125 := bg hB44 hg65 nb
  have hlo126 : w0.heap.size ≤ b67 := lob hbe71 hB125.size
  have hB127 := bg hB124 hg74 (rowlo hlo126)
  refine gv_call0 (by kernel_rfl) rfl (by kernel_rfl) enters64 (integer_plus_ok fuel pa0_0 pc0_0 (a_0.1, a_0.2) pa1_0 pc1_0 ((!b_1.1), b_1.2) w73 (fun k => X0 k ∨ X0 k) (fun k hk => (hk).elim (fun h => (fun k (hk : X0 k) => ltl (hX0 k hk) hB127.size) k h) (fun h => (fun k (hk : X0 k) => ltl (hX0 k hk) hB127.size) k h)) ((hpa0_0.below hB127 hX0).wide (fun k hk => (.inl hk))) ((hpa1_0.below hB127 hX0).wide (fun k hk => (.inr hk))) r121 hr122) ?_
  rintro v130 w128 ⟨hg129, a131, c132, X134, rfl, ho133, hx135⟩
  have hx136 : ∀ k, X134 k → k < w128.heap.size := fun k hk => (hx135 k hk).1
  have hx137 : ∀ k, X134 k → X0 k ∨ w0.heap.size ≤ k := fun k hk => (hx135 k hk).2.elim (fun h => (h).elim (fun h => (fun k (hk : X0 k) => Or.inl hk) k h) (fun h => (fun k (hk : X0 k) => Or.inl hk) k h)) (fun h => .inr (Nat.le_trans hB127.size h))
  refine gv_pureN 2 [24, 25] [(24, (.agg #[(.bool r121.1.1), (.slice a131 (List.length r121.1.2) c132)])), (25, (.agg #[(.int .i64 r121.2.1), (.int .i64 r121.2.2)]))] (by kernel_rfl) ?_
  have lt142 := ltt lt111 lt115
  have hk143 := ((hk54.grown hg107 nb).grown hg74 (rowne (ng lt142))).grown hg129 nb
  refine gv_store0 24 0 (.agg #[(.bool r121.1.1), (.slice a131 (List.length r121.1.2) c132)]) #[(.bool r121.1.1), (.slice a131 (List.length r121.1.2) c132)] hk143 (by kernel_rfl) (by kernel_rfl) (by kernel_rfl) ?_
  intro w138 hg139 hb140 hz141
  have hk148 := (((hk114.grown hg69 nb).grown hg74 (rowne (ng lt115))).grown hg129 nb).grown hg139 (rowne (Nat.ne_of_lt lt111))
  refine gv_store0 29 0 (.agg #[(.int .i64 r121.2.1), (.int .i64 r121.2.2)]) #[(.int .i64 r121.2.1), (.int .i64 r121.2.2)] hk148 (by kernel_rfl) (by kernel_rfl) (by kernel_rfl) ?_
  intro w144 hg145 hb146 hz147
  refine gv_nil <| gv_cret ?_
  have e := sj h0; subst e
  have hk149 := hb140.grown hg145 (rowne (ng lt111))
  refine gv_ret (gv_done [(.agg #[(.bool r121.1.1), (.slice a131 (List.length r121.1.2) c132)]), (.agg #[(.int .i64 r121.2.1), (.int .i64 r121.2.2)])] rfl ⟨⟨⟨b13, 0, none⟩, (by kernel_rfl), run_loadVar_row w144 b13 _ 24 _ _ _ hk149 Try.underlying24 rfl (by kernel_rfl)⟩, ⟨⟨b19, 0, none⟩, (by kernel_rfl), run_loadVar_row w144 b19 _ 29 _ _ _ hb146 Try.underlying29 rfl (by kernel_rfl)⟩, trivial⟩ ?_)
  have hB150 := bg hB127 hg129 nb
  have hB151 := bg hB150 hg139 (rowlo hlo57)
  have hB152 := bg hB151 hg145 (rowlo hlo61)
  have hk153 := (hk54.grown hg107 nb).grown hg74 (rowne (ng lt142))
  have ap154 : ¬ X134 b13 := fun h => ((hx135 _ h).2.elim (fun h => (h).elim (fun h => ((fun (hx : X0 b13) => nl hlo57 (hX0 _ hx)))  h) (fun h => ((fun (hx : X0 b13) => nl hlo57 (hX0 _ hx)))  h)) (fun h => nl h (hk153.lt)))
  have hk155 := (hk114.grown hg69 nb).grown hg74 (rowne (ng lt115))
  have ap156 : ¬ X134 b19 := fun h => ((hx135 _ h).2.elim (fun h => (h).elim (fun h => ((fun (hx : X0 b19) => nl hlo61 (hX0 _ hx)))  h) (fun h => ((fun (hx : X0 b19) => nl hlo61 (hX0 _ hx)))  h)) (fun h => nl h (hk155.lt)))
  have hx157 := ltx hx136 hg139.size
  have hk158 := (ho133.grown hg139 hx136 (rowne ap154)).grown hg145 hx157 (rowne ap156)
  have hx159 := ltx hx157 hg145.size
  exact ⟨grown_of_below hB152, a131, c132, X134, rfl, hk158, (fun k hk => ⟨hx159 k hk, hx137 k hk⟩)⟩

theorem bits_Len32_ok (fuel : Nat) (x_0 : Int) (w0 : World)  (r0 : Int) (h0 : bits_Len32 fuel x_0 = some r0) :
    Calls Try.prog 77 ([(.int .u32 x_0)] : List Value).toArray w0 (Ret fun v w' => w0.grownBy w' none ∧ v = tup [(.int .i64 r0)]) := by
 have hB0 : Below w0.heap.size w0 w0 := Below.refl _ _
 unfold bits_Len32 at h0
 refine calls_run Try.func77 rfl Try.ntmps77 (by kernel_rfl) ?_
 refine gv_sub [0] (σ' := [(0, (.int .u32 x_0))]) (by kernel_rfl) ?_
 refine gv_seq <| gv_region <| gv_pureN 1 [2] [(2, (.int .i64 0))] (by kernel_rfl) ?_
 refine gv_nil <| gv_seq <| gv_seq <| gv_region <| gv_pureN 2 [3, 4] [(4, (.bool (decide (x_0 ≥ 65536))))] (by kernel_rfl) ?_
 refine gv_nil <| bindE h0 ?_; clear h0; intro j1 h1 h0
 refine gv_cut_code (J := fun a w2 => Below w0.heap.size w0 w2 ∧ w0.heap.size ≤ w2.heap.size ∧ a.defers = [] ∧ a.tmps.size = 19 ∧ Ok [(0, (.int .u32 j1.1)), (2, (.int .i64 j1.2))] a.tmps) ?_ ?_
 ·skip
  refine gv_cond (b := (decide (x_0 ≥ 65536))) (by kernel_rfl) (fun hc3 => ?_) (fun hc3 => ?_)
  ·replace h1 := ite_t hc3 h1
   refine gv_seq <| gv_region <| gv_pureN 3 [0, 5, 6] [(0, (.int .u32 ((x_0).fdiv (2 ^ 16))))] (by kernel_rfl) ?_
   refine gv_nil <| gv_region <| gv_pureN 1 [2] [(2, (.int .i64 16))] (by kernel_rfl) ?_
   refine gv_nil ?_
   have e := sj h1; subst e
   refine gv_goal fun a hd hs hok => ?_
   exact ⟨hB0, (Nat.le_refl _), hd, hs, ok_pick [0, 2] hok (by kernel_rfl)⟩
  ·replace h1 := ite_f hc3 h1
   refine gv_skip ?_
   have e := sj h1; subst e
   refine gv_goal fun a hd hs hok => ?_
   exact ⟨hB0, (Nat.le_refl _), hd, hs, ok_pick [0, 2] hok (by kernel_rfl)⟩
 ·rintro a w2 ⟨hB4, hz5, hd, hs, hok⟩
  refine gv_in ?_ hd hs hok
  clear hd hs hok
  refine gv_seq <| gv_seq <| gv_region <| gv_pureN 2 [7, 8] [(8, (.bool (decide (j1.1 ≥ 256))))] (by kernel_rfl) ?_
  refine gv_nil <| bindE h0 ?_; clear h0; intro j6 h1 h0
  refine gv_cut_code (J := fun a w7 => Below w0.heap.size w0 w7 ∧ w2.heap.size ≤ w7.heap.size ∧ a.defers = [] ∧ a.tmps.size = 19 ∧ Ok [(0, (.int .u32 j6.1)), (2, (.int .i64 j6.2))] a.tmps) ?_ ?_
  ·skip
   refine gv_cond (b := (decide (j1.1 ≥ 256))) (by kernel_rfl) (fun hc8 => ?_) (fun hc8 => ?_)
   ·replace h1 := ite_t hc8 h1
    refine gv_seq <| gv_region <| gv_pureN 3 [0, 9, 10] [(0, (.int .u32 ((j1.1).fdiv (2 ^ 8))))] (by kernel_rfl) ?_
    refine gv_nil <| gv_region <| gv_pureN 3 [2, 11, 12] [(2, (.int .i64 (IntKind.i64.wrap (j1.2 + 8))))] (by kernel_rfl) ?_
    refine gv_nil ?_
    have e := sj h1; subst e
    refine gv_goal fun a hd hs hok => ?_
    exact ⟨hB4, (Nat.le_refl _), hd, hs, ok_pick [0, 2] hok (by kernel_rfl)⟩
   ·replace h1 := ite_f hc8 h1
    refine gv_skip ?_
    have e := sj h1; subst e
    refine gv_goal fun a hd hs hok => ?_
    exact ⟨hB4, (Nat.le_refl _), hd, hs, ok_pick [0, 2] hok (by kernel_rfl)⟩
  ·rintro a w7 ⟨hB9, hz10, hd, hs, hok⟩
   refine gv_in ?_ hd hs hok
   clear hd hs hok
   refine gv_seq <| gv_region <| gv_pureN 3 [13, 14, 15] [(13, (.int .i64 j6.2)), (15, (.int .u8 (IntKind.u8.wrap (j6.1))))] (by kernel_rfl) ?_
   refine bindE h0 ?_; clear h0; intro x11 hx12 h0
   refine gv_sindex (t := 9) (s := (strOf [0, 1, 2, 2, 3, 3, 3, 3, 4, 4, 4, 4, 4, 4, 4, 4, 5, 5, 5, 5, 5, 5, 5, 5, 5, 5, 5, 5, 5, 5, 5, 5, 6, 6, 6, 6, 6, 6, 6, 6, 6, 6, 6, 6, 6, 6, 6, 6, 6, 6, 6, 6, 6, 6, 6, 6, 6, 6, 6, 6, 6, 6, 6, 6, 7, 7, 7, 7, 7, 7, 7, 7, 7, 7, 7, 7, 7, 7, 7, 7, 7, 7, 7, 7, 7, 7, 7, 7, 7, 7, 7, 7, 7, 7, 7, 7, 7, 7, 7, 7, 7, 7, 7, 7, 7, 7, 7, 7, 7, 7, 7, 7, 7, 7, 7, 7, 7, 7, 7, 7, 7, 7, 7, 7, 7, 7, 7, 7, 8, 8, 8, 8, 8, 8, 8, 8, 8, 8, 8, 8, 8, 8, 8, 8, 8, 8, 8, 8, 8, 8, 8, 8, 8, 8, 8, 8, 8, 8, 8, 8, 8, 8, 8, 8, 8, 8, 8, 8, 8, 8, 8, 8, 8, 8, 8, 8, 8, 8, 8, 8, 8, 8, 8, 8, 8, 8, 8, 8, 8, 8, 8, 8, 8, 8, 8, 8, 8, 8, 8, 8, 8, 8, 8, 8, 8, 8, 8, 8, 8, 8, 8, 8, 8, 8, 8, 8, 8, 8, 8, 8, 8, 8, 8, 8, 8, 8, 8, 8, 8, 8, 8, 8, 8, 8, 8, 8, 8, 8, 8, 8, 8, 8, 8, 8, 8, 8, 8, 8, 8, 8, 8, 8, 8, 8, 8, 8])) (kk := .u8) (i := (IntKind.u8.wrap (j6.1))) x11 [] (fun e => by cases e) rfl rfl rfl (by kernel_rfl) (by kernel_rfl) Try.underlying9 hx12 rfl ?_
   refine gv_pureN 3 [2, 17, 18] [(2, (.int .i64 (IntKind.i64.wrap (j6.2 + (IntKind.i64.wrap (x11))))))] (by kernel_rfl) ?_
   refine bindE h0 ?_; clear h0; intro n13 hn14 h0
   refine gv_name (s := 2) (v := (.int .i64 (IntKind.i64.wrap (j6.2 + (IntKind.i64.wrap (x11)))))) (v' := (.int .i64 n13)) (by kernel_rfl) (congrArg (Value.int .i64) (sj hn14)) ?_
   refine gv_nil <| gv_cret ?_
   have e := sj h0; subst e
   refine gv_ret (gv_done [(.int .i64 n13)] rfl ⟨(by kernel_rfl), trivial⟩ ?_)
   exact ⟨grown_of_below hB9, rfl⟩

theorem natural_Bits_ok (fuel : Nat) (pa0_0 : Option Addr) (pc0_0 : Nat) (a_0 : (List Int)) (w0 : World) (X0 : Nat → Prop) (hX0 : ∀ k, X0 k → k < w0.heap.size) (hpa0_0 : Rd (iE .u32) w0 X0 pa0_0 pc0_0 a_0) (r0 : (Int × (Int × Int))) (h0 : natural_Bits fuel a_0 = some r0) :
    Calls Try.prog 68 ([(.slice pa0_0 (List.length a_0) pc0_0)] : List Value).toArray w0 (Ret fun v w' => w0.grownBy w' none ∧ v = tup [(.int .i64 r0.1), (.agg #[(.int .i64 r0.2.1), (.int .i64 r0.2.2)])]) := by
 have hB0 : Below w0.heap.size w0 w0 := Below.refl _ _
 unfold natural_Bits at h0
 refine calls_run Try.func68 rfl Try.ntmps68 (by kernel_rfl) ?_
 refine gv_sub [0] (σ' := [(0, (.slice pa0_0 (List.length a_0) pc0_0))]) (by kernel_rfl) ?_
 refine gv_seq <| gv_region <| gv_pureN 1 [2] [] (by kernel_rfl) ?_
 refine gv_new0 (fun b => .pointer (some ⟨b, 0, none⟩)) #[(.int .i64 0), (.int .i64 0)] 29 (by kernel_rfl) (by kernel_rfl) ?_
 intro b1 w2 hg3 hb4 hbe5 hz6
 refine gv_nil <| gv_seq <| gv_seq <| gv_region <| gv_pureN 1 [4] [(4, (.slice pa0_0 (List.length a_0) pc0_0))] (by kernel_rfl) ?_
 refine bindE h0 ?_; clear h0; intro r7 hr8 h0
 have hB9 := bg hB0 hg3 nb
 refine gv_call0 (by kernel_rfl) rfl (by kernel_rfl) enters75 (natural_Valid_ok fuel pa0_0 pc0_0 a_0 w2 (fun k => X0 k) (fun k hk => (fun k (hk : X0 k) => ltl (hX0 k hk) hB9.size) k hk) ((hpa0_0.below hB9 hX0).wide (fun k hk => hk)) r7 hr8) ?_
 rintro v12 w10 ⟨hg11, rfl⟩
 refine gv_pureN 1 [6] [(6, (.bool (!r7)))] (by kernel_rfl) ?_
 refine gv_nil <| gv_cond (b := (!r7)) (by kernel_rfl) (fun hc13 => ?_) (fun hc13 => ?_)
 ·replace h0 := ite_t hc13 h0
  refine gv_seq <| gv_region <| bindE h0 ?_; clear h0; intro r14 hr15 h0
  refine gv_call0 (by kernel_rfl) rfl (by kernel_rfl) enters76 (natural_at_ok fuel 6 (-1) w10  r14 hr15) ?_
  rintro v18 w16 ⟨hg17, rfl⟩
  refine gv_pureN 1 [2] [(2, (.int .i64 0))] (by kernel_rfl) ?_
  have hg23 := (grown_trans hg11 hg17)
  have hk24 := hb4.grown hg23 nb
  refine gv_store0 29 0 (.agg #[(.int .i64 r14.1), (.int .i64 r14.2)]) #[(.int .i64 r14.1), (.int .i64 r14.2)] hk24 (by kernel_rfl) (by kernel_rfl) (by kernel_rfl) ?_
  intro w19 hg20 hb21 hz22
  refine gv_nil <| gv_cret ?_
  have e := sj h0; subst e
  refine gv_ret (gv_done [(.int .i64 0), (.agg #[(.int .i64 r14.1), (.int .i64 r14.2)])] rfl ⟨(by kernel_rfl), ⟨⟨b1, 0, none⟩, (by kernel_rfl), run_loadVar_row w19 b1 _ 29 _ _ _ hb21 Try.underlying29 rfl (by kernel_rfl)⟩, trivial⟩ ?_)
  have hB25 := bg hB9 hg23 nb
  have hlo26 : w0.heap.size ≤ b1 := lob hbe5 hB0.size
  have hB27 := bg hB25 hg20 (rowlo hlo26)
  exact ⟨grown_of_below hB27, rfl⟩
 ·replace h0 := ite_f hc13 h0
  refine gv_skip <| gv_seq <| gv_seq <| gv_region <| gv_pureN 3 [8, 9, 10] [(10, (.bool (((List.length a_0 : Nat) : Int) == 0)))] (by kernel_rfl) ?_
  refine gv_nil <| gv_cond (b := (((List.length a_0 : Nat) : Int) == 0)) (by kernel_rfl) (fun hc28 => ?_) (fun hc28 => ?_)
  ·replace h0 := ite_t hc28 h0
   refine gv_seq <| gv_region <| gv_pureN 2 [2, 11] [(2, (.int .i64 0)), (11, (.agg #[(.int .i64 0), (.int .i64 0)]))] (by kernel_rfl) ?_
   have hk33 := hb4.grown hg11 nb
   refine gv_store0 29 0 (.agg #[(.int .i64 0), (.int .i64 0)]) #[(.int .i64 0), (.int .i64 0)] hk33 (by kernel_rfl) (by kernel_rfl) (by kernel_rfl) ?_
   intro w29 hg30 hb31 hz32
   refine gv_nil <| gv_cret ?_
   have e := sj h0; subst e
   refine gv_ret (gv_done [(.int .i64 0), (.agg #[(.int .i64 0), (.int .i64 0)])] rfl ⟨(by kernel_rfl), ⟨⟨b1, 0, none⟩, (by kernel_rfl), run_loadVar_row w29 b1 _ 29 _ _ _ hb31 Try.underlying29 rfl (by kernel_rfl)⟩, trivial⟩ ?_)
   have hB34 := bg hB9 hg11 nb
   have hlo35 : w0.heap.size ≤ b1 := lob hbe5 hB0.size
   have hB36 := bg hB34 hg30 (rowlo hlo35)
   exact ⟨grown_of_below hB36, rfl⟩
  ·replace h0 := ite_f hc28 h0
   refine gv_skip <| gv_seq <| gv_region <| gv_pureN 8 [12, 13, 14, 15, 16, 17, 18, 19] [(15, (.int .i64 (IntKind.i64.wrap (32 * (IntKind.i64.wrap (((List.length a_0 : Nat) : Int) - 1)))))), (16, (.slice pa0_0 (List.length a_0) pc0_0)), (19, (.int .i64 (IntKind.i64.wrap (((List.length a_0 : Nat) : Int) - 1))))] (by kernel_rfl) ?_
   refine bindE h0 ?_; clear h0; intro x37 hx38 h0
   have hB39 := bg hB9 hg11 nb
   refine gv_idxaddr (t := 22) (e := 76) (a := pa0_0) (len := List.length a_0) (cap := pc0_0) (kk := .i64) (i := (IntKind.i64.wrap (((List.length a_0 : Nat) : Int) - 1))) (sz := 1) [] (fun e => by cases e) rfl rfl rfl (by kernel_rfl) (by kernel_rfl) Try.underlying22 (by kernel_rfl) ((hpa0_0.below hB39 hX0).has hx38) (idx_spec hx38).1 (idx_spec hx38).2.1 rfl ?_
   refine gv_load (t := 76) (A := (elemAddr pa0_0 (((IntKind.i64.wrap (((List.length a_0 : Nat) : Int) - 1))).toNat * 1))) (.int .u32 x37) [] (fun e => by cases e) rfl rfl rfl (by kernel_rfl) (by kernel_rfl) (by kernel_rfl) (inw0 ((hpa0_0.below hB39 hX0).cell hx38)) rfl ?_
   refine bindE h0 ?_; clear h0; intro r40 hr41 h0
   refine gv_call0 (by kernel_rfl) rfl (by kernel_rfl) enters77 (bits_Len32_ok fuel x37 w10  r40 hr41) ?_
   rintro v44 w42 ⟨hg43, rfl⟩
   refine gv_pureN 3 [2, 23, 24] [(2, (.int .i64 (IntKind.i64.wrap ((IntKind.i64.wrap (32 * (IntKind.i64.wrap (((List.length a_0 : Nat) : Int) - 1)))) + r40)))), (24, (.agg #[(.int .i64 0), (.int .i64 0)]))] (by kernel_rfl) ?_
   have hg49 := (grown_trans hg11 hg43)
   have hk50 := hb4.grown hg49 nb
   refine gv_store0 29 0 (.agg #[(.int .i64 0), (.int .i64 0)]) #[(.int .i64 0), (.int .i64 0)] hk50 (by kernel_rfl) (by kernel_rfl) (by kernel_rfl) ?_
   intro w45 hg46 hb47 hz48
   refine bindE h0 ?_; clear h0; intro n51 hn52 h0
   refine gv_name (s := 2) (v := (.int .i64 (IntKind.i64.wrap ((IntKind.i64.wrap (32 * (IntKind.i64.wrap (((List.length a_0 : Nat) : Int) - 1)))) + r40)))) (v' := (.int .i64 n51)) (by kernel_rfl) (congrArg (Value.int .i64) (sj hn52)) ?_
   refine gv_nil <| gv_cret ?_
   have e := sj h0; subst e
   refine gv_ret (gv_done [(.int .i64 n51), (.agg #[(.int .i64 0), (.int .i64 0)])] rfl ⟨(by kernel_rfl), ⟨⟨b1, 0, none⟩, (by kernel_rfl), run_loadVar_row w45 b1 _ 29 _ _ _ hb47 Try.underlying29 rfl (by kernel_rfl)⟩, trivial⟩ ?_)
   have hB53 := bg hB39 hg43 nb
   have hlo54 : w0.heap.size ≤ b1 := lob hbe5 hB0.size
   have hB55 := bg hB53 hg46 (rowlo hlo54)
   exact ⟨grown_of_below hB55, rfl⟩

theorem integer_Bits_ok (fuel : Nat) (pa0_0 : Option Addr) (pc0_0 : Nat) (a_0 : (Bool × (List Int))) (w0 : World) (X0 : Nat → Prop) (hX0 : ∀ k, X0 k → k < w0.heap.size) (hpa0_0 : Rd (iE .u32) w0 X0 pa0_0 pc0_0 a_0.2) (r0 : (Int × (Int × Int))) (h0 : integer_Bits fuel a_0 = some r0) :
    Calls Try.prog 60 ([(.agg #[(.bool a_0.1), (.slice pa0_0 (List.length a_0.2) pc0_0)])] : List Value).toArray w0 (Ret fun v w' => w0.grownBy w' none ∧ v = tup [(.int .i64 r0.1), (.agg #[(.int .i64 r0.2.1), (.int .i64 r0.2.2)])]) := by
 have hB0 : Below w0.heap.size w0 w0 := Below.refl _ _
 unfold integer_Bits at h0
 refine calls_run Try.func60 rfl Try.ntmps60 (by kernel_rfl) ?_
 refine gv_sub [0] (σ' := [(0, (.agg #[(.bool a_0.1), (.slice pa0_0 (List.length a_0.2) pc0_0)]))]) (by kernel_rfl) ?_
 refine gv_seq <| gv_region <| gv_new0 (fun b => .pointer (some ⟨b, 0, none⟩)) #[(.bool a_0.1), (.slice pa0_0 (List.length a_0.2) pc0_0)] 24 (by kernel_rfl) (by kernel_rfl) ?_
 intro b1 w2 hg3 hb4 hbe5 hz6
 refine gv_pureN 1 [2] [] (by kernel_rfl) ?_
 refine gv_new0 (fun b => .pointer (some ⟨b, 0, none⟩)) #[(.int .i64 0), (.int .i64 0)] 29 (by kernel_rfl) (by kernel_rfl) ?_
 intro b7 w8 hg9 hb10 hbe11 hz12
 refine gv_nil <| gv_seq <| gv_seq <| gv_region ?_
 have hk13 := hb4.grown hg9 nb
 refine gv_loadBox (t := 24) (b := b1) (t' := 24) (fr := (0, 0)) #[(.bool a_0.1), (.slice pa0_0 (List.length a_0.2) pc0_0)] [] (fun e => by cases e) rfl rfl rfl (by kernel_rfl) (by kernel_rfl) (by kernel_rfl) (by kernel_rfl) (inw0 hk13) rfl ?_
 refine gv_new0 (fun b => .slice (some ⟨b, 0, none⟩) 1 1) #[(.bool a_0.1), (.slice pa0_0 (List.length a_0.2) pc0_0)] 24 (by kernel_rfl) (by kernel_rfl) ?_
 intro b14 w15 hg16 hb17 hbe18 hz19
 obtain ⟨X25, e⟩ : ∃ X : Nat → Prop, X = (fun k => X0 k) := ⟨_, rfl⟩
 have hg26 := (grown_trans hg3 hg9)
 have hB27 := bg hB0 hg26 nb
 have hx23 : ∀ k, X25 k → k < w8.heap.size := fun k h => by rw [e] at h; exact (fun k (hk : X0 k) => ltl (hX0 k hk) hB27.size) k h
 have hz28 := hg16.size
 have hx22 : ∀ k, X25 k → k < w15.heap.size := fun k h => ltl (hx23 k h) hz28
 have hx24 : ∀ k, X25 k → X0 k ∨ w0.heap.size ≤ k := fun k h => by rw [e] at h; exact (fun k (hk : X0 k) => Or.inl hk) k h
 have hB29 := bg hB27 hg16 nb
 have ho20 : Own (prE tE (slE (iE .u32))) 24 w15 X25 (some ⟨b14, 0, none⟩) 1 ([(a_0.1, a_0.2)] : List (Bool × (List Int))) := Box.ownE hb17 (by rw [e]; exact ⟨[(.bool a_0.1), (.slice pa0_0 (List.length a_0.2) pc0_0)], [], rfl, ⟨[(.bool a_0.1)], [(.slice pa0_0 (List.length a_0.2) pc0_0)], rfl, rfl, ⟨pa0_0, pc0_0, rfl, ((hpa0_0.below hB29 hX0).wide (fun _ h => h))⟩⟩, rfl⟩) (show 1 ≤ maxLen by decide) (fun h => noteq hbe18 (hx23 _ h))
 have hx30 : ∀ k, X25 k → (fun k => X0 k) k := fun k h => by rw [e] at h; exact h
 clear e
 have hl21 : ∀ g, blk (some ⟨b14, 0, none⟩) = some g → w0.heap.size ≤ g := loo hbe18 hB27.size
 have ap31 : ∀ g, blk (some ⟨b14, 0, none⟩) = some g → ¬ (· = b1) g := fun g e hx => nl (lowo hbe18 g e) ((ltb hk13) _ hx)
 have hlo33 : w0.heap.size ≤ b1 := lob hbe5 hB0.size
 have ap32 : ¬ (fun k => blk (some ⟨b14, 0, none⟩) = some k ∨ X25 k) b1 := fun h => h.elim (fun h => nl (lowo hbe18 _ h) ((ltb hk13) _ rfl)) (fun h => ((fun (hx : X0 b1) => nl hlo33 (hX0 _ hx)))  (hx30 _ h))
 have ap34 : ∀ g, blk (some ⟨b14, 0, none⟩) = some g → ¬ (· = b7) g := fun g e hx => nl (lowo hbe18 g e) ((ltb hb10) _ hx)
 have hB36 := bg hB0 hg3 nb
 have hlo37 : w0.heap.size ≤ b7 := lob hbe11 hB36.size
 have ap35 : ¬ (fun k => blk (some ⟨b14, 0, none⟩) = some k ∨ X25 k) b7 := fun h => h.elim (fun h => nl (lowo hbe18 _ h) ((ltb hb10) _ rfl)) (fun h => ((fun (hx : X0 b7) => nl hlo37 (hX0 _ hx)))  (hx30 _ h))
 refine bindE h0 ?_; clear h0; intro r38 hr39 h0
 refine gv_call0 (by kernel_rfl) rfl (by kernel_rfl) enters62 (integer_check_ok fuel (some ⟨b14, 0, none⟩) 1 ([(a_0.1, a_0.2)] : List (Bool × (List Int))) w15 (fun k => (fun k => blk (some ⟨b14, 0, none⟩) = some k ∨ X25 k) k) (fun k hk => (fun k (hk : blk (some ⟨b14, 0, none⟩) = some k ∨ X25 k) => hk.elim (fun h => ho20.lt k h) (fun h => hx22 k h)) k hk) ((ho20.rd (Y := fun k => blk (some ⟨b14, 0, none⟩) = some k ∨ X25 k) (fun _ h => .inr h) (fun g e => .inl e)).wide (fun k hk => hk)) r38 hr39) ?_
 rintro v42 w40 ⟨hg41, rfl⟩
 refine gv_new0 (fun b => .pointer (some ⟨b, 0, none⟩)) #[(.int .i64 0), (.int .i64 0)] 29 (by kernel_rfl) (by kernel_rfl) ?_
 intro b43 w44 hg45 hb46 hbe47 hz48
 refine gv_store0 29 0 (.agg #[(.int .i64 r38.1), (.int .i64 r38.2)]) #[(.int .i64 r38.1), (.int .i64 r38.2)] hb46 (by kernel_rfl) (by kernel_rfl) (by kernel_rfl) ?_
 intro w49 hg50 hb51 hz52
 refine gv_nil <| gv_seq <| gv_region <| gv_pureN 1 [8] [(8, (bp b43))] (by kernel_rfl) ?_
 refine gv_load (t := 3) (A := ⟨b43, 0, none⟩) (.int .i64 r38.1) [] (fun e => by cases e) rfl rfl rfl (by kernel_rfl) (by kernel_rfl) (by kernel_rfl) (inw0 (hb51.cell 0 rfl)) rfl ?_
 refine gv_pureN 1 [10] [(10, (.bool (r38.1 != 0)))] (by kernel_rfl) ?_
 refine gv_nil <| gv_cond (b := (r38.1 != 0)) (by kernel_rfl) (fun hc53 => ?_) (fun hc53 => ?_)
 ·replace h0 := ite_t hc53 h0
  refine gv_seq <| gv_drawA (by kernel_rfl) ?_
  intro w54 hg55
  refine gv_pre [1] (bA 3 [1]) 2 (by kernel_rfl) (by kernel_rfl) ?_
  refine gv_pureN 1 [2] [(2, (.int .i64 0))] (by kernel_rfl) ?_
  refine gv_nil <| gv_goA ?_
  refine gv_stage (Cls w54 []) [0, 1] [(0, some true)] (bA 3 [0, 1]) 1 (by kernel_rfl) (by kernel_rfl) (Cls.refl _ _) ?_
  have hC56 := Cls.refl w54 []
  have hk57 := hb51.grown hg55 nb
  refine gv_loadBox (t := 29) (b := b43) (t' := 29) (fr := (0, 0)) #[(.int .i64 r38.1), (.int .i64 r38.2)] [] (fun e => by cases e) rfl rfl rfl (by kernel_rfl) (by kernel_rfl) (by kernel_rfl) (by kernel_rfl) (inw1 fun w' hC' => (hC'.box hk57 nm_nil)) rfl ?_
  refine gv_nil <| gv_goA ?_
  refine gv_stage (fun _ => True) [0, 1, 2] [(2, some false)] (bA 3 [0, 1, 2]) 0 (by kernel_rfl) (by kernel_rfl) trivial ?_
  have hg62 := (grown_trans (grown_trans hg16 hg41) hg45)
  have hg63 := (grown_trans hg16 hg41)
  have hk64 := hb10.grown hg63 nb
  have lt65 := ltl ((ltb hk64) _ rfl) ((lowb hbe47) _ rfl)
  have hk66 := ((hb10.grown hg62 nb).grown hg50 (rowne (ng lt65))).grown hg55 nb
  refine gv_store (t := 29) (b := b7) (off := 0) (v := (.agg #[(.int .i64 r38.1), (.int .i64 r38.2)])) (t' := 29) (cs := #[(.int .i64 0), (.int .i64 0)]) #[(.int .i64 r38.1), (.int .i64 r38.2)] (by decide) rfl rfl (by kernel_rfl) (by kernel_rfl) (by kernel_rfl) (by intro u hu; simp [Value.cells] at hu; rcases hu with rfl | rfl <;> rfl) (show 0 + 2 ≤ 2 by decide) (by rfl) hk66 ?_
  intro w58 hg59 hb60 hz61
  refine ⟨(fun _ => trivial), ?_⟩
  clear hz61 hk64 hg63 hg62 hC56 hc53 hz52 hb51 hz48 hb46 hr39 ap35 hB36 ap34 ap32 ap31 hx30 hz28 hx23 hB27 hg26 hz19 hbe18 hb17 hz12 hb10 hg9 hz6 hbe5 hg3
  refine gv_nil <| gv_goA ?_
  refine gv_stageE (by kernel_rfl) ?_
  refine gv_cret ?_
  have e := sj h0; subst e
  refine gv_ret (gv_done [(.int .i64 0), (.agg #[(.int .i64 r38.1), (.int .i64 r38.2)])] rfl ⟨(by kernel_rfl), ⟨⟨b7, 0, none⟩, (by kernel_rfl), run_loadVar_row w58 b7 _ 29 _ _ _ hb60 Try.underlying29 rfl (by kernel_rfl)⟩, trivial⟩ ?_)
  have hg67 := (grown_trans hg41 hg45)
  have hB68 := bg hB29 hg67 nb
  have hB69 := bg hB29 hg41 nb
  have hlo70 : w0.heap.size ≤ b43 := lob hbe47 hB69.size
  have hB71 := bg hB68 hg50 (rowlo hlo70)
  have hB72 := bg hB71 hg55 nb
  have hB73 := bg hB72 hg59 (rowlo hlo37)
  exact ⟨grown_of_below hB73, rfl⟩
 ·replace h0 := ite_f hc53 h0
  refine gv_skip <| gv_seq <| gv_region <| gv_pureN 1 [12] [(12, (.pointer (some ⟨b1, 1, none⟩)))] (by kernel_rfl) ?_
  have hg74 := (grown_trans (grown_trans hg16 hg41) hg45)
  have lt75 := ltl ((ltb hb4) _ rfl) ((lowb hbe11) _ rfl)
  have hg76 := (grown_trans hg16 hg41)
  have hk77 := hb10.grown hg76 nb
  have lt78 := ltl ((ltb hk77) _ rfl) ((lowb hbe47) _ rfl)
  have lt79 := ltt lt75 lt78
  have hk80 := (hk13.grown hg74 nb).grown hg50 (rowne (ng lt79))
  refine gv_load (t := 22) (A := ⟨b1, 1, none⟩) (.slice pa0_0 (List.length a_0.2) pc0_0) [] (fun e => by cases e) rfl rfl rfl (by kernel_rfl) (by kernel_rfl) (by kernel_rfl) (inw0 (hk80.cell 1 rfl)) rfl ?_
  refine bindE h0 ?_; clear h0; intro r81 hr82 h0
  have hg83 := (grown_trans hg41 hg45)
  have hB84 := bg hB29 hg83 nb
  have hB85 := bg hB29 hg41 nb
  have hlo86 : w0.heap.size ≤ b43 := lob hbe47 hB85.size
  have hB87 := bg hB84 hg50 (rowlo hlo86)
  refine gv_call0 (by kernel_rfl) rfl (by kernel_rfl) enters68 (natural_Bits_ok fuel pa0_0 pc0_0 a_0.2 w49 (fun k => X0 k) (fun k hk => (fun k (hk : X0 k) => ltl (hX0 k hk) hB87.size) k hk) ((hpa0_0.below hB87 hX0).wide (fun k hk => hk)) r81 hr82) ?_
  rintro v90 w88 ⟨hg89, rfl⟩
  refine gv_pureN 3 [2, 15, 16] [(2, (.int .i64 r81.1)), (16, (.agg #[(.int .i64 r81.2.1), (.int .i64 r81.2.2)]))] (by kernel_rfl) ?_
  refine gv_sub [2, 3, 16] (σ' := [(2, (.int .i64 r81.1)), (3, (bp b7)), (16, (.agg #[(.int .i64 r81.2.1), (.int .i64 r81.2.2)]))]) (by kernel_rfl) ?_
  have hk95 := ((hk77.grown hg45 nb).grown hg50 (rowne (ng lt78))).grown hg89 nb
  refine gv_store0 29 0 (.agg #[(.int .i64 r81.2.1), (.int .i64 r81.2.2)]) #[(.int .i64 r81.2.1), (.int .i64 r81.2.2)] hk95 (by kernel_rfl) (by kernel_rfl) (by kernel_rfl) ?_
  intro w91 hg92 hb93 hz94
  refine gv_nil <| gv_cret ?_
  have e := sj h0; subst e
  refine gv_ret (gv_done [(.int .i64 r81.1), (.agg #[(.int .i64 r81.2.1), (.int .i64 r81.2.2)])] rfl ⟨(by kernel_rfl), ⟨⟨b7, 0, none⟩, (by kernel_rfl), run_loadVar_row w91 b7 _ 29 _ _ _ hb93 Try.underlying29 rfl (by kernel_rfl)⟩, trivial⟩ ?_)
  have hB96 := bg hB87 hg89 nb
  have hB97 := bg hB96 hg92 (rowlo hlo37)
  exact ⟨grown_of_below hB97, rfl⟩

theorem random_source_bits_ok (fuel : Nat) (pb0 : Nat) (s_0 : ((Int × Int))) (n_1 : Int) (w0 : World) (hp0 : Box w0 pb0 81 #[(.int .u64 s_0.1), (.int .u64 s_0.2)]) (r0 : ((Bool × (List Int)) × ((Int × Int)))) (h0 : random_source_bits fuel s_0 n_1 = some r0) :
    Calls Try.prog 61 ([(bp pb0), (.int .i64 n_1)] : List Value).toArray w0 (Ret fun v w' => w0.grownBy w' (some pb0) ∧ ∃ (a0_0r : Option Addr) (c0_0r : Nat), v = tup [(.agg #[(.bool r0.1.1), (.slice a0_0r (List.length r0.1.2) c0_0r)])] ∧ Own (iE .u32) 76 w' (fun _ => False) a0_0r c0_0r r0.1.2 ∧ (∀ g, blk a0_0r = some g → w0.heap.size ≤ g) ∧ Box w' pb0 81 #[(.int .u64 r0.2.1), (.int .u64 r0.2.2)]) := by
 have hB0 : w0.grownBy w0 (some pb0) := grown_refl _ _
 unfold random_source_bits at h0
 refine calls_run Try.func61 rfl Try.ntmps61 (by kernel_rfl) ?_
 refine gv_sub [0, 1] (σ' := [(0, (bp pb0)), (1, (.int .i64 n_1))]) (by kernel_rfl) ?_
 have hpl0 := hp0.lt
 refine gv_seq <| gv_region <| gv_new0 (fun b => .pointer (some ⟨b, 0, none⟩)) #[(.bool false), (.slice none (List.length ([] : List Int)) 0)] 24 (by kernel_rfl) (by kernel_rfl) ?_
 intro b1 w2 hg3 hb4 hbe5 hz6
 refine gv_nil <| gv_seq <| gv_region <| gv_pureN 1 [5] [(5, (.slice none (List.length ([] : List Int)) 0))] (by kernel_rfl) ?_
 refine gv_nil <| gv_seq <| bindE h0 ?_; clear h0; intro j7 h1 h0
 refine gv_cut_code (J := fun a w8 => ∃ (a5_0j : Option Addr) (c5_0j : Nat), w0.grownBy w8 (some pb0) ∧ w2.heap.size ≤ w8.heap.size ∧ Own (iE .u32) 76 w8 (fun _ => False) a5_0j c5_0j j7.1 ∧ (∀ g, blk a5_0j = some g → w0.heap.size ≤ g) ∧ (∀ g, blk a5_0j = some g → ¬ (· = b1) g) ∧ ¬ (fun k => blk a5_0j = some k) b1 ∧ Box w8 pb0 81 #[(.int .u64 j7.2.1), (.int .u64 j7.2.2)] ∧ Box w8 b1 24 #[(.bool false), (.slice none (List.length ([] : List Int)) 0)] ∧ a.defers = [] ∧ a.tmps.size = 44 ∧ Ok [(4, (bp b1)), (5, (.slice a5_0j (List.length j7.1) c5_0j))] a.tmps) ?_ ?_
 ·skip
  refine gv_block <| gv_loop (A := fun (s9 : (Int × (List Int) × ((Int × Int)))) a w10 => ∃ (a5_0j : Option Addr) (c5_0j : Nat), w0.grownBy w10 (some pb0) ∧ w2.heap.size ≤ w10.heap.size ∧ Own (iE .u32) 76 w10 (fun _ => False) a5_0j c5_0j s9.2.1 ∧ (∀ g, blk a5_0j = some g → w0.heap.size ≤ g) ∧ (∀ g, blk a5_0j = some g → ¬ (· = b1) g) ∧ ¬ (fun k => blk a5_0j = some k) b1 ∧ Box w10 pb0 81 #[(.int .u64 s9.2.2.1), (.int .u64 s9.2.2.2)] ∧ Box w10 b1 24 #[(.bool false), (.slice none (List.length ([] : List Int)) 0)] ∧ a.defers = [] ∧ a.tmps.size = 44 ∧ Ok [(0, (bp pb0)), (1, (.int .i64 s9.1)), (4, (bp b1)), (5, (.slice a5_0j (List.length s9.2.1) c5_0j))] a.tmps) h1 ?_ ?_
  ·intro a hd hs hok
   have hB11 := grown_step hB0 hg3 nb
   have hk12 := hp0.grown hg3 nb
   exact ⟨none, 0, hB11, (Nat.le_refl _), (Own.nil (iE .u32) 76 w2 (fun _ => False)), (fun _ h => by cases h), (fun _ h => by cases h), (fun h => by cases h), hk12, hb4, hd, hs, ok_pick [0, 1, 4, 5] hok (by kernel_rfl)⟩
  ·rintro s9 r2 h2 hR2 a w10 ⟨a15, c16, hB13, hz14, ho17, hl18, ap19, ap20, hb21, hb22, hd, hs, hok⟩
   refine gv_in ?_ hd hs hok
   clear hd hs hok
   refine gv_seq <| gv_seq <| gv_region <| gv_pureN 2 [7, 8] [(8, (.bool (decide (s9.1 > 0))))] (by kernel_rfl) ?_
   refine gv_nil <| gv_cond (b := (decide (s9.1 > 0))) (by kernel_rfl) (fun hc23 => ?_) (fun hc23 => ?_)
   ·replace h2 := ite_t hc23 h2
    refine gv_skip <| gv_seq <| gv_block <| gv_seq <| gv_region <| gv_pureN 1 [11] [(11, (bp pb0))] (by kernel_rfl) ?_
    refine bindE h2 ?_; clear h2; intro r24 hr25 h2
    refine gv_call0 (by kernel_rfl) rfl (by kernel_rfl) enters40 (random_source_next_ok fuel pb0 (s9.2.2.1, s9.2.2.2) w10 hb21 r24 hr25) ?_
    rintro v28 w26 ⟨hg27, rfl, hb29⟩
    refine gv_pureN 3 [6, 13, 14] [(6, (.int .u32 (IntKind.u32.wrap (((r24.1).fdiv (2 ^ 32))))))] (by kernel_rfl) ?_
    refine bindE h2 ?_; clear h2; intro n30 hn31 h2
    refine gv_name (s := 6) (v := (.int .u32 (IntKind.u32.wrap (((r24.1).fdiv (2 ^ 32)))))) (v' := (.int .u32 n30)) (by kernel_rfl) (congrArg (Value.int .u32) (sj hn31)) ?_
    refine gv_nil <| gv_seq <| gv_seq <| gv_region <| gv_pureN 2 [15, 16] [(16, (.bool (decide (s9.1 < 32))))] (by kernel_rfl) ?_
    refine gv_nil <| bindE h2 ?_; clear h2; intro j32 h3 h2
    refine gv_cut_code (J := fun a w33 => w0.grownBy w33 (some pb0) ∧ w26.heap.size ≤ w33.heap.size ∧ Box w33 pb0 81 #[(.int .u64 r24.2.1), (.int .u64 r24.2.2)] ∧ Box w33 b1 24 #[(.bool false), (.slice none (List.length ([] : List Int)) 0)] ∧ Own (iE .u32) 76 w33 (fun _ => False) a15 c16 s9.2.1 ∧ a.defers = [] ∧ a.tmps.size = 44 ∧ Ok [(0, (bp pb0)), (1, (.int .i64 s9.1)), (4, (bp b1)), (5, (.slice a15 (List.length s9.2.1) c16)), (6, (.int .u32 j32))] a.tmps) ?_ ?_
    ·skip
     refine gv_cond (b := (decide (s9.1 < 32))) (by kernel_rfl) (fun hc34 => ?_) (fun hc34 => ?_)
     ·replace h3 := ite_t hc34 h3
      refine gv_region <| gv_pureN 3 [17, 18, 19] [(17, (.int .u32 n30)), (19, (.int .i64 (IntKind.i64.wrap (32 - s9.1))))] (by kernel_rfl) ?_
      refine bindE h3 ?_; clear h3; intro _ hx35 h3
      refine gv_shift .shr (t := 76) (kk := .u32) (ky := .i64) (x := n30) (y := (IntKind.i64.wrap (32 - s9.1))) (shrI .u32 n30 (IntKind.i64.wrap (32 - s9.1))) [] (fun e => by cases e) rfl rfl rfl (by kernel_rfl) (by kernel_rfl) (nn_spec hx35) (.inr ⟨rfl, rfl⟩) rfl ?_
      refine gv_pureN 1 [6] [(6, (.int .u32 (shrI .u32 n30 (IntKind.i64.wrap (32 - s9.1)))))] (by kernel_rfl) ?_
      refine bindE h3 ?_; clear h3; intro n36 hn37 h3
      refine gv_name (s := 6) (v := (.int .u32 (shrI .u32 n30 (IntKind.i64.wrap (32 - s9.1))))) (v' := (.int .u32 n36)) (by kernel_rfl) (congrArg (Value.int .u32) (sj hn37)) ?_
      refine gv_nil ?_
      have e := sj h3; subst e
      refine gv_goal fun a hd hs hok => ?_
      have hB38 := grown_step hB13 hg27 rowpp
      have ap39 : ¬ (· = b1) pb0 := fun hx => nl ((lowb hbe5) _ hx) ((ltb hp0) _ rfl)
      have hk40 := hb22.grown hg27 (rowne ap39)
      have hk41 := ho17.grown hg27 (fun _ h => h.elim) (rdnn (rowne (fun (h : blk a15 = some pb0) => nl (hl18 _ h) hpl0)))
      exact ⟨hB38, (Nat.le_refl _), hb29, hk40, hk41, hd, hs, ok_pick [0, 1, 4, 5, 6] hok (by kernel_rfl)⟩
     ·replace h3 := ite_f hc34 h3
      refine gv_skip ?_
      have e := sj h3; subst e
      refine gv_goal fun a hd hs hok => ?_
      have hB42 := grown_step hB13 hg27 rowpp
      have ap43 : ¬ (· = b1) pb0 := fun hx => nl ((lowb hbe5) _ hx) ((ltb hp0) _ rfl)
      have hk44 := hb22.grown hg27 (rowne ap43)
      have hk45 := ho17.grown hg27 (fun _ h => h.elim) (rdnn (rowne (fun (h : blk a15 = some pb0) => nl (hl18 _ h) hpl0)))
      exact ⟨hB42, (Nat.le_refl _), hb29, hk44, hk45, hd, hs, ok_pick [0, 1, 4, 5, 6] hok (by kernel_rfl)⟩
    ·rintro a w33 ⟨hB46, hz47, hb48, hb49, hk50, hd, hs, hok⟩
     refine gv_in ?_ hd hs hok
     clear hd hs hok
     have hz51 := (nt (nt hz14 hg27.size) hz47)
     clear hz47 hn31 hb29 hg27 hr25 hc23 hb22 hb21 ho17 hz14 hB13 hz6 hb4 hg3
     refine gv_region <| gv_pureN 2 [21, 22] [(21, (.slice a15 (List.length s9.2.1) c16)), (22, (.int .u32 j32))] (by kernel_rfl) ?_
     refine gv_new0 (fun b => .slice (some ⟨b, 0, none⟩) 1 1) #[(.int .u32 j32)] 76 (by kernel_rfl) (by kernel_rfl) ?_
     intro b52 w53 hg54 hb55 hbe56 hz57
     have ho58 : Own (iE .u32) 76 w53 (fun _ => False) (some ⟨b52, 0, none⟩) 1 ([j32] : List Int) := Box.ownE hb55 ⟨[(.int .u32 j32)], [], rfl, rfl, rfl⟩ (show 1 ≤ maxLen by decide) (fun h => h)
     have hl59 : ∀ g, blk (some ⟨b52, 0, none⟩) = some g → w0.heap.size ≤ g := loo hbe56 hB46.size
     refine bindE h2 ?_; clear h2; intro l63 hx64 h2
     have hk71 := hk50.grown hg54 (fun _ h => h.elim) nb
     refine gv_append (iE .u32) (t := 22) (ty := 22) (e := 76) (a := a15) (ax := (some ⟨b52, 0, none⟩)) (cap := c16) (cx := 1) (xs := s9.2.1) (ys := ([j32] : List Int)) l63 (X := (fun _ => False)) (Y := (fun k => blk (some ⟨b52, 0, none⟩) = some k)) (by decide) rfl rfl (by kernel_rfl) (by kernel_rfl) Try.underlying22 info76 hk71 (ho58.rd (Y := fun k => blk (some ⟨b52, 0, none⟩) = some k) (fun _ h => h.elim) (fun g e => e)) hx64 (.inr fun _ _ _ _ _ h => h) (fun _ h => h.elim) ?_
     intro a65 c66 w67 hg68 ho69 hk70
     refine ⟨(fun e => by cases e), ?_⟩
     have hB73 := grown_step hB46 hg54 nb
     have hl72 : ∀ g, blk a65 = some g → w0.heap.size ≤ g := blk_step hk70 hl18 hB73.size
     have hk75 := hb49.grown hg54 nb
     have ap74 : ∀ g, blk a65 = some g → ¬ (· = b1) g := blk_neX hk70 ap19 (ltb hk75)
     have ap76 : ¬ (fun k => blk a65 = some k) b1 := fun h => blk_rev hk70 (fun h => (ap20) h) (hk75.lt) h
     have ap78 : ∀ g, blk a15 = some g → ¬ (fun k => blk (some ⟨b52, 0, none⟩) = some k) g := fun g e hx => nl ((lowo hbe56) _ hx) ((fun k (hk : blk a15 = some k) => hk50.lt k hk) g e)
     have ap77 : ∀ g, blk a65 = some g → ¬ (fun k => blk (some ⟨b52, 0, none⟩) = some k) g := blk_neX hk70 ap78 (fun k (hk : blk (some ⟨b52, 0, none⟩) = some k) => ho58.lt k hk)
     have ap80 : ∀ g, blk (some ⟨b52, 0, none⟩) = some g → ¬ (fun k => blk a15 = some k) g := fun g e hx => nl ((lowo hbe56) g e) ((fun k (hk : blk a15 = some k) => hk50.lt k hk) _ hx)
     have ap79 : ∀ g, blk (some ⟨b52, 0, none⟩) = some g → ¬ (fun k => blk a65 = some k) g := fun g e h => blk_rev hk70 (fun h => ((ap80) g e) h) (ho58.lt g e) h
     refine gv_pureN 1 [5] [(5, (.slice a65 (List.length l63) c66))] (by kernel_rfl) ?_
     refine gv_nil <| gv_blk <| gv_region <| gv_pureN 3 [1, 9, 10] [(1, (.int .i64 (IntKind.i64.wrap (s9.1 - 32))))] (by kernel_rfl) ?_
     refine gv_nil ?_
     have e := sj h2; subst e
     refine gv_goal fun a hd hs hok => ?_
     have hB81 := grown_step hB73 hg68 (fun g e => .inr (hl18 g e))
     have hz82 := (nt (nt hz51 hg54.size) hg68.size)
     have hk83 := (hb48.grown hg54 nb).grown hg68 (fun g (e : blk a15 = some g) (h : g = pb0) => negt hpl0 (hl18 g e) h)
     have hk84 := hk75.grown hg68 ap19
     exact ⟨((IntKind.i64.wrap (s9.1 - 32)), l63, (r24.2.1, r24.2.2)), rfl, a65, c66, hB81, hz82, ho69, hl72, ap74, ap76, hk83, hk84, hd, hs, ok_pick [0, 1, 4, 5] hok (by kernel_rfl)⟩
   ·replace h2 := ite_f hc23 h2
    refine gv_cexit <| gv_exit rfl ?_
    have e := sj h2; subst e
    replace h1 := congrArg some (hR2 _ rfl)
    have e := sj h1; subst e
    refine gv_goal fun a hd hs hok => ?_
    have hz85 := hz14
    exact ⟨a15, c16, hB13, hz85, ho17, hl18, ap19, ap20, hb21, hb22, hd, hs, ok_pick [4, 5] hok (by kernel_rfl)⟩
 ·rintro a w8 ⟨a88, c89, hB86, hz87, ho90, hl91, ap92, ap93, hb94, hb95, hd, hs, hok⟩
  refine gv_in ?_ hd hs hok
  clear hd hs hok
  clear hz87 hz6 hb4 hg3
  refine gv_seq <| bindE h0 ?_; clear h0; intro j96 h1 h0
  refine gv_cut_code (J := fun a w97 => ∃ (a5_0j : Option Addr) (c5_0j : Nat), w0.grownBy w97 (some pb0) ∧ w8.heap.size ≤ w97.heap.size ∧ Own (iE .u32) 76 w97 (fun _ => False) a5_0j c5_0j j96 ∧ (∀ g, blk a5_0j = some g → w0.heap.size ≤ g) ∧ (∀ g, blk a5_0j = some g → ¬ (· = b1) g) ∧ ¬ (fun k => blk a5_0j = some k) b1 ∧ Box w97 pb0 81 #[(.int .u64 j7.2.1), (.int .u64 j7.2.2)] ∧ Box w97 b1 24 #[(.bool false), (.slice none (List.length ([] : List Int)) 0)] ∧ a.defers = [] ∧ a.tmps.size = 44 ∧ Ok [(4, (bp b1)), (5, (.slice a5_0j (List.length j96) c5_0j))] a.tmps) ?_ ?_
  ·skip
   refine gv_block <| gv_loop (A := fun (s98 : (List Int)) a w99 => ∃ (a5_0j : Option Addr) (c5_0j : Nat), w0.grownBy w99 (some pb0) ∧ w8.heap.size ≤ w99.heap.size ∧ Own (iE .u32) 76 w99 (fun _ => False) a5_0j c5_0j s98 ∧ (∀ g, blk a5_0j = some g → w0.heap.size ≤ g) ∧ (∀ g, blk a5_0j = some g → ¬ (· = b1) g) ∧ ¬ (fun k => blk a5_0j = some k) b1 ∧ Box w99 pb0 81 #[(.int .u64 j7.2.1), (.int .u64 j7.2.2)] ∧ Box w99 b1 24 #[(.bool false), (.slice none (List.length ([] : List Int)) 0)] ∧ a.defers = [] ∧ a.tmps.size = 44 ∧ Ok [(4, (bp b1)), (5, (.slice a5_0j (List.length s98) c5_0j))] a.tmps) h1 ?_ ?_
   ·intro a hd hs hok
    exact ⟨a88, c89, hB86, (Nat.le_refl _), ho90, hl91, ap92, ap93, hb94, hb95, hd, hs, ok_pick [4, 5] hok (by kernel_rfl)⟩
   ·rintro s98 r2 h2 hR2 a w99 ⟨a102, c103, hB100, hz101, ho104, hl105, ap106, ap107, hb108, hb109, hd, hs, hok⟩
    refine gv_in ?_ hd hs hok
    clear hd hs hok
    clear hb95 hb94 ap93 ap92 hl91 ho90 hB86
    refine gv_seq <| gv_seq <| gv_region <| bindE h2 ?_; clear h2; intro j110 h3 h2
    refine gv_cut_ops (J := fun a w111 => w0.grownBy w111 (some pb0) ∧ w99.heap.size ≤ w111.heap.size ∧ Box w111 pb0 81 #[(.int .u64 j7.2.1), (.int .u64 j7.2.2)] ∧ Box w111 b1 24 #[(.bool false), (.slice none (List.length ([] : List Int)) 0)] ∧ Own (iE .u32) 76 w111 (fun _ => False) a102 c103 s98 ∧ a.defers = [] ∧ a.tmps.size = 44 ∧ Ok [(4, (bp b1)), (5, (.slice a102 (List.length s98) c103)), (36, (.bool j110))] a.tmps) ?_ ?_
    ·skip
     refine gv_pureN 4 [25, 26, 27, 28] [(28, (.bool (decide (((List.length s98 : Nat) : Int) > 0))))] (by kernel_rfl) ?_
     refine gv_split (s := 28) (g := (decide (((List.length s98 : Nat) : Int) > 0))) (by kernel_rfl) (fun hc112 => ?_) (fun hc112 => ?_)
     ·skip
      replace h3 := ite_t hc112 h3
      refine gv_pureN 4 [29, 30, 31, 32] [(29, (.slice a102 (List.length s98) c103)), (32, (.int .i64 (IntKind.i64.wrap (((List.length s98 : Nat) : Int) - 1))))] (by kernel_rfl) ?_
      refine bindE h3 ?_; clear h3; intro x113 hx114 h3
      refine gv_idxaddr (t := 22) (e := 76) (a := a102) (len := List.length s98) (cap := c103) (kk := .i64) (i := (IntKind.i64.wrap (((List.length s98 : Nat) : Int) - 1))) (sz := 1) [] (fun e => by cases e) rfl rfl rfl (by kernel_rfl) (by kernel_rfl) Try.underlying22 (by kernel_rfl) ((ho104.rd (Y := fun k => blk a102 = some k) (fun _ h => h.elim) (fun g e => e)).has hx114) (idx_spec hx114).1 (idx_spec hx114).2.1 rfl ?_
      refine gv_load (t := 76) (A := (elemAddr a102 (((IntKind.i64.wrap (((List.length s98 : Nat) : Int) - 1))).toNat * 1))) (.int .u32 x113) [] (fun e => by cases e) rfl rfl rfl (by kernel_rfl) (by kernel_rfl) (by kernel_rfl) (inw0 ((ho104.rd (Y := fun k => blk a102 = some k) (fun _ h => h.elim) (fun g e => e)).cell hx114)) rfl ?_
      refine gv_pureN 2 [35, 36] [(36, (.bool (x113 == 0)))] (by kernel_rfl) ?_
      refine gv_nil ?_
      have e := sj h3; subst e
      refine gv_goal fun a hd hs hok => ?_
      exact ⟨hB100, (Nat.le_refl _), hb108, hb109, ho104, hd, hs, ok_pick [4, 5, 36] hok (by kernel_rfl)⟩
     ·skip
      replace h3 := ite_f hc112 h3
      refine gv_pureN 8 [29, 30, 31, 32, 33, 34, 35, 36] [(36, (.bool false))] (by kernel_rfl) ?_
      refine gv_nil ?_
      have e := sj h3; subst e
      refine gv_goal fun a hd hs hok => ?_
      exact ⟨hB100, (Nat.le_refl _), hb108, hb109, ho104, hd, hs, ok_pick [4, 5, 36] hok (by kernel_rfl)⟩
    ·rintro a w111 ⟨hB115, hz116, hb117, hb118, hk119, hd, hs, hok⟩
     refine gv_in ?_ hd hs hok
     clear hd hs hok
     have hz120 := (nt hz101 hz116)
     clear hz116 hb109 hb108 ho104 hz101 hB100
     refine gv_cond (b := j110) (by kernel_rfl) (fun hc121 => ?_) (fun hc121 => ?_)
     ·replace h2 := ite_t hc121 h2
      refine gv_skip <| gv_block <| gv_region <| gv_pureN 4 [37, 38, 39, 40] [(37, (.slice a102 (List.length s98) c103)), (40, (.int .i64 (IntKind.i64.wrap (((List.length s98 : Nat) : Int) - 1))))] (by kernel_rfl) ?_
      refine bindE h2 ?_; clear h2; intro x122 hx123 h2
      refine gv_pop (iE .u32) (t := 22) (e := 76) (xs := s98) (a := a102) (cap := c103) (lo := none) (hi := (some (.int .i64 (IntKind.i64.wrap (((List.length s98 : Nat) : Int) - 1))))) (IntKind.i64.wrap (((List.length s98 : Nat) : Int) - 1)) x122 (fun e => by cases e) rfl rfl rfl (by kernel_rfl) (by kernel_rfl) Try.underlying22 (by kernel_rfl) (.inl ⟨rfl, rfl⟩) (.inr ⟨_, rfl⟩) hx123 (hk119.rd (Y := fun k => blk a102 = some k) (fun _ h => h.elim) (fun g e => e)).1 ?_
      have ho124 := hk119.pop hx123
      refine gv_pureN 1 [5] [(5, (.slice a102 (List.length x122) c103))] (by kernel_rfl) ?_
      refine gv_nil <| gv_blk ?_
      have e := sj h2; subst e
      refine gv_goal fun a hd hs hok => ?_
      have hz125 := hz120
      exact ⟨x122, rfl, a102, c103, hB115, hz125, ho124, hl105, ap106, ap107, hb117, hb118, hd, hs, ok_pick [4, 5] hok (by kernel_rfl)⟩
     ·replace h2 := ite_f hc121 h2
      refine gv_cexit <| gv_exit rfl ?_
      have e := sj h2; subst e
      replace h1 := congrArg some (hR2 _ rfl)
      have e := sj h1; subst e
      refine gv_goal fun a hd hs hok => ?_
      have hz126 := hz120
      exact ⟨a102, c103, hB115, hz126, hk119, hl105, ap106, ap107, hb117, hb118, hd, hs, ok_pick [4, 5] hok (by kernel_rfl)⟩
  ·rintro a w97 ⟨a129, c130, hB127, hz128, ho131, hl132, ap133, ap134, hb135, hb136, hd, hs, hok⟩
   refine gv_in ?_ hd hs hok
   clear hd hs hok
   clear hz128 hb95 hb94 ap93 ap92 hl91 ho90 hB86
   refine gv_seq <| gv_region <| gv_pureN 2 [42, 43] [(43, (.agg #[(.bool false), (.slice a129 (List.length j96) c130)]))] (by kernel_rfl) ?_
   refine gv_store0 24 0 (.agg #[(.bool false), (.slice a129 (List.length j96) c130)]) #[(.bool false), (.slice a129 (List.length j96) c130)] hb136 (by kernel_rfl) (by kernel_rfl) (by kernel_rfl) ?_
   intro w137 hg138 hb139 hz140
   refine gv_nil <| gv_cret ?_
   have e := sj h0; subst e
   refine gv_ret (gv_done [(.agg #[(.bool false), (.slice a129 (List.length j96) c130)])] rfl ⟨⟨⟨b1, 0, none⟩, (by kernel_rfl), run_loadVar_row w137 b1 _ 24 _ _ _ hb139 Try.underlying24 rfl (by kernel_rfl)⟩, trivial⟩ ?_)
   have hlo141 : w0.heap.size ≤ b1 := lob hbe5 hB0.size
   have hB142 := grown_step hB127 hg138 (rowppr hlo141)
   have hk143 := ho131.grown hg138 (fun _ h => h.elim) (rdnn (rowne ap134))
   have ap144 : ¬ (· = pb0) b1 := fun hx => nl ((lowb hbe5) _ rfl) ((ltb hp0) _ hx)
   have hk145 := hb135.grown hg138 (rowne ap144)
   exact ⟨hB142, a129, c130, rfl, hk143, hl132, hk145⟩

end Go.Proofs.Ytenjigdaaeiklaa
