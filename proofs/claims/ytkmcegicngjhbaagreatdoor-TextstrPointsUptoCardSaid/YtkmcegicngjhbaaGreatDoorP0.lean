import Derived.Test.YtkmcegicngjhbaaGreatDoorRows
import Derived.Test.YtkmcegicngjhbaaGreatDoorGh
import Derived.Test.YtkmcegicngjhbaaGreatDoorD
import Derived.Test.YtkmcegicngjhbaaGreatDoorSt
set_option linter.all false
set_option maxHeartbeats 4000000
set_option maxRecDepth 100000
/- Own work, printed by a program of mine: the walk of each function: a call returns what the plain function says. -/
namespace Go.Proofs.YtkmcegicngjhbaaGreatDoor
open Go.Gv Go.Gv.D Go.RowKit
theorem nl {a b : Nat} (h : a ≤ b) : ¬ b < a := Nat.not_lt_of_le h
theorem sj {α : Type _} {a b : α} (h : some a = some b) : a = b := Option.some.inj h
theorem ng {a b : Nat} (h : b < a) : a ≠ b := Nat.ne_of_gt h
theorem ltl {a b c : Nat} (h : a < b) (h' : b ≤ c) : a < c := Nat.lt_of_lt_of_le h h'
theorem ltt {a b c : Nat} (h : a < b) (h' : b < c) : a < c := Nat.lt_trans h h'
theorem enters4 : Go.Gv.Enters Tryz.prog 4 := ⟨Tryz.f4, Tryz.func4, by kernel_rfl, by kernel_rfl⟩
theorem enters5 : Go.Gv.Enters Tryz.prog 5 := ⟨Tryz.f5, Tryz.func5, by kernel_rfl, by kernel_rfl⟩
theorem enters6 : Go.Gv.Enters Tryz.prog 6 := ⟨Tryz.f6, Tryz.func6, by kernel_rfl, by kernel_rfl⟩
theorem enters7 : Go.Gv.Enters Tryz.prog 7 := ⟨Tryz.f7, Tryz.func7, by kernel_rfl, by kernel_rfl⟩
theorem enters8 : Go.Gv.Enters Tryz.prog 8 := ⟨Tryz.f8, Tryz.func8, by kernel_rfl, by kernel_rfl⟩
theorem enters9 : Go.Gv.Enters Tryz.prog 9 := ⟨Tryz.f9, Tryz.func9, by kernel_rfl, by kernel_rfl⟩
theorem enters10 : Go.Gv.Enters Tryz.prog 10 := ⟨Tryz.f10, Tryz.func10, by kernel_rfl, by kernel_rfl⟩
theorem enters11 : Go.Gv.Enters Tryz.prog 11 := ⟨Tryz.f11, Tryz.func11, by kernel_rfl, by kernel_rfl⟩
theorem enters12 : Go.Gv.Enters Tryz.prog 12 := ⟨Tryz.f12, Tryz.func12, by kernel_rfl, by kernel_rfl⟩
theorem enters13 : Go.Gv.Enters Tryz.prog 13 := ⟨Tryz.f13, Tryz.func13, by kernel_rfl, by kernel_rfl⟩
theorem enters14 : Go.Gv.Enters Tryz.prog 14 := ⟨Tryz.f14, Tryz.func14, by kernel_rfl, by kernel_rfl⟩
theorem enters15 : Go.Gv.Enters Tryz.prog 15 := ⟨Tryz.f15, Tryz.func15, by kernel_rfl, by kernel_rfl⟩
theorem enters16 : Go.Gv.Enters Tryz.prog 16 := ⟨Tryz.f16, Tryz.func16, by kernel_rfl, by kernel_rfl⟩
theorem enters17 : Go.Gv.Enters Tryz.prog 17 := ⟨Tryz.f17, Tryz.func17, by kernel_rfl, by kernel_rfl⟩
theorem enters18 : Go.Gv.Enters Tryz.prog 18 := ⟨Tryz.f18, Tryz.func18, by kernel_rfl, by kernel_rfl⟩
theorem enters19 : Go.Gv.Enters Tryz.prog 19 := ⟨Tryz.f19, Tryz.func19, by kernel_rfl, by kernel_rfl⟩
theorem enters20 : Go.Gv.Enters Tryz.prog 20 := ⟨Tryz.f20, Tryz.func20, by kernel_rfl, by kernel_rfl⟩
theorem enters21 : Go.Gv.Enters Tryz.prog 21 := ⟨Tryz.f21, Tryz.func21, by kernel_rfl, by kernel_rfl⟩
theorem enters22 : Go.Gv.Enters Tryz.prog 22 := ⟨Tryz.f22, Tryz.func22, by kernel_rfl, by kernel_rfl⟩
theorem enters23 : Go.Gv.Enters Tryz.prog 23 := ⟨Tryz.f23, Tryz.func23, by kernel_rfl, by kernel_rfl⟩
theorem enters24 : Go.Gv.Enters Tryz.prog 24 := ⟨Tryz.f24, Tryz.func24, by kernel_rfl, by kernel_rfl⟩
theorem enters25 : Go.Gv.Enters Tryz.prog 25 := ⟨Tryz.f25, Tryz.func25, by kernel_rfl, by kernel_rfl⟩
theorem enters26 : Go.Gv.Enters Tryz.prog 26 := ⟨Tryz.f26, Tryz.func26, by kernel_rfl, by kernel_rfl⟩
theorem enters27 : Go.Gv.Enters Tryz.prog 27 := ⟨Tryz.f27, Tryz.func27, by kernel_rfl, by kernel_rfl⟩
theorem enters28 : Go.Gv.Enters Tryz.prog 28 := ⟨Tryz.f28, Tryz.func28, by kernel_rfl, by kernel_rfl⟩
theorem enters29 : Go.Gv.Enters Tryz.prog 29 := ⟨Tryz.f29, Tryz.func29, by kernel_rfl, by kernel_rfl⟩
theorem enters30 : Go.Gv.Enters Tryz.prog 30 := ⟨Tryz.f30, Tryz.func30, by kernel_rfl, by kernel_rfl⟩
theorem enters31 : Go.Gv.Enters Tryz.prog 31 := ⟨Tryz.f31, Tryz.func31, by kernel_rfl, by kernel_rfl⟩
theorem enters32 : Go.Gv.Enters Tryz.prog 32 := ⟨Tryz.f32, Tryz.func32, by kernel_rfl, by kernel_rfl⟩
theorem enters33 : Go.Gv.Enters Tryz.prog 33 := ⟨Tryz.f33, Tryz.func33, by kernel_rfl, by kernel_rfl⟩
theorem enters34 : Go.Gv.Enters Tryz.prog 34 := ⟨Tryz.f34, Tryz.func34, by kernel_rfl, by kernel_rfl⟩
theorem enters35 : Go.Gv.Enters Tryz.prog 35 := ⟨Tryz.f35, Tryz.func35, by kernel_rfl, by kernel_rfl⟩
theorem enters36 : Go.Gv.Enters Tryz.prog 36 := ⟨Tryz.f36, Tryz.func36, by kernel_rfl, by kernel_rfl⟩
theorem enters37 : Go.Gv.Enters Tryz.prog 37 := ⟨Tryz.f37, Tryz.func37, by kernel_rfl, by kernel_rfl⟩
theorem enters38 : Go.Gv.Enters Tryz.prog 38 := ⟨Tryz.f38, Tryz.func38, by kernel_rfl, by kernel_rfl⟩
theorem enters39 : Go.Gv.Enters Tryz.prog 39 := ⟨Tryz.f39, Tryz.func39, by kernel_rfl, by kernel_rfl⟩
theorem enters40 : Go.Gv.Enters Tryz.prog 40 := ⟨Tryz.f40, Tryz.func40, by kernel_rfl, by kernel_rfl⟩
theorem enters41 : Go.Gv.Enters Tryz.prog 41 := ⟨Tryz.f41, Tryz.func41, by kernel_rfl, by kernel_rfl⟩
theorem enters42 : Go.Gv.Enters Tryz.prog 42 := ⟨Tryz.f42, Tryz.func42, by kernel_rfl, by kernel_rfl⟩
theorem enters43 : Go.Gv.Enters Tryz.prog 43 := ⟨Tryz.f43, Tryz.func43, by kernel_rfl, by kernel_rfl⟩
theorem enters44 : Go.Gv.Enters Tryz.prog 44 := ⟨Tryz.f44, Tryz.func44, by kernel_rfl, by kernel_rfl⟩
theorem enters45 : Go.Gv.Enters Tryz.prog 45 := ⟨Tryz.f45, Tryz.func45, by kernel_rfl, by kernel_rfl⟩
theorem enters46 : Go.Gv.Enters Tryz.prog 46 := ⟨Tryz.f46, Tryz.func46, by kernel_rfl, by kernel_rfl⟩
theorem enters47 : Go.Gv.Enters Tryz.prog 47 := ⟨Tryz.f47, Tryz.func47, by kernel_rfl, by kernel_rfl⟩
theorem enters48 : Go.Gv.Enters Tryz.prog 48 := ⟨Tryz.f48, Tryz.func48, by kernel_rfl, by kernel_rfl⟩
theorem enters49 : Go.Gv.Enters Tryz.prog 49 := ⟨Tryz.f49, Tryz.func49, by kernel_rfl, by kernel_rfl⟩
theorem enters50 : Go.Gv.Enters Tryz.prog 50 := ⟨Tryz.f50, Tryz.func50, by kernel_rfl, by kernel_rfl⟩
theorem enters51 : Go.Gv.Enters Tryz.prog 51 := ⟨Tryz.f51, Tryz.func51, by kernel_rfl, by kernel_rfl⟩
theorem enters52 : Go.Gv.Enters Tryz.prog 52 := ⟨Tryz.f52, Tryz.func52, by kernel_rfl, by kernel_rfl⟩
theorem enters53 : Go.Gv.Enters Tryz.prog 53 := ⟨Tryz.f53, Tryz.func53, by kernel_rfl, by kernel_rfl⟩
theorem enters54 : Go.Gv.Enters Tryz.prog 54 := ⟨Tryz.f54, Tryz.func54, by kernel_rfl, by kernel_rfl⟩
theorem enters55 : Go.Gv.Enters Tryz.prog 55 := ⟨Tryz.f55, Tryz.func55, by kernel_rfl, by kernel_rfl⟩
theorem enters56 : Go.Gv.Enters Tryz.prog 56 := ⟨Tryz.f56, Tryz.func56, by kernel_rfl, by kernel_rfl⟩
theorem enters57 : Go.Gv.Enters Tryz.prog 57 := ⟨Tryz.f57, Tryz.func57, by kernel_rfl, by kernel_rfl⟩
theorem enters58 : Go.Gv.Enters Tryz.prog 58 := ⟨Tryz.f58, Tryz.func58, by kernel_rfl, by kernel_rfl⟩
theorem enters59 : Go.Gv.Enters Tryz.prog 59 := ⟨Tryz.f59, Tryz.func59, by kernel_rfl, by kernel_rfl⟩
theorem enters60 : Go.Gv.Enters Tryz.prog 60 := ⟨Tryz.f60, Tryz.func60, by kernel_rfl, by kernel_rfl⟩
theorem enters61 : Go.Gv.Enters Tryz.prog 61 := ⟨Tryz.f61, Tryz.func61, by kernel_rfl, by kernel_rfl⟩
theorem enters62 : Go.Gv.Enters Tryz.prog 62 := ⟨Tryz.f62, Tryz.func62, by kernel_rfl, by kernel_rfl⟩
theorem enters64 : Go.Gv.Enters Tryz.prog 64 := ⟨Tryz.f64, Tryz.func64, by kernel_rfl, by kernel_rfl⟩
theorem enters65 : Go.Gv.Enters Tryz.prog 65 := ⟨Tryz.f65, Tryz.func65, by kernel_rfl, by kernel_rfl⟩
theorem enters66 : Go.Gv.Enters Tryz.prog 66 := ⟨Tryz.f66, Tryz.func66, by kernel_rfl, by kernel_rfl⟩
theorem enters69 : Go.Gv.Enters Tryz.prog 69 := ⟨Tryz.f69, Tryz.func69, by kernel_rfl, by kernel_rfl⟩
theorem enters70 : Go.Gv.Enters Tryz.prog 70 := ⟨Tryz.f70, Tryz.func70, by kernel_rfl, by kernel_rfl⟩
theorem enters72 : Go.Gv.Enters Tryz.prog 72 := ⟨Tryz.f72, Tryz.func72, by kernel_rfl, by kernel_rfl⟩
theorem enters73 : Go.Gv.Enters Tryz.prog 73 := ⟨Tryz.f73, Tryz.func73, by kernel_rfl, by kernel_rfl⟩
theorem enters74 : Go.Gv.Enters Tryz.prog 74 := ⟨Tryz.f74, Tryz.func74, by kernel_rfl, by kernel_rfl⟩
theorem enters75 : Go.Gv.Enters Tryz.prog 75 := ⟨Tryz.f75, Tryz.func75, by kernel_rfl, by kernel_rfl⟩
theorem enters76 : Go.Gv.Enters Tryz.prog 76 := ⟨Tryz.f76, Tryz.func76, by kernel_rfl, by kernel_rfl⟩
theorem enters77 : Go.Gv.Enters Tryz.prog 77 := ⟨Tryz.f77, Tryz.func77, by kernel_rfl, by kernel_rfl⟩
theorem enters78 : Go.Gv.Enters Tryz.prog 78 := ⟨Tryz.f78, Tryz.func78, by kernel_rfl, by kernel_rfl⟩
theorem enters79 : Go.Gv.Enters Tryz.prog 79 := ⟨Tryz.f79, Tryz.func79, by kernel_rfl, by kernel_rfl⟩
theorem enters80 : Go.Gv.Enters Tryz.prog 80 := ⟨Tryz.f80, Tryz.func80, by kernel_rfl, by kernel_rfl⟩
theorem enters84 : Go.Gv.Enters Tryz.prog 84 := ⟨Tryz.f84, Tryz.func84, by kernel_rfl, by kernel_rfl⟩
theorem enters85 : Go.Gv.Enters Tryz.prog 85 := ⟨Tryz.f85, Tryz.func85, by kernel_rfl, by kernel_rfl⟩
theorem enters86 : Go.Gv.Enters Tryz.prog 86 := ⟨Tryz.f86, Tryz.func86, by kernel_rfl, by kernel_rfl⟩
theorem enters87 : Go.Gv.Enters Tryz.prog 87 := ⟨Tryz.f87, Tryz.func87, by kernel_rfl, by kernel_rfl⟩
theorem enters88 : Go.Gv.Enters Tryz.prog 88 := ⟨Tryz.f88, Tryz.func88, by kernel_rfl, by kernel_rfl⟩
theorem enters89 : Go.Gv.Enters Tryz.prog 89 := ⟨Tryz.f89, Tryz.func89, by kernel_rfl, by kernel_rfl⟩
theorem enters95 : Go.Gv.Enters Tryz.prog 95 := ⟨Tryz.f95, Tryz.func95, by kernel_rfl, by kernel_rfl⟩
theorem enters96 : Go.Gv.Enters Tryz.prog 96 := ⟨Tryz.f96, Tryz.func96, by kernel_rfl, by kernel_rfl⟩
theorem enters97 : Go.Gv.Enters Tryz.prog 97 := ⟨Tryz.f97, Tryz.func97, by kernel_rfl, by kernel_rfl⟩
theorem enters100 : Go.Gv.Enters Tryz.prog 100 := ⟨Tryz.f100, Tryz.func100, by kernel_rfl, by kernel_rfl⟩
theorem info3 : InfoOk Tryz.prog 3 1 := infoOk (z := (.int .i64 0)) (bytes := 8) (by kernel_rfl) (by kernel_rfl) (by kernel_rfl) (by kernel_rfl)
theorem info4 : InfoOk Tryz.prog 4 1 := infoOk (z := (.bool false)) (bytes := 1) (by kernel_rfl) (by kernel_rfl) (by kernel_rfl) (by kernel_rfl)
theorem info5 : InfoOk Tryz.prog 5 1 := infoOk (z := (.int .u8 0)) (bytes := 1) (by kernel_rfl) (by kernel_rfl) (by kernel_rfl) (by kernel_rfl)
theorem info9 : InfoOk Tryz.prog 9 1 := infoOk (z := (.string ⟨#[]⟩)) (bytes := 16) (by kernel_rfl) (by kernel_rfl) (by kernel_rfl) (by kernel_rfl)
theorem info21 : InfoOk Tryz.prog 21 1 := infoOk (z := (.int .i32 0)) (bytes := 4) (by kernel_rfl) (by kernel_rfl) (by kernel_rfl) (by kernel_rfl)
theorem eqs29eql (a0 : Int) (a1 : Int) (b0 : Int) (b1 : Int) (x y : Operand) (w : World) : (do eqGuard .eql 29 x y (.agg #[.int .i64 a0, .int .i64 a1]) (.agg #[.int .i64 b0, .int .i64 b1]); binOp .eql 29 (.agg #[.int .i64 a0, .int .i64 a1]) (.agg #[.int .i64 b0, .int .i64 b1]) : Sem Value).run Tryz.prog w = .ok (.bool ((a0 == b0) && (a1 == b1))) w := by
  have h1 : Tryz.prog.eqGuardType Tryz.prog.depth 29 = false := by kernel_rfl
  have h2 : Tryz.prog.stoodInHeld 29 = false := by kernel_rfl
  have h3 : Tryz.prog.underlying 29 = some (.struct (Tryz.prog.fieldsOf 29)) := by kernel_rfl
  have h4 := Tryz.underlying29
  rw [Sem.run_bind, run_eqGuard_agg w .eql 29 x y _ _ h1, Result.andThen_ok, run_eql_struct, run_equalIn_struct w 9999 29 _ _ h3 h2]
  by_cases g0 : a0 = b0 <;> by_cases g1 : a1 = b1 <;> simp [Program.fieldsOf, h4, Op.eqFields, part, isAgg, run_underlying Tryz.underlying3, run_equalIn_int _ _ _ _ _ _ _ Tryz.underlying3, g0, g1]
theorem eqs29neq (a0 : Int) (a1 : Int) (b0 : Int) (b1 : Int) (x y : Operand) (w : World) : (do eqGuard .neq 29 x y (.agg #[.int .i64 a0, .int .i64 a1]) (.agg #[.int .i64 b0, .int .i64 b1]); binOp .neq 29 (.agg #[.int .i64 a0, .int .i64 a1]) (.agg #[.int .i64 b0, .int .i64 b1]) : Sem Value).run Tryz.prog w = .ok (.bool (!((a0 == b0) && (a1 == b1)))) w := by
  have h1 : Tryz.prog.eqGuardType Tryz.prog.depth 29 = false := by kernel_rfl
  have h2 : Tryz.prog.stoodInHeld 29 = false := by kernel_rfl
  have h3 : Tryz.prog.underlying 29 = some (.struct (Tryz.prog.fieldsOf 29)) := by kernel_rfl
  have h4 := Tryz.underlying29
  rw [Sem.run_bind, run_eqGuard_agg w .neq 29 x y _ _ h1, Result.andThen_ok, run_neq_struct, run_equalIn_struct w 9999 29 _ _ h3 h2]
  by_cases g0 : a0 = b0 <;> by_cases g1 : a1 = b1 <;> simp [Program.fieldsOf, h4, Op.eqFields, part, isAgg, run_underlying Tryz.underlying3, run_equalIn_int _ _ _ _ _ _ _ Tryz.underlying3, g0, g1]

theorem utf8_word_string_ok (fuel : Nat) (s_0 : ByteArray) (w0 : World)  (r0 : Int) (h0 : utf8_word_string fuel s_0 = some r0) :
    Calls Tryz.prog 53 ([(.string s_0)] : List Value).toArray w0 (Ret fun v w' => w0.grownBy w' none ∧ v = tup [(.int .u64 r0)]) := by
 have hB0 : Below w0.heap.size w0 w0 := Below.refl _ _
 unfold utf8_word_string at h0
 refine calls_run Tryz.func53 rfl Tryz.ntmps53 (by kernel_rfl) ?_
 refine gv_sub [0] (σ' := [(0, (.string s_0))]) (by kernel_rfl) ?_
 refine gv_seq <| gv_region <| gv_pureN 1 [2] [] (by kernel_rfl) ?_
 refine gv_nil <| gv_seq <| gv_cond (b := false) (by kernel_rfl) (fun hc => ?_) (fun hc => ?_)
 ·cases hc
 clear hc
 refine gv_skip <| gv_seq <| gv_drawA (by kernel_rfl) ?_
 intro w1 hg2
 refine gv_pre [0, 1, 3, 4, 8, 9, 13, 14, 18, 19, 23, 24, 28, 29, 33, 34] (bA 39 [0, 1, 3, 4, 8, 9, 13, 14, 18, 19, 23, 24, 28, 29, 33, 34]) 23 (by kernel_rfl) (by kernel_rfl) ?_
 refine gv_pureN 1 [21] [(21, (.string s_0))] (by kernel_rfl) ?_
 refine bindE h0 ?_; clear h0; intro x3 hx4 h0
 refine gv_sindex (t := 9) (s := s_0) (kk := .i64) (i := 0) x3 [] (fun e => by cases e) rfl rfl rfl (by kernel_rfl) (by kernel_rfl) Tryz.underlying9 hx4 rfl ?_
 refine gv_pureN 1 [24] [(24, (.string s_0))] (by kernel_rfl) ?_
 refine bindE h0 ?_; clear h0; intro x5 hx6 h0
 refine gv_sindex (t := 9) (s := s_0) (kk := .i64) (i := 1) x5 [] (fun e => by cases e) rfl rfl rfl (by kernel_rfl) (by kernel_rfl) Tryz.underlying9 hx6 rfl ?_
 refine gv_pureN 1 [29] [(29, (.string s_0))] (by kernel_rfl) ?_
 refine bindE h0 ?_; clear h0; intro x7 hx8 h0
 refine gv_sindex (t := 9) (s := s_0) (kk := .i64) (i := 2) x7 [] (fun e => by cases e) rfl rfl rfl (by kernel_rfl) (by kernel_rfl) Tryz.underlying9 hx8 rfl ?_
 refine gv_pureN 1 [34] [(34, (.string s_0))] (by kernel_rfl) ?_
 refine bindE h0 ?_; clear h0; intro x9 hx10 h0
 refine gv_sindex (t := 9) (s := s_0) (kk := .i64) (i := 3) x9 [] (fun e => by cases e) rfl rfl rfl (by kernel_rfl) (by kernel_rfl) Tryz.underlying9 hx10 rfl ?_
 refine gv_pureN 1 [39] [(39, (.string s_0))] (by kernel_rfl) ?_
 refine bindE h0 ?_; clear h0; intro x11 hx12 h0
 refine gv_sindex (t := 9) (s := s_0) (kk := .i64) (i := 4) x11 [] (fun e => by cases e) rfl rfl rfl (by kernel_rfl) (by kernel_rfl) Tryz.underlying9 hx12 rfl ?_
 refine gv_pureN 1 [44] [(44, (.string s_0))] (by kernel_rfl) ?_
 refine bindE h0 ?_; clear h0; intro x13 hx14 h0
 refine gv_sindex (t := 9) (s := s_0) (kk := .i64) (i := 5) x13 [] (fun e => by cases e) rfl rfl rfl (by kernel_rfl) (by kernel_rfl) Tryz.underlying9 hx14 rfl ?_
 refine gv_pureN 1 [49] [(49, (.string s_0))] (by kernel_rfl) ?_
 refine gv_sub [0, 22, 25, 30, 35, 40, 45, 49] (σ' := [(0, (.string s_0)), (22, (.int .u8 x3)), (25, (.int .u8 x5)), (30, (.int .u8 x7)), (35, (.int .u8 x9)), (40, (.int .u8 x11)), (45, (.int .u8 x13)), (49, (.string s_0))]) (by kernel_rfl) ?_
 refine bindE h0 ?_; clear h0; intro x15 hx16 h0
 refine gv_sindex (t := 9) (s := s_0) (kk := .i64) (i := 6) x15 [] (fun e => by cases e) rfl rfl rfl (by kernel_rfl) (by kernel_rfl) Tryz.underlying9 hx16 rfl ?_
 refine gv_pureN 1 [54] [(54, (.string s_0))] (by kernel_rfl) ?_
 refine bindE h0 ?_; clear h0; intro x17 hx18 h0
 refine gv_sindex (t := 9) (s := s_0) (kk := .i64) (i := 7) x17 [] (fun e => by cases e) rfl rfl rfl (by kernel_rfl) (by kernel_rfl) Tryz.underlying9 hx18 rfl ?_
 refine gv_nil <| gv_goA ?_
 refine gv_stage (Cls w1 []) [0, 1, 2, 3, 4, 5, 6, 7, 8, 9, 10, 11, 12, 13, 14, 15, 16, 17, 18, 19, 20, 21, 22, 23, 24, 25, 26, 27, 28, 29, 30, 31, 32, 33, 34, 35, 36] [(2, some true), (5, some true), (6, some true), (7, some true), (10, some true), (11, some true), (12, some true), (15, some true), (16, some true), (17, some true), (20, some true), (21, some true), (22, some true), (25, some true), (26, some true), (27, some true), (30, some true), (31, some true), (32, some true), (35, some true), (36, some true)] (bA 39 [0, 1, 2, 3, 4, 5, 6, 7, 8, 9, 10, 11, 12, 13, 14, 15, 16, 17, 18, 19, 20, 21, 22, 23, 24, 25, 26, 27, 28, 29, 30, 31, 32, 33, 34, 35, 36]) 2 (by kernel_rfl) (by kernel_rfl) (Cls.refl _ _) ?_
 have hC19 := Cls.refl w1 []
 refine gv_pureN 21 [23, 26, 27, 28, 31, 32, 33, 36, 37, 38, 41, 42, 43, 46, 47, 48, 51, 52, 53, 56, 57] [(53, (.int .u64 (bwOr .u64 (bwOr .u64 (bwOr .u64 (bwOr .u64 (bwOr .u64 (bwOr .u64 (IntKind.u64.wrap (x3)) (IntKind.u64.wrap ((IntKind.u64.wrap (x5)) * 2 ^ 8))) (IntKind.u64.wrap ((IntKind.u64.wrap (x7)) * 2 ^ 16))) (IntKind.u64.wrap ((IntKind.u64.wrap (x9)) * 2 ^ 24))) (IntKind.u64.wrap ((IntKind.u64.wrap (x11)) * 2 ^ 32))) (IntKind.u64.wrap ((IntKind.u64.wrap (x13)) * 2 ^ 40))) (IntKind.u64.wrap ((IntKind.u64.wrap (x15)) * 2 ^ 48))))), (57, (.int .u64 (IntKind.u64.wrap ((IntKind.u64.wrap (x17)) * 2 ^ 56))))] (by kernel_rfl) ?_
 refine gv_nil <| gv_goA ?_
 refine gv_pre [37, 38] (bA 39 [0, 1, 2, 3, 4, 5, 6, 7, 8, 9, 10, 11, 12, 13, 14, 15, 16, 17, 18, 19, 20, 21, 22, 23, 24, 25, 26, 27, 28, 29, 30, 31, 32, 33, 34, 35, 36, 37, 38]) 0 (by kernel_rfl) (by kernel_rfl) ?_
 refine gv_pureN 2 [2, 58] [(2, (.int .u64 (bwOr .u64 (bwOr .u64 (bwOr .u64 (bwOr .u64 (bwOr .u64 (bwOr .u64 (bwOr .u64 (IntKind.u64.wrap (x3)) (IntKind.u64.wrap ((IntKind.u64.wrap (x5)) * 2 ^ 8))) (IntKind.u64.wrap ((IntKind.u64.wrap (x7)) * 2 ^ 16))) (IntKind.u64.wrap ((IntKind.u64.wrap (x9)) * 2 ^ 24))) (IntKind.u64.wrap ((IntKind.u64.wrap (x11)) * 2 ^ 32))) (IntKind.u64.wrap ((IntKind.u64.wrap (x13)) * 2 ^ 40))) (IntKind.u64.wrap ((IntKind.u64.wrap (x15)) * 2 ^ 48))) (IntKind.u64.wrap ((IntKind.u64.wrap (x17)) * 2 ^ 56)))))] (by kernel_rfl) ?_
 refine bindE h0 ?_; clear h0; intro n20 hn21 h0
 refine gv_name (s := 2) (v := (.int .u64 (bwOr .u64 (bwOr .u64 (bwOr .u64 (bwOr .u64 (bwOr .u64 (bwOr .u64 (bwOr .u64 (IntKind.u64.wrap (x3)) (IntKind.u64.wrap ((IntKind.u64.wrap (x5)) * 2 ^ 8))) (IntKind.u64.wrap ((IntKind.u64.wrap (x7)) * 2 ^ 16))) (IntKind.u64.wrap ((IntKind.u64.wrap (x9)) * 2 ^ 24))) (IntKind.u64.wrap ((IntKind.u64.wrap (x11)) * 2 ^ 32))) (IntKind.u64.wrap ((IntKind.u64.wrap (x13)) * 2 ^ 40))) (IntKind.u64.wrap ((IntKind.u64.wrap (x15)) * 2 ^ 48))) (IntKind.u64.wrap ((IntKind.u64.wrap (x17)) * 2 ^ 56))))) (v' := (.int .u64 n20)) (by kernel_rfl) (congrArg (Value.int .u64) (sj hn21)) ?_
 refine gv_nil <| gv_goA ?_
 refine gv_stageE (by kernel_rfl) ?_
 refine gv_cret ?_
 have e := sj h0; subst e
 refine gv_ret (gv_done [(.int .u64 n20)] rfl ⟨(by kernel_rfl), trivial⟩ ?_)
 have hB22 := bg hB0 hg2 nb
 exact ⟨grown_of_below hB22, rfl⟩

theorem utf8_ValidString_ok (fuel : Nat) (s_0 : ByteArray) (w0 : World) (X0 : Nat → Prop) (hX0 : ∀ k, X0 k → k < w0.heap.size) (hG0 : Rd bE w0 X0 (some ⟨0, 0, none⟩) 256 utf8First) (hG1 : Rd (prE (iE .u8) (iE .u8)) w0 X0 (some ⟨1, 0, none⟩) 16 utf8Acc) (r0 : Bool) (h0 : utf8_ValidString fuel s_0 = some r0) :
    Calls Tryz.prog 31 ([(.string s_0)] : List Value).toArray w0 (Ret fun v w' => w0.grownBy w' none ∧ v = tup [(.bool r0)]) := by
 have hB0 : Below w0.heap.size w0 w0 := Below.refl _ _
 unfold utf8_ValidString at h0
 refine calls_run Tryz.func31 rfl Tryz.ntmps31 (by kernel_rfl) ?_
 refine gv_sub [0] (σ' := [(0, (.string s_0))]) (by kernel_rfl) ?_
 refine gv_seq <| gv_region <| gv_pureN 1 [2] [] (by kernel_rfl) ?_
 refine gv_nil <| gv_seq <| bindE h0 ?_; clear h0; intro j1 h1 h0
 refine gv_cut_code (J := fun a w3 => ∃ s2 : Unit, j1 = .inl s2 ∧ Below w0.heap.size w0 w3 ∧ w0.heap.size ≤ w3.heap.size ∧ a.defers = [] ∧ a.tmps.size = 169 ∧ Ok [] a.tmps) ?_ ?_
 ·skip
  refine gv_block <| gv_loop (A := fun (s4 : ByteArray) a w5 => Below w0.heap.size w0 w5 ∧ w0.heap.size ≤ w5.heap.size ∧ a.defers = [] ∧ a.tmps.size = 169 ∧ Ok [(0, (.string s4))] a.tmps) h1 ?_ ?_
  ·intro a hd hs hok
   exact ⟨hB0, (Nat.le_refl _), hd, hs, ok_pick [0] hok (by kernel_rfl)⟩
  ·rintro s4 r2 h2 hR2 a w5 ⟨hB6, hz7, hd, hs, hok⟩
   refine gv_in ?_ hd hs hok
   clear hd hs hok
   refine gv_seq <| gv_seq <| gv_region <| gv_pureN 3 [7, 8, 9] [(9, (.bool (decide (((ByteArray.size s4 : Nat) : Int) > 0))))] (by kernel_rfl) ?_
   refine gv_nil <| gv_cond (b := (decide (((ByteArray.size s4 : Nat) : Int) > 0))) (by kernel_rfl) (fun hc8 => ?_) (fun hc8 => ?_)
   ·replace h2 := ite_t hc8 h2
    refine gv_skip <| gv_block <| gv_seq <| gv_region <| gv_pureN 1 [10] [(10, (.string s4))] (by kernel_rfl) ?_
    refine bindE h2 ?_; clear h2; intro x9 hx10 h2
    refine gv_sindex (t := 9) (s := s4) (kk := .i64) (i := 0) x9 [] (fun e => by cases e) rfl rfl rfl (by kernel_rfl) (by kernel_rfl) Tryz.underlying9 hx10 rfl ?_
    refine gv_pureN 1 [3] [(3, (.int .u8 x9))] (by kernel_rfl) ?_
    refine gv_nil <| gv_seq <| gv_seq <| gv_region <| gv_pureN 2 [12, 13] [(13, (.bool (decide (x9 < 128))))] (by kernel_rfl) ?_
    refine gv_nil <| gv_cond (b := (decide (x9 < 128))) (by kernel_rfl) (fun hc11 => ?_) (fun hc11 => ?_)
    ·replace h2 := ite_t hc11 h2
     refine gv_seq <| gv_region <| gv_pureN 1 [14] [(14, (.string s4))] (by kernel_rfl) ?_
     refine bindE h2 ?_; clear h2; intro x12 hx13 h2
     refine gv_ssub (t := 9) (s := s4) (lo := (some (.int .i64 1))) (hi := none) 1 ((ByteArray.size s4 : Nat) : Int) x12 [] (fun e => by cases e) rfl rfl rfl (by kernel_rfl) (by kernel_rfl) Tryz.underlying9 (.inr ⟨_, rfl⟩) (.inl ⟨rfl, rfl⟩) hx13 rfl ?_
     refine gv_pureN 1 [0] [(0, (.string x12))] (by kernel_rfl) ?_
     refine gv_nil <| gv_seq <| gv_seq <| gv_region <| bindE h2 ?_; clear h2; intro j14 h3 h2
     refine gv_cut_ops (J := fun a w15 => Below w0.heap.size w0 w15 ∧ w5.heap.size ≤ w15.heap.size ∧ a.defers = [] ∧ a.tmps.size = 169 ∧ Ok [(0, (.string x12)), (24, (.bool j14))] a.tmps) ?_ ?_
     ·skip
      refine gv_pureN 4 [16, 17, 18, 19] [(19, (.bool (decide (((ByteArray.size x12 : Nat) : Int) > 8))))] (by kernel_rfl) ?_
      refine gv_split (s := 19) (g := (decide (((ByteArray.size x12 : Nat) : Int) > 8))) (by kernel_rfl) (fun hc16 => ?_) (fun hc16 => ?_)
      ·skip
       replace h3 := ite_t hc16 h3
       refine gv_pureN 1 [20] [(20, (.string x12))] (by kernel_rfl) ?_
       refine bindE h3 ?_; clear h3; intro r17 hr18 h3
       refine gv_call0 (by kernel_rfl) rfl (by kernel_rfl) enters53 (utf8_word_string_ok fuel x12 w5  r17 hr18) ?_
       rintro v21 w19 ⟨hg20, rfl⟩
       refine gv_pureN 3 [22, 23, 24] [(24, (.bool ((bwAnd .u64 r17 9259542123273814144) == 0)))] (by kernel_rfl) ?_
       refine gv_nil ?_
       have e := sj h3; subst e
       refine gv_goal fun a hd hs hok => ?_
       have hB22 := bg hB6 hg20 nb
       have hz23 := hg20.size
       exact ⟨hB22, hz23, hd, hs, ok_pick [0, 24] hok (by kernel_rfl)⟩
      ·skip
       replace h3 := ite_f hc16 h3
       refine gv_pureN 5 [20, 21, 22, 23, 24] [(24, (.bool false))] (by kernel_rfl) ?_
       refine gv_nil ?_
       have e := sj h3; subst e
       refine gv_goal fun a hd hs hok => ?_
       exact ⟨hB6, (Nat.le_refl _), hd, hs, ok_pick [0, 24] hok (by kernel_rfl)⟩
     ·rintro a w15 ⟨hB24, hz25, hd, hs, hok⟩
      refine gv_in ?_ hd hs hok
      clear hd hs hok
      have hz26 := (nt hz7 hz25)
      clear hz25 hx13 hc11 hx10 hc8 hz7 hB6
      refine bindE h2 ?_; clear h2; intro j27 h3 h2
      refine gv_cut_code (J := fun a w28 => Below w0.heap.size w0 w28 ∧ w15.heap.size ≤ w28.heap.size ∧ a.defers = [] ∧ a.tmps.size = 169 ∧ Ok [(0, (.string j27))] a.tmps) ?_ ?_
      ·skip
       refine gv_cond (b := j14) (by kernel_rfl) (fun hc29 => ?_) (fun hc29 => ?_)
       ·replace h3 := ite_t hc29 h3
        refine gv_seq <| gv_region <| gv_pureN 1 [25] [(25, (.string x12))] (by kernel_rfl) ?_
        refine bindE h3 ?_; clear h3; intro x30 hx31 h3
        refine gv_ssub (t := 9) (s := x12) (lo := (some (.int .i64 8))) (hi := none) 8 ((ByteArray.size x12 : Nat) : Int) x30 [] (fun e => by cases e) rfl rfl rfl (by kernel_rfl) (by kernel_rfl) Tryz.underlying9 (.inr ⟨_, rfl⟩) (.inl ⟨rfl, rfl⟩) hx31 rfl ?_
        refine gv_pureN 1 [0] [(0, (.string x30))] (by kernel_rfl) ?_
        refine gv_nil <| gv_seq <| bindE h3 ?_; clear h3; intro j32 h4 h3
        refine gv_cut_code (J := fun a w33 => Below w0.heap.size w0 w33 ∧ w15.heap.size ≤ w33.heap.size ∧ a.defers = [] ∧ a.tmps.size = 169 ∧ Ok [(0, (.string x30)), (39, (.bool j32))] a.tmps) ?_ ?_
        ·skip
         refine gv_drawA (by kernel_rfl) ?_
         intro w34 hg35
         refine gv_pre [0, 1, 2, 3, 4, 6, 7] (bA 13 [0, 1, 2, 3, 4, 6, 7]) 6 (by kernel_rfl) (by kernel_rfl) ?_
         refine gv_pureN 4 [27, 28, 29, 30] [(30, (.bool (decide (((ByteArray.size x30 : Nat) : Int) > 16))))] (by kernel_rfl) ?_
         refine gv_split (s := 30) (g := (decide (((ByteArray.size x30 : Nat) : Int) > 16))) (by kernel_rfl) (fun hc36 => ?_) (fun hc36 => ?_)
         ·skip
          replace h4 := ite_t hc36 h4
          refine gv_pureN 2 [31, 33] [(31, (.string x30)), (33, (.string x30))] (by kernel_rfl) ?_
          refine bindE h4 ?_; clear h4; intro x37 hx38 h4
          refine gv_ssub (t := 9) (s := x30) (lo := (some (.int .i64 8))) (hi := none) 8 ((ByteArray.size x30 : Nat) : Int) x37 [] (fun e => by cases e) rfl rfl rfl (by kernel_rfl) (by kernel_rfl) Tryz.underlying9 (.inr ⟨_, rfl⟩) (.inl ⟨rfl, rfl⟩) hx38 rfl ?_
          refine gv_nil <| gv_goA ?_
          refine gv_stage (fun _ => True) [0, 1, 2, 3, 4, 5, 6, 7] [(5, some false)] (bA 13 [0, 1, 2, 3, 4, 5, 6, 7]) 5 (by kernel_rfl) (by kernel_rfl) trivial ?_
          refine bindE h4 ?_; clear h4; intro r39 hr40 h4
          refine gv_call (f := 53) (vs := [(.string x30)]) (cap := []) _ (by decide) rfl rfl rfl (by kernel_rfl) (by kernel_rfl) enters53 (utf8_word_string_ok fuel x30 w34  r39 hr40) ?_
          rintro v43 w41 ⟨hg42, rfl⟩
          refine ⟨(fun _ => trivial), ?_⟩
          refine gv_nil <| gv_goA ?_
          refine gv_stage (fun _ => True) [0, 1, 2, 3, 4, 5, 6, 7, 8] [(8, some false)] (bA 13 [0, 1, 2, 3, 4, 5, 6, 7, 8]) 4 (by kernel_rfl) (by kernel_rfl) trivial ?_
          refine bindE h4 ?_; clear h4; intro r44 hr45 h4
          refine gv_call (f := 53) (vs := [(.string x37)]) (cap := []) _ (by decide) rfl rfl rfl (by kernel_rfl) (by kernel_rfl) enters53 (utf8_word_string_ok fuel x37 w41  r44 hr45) ?_
          rintro v48 w46 ⟨hg47, rfl⟩
          refine ⟨(fun _ => trivial), ?_⟩
          refine gv_nil <| gv_goA ?_
          refine gv_pre [9, 10, 11, 12] (bA 13 [0, 1, 2, 3, 4, 5, 6, 7, 8, 9, 10, 11, 12]) 0 (by kernel_rfl) (by kernel_rfl) ?_
          refine gv_pureN 4 [36, 37, 38, 39] [(39, (.bool ((bwAnd .u64 (bwOr .u64 r39 r44) 9259542123273814144) == 0)))] (by kernel_rfl) ?_
          refine gv_nil <| gv_goA ?_
          refine gv_stageE (by kernel_rfl) ?_
          have e := sj h4; subst e
          refine gv_goal fun a hd hs hok => ?_
          have hg49 := (grown_trans (grown_trans hg35 hg42) hg47)
          have hB50 := bg hB24 hg49 nb
          have hz51 := (nt (nt hg35.size hg42.size) hg47.size)
          exact ⟨hB50, hz51, hd, hs, ok_pick [0, 39] hok (by kernel_rfl)⟩
         ·skip
          replace h4 := ite_f hc36 h4
          refine gv_pureN 3 [31, 33, 34] [(31, undef), (34, undef)] (by kernel_rfl) ?_
          refine gv_nil <| gv_goA ?_
          refine gv_stage (fun _ => True) [0, 1, 2, 3, 4, 5, 6, 7] [(5, some false)] (bA 13 [0, 1, 2, 3, 4, 5, 6, 7]) 5 (by kernel_rfl) (by kernel_rfl) trivial ?_
          refine gv_pureNC trivial 1 [32] [(32, undef)] (by kernel_rfl) ?_
          refine gv_nil <| gv_goA ?_
          refine gv_stage (fun _ => True) [0, 1, 2, 3, 4, 5, 6, 7, 8] [(8, some false)] (bA 13 [0, 1, 2, 3, 4, 5, 6, 7, 8]) 4 (by kernel_rfl) (by kernel_rfl) trivial ?_
          refine gv_pureNC trivial 1 [35] [(35, undef)] (by kernel_rfl) ?_
          refine gv_nil <| gv_goA ?_
          refine gv_pre [9, 10, 11, 12] (bA 13 [0, 1, 2, 3, 4, 5, 6, 7, 8, 9, 10, 11, 12]) 0 (by kernel_rfl) (by kernel_rfl) ?_
          refine gv_pureN 4 [36, 37, 38, 39] [(39, (.bool false))] (by kernel_rfl) ?_
          refine gv_nil <| gv_goA ?_
          refine gv_stageE (by kernel_rfl) ?_
          have e := sj h4; subst e
          refine gv_goal fun a hd hs hok => ?_
          have hB52 := bg hB24 hg35 nb
          have hz53 := hg35.size
          exact ⟨hB52, hz53, hd, hs, ok_pick [0, 39] hok (by kernel_rfl)⟩
        ·rintro a w33 ⟨hB54, hz55, hd, hs, hok⟩
         refine gv_in ?_ hd hs hok
         clear hd hs hok
         refine gv_cond (b := j32) (by kernel_rfl) (fun hc56 => ?_) (fun hc56 => ?_)
         ·replace h3 := ite_t hc56 h3
          refine gv_seq <| gv_region <| gv_pureN 1 [40] [(40, (.string x30))] (by kernel_rfl) ?_
          refine bindE h3 ?_; clear h3; intro x57 hx58 h3
          refine gv_ssub (t := 9) (s := x30) (lo := (some (.int .i64 16))) (hi := none) 16 ((ByteArray.size x30 : Nat) : Int) x57 [] (fun e => by cases e) rfl rfl rfl (by kernel_rfl) (by kernel_rfl) Tryz.underlying9 (.inr ⟨_, rfl⟩) (.inl ⟨rfl, rfl⟩) hx58 rfl ?_
          refine gv_pureN 1 [0] [(0, (.string x57))] (by kernel_rfl) ?_
          refine gv_nil <| bindE h3 ?_; clear h3; intro j59 h4 h3
          refine gv_cut_code (J := fun a w60 => Below w0.heap.size w0 w60 ∧ w33.heap.size ≤ w60.heap.size ∧ a.defers = [] ∧ a.tmps.size = 169 ∧ Ok [(0, (.string j59))] a.tmps) ?_ ?_
          ·skip
           refine gv_block <| gv_loop (A := fun (s61 : ByteArray) a w62 => Below w0.heap.size w0 w62 ∧ w33.heap.size ≤ w62.heap.size ∧ a.defers = [] ∧ a.tmps.size = 169 ∧ Ok [(0, (.string s61))] a.tmps) h4 ?_ ?_
           ·intro a hd hs hok
            exact ⟨hB54, (Nat.le_refl _), hd, hs, ok_pick [0] hok (by kernel_rfl)⟩
           ·rintro s61 r5 h5 hR5 a w62 ⟨hB63, hz64, hd, hs, hok⟩
            refine gv_in ?_ hd hs hok
            clear hd hs hok
            clear hx58 hc56 hB54 hx31 hc29 hB24
            refine gv_seq <| gv_seq <| bindE h5 ?_; clear h5; intro j65 h6 h5
            refine gv_cut_code (J := fun a w66 => Below w0.heap.size w0 w66 ∧ w62.heap.size ≤ w66.heap.size ∧ a.defers = [] ∧ a.tmps.size = 169 ∧ Ok [(0, (.string s61)), (62, (.bool j65))] a.tmps) ?_ ?_
            ·skip
             refine gv_drawA (by kernel_rfl) ?_
             intro w67 hg68
             refine gv_pre [0, 1, 2, 3, 4, 6, 7, 10, 11, 13, 14] (bA 21 [0, 1, 2, 3, 4, 6, 7, 10, 11, 13, 14]) 10 (by kernel_rfl) (by kernel_rfl) ?_
             refine gv_pureN 4 [42, 43, 44, 45] [(45, (.bool (decide (((ByteArray.size s61 : Nat) : Int) > 32))))] (by kernel_rfl) ?_
             refine gv_split (s := 45) (g := (decide (((ByteArray.size s61 : Nat) : Int) > 32))) (by kernel_rfl) (fun hc69 => ?_) (fun hc69 => ?_)
             ·skip
              replace h6 := ite_t hc69 h6
              refine gv_pureN 2 [46, 48] [(46, (.string s61)), (48, (.string s61))] (by kernel_rfl) ?_
              refine bindE h6 ?_; clear h6; intro x70 hx71 h6
              refine gv_ssub (t := 9) (s := s61) (lo := (some (.int .i64 8))) (hi := none) 8 ((ByteArray.size s61 : Nat) : Int) x70 [] (fun e => by cases e) rfl rfl rfl (by kernel_rfl) (by kernel_rfl) Tryz.underlying9 (.inr ⟨_, rfl⟩) (.inl ⟨rfl, rfl⟩) hx71 rfl ?_
              refine gv_pureN 1 [52] [(52, (.string s61))] (by kernel_rfl) ?_
              refine bindE h6 ?_; clear h6; intro x72 hx73 h6
              refine gv_ssub (t := 9) (s := s61) (lo := (some (.int .i64 16))) (hi := none) 16 ((ByteArray.size s61 : Nat) : Int) x72 [] (fun e => by cases e) rfl rfl rfl (by kernel_rfl) (by kernel_rfl) Tryz.underlying9 (.inr ⟨_, rfl⟩) (.inl ⟨rfl, rfl⟩) hx73 rfl ?_
              refine gv_pureN 1 [55] [(55, (.string s61))] (by kernel_rfl) ?_
              refine bindE h6 ?_; clear h6; intro x74 hx75 h6
              refine gv_ssub (t := 9) (s := s61) (lo := (some (.int .i64 24))) (hi := none) 24 ((ByteArray.size s61 : Nat) : Int) x74 [] (fun e => by cases e) rfl rfl rfl (by kernel_rfl) (by kernel_rfl) Tryz.underlying9 (.inr ⟨_, rfl⟩) (.inl ⟨rfl, rfl⟩) hx75 rfl ?_
              refine gv_nil <| gv_goA ?_
              refine gv_stage (fun _ => True) [0, 1, 2, 3, 4, 5, 6, 7, 10, 11, 13, 14] [(5, some false)] (bA 21 [0, 1, 2, 3, 4, 5, 6, 7, 10, 11, 13, 14]) 9 (by kernel_rfl) (by kernel_rfl) trivial ?_
              refine bindE h6 ?_; clear h6; intro r76 hr77 h6
              refine gv_call (f := 53) (vs := [(.string s61)]) (cap := []) _ (by decide) rfl rfl rfl (by kernel_rfl) (by kernel_rfl) enters53 (utf8_word_string_ok fuel s61 w67  r76 hr77) ?_
              rintro v80 w78 ⟨hg79, rfl⟩
              refine ⟨(fun _ => trivial), ?_⟩
              refine gv_nil <| gv_goA ?_
              refine gv_stage (fun _ => True) [0, 1, 2, 3, 4, 5, 6, 7, 8, 10, 11, 13, 14] [(8, some false)] (bA 21 [0, 1, 2, 3, 4, 5, 6, 7, 8, 10, 11, 13, 14]) 8 (by kernel_rfl) (by kernel_rfl) trivial ?_
              refine bindE h6 ?_; clear h6; intro r81 hr82 h6
              refine gv_call (f := 53) (vs := [(.string x70)]) (cap := []) _ (by decide) rfl rfl rfl (by kernel_rfl) (by kernel_rfl) enters53 (utf8_word_string_ok fuel x70 w78  r81 hr82) ?_
              rintro v85 w83 ⟨hg84, rfl⟩
              refine ⟨(fun _ => trivial), ?_⟩
              refine gv_nil <| gv_goA ?_
              refine gv_pre [9] (bA 21 [0, 1, 2, 3, 4, 5, 6, 7, 8, 9, 10, 11, 13, 14]) 7 (by kernel_rfl) (by kernel_rfl) ?_
              refine gv_pureN 1 [51] [(51, (.int .u64 (bwOr .u64 r76 r81)))] (by kernel_rfl) ?_
              refine gv_nil <| gv_goA ?_
              refine gv_stage (fun _ => True) [0, 1, 2, 3, 4, 5, 6, 7, 8, 9, 10, 11, 12, 13, 14] [(12, some false)] (bA 21 [0, 1, 2, 3, 4, 5, 6, 7, 8, 9, 10, 11, 12, 13, 14]) 6 (by kernel_rfl) (by kernel_rfl) trivial ?_
              refine bindE h6 ?_; clear h6; intro r86 hr87 h6
              refine gv_call (f := 53) (vs := [(.string x72)]) (cap := []) _ (by decide) rfl rfl rfl (by kernel_rfl) (by kernel_rfl) enters53 (utf8_word_string_ok fuel x72 w83  r86 hr87) ?_
              rintro v90 w88 ⟨hg89, rfl⟩
              refine ⟨(fun _ => trivial), ?_⟩
              have hz91 := (nt (nt hg68.size hg79.size) hg84.size)
              clear hr87 hr82 hr77 hx75 hx73 hx71 hc69
              refine gv_nil <| gv_goA ?_
              refine gv_stage (fun _ => True) [0, 1, 2, 3, 4, 5, 6, 7, 8, 9, 10, 11, 12, 13, 14, 15] [(15, some false)] (bA 21 [0, 1, 2, 3, 4, 5, 6, 7, 8, 9, 10, 11, 12, 13, 14, 15]) 5 (by kernel_rfl) (by kernel_rfl) trivial ?_
              refine bindE h6 ?_; clear h6; intro r92 hr93 h6
              refine gv_call (f := 53) (vs := [(.string x74)]) (cap := []) _ (by decide) rfl rfl rfl (by kernel_rfl) (by kernel_rfl) enters53 (utf8_word_string_ok fuel x74 w88  r92 hr93) ?_
              rintro v96 w94 ⟨hg95, rfl⟩
              refine ⟨(fun _ => trivial), ?_⟩
              refine gv_nil <| gv_goA ?_
              refine gv_pre [16, 17, 18, 19, 20] (bA 21 [0, 1, 2, 3, 4, 5, 6, 7, 8, 9, 10, 11, 12, 13, 14, 15, 16, 17, 18, 19, 20]) 0 (by kernel_rfl) (by kernel_rfl) ?_
              refine gv_pureN 5 [58, 59, 60, 61, 62] [(62, (.bool ((bwAnd .u64 (bwOr .u64 (bwOr .u64 r76 r81) (bwOr .u64 r86 r92)) 9259542123273814144) == 0)))] (by kernel_rfl) ?_
              refine gv_nil <| gv_goA ?_
              refine gv_stageE (by kernel_rfl) ?_
              have e := sj h6; subst e
              refine gv_goal fun a hd hs hok => ?_
              have hg97 := (grown_trans (grown_trans (grown_trans (grown_trans hg68 hg79) hg84) hg89) hg95)
              have hB98 := bg hB63 hg97 nb
              have hz99 := (nt (nt hz91 hg89.size) hg95.size)
              exact ⟨hB98, hz99, hd, hs, ok_pick [0, 62] hok (by kernel_rfl)⟩
             ·skip
              replace h6 := ite_f hc69 h6
              refine gv_pureN 7 [46, 48, 49, 52, 53, 55, 56] [(46, undef), (49, undef), (53, undef), (56, undef)] (by kernel_rfl) ?_
              refine gv_nil <| gv_goA ?_
              refine gv_stage (fun _ => True) [0, 1, 2, 3, 4, 5, 6, 7, 10, 11, 13, 14] [(5, some false)] (bA 21 [0, 1, 2, 3, 4, 5, 6, 7, 10, 11, 13, 14]) 9 (by kernel_rfl) (by kernel_rfl) trivial ?_
              refine gv_pureNC trivial 1 [47] [(47, undef)] (by kernel_rfl) ?_
              refine gv_nil <| gv_goA ?_
              refine gv_stage (fun _ => True) [0, 1, 2, 3, 4, 5, 6, 7, 8, 10, 11, 13, 14] [(8, some false)] (bA 21 [0, 1, 2, 3, 4, 5, 6, 7, 8, 10, 11, 13, 14]) 8 (by kernel_rfl) (by kernel_rfl) trivial ?_
              refine gv_pureNC trivial 1 [50] [(50, undef)] (by kernel_rfl) ?_
              refine gv_nil <| gv_goA ?_
              refine gv_pre [9] (bA 21 [0, 1, 2, 3, 4, 5, 6, 7, 8, 9, 10, 11, 13, 14]) 7 (by kernel_rfl) (by kernel_rfl) ?_
              refine gv_pureN 1 [51] [(51, undef)] (by kernel_rfl) ?_
              refine gv_nil <| gv_goA ?_
              refine gv_stage (fun _ => True) [0, 1, 2, 3, 4, 5, 6, 7, 8, 9, 10, 11, 12, 13, 14] [(12, some false)] (bA 21 [0, 1, 2, 3, 4, 5, 6, 7, 8, 9, 10, 11, 12, 13, 14]) 6 (by kernel_rfl) (by kernel_rfl) trivial ?_
              refine gv_pureNC trivial 1 [54] [(54, undef)] (by kernel_rfl) ?_
              refine gv_nil <| gv_goA ?_
              refine gv_stage (fun _ => True) [0, 1, 2, 3, 4, 5, 6, 7, 8, 9, 10, 11, 12, 13, 14, 15] [(15, some false)] (bA 21 [0, 1, 2, 3, 4, 5, 6, 7, 8, 9, 10, 11, 12, 13, 14, 15]) 5 (by kernel_rfl) (by kernel_rfl) trivial ?_
              refine gv_pureNC trivial 1 [57] [(57, undef)] (by kernel_rfl) ?_
              refine gv_nil <| gv_goA ?_
              refine gv_pre [16, 17, 18, 19, 20] (bA 21 [0, 1, 2, 3, 4, 5, 6, 7, 8, 9, 10, 11, 12, 13, 14, 15, 16, 17, 18, 19, 20]) 0 (by kernel_rfl) (by kernel_rfl) ?_
              refine gv_pureN 5 [58, 59, 60, 61, 62] [(62, (.bool false))] (by kernel_rfl) ?_
              refine gv_nil <| gv_goA ?_
              refine gv_stageE (by kernel_rfl) ?_
              have e := sj h6; subst e
              refine gv_goal fun a hd hs hok => ?_
              have hB100 := bg hB63 hg68 nb
              have hz101 := hg68.size
              exact ⟨hB100, hz101, hd, hs, ok_pick [0, 62] hok (by kernel_rfl)⟩
            ·rintro a w66 ⟨hB102, hz103, hd, hs, hok⟩
             refine gv_in ?_ hd hs hok
             clear hd hs hok
             have hz104 := (nt hz64 hz103)
             refine gv_cond (b := j65) (by kernel_rfl) (fun hc105 => ?_) (fun hc105 => ?_)
             ·replace h5 := ite_t hc105 h5
              refine gv_skip <| gv_block <| gv_region <| gv_pureN 1 [63] [(63, (.string s61))] (by kernel_rfl) ?_
              refine bindE h5 ?_; clear h5; intro x106 hx107 h5
              refine gv_ssub (t := 9) (s := s61) (lo := (some (.int .i64 32))) (hi := none) 32 ((ByteArray.size s61 : Nat) : Int) x106 [] (fun e => by cases e) rfl rfl rfl (by kernel_rfl) (by kernel_rfl) Tryz.underlying9 (.inr ⟨_, rfl⟩) (.inl ⟨rfl, rfl⟩) hx107 rfl ?_
              refine gv_pureN 1 [0] [(0, (.string x106))] (by kernel_rfl) ?_
              refine gv_nil <| gv_blk ?_
              have e := sj h5; subst e
              refine gv_goal fun a hd hs hok => ?_
              have hz108 := hz104
              exact ⟨x106, rfl, hB102, hz108, hd, hs, ok_pick [0] hok (by kernel_rfl)⟩
             ·replace h5 := ite_f hc105 h5
              refine gv_cexit <| gv_exit rfl ?_
              have e := sj h5; subst e
              replace h4 := congrArg some (hR5 _ rfl)
              have e := sj h4; subst e
              refine gv_goal fun a hd hs hok => ?_
              have hz109 := hz104
              exact ⟨hB102, hz109, hd, hs, ok_pick [0] hok (by kernel_rfl)⟩
          ·rintro a w60 ⟨hB110, hz111, hd, hs, hok⟩
           refine gv_in ?_ hd hs hok
           clear hd hs hok
           have hz112 := (nt hz55 hz111)
           clear hz111 hx58 hc56 hz55 hB54 hx31 hc29 hB24
           have e := sj h3; subst e
           refine gv_goal fun a hd hs hok => ?_
           have hz113 := hz112
           exact ⟨hB110, hz113, hd, hs, ok_pick [0] hok (by kernel_rfl)⟩
         ·replace h3 := ite_f hc56 h3
          refine gv_skip ?_
          have e := sj h3; subst e
          refine gv_goal fun a hd hs hok => ?_
          have hz114 := hz55
          exact ⟨hB54, hz114, hd, hs, ok_pick [0] hok (by kernel_rfl)⟩
       ·replace h3 := ite_f hc29 h3
        refine gv_skip ?_
        have e := sj h3; subst e
        refine gv_goal fun a hd hs hok => ?_
        exact ⟨hB24, (Nat.le_refl _), hd, hs, ok_pick [0] hok (by kernel_rfl)⟩
      ·rintro a w28 ⟨hB115, hz116, hd, hs, hok⟩
       refine gv_in ?_ hd hs hok
       clear hd hs hok
       have hz117 := (nt hz26 hz116)
       refine gv_cexit <| gv_exit rfl ?_
       have e := sj h2; subst e
       refine gv_goal fun a hd hs hok => ?_
       have hz118 := hz117
       exact ⟨j27, rfl, hB115, hz118, hd, hs, ok_pick [0] hok (by kernel_rfl)⟩
    ·replace h2 := ite_f hc11 h2
     refine gv_skip <| gv_seq <| gv_region <| gv_pureN 1 [65] [(65, (.int .u8 x9))] (by kernel_rfl) ?_
     refine bindE h2 ?_; clear h2; intro x119 hx120 h2
     refine gv_idxarr (t := 90) (e := 5) (A := ⟨0, 0, none⟩) (len := 256) (kk := .u8) (i := x9) (sz := 1) [] (fun e => by cases e) rfl rfl rfl (by kernel_rfl) (by kernel_rfl) Tryz.underlying90 (by kernel_rfl) (idx_spec hx120).1 (by have e := (idx_spec hx120).2.1; rw [utf8First_len] at e; exact e) rfl ?_
     refine gv_load (t := 5) (A := (elemAddr (some ⟨0, 0, none⟩) ((x9 : Int).toNat * 1))) (.int .u8 ((x119).toNat : Int)) [] (fun e => by cases e) rfl rfl rfl (by kernel_rfl) (by kernel_rfl) (by kernel_rfl) (inw0 ((hG0.below hB6 hX0).cell hx120)) rfl ?_
     refine gv_pureN 1 [4] [(4, (.int .u8 ((x119).toNat : Int)))] (by kernel_rfl) ?_
     refine gv_nil <| gv_seq <| gv_region <| gv_pureN 4 [5, 68, 69, 70] [(5, (.int .i64 (IntKind.i64.wrap ((bwAnd .u8 ((x119).toNat : Int) 7)))))] (by kernel_rfl) ?_
     refine bindE h2 ?_; clear h2; intro n121 hn122 h2
     refine gv_name (s := 5) (v := (.int .i64 (IntKind.i64.wrap ((bwAnd .u8 ((x119).toNat : Int) 7))))) (v' := (.int .i64 n121)) (by kernel_rfl) (congrArg (Value.int .i64) (sj hn122)) ?_
     refine gv_nil <| gv_seq <| gv_region <| gv_pureN 2 [71, 72] [(72, (.int .u8 ((((x119).toNat : Int)).fdiv (2 ^ 4))))] (by kernel_rfl) ?_
     refine bindE h2 ?_; clear h2; intro x123 hx124 h2
     refine gv_idxarr (t := 93) (e := 92) (A := ⟨1, 0, none⟩) (len := 16) (kk := .u8) (i := ((((x119).toNat : Int)).fdiv (2 ^ 4))) (sz := 2) [] (fun e => by cases e) rfl rfl rfl (by kernel_rfl) (by kernel_rfl) Tryz.underlying93 (by kernel_rfl) (idx_spec hx124).1 (by have e := (idx_spec hx124).2.1; rw [utf8Acc_len] at e; exact e) rfl ?_
     obtain ⟨_, ⟨_, _, rfl, rfl, rfl⟩, hc125⟩ := hG1.cellsK hx124
     refine gv_loadAgg (t := 92) (A := (elemAddr (some ⟨1, 0, none⟩) ((((((x119).toNat : Int)).fdiv (2 ^ 4)) : Int).toNat * 2))) #[(.int .u8 x123.1), (.int .u8 x123.2)] [] (fun e => by cases e) rfl rfl rfl (by kernel_rfl) (by kernel_rfl) (by kernel_rfl) (by kernel_rfl) (inw0 (hc125 w5 (fun k hk => hB6.block k (hX0 k hk)))) rfl ?_
     refine gv_new0 (fun b => .pointer (some ⟨b, 0, none⟩)) #[(.int .u8 0), (.int .u8 0)] 92 (by kernel_rfl) (by kernel_rfl) ?_
     intro b126 w127 hg128 hb129 hbe130 hz131
     refine gv_sub [0, 5, 6, 74] (σ' := [(0, (.string s4)), (5, (.int .i64 n121)), (6, (bp b126)), (74, (.agg #[(.int .u8 x123.1), (.int .u8 x123.2)]))]) (by kernel_rfl) ?_
     refine gv_store0 92 0 (.agg #[(.int .u8 x123.1), (.int .u8 x123.2)]) #[(.int .u8 x123.1), (.int .u8 x123.2)] hb129 (by kernel_rfl) (by kernel_rfl) (by kernel_rfl) ?_
     intro w132 hg133 hb134 hz135
     refine gv_nil <| gv_seq <| gv_region <| gv_pureN 1 [75] [(75, (.int .i64 n121))] (by kernel_rfl) ?_
     refine gv_nil <| gv_block <| gv_seq <| gv_region <| gv_pureN 2 [76, 77] [(76, (.bool (n121 == 2)))] (by kernel_rfl) ?_
     refine gv_nil <| bindE h2 ?_; clear h2; intro j136 h3 h2
     refine gv_cut_code (J := fun a w138 => ∃ s137 : ByteArray, j136 = .inl s137 ∧ Below w0.heap.size w0 w138 ∧ w132.heap.size ≤ w138.heap.size ∧ a.defers = [] ∧ a.tmps.size = 169 ∧ Ok [(0, (.string s137))] a.tmps) ?_ ?_
     ·skip
      refine gv_cond (b := (n121 == 2)) (by kernel_rfl) (fun hc139 => ?_) (fun hc139 => ?_)
      ·replace h3 := ite_t hc139 h3
       refine gv_seq <| gv_seq <| bindE h3 ?_; clear h3; intro j140 h4 h3
       refine gv_cut_code (J := fun a w141 => Below w0.heap.size w0 w141 ∧ w132.heap.size ≤ w141.heap.size ∧ a.defers = [] ∧ a.tmps.size = 169 ∧ Ok [(0, (.string s4)), (94, (.bool j140))] a.tmps) ?_ ?_
       ·skip
        refine gv_drawA (by kernel_rfl) ?_
        intro w142 hg143
        refine gv_pre [0, 1, 2, 3, 4, 5, 6] (bA 17 [0, 1, 2, 3, 4, 5, 6]) 10 (by kernel_rfl) (by kernel_rfl) ?_
        refine gv_pureN 4 [78, 79, 80, 81] [(81, (.bool (decide (((ByteArray.size s4 : Nat) : Int) < 2))))] (by kernel_rfl) ?_
        refine gv_split (s := 81) (g := (decide (((ByteArray.size s4 : Nat) : Int) < 2))) (by kernel_rfl) (fun hc144 => ?_) (fun hc144 => ?_)
        ·skip
         replace h4 := ite_t hc144 h4
         refine gv_pureN 3 [82, 83, 84] [(83, undef), (84, undef)] (by kernel_rfl) ?_
         refine gv_nil <| gv_goA ?_
         refine gv_stage (Cls w142 []) [0, 1, 2, 3, 4, 5, 6, 7] [(7, some true)] (bA 17 [0, 1, 2, 3, 4, 5, 6, 7]) 9 (by kernel_rfl) (by kernel_rfl) (Cls.refl _ _) ?_
         have hC145 := Cls.refl w142 []
         refine gv_pureN 1 [85] [(85, undef)] (by kernel_rfl) ?_
         refine gv_nil <| gv_goA ?_
         refine gv_pre [8, 9, 10, 11, 13, 14] (bA 17 [0, 1, 2, 3, 4, 5, 6, 7, 8, 9, 10, 11, 13, 14]) 3 (by kernel_rfl) (by kernel_rfl) ?_
         refine gv_pureN 6 [86, 87, 88, 89, 91, 92] [(88, (.bool true)), (89, undef), (92, undef)] (by kernel_rfl) ?_
         refine gv_nil <| gv_goA ?_
         refine gv_stage (Cls w142 []) [0, 1, 2, 3, 4, 5, 6, 7, 8, 9, 10, 11, 12, 13, 14] [(12, some true)] (bA 17 [0, 1, 2, 3, 4, 5, 6, 7, 8, 9, 10, 11, 12, 13, 14]) 2 (by kernel_rfl) (by kernel_rfl) (Cls.refl _ _) ?_
         have hC146 := Cls.refl w142 []
         refine gv_pureN 1 [90] [(90, undef)] (by kernel_rfl) ?_
         refine gv_nil <| gv_goA ?_
         refine gv_pre [15, 16] (bA 17 [0, 1, 2, 3, 4, 5, 6, 7, 8, 9, 10, 11, 12, 13, 14, 15, 16]) 0 (by kernel_rfl) (by kernel_rfl) ?_
         refine gv_pureN 2 [93, 94] [(94, (.bool true))] (by kernel_rfl) ?_
         refine gv_nil <| gv_goA ?_
         refine gv_stageE (by kernel_rfl) ?_
         have e := sj h4; subst e
         refine gv_goal fun a hd hs hok => ?_
         have hB147 := bg hB6 hg128 nb
         have hlo148 : w0.heap.size ≤ b126 := lob hbe130 hB6.size
         have hB149 := bg hB147 hg133 (rowlo hlo148)
         have hB150 := bg hB149 hg143 nb
         have hz151 := hg143.size
         exact ⟨hB150, hz151, hd, hs, ok_pick [0, 94] hok (by kernel_rfl)⟩
        ·skip
         replace h4 := ite_f hc144 h4
         refine gv_pureN 1 [82] [(82, (.string s4))] (by kernel_rfl) ?_
         refine bindE h4 ?_; clear h4; intro x152 hx153 h4
         refine gv_sindex (t := 9) (s := s4) (kk := .i64) (i := 1) x152 [] (fun e => by cases e) rfl rfl rfl (by kernel_rfl) (by kernel_rfl) Tryz.underlying9 hx153 rfl ?_
         refine gv_pureN 1 [84] [(84, (bp b126))] (by kernel_rfl) ?_
         refine gv_nil <| gv_goA ?_
         refine gv_stage (Cls w142 []) [0, 1, 2, 3, 4, 5, 6, 7] [(7, some true)] (bA 17 [0, 1, 2, 3, 4, 5, 6, 7]) 9 (by kernel_rfl) (by kernel_rfl) (Cls.refl _ _) ?_
         have hC154 := Cls.refl w142 []
         have hk155 := hb134.grown hg143 nb
         refine gv_load (t := 5) (A := ⟨b126, 0, none⟩) (.int .u8 x123.1) [] (fun e => by cases e) rfl rfl rfl (by kernel_rfl) (by kernel_rfl) (by kernel_rfl) (inw1 fun w' hC' => ((hC'.box hk155 nm_nil).cell 0 rfl)) rfl ?_
         refine gv_nil <| gv_goA ?_
         refine gv_pre [8, 9, 10, 11, 13, 14] (bA 17 [0, 1, 2, 3, 4, 5, 6, 7, 8, 9, 10, 11, 13, 14]) 3 (by kernel_rfl) (by kernel_rfl) ?_
         refine gv_pureN 3 [86, 87, 88] [(88, (.bool (decide (x152 < x123.1))))] (by kernel_rfl) ?_
         refine gv_split (s := 88) (g := (decide (x152 < x123.1))) (by kernel_rfl) (fun hc156 => ?_) (fun hc156 => ?_)
         ·skip
          replace h4 := ite_t hc156 h4
          refine gv_pureN 3 [89, 91, 92] [(89, undef), (92, undef)] (by kernel_rfl) ?_
          refine gv_nil <| gv_goA ?_
          refine gv_stage (Cls w142 []) [0, 1, 2, 3, 4, 5, 6, 7, 8, 9, 10, 11, 12, 13, 14] [(12, some true)] (bA 17 [0, 1, 2, 3, 4, 5, 6, 7, 8, 9, 10, 11, 12, 13, 14]) 2 (by kernel_rfl) (by kernel_rfl) (Cls.refl _ _) ?_
          have hC157 := Cls.refl w142 []
          refine gv_pureN 1 [90] [(90, undef)] (by kernel_rfl) ?_
          refine gv_nil <| gv_goA ?_
          refine gv_pre [15, 16] (bA 17 [0, 1, 2, 3, 4, 5, 6, 7, 8, 9, 10, 11, 12, 13, 14, 15, 16]) 0 (by kernel_rfl) (by kernel_rfl) ?_
          refine gv_pureN 2 [93, 94] [(94, (.bool true))] (by kernel_rfl) ?_
          refine gv_nil <| gv_goA ?_
          refine gv_stageE (by kernel_rfl) ?_
          have e := sj h4; subst e
          refine gv_goal fun a hd hs hok => ?_
          have hB158 := bg hB6 hg128 nb
          have hlo159 : w0.heap.size ≤ b126 := lob hbe130 hB6.size
          have hB160 := bg hB158 hg133 (rowlo hlo159)
          have hB161 := bg hB160 hg143 nb
          have hz162 := hg143.size
          exact ⟨hB161, hz162, hd, hs, ok_pick [0, 94] hok (by kernel_rfl)⟩
         ·skip
          replace h4 := ite_f hc156 h4
          refine gv_pureN 2 [89, 91] [(89, (.pointer (some ⟨b126, 1, none⟩))), (91, (.string s4))] (by kernel_rfl) ?_
          refine bindE h4 ?_; clear h4; intro x163 hx164 h4
          refine gv_sindex (t := 9) (s := s4) (kk := .i64) (i := 1) x163 [] (fun e => by cases e) rfl rfl rfl (by kernel_rfl) (by kernel_rfl) Tryz.underlying9 hx164 rfl ?_
          refine gv_nil <| gv_goA ?_
          refine gv_stage (Cls w142 []) [0, 1, 2, 3, 4, 5, 6, 7, 8, 9, 10, 11, 12, 13, 14] [(12, some true)] (bA 17 [0, 1, 2, 3, 4, 5, 6, 7, 8, 9, 10, 11, 12, 13, 14]) 2 (by kernel_rfl) (by kernel_rfl) (Cls.refl _ _) ?_
          have hC165 := Cls.refl w142 []
          refine gv_load (t := 5) (A := ⟨b126, 1, none⟩) (.int .u8 x123.2) [] (fun e => by cases e) rfl rfl rfl (by kernel_rfl) (by kernel_rfl) (by kernel_rfl) (inw1 fun w' hC' => ((hC'.box hk155 nm_nil).cell 1 rfl)) rfl ?_
          refine gv_nil <| gv_goA ?_
          refine gv_pre [15, 16] (bA 17 [0, 1, 2, 3, 4, 5, 6, 7, 8, 9, 10, 11, 12, 13, 14, 15, 16]) 0 (by kernel_rfl) (by kernel_rfl) ?_
          refine gv_pureN 2 [93, 94] [(94, (.bool (decide (x123.2 < x163))))] (by kernel_rfl) ?_
          refine gv_nil <| gv_goA ?_
          refine gv_stageE (by kernel_rfl) ?_
          have e := sj h4; subst e
          refine gv_goal fun a hd hs hok => ?_
          have hB166 := bg hB6 hg128 nb
          have hlo167 : w0.heap.size ≤ b126 := lob hbe130 hB6.size
          have hB168 := bg hB166 hg133 (rowlo hlo167)
          have hB169 := bg hB168 hg143 nb
          have hz170 := hg143.size
          exact ⟨hB169, hz170, hd, hs, ok_pick [0, 94] hok (by kernel_rfl)⟩
       ·rintro a w141 ⟨hB171, hz172, hd, hs, hok⟩
        refine gv_in ?_ hd hs hok
        clear hd hs hok
        have hz173 := (nt (nt hz7 hg128.size) hg133.size)
        clear hc139 hz135 hb134 hg133 hz131 hbe130 hb129 hg128 hc125 hx124 hn122 hx120 hc11 hx10 hc8 hz7 hB6
        refine gv_cond (b := j140) (by kernel_rfl) (fun hc174 => ?_) (fun hc174 => ?_)
        ·replace h3 := ite_t hc174 h3
         refine gv_seq <| gv_region <| gv_pureN 1 [2] [(2, (.bool false))] (by kernel_rfl) ?_
         refine gv_nil <| gv_cret ?_
         have e := sj h3; subst e
         replace h2 := cont_inr h2
         have e := sj h2; subst e
         replace h1 := congrArg some (hR2 _ rfl)
         have e := sj h1; subst e
         replace h0 := cont_inr h0
         have e := sj h0; subst e
         refine gv_ret (gv_done [(.bool false)] rfl ⟨(by kernel_rfl), trivial⟩ ?_)
         exact ⟨grown_of_below hB171, rfl⟩
        ·replace h3 := ite_f hc174 h3
         refine gv_skip <| gv_region <| gv_pureN 1 [95] [(95, (.string s4))] (by kernel_rfl) ?_
         refine bindE h3 ?_; clear h3; intro x175 hx176 h3
         refine gv_ssub (t := 9) (s := s4) (lo := (some (.int .i64 2))) (hi := none) 2 ((ByteArray.size s4 : Nat) : Int) x175 [] (fun e => by cases e) rfl rfl rfl (by kernel_rfl) (by kernel_rfl) Tryz.underlying9 (.inr ⟨_, rfl⟩) (.inl ⟨rfl, rfl⟩) hx176 rfl ?_
         refine gv_pureN 1 [0] [(0, (.string x175))] (by kernel_rfl) ?_
         refine gv_nil ?_
         have e := sj h3; subst e
         refine gv_goal fun a hd hs hok => ?_
         have hz177 := hz172
         exact ⟨x175, rfl, hB171, hz177, hd, hs, ok_pick [0] hok (by kernel_rfl)⟩
      ·replace h3 := ite_f hc139 h3
       refine gv_seq <| gv_region <| gv_pureN 2 [97, 98] [(97, (.bool (n121 == 3)))] (by kernel_rfl) ?_
       refine gv_nil <| gv_cond (b := (n121 == 3)) (by kernel_rfl) (fun hc178 => ?_) (fun hc178 => ?_)
       ·replace h3 := ite_t hc178 h3
        refine gv_seq <| gv_seq <| bindE h3 ?_; clear h3; intro j179 h4 h3
        refine gv_cut_code (J := fun a w180 => Below w0.heap.size w0 w180 ∧ w132.heap.size ≤ w180.heap.size ∧ a.defers = [] ∧ a.tmps.size = 169 ∧ Ok [(0, (.string s4)), (125, (.bool j179))] a.tmps) ?_ ?_
        ·skip
         refine gv_drawA (by kernel_rfl) ?_
         intro w181 hg182
         refine gv_pre [0, 1, 2, 3, 4, 5, 6] (bA 27 [0, 1, 2, 3, 4, 5, 6]) 20 (by kernel_rfl) (by kernel_rfl) ?_
         refine gv_pureN 4 [99, 100, 101, 102] [(102, (.bool (decide (((ByteArray.size s4 : Nat) : Int) < 3))))] (by kernel_rfl) ?_
         refine gv_split (s := 102) (g := (decide (((ByteArray.size s4 : Nat) : Int) < 3))) (by kernel_rfl) (fun hc183 => ?_) (fun hc183 => ?_)
         ·skip
          replace h4 := ite_t hc183 h4
          refine gv_pureN 3 [103, 104, 105] [(104, undef), (105, undef)] (by kernel_rfl) ?_
          refine gv_nil <| gv_goA ?_
          refine gv_stage (Cls w181 []) [0, 1, 2, 3, 4, 5, 6, 7] [(7, some true)] (bA 27 [0, 1, 2, 3, 4, 5, 6, 7]) 19 (by kernel_rfl) (by kernel_rfl) (Cls.refl _ _) ?_
          have hC184 := Cls.refl w181 []
          refine gv_pureN 1 [106] [(106, undef)] (by kernel_rfl) ?_
          refine gv_nil <| gv_goA ?_
          refine gv_pre [8, 9, 10, 11, 13, 14] (bA 27 [0, 1, 2, 3, 4, 5, 6, 7, 8, 9, 10, 11, 13, 14]) 13 (by kernel_rfl) (by kernel_rfl) ?_
          refine gv_pureN 6 [107, 108, 109, 110, 112, 113] [(109, (.bool true)), (110, undef), (113, undef)] (by kernel_rfl) ?_
          refine gv_nil <| gv_goA ?_
          refine gv_stage (Cls w181 []) [0, 1, 2, 3, 4, 5, 6, 7, 8, 9, 10, 11, 12, 13, 14] [(12, some true)] (bA 27 [0, 1, 2, 3, 4, 5, 6, 7, 8, 9, 10, 11, 12, 13, 14]) 12 (by kernel_rfl) (by kernel_rfl) (Cls.refl _ _) ?_
          have hC185 := Cls.refl w181 []
          refine gv_pureN 1 [111] [(111, undef)] (by kernel_rfl) ?_
          refine gv_nil <| gv_goA ?_
          refine gv_pre [15, 16, 17, 18, 19, 20, 21, 22, 23, 24, 25, 26] (bA 27 [0, 1, 2, 3, 4, 5, 6, 7, 8, 9, 10, 11, 12, 13, 14, 15, 16, 17, 18, 19, 20, 21, 22, 23, 24, 25, 26]) 0 (by kernel_rfl) (by kernel_rfl) ?_
          refine gv_pureN 12 [114, 115, 116, 117, 118, 119, 120, 121, 122, 123, 124, 125] [(125, (.bool true))] (by kernel_rfl) ?_
          refine gv_nil <| gv_goA ?_
          refine gv_stageE (by kernel_rfl) ?_
          have e := sj h4; subst e
          refine gv_goal fun a hd hs hok => ?_
          have hB186 := bg hB6 hg128 nb
          have hlo187 : w0.heap.size ≤ b126 := lob hbe130 hB6.size
          have hB188 := bg hB186 hg133 (rowlo hlo187)
          have hB189 := bg hB188 hg182 nb
          have hz190 := hg182.size
          exact ⟨hB189, hz190, hd, hs, ok_pick [0, 125] hok (by kernel_rfl)⟩
         ·skip
          replace h4 := ite_f hc183 h4
          refine gv_pureN 1 [103] [(103, (.string s4))] (by kernel_rfl) ?_
          refine bindE h4 ?_; clear h4; intro x191 hx192 h4
          refine gv_sindex (t := 9) (s := s4) (kk := .i64) (i := 1) x191 [] (fun e => by cases e) rfl rfl rfl (by kernel_rfl) (by kernel_rfl) Tryz.underlying9 hx192 rfl ?_
          refine gv_pureN 1 [105] [(105, (bp b126))] (by kernel_rfl) ?_
          refine gv_nil <| gv_goA ?_
          refine gv_stage (Cls w181 []) [0, 1, 2, 3, 4, 5, 6, 7] [(7, some true)] (bA 27 [0, 1, 2, 3, 4, 5, 6, 7]) 19 (by kernel_rfl) (by kernel_rfl) (Cls.refl _ _) ?_
          have hC193 := Cls.refl w181 []
          have hk194 := hb134.grown hg182 nb
          refine gv_load (t := 5) (A := ⟨b126, 0, none⟩) (.int .u8 x123.1) [] (fun e => by cases e) rfl rfl rfl (by kernel_rfl) (by kernel_rfl) (by kernel_rfl) (inw1 fun w' hC' => ((hC'.box hk194 nm_nil).cell 0 rfl)) rfl ?_
          refine gv_nil <| gv_goA ?_
          refine gv_pre [8, 9, 10, 11, 13, 14] (bA 27 [0, 1, 2, 3, 4, 5, 6, 7, 8, 9, 10, 11, 13, 14]) 13 (by kernel_rfl) (by kernel_rfl) ?_
          refine gv_pureN 3 [107, 108, 109] [(109, (.bool (decide (x191 < x123.1))))] (by kernel_rfl) ?_
          refine gv_split (s := 109) (g := (decide (x191 < x123.1))) (by kernel_rfl) (fun hc195 => ?_) (fun hc195 => ?_)
          ·skip
           replace h4 := ite_t hc195 h4
           refine gv_pureN 3 [110, 112, 113] [(110, undef), (113, undef)] (by kernel_rfl) ?_
           refine gv_nil <| gv_goA ?_
           refine gv_stage (Cls w181 []) [0, 1, 2, 3, 4, 5, 6, 7, 8, 9, 10, 11, 12, 13, 14] [(12, some true)] (bA 27 [0, 1, 2, 3, 4, 5, 6, 7, 8, 9, 10, 11, 12, 13, 14]) 12 (by kernel_rfl) (by kernel_rfl) (Cls.refl _ _) ?_
           have hC196 := Cls.refl w181 []
           refine gv_pureN 1 [111] [(111, undef)] (by kernel_rfl) ?_
           refine gv_nil <| gv_goA ?_
           refine gv_pre [15, 16, 17, 18, 19, 20, 21, 22, 23, 24, 25, 26] (bA 27 [0, 1, 2, 3, 4, 5, 6, 7, 8, 9, 10, 11, 12, 13, 14, 15, 16, 17, 18, 19, 20, 21, 22, 23, 24, 25, 26]) 0 (by kernel_rfl) (by kernel_rfl) ?_
           refine gv_pureN 12 [114, 115, 116, 117, 118, 119, 120, 121, 122, 123, 124, 125] [(125, (.bool true))] (by kernel_rfl) ?_
           refine gv_nil <| gv_goA ?_
           refine gv_stageE (by kernel_rfl) ?_
           have e := sj h4; subst e
           refine gv_goal fun a hd hs hok => ?_
           have hB197 := bg hB6 hg128 nb
           have hlo198 : w0.heap.size ≤ b126 := lob hbe130 hB6.size
           have hB199 := bg hB197 hg133 (rowlo hlo198)
           have hB200 := bg hB199 hg182 nb
           have hz201 := hg182.size
           exact ⟨hB200, hz201, hd, hs, ok_pick [0, 125] hok (by kernel_rfl)⟩
          ·skip
           replace h4 := ite_f hc195 h4
           refine gv_pureN 2 [110, 112] [(110, (.pointer (some ⟨b126, 1, none⟩))), (112, (.string s4))] (by kernel_rfl) ?_
           refine bindE h4 ?_; clear h4; intro x202 hx203 h4
           refine gv_sindex (t := 9) (s := s4) (kk := .i64) (i := 1) x202 [] (fun e => by cases e) rfl rfl rfl (by kernel_rfl) (by kernel_rfl) Tryz.underlying9 hx203 rfl ?_
           refine gv_nil <| gv_goA ?_
           refine gv_stage (Cls w181 []) [0, 1, 2, 3, 4, 5, 6, 7, 8, 9, 10, 11, 12, 13, 14] [(12, some true)] (bA 27 [0, 1, 2, 3, 4, 5, 6, 7, 8, 9, 10, 11, 12, 13, 14]) 12 (by kernel_rfl) (by kernel_rfl) (Cls.refl _ _) ?_
           have hC204 := Cls.refl w181 []
           refine gv_load (t := 5) (A := ⟨b126, 1, none⟩) (.int .u8 x123.2) [] (fun e => by cases e) rfl rfl rfl (by kernel_rfl) (by kernel_rfl) (by kernel_rfl) (inw1 fun w' hC' => ((hC'.box hk194 nm_nil).cell 1 rfl)) rfl ?_
           refine gv_nil <| gv_goA ?_
           refine gv_pre [15, 16, 17, 18, 19, 20, 21, 22, 23, 24, 25, 26] (bA 27 [0, 1, 2, 3, 4, 5, 6, 7, 8, 9, 10, 11, 12, 13, 14, 15, 16, 17, 18, 19, 20, 21, 22, 23, 24, 25, 26]) 0 (by kernel_rfl) (by kernel_rfl) ?_
           refine gv_pureN 3 [114, 115, 116] [(116, (.bool (decide (x123.2 < x202))))] (by kernel_rfl) ?_
           refine gv_sub [0, 116] (σ' := [(0, (.string s4)), (116, (.bool (decide (x123.2 < x202))))]) (by kernel_rfl) ?_
           refine gv_split (s := 116) (g := (decide (x123.2 < x202))) (by kernel_rfl) (fun hc205 => ?_) (fun hc205 => ?_)
           ·skip
            replace h4 := ite_t hc205 h4
            refine gv_pureN 9 [117, 118, 119, 120, 121, 122, 123, 124, 125] [(125, (.bool true))] (by kernel_rfl) ?_
            refine gv_nil <| gv_goA ?_
            refine gv_stageE (by kernel_rfl) ?_
            have e := sj h4; subst e
            refine gv_goal fun a hd hs hok => ?_
            have hB206 := bg hB6 hg128 nb
            have hlo207 : w0.heap.size ≤ b126 := lob hbe130 hB6.size
            have hB208 := bg hB206 hg133 (rowlo hlo207)
            have hB209 := bg hB208 hg182 nb
            have hz210 := hg182.size
            exact ⟨hB209, hz210, hd, hs, ok_pick [0, 125] hok (by kernel_rfl)⟩
           ·skip
            replace h4 := ite_f hc205 h4
            refine gv_pureN 1 [117] [(117, (.string s4))] (by kernel_rfl) ?_
            refine bindE h4 ?_; clear h4; intro x211 hx212 h4
            refine gv_sindex (t := 9) (s := s4) (kk := .i64) (i := 2) x211 [] (fun e => by cases e) rfl rfl rfl (by kernel_rfl) (by kernel_rfl) Tryz.underlying9 hx212 rfl ?_
            refine gv_pureN 3 [119, 120, 121] [(121, (.bool (decide (x211 < 128))))] (by kernel_rfl) ?_
            refine gv_split (s := 121) (g := (decide (x211 < 128))) (by kernel_rfl) (fun hc213 => ?_) (fun hc213 => ?_)
            ·skip
             replace h4 := ite_t hc213 h4
             refine gv_pureN 4 [122, 123, 124, 125] [(125, (.bool true))] (by kernel_rfl) ?_
             refine gv_nil <| gv_goA ?_
             refine gv_stageE (by kernel_rfl) ?_
             have e := sj h4; subst e
             refine gv_goal fun a hd hs hok => ?_
             have hB214 := bg hB6 hg128 nb
             have hlo215 : w0.heap.size ≤ b126 := lob hbe130 hB6.size
             have hB216 := bg hB214 hg133 (rowlo hlo215)
             have hB217 := bg hB216 hg182 nb
             have hz218 := hg182.size
             exact ⟨hB217, hz218, hd, hs, ok_pick [0, 125] hok (by kernel_rfl)⟩
            ·skip
             replace h4 := ite_f hc213 h4
             refine gv_pureN 1 [122] [(122, (.string s4))] (by kernel_rfl) ?_
             refine bindE h4 ?_; clear h4; intro x219 hx220 h4
             refine gv_sindex (t := 9) (s := s4) (kk := .i64) (i := 2) x219 [] (fun e => by cases e) rfl rfl rfl (by kernel_rfl) (by kernel_rfl) Tryz.underlying9 hx220 rfl ?_
             refine gv_pureN 2 [124, 125] [(125, (.bool (decide (191 < x219))))] (by kernel_rfl) ?_
             refine gv_nil <| gv_goA ?_
             refine gv_stageE (by kernel_rfl) ?_
             have e := sj h4; subst e
             refine gv_goal fun a hd hs hok => ?_
             have hB221 := bg hB6 hg128 nb
             have hlo222 : w0.heap.size ≤ b126 := lob hbe130 hB6.size
             have hB223 := bg hB221 hg133 (rowlo hlo222)
             have hB224 := bg hB223 hg182 nb
             have hz225 := hg182.size
             exact ⟨hB224, hz225, hd, hs, ok_pick [0, 125] hok (by kernel_rfl)⟩
        ·rintro a w180 ⟨hB226, hz227, hd, hs, hok⟩
         refine gv_in ?_ hd hs hok
         clear hd hs hok
         have hz228 := (nt (nt hz7 hg128.size) hg133.size)
         clear hc178 hc139 hz135 hb134 hg133 hz131 hbe130 hb129 hg128 hc125 hx124 hn122 hx120 hc11 hx10 hc8 hz7 hB6
         refine gv_cond (b := j179) (by kernel_rfl) (fun hc229 => ?_) (fun hc229 => ?_)
         ·replace h3 := ite_t hc229 h3
          refine gv_seq <| gv_region <| gv_pureN 1 [2] [(2, (.bool false))] (by kernel_rfl) ?_
          refine gv_nil <| gv_cret ?_
          have e := sj h3; subst e
          replace h2 := cont_inr h2
          have e := sj h2; subst e
          replace h1 := congrArg some (hR2 _ rfl)
          have e := sj h1; subst e
          replace h0 := cont_inr h0
          have e := sj h0; subst e
          refine gv_ret (gv_done [(.bool false)] rfl ⟨(by kernel_rfl), trivial⟩ ?_)
          exact ⟨grown_of_below hB226, rfl⟩
         ·replace h3 := ite_f hc229 h3
          refine gv_skip <| gv_region <| gv_pureN 1 [126] [(126, (.string s4))] (by kernel_rfl) ?_
          refine bindE h3 ?_; clear h3; intro x230 hx231 h3
          refine gv_ssub (t := 9) (s := s4) (lo := (some (.int .i64 3))) (hi := none) 3 ((ByteArray.size s4 : Nat) : Int) x230 [] (fun e => by cases e) rfl rfl rfl (by kernel_rfl) (by kernel_rfl) Tryz.underlying9 (.inr ⟨_, rfl⟩) (.inl ⟨rfl, rfl⟩) hx231 rfl ?_
          refine gv_pureN 1 [0] [(0, (.string x230))] (by kernel_rfl) ?_
          refine gv_nil ?_
          have e := sj h3; subst e
          refine gv_goal fun a hd hs hok => ?_
          have hz232 := hz227
          exact ⟨x230, rfl, hB226, hz232, hd, hs, ok_pick [0] hok (by kernel_rfl)⟩
       ·replace h3 := ite_f hc178 h3
        refine gv_seq <| gv_region <| gv_pureN 2 [128, 129] [(128, (.bool (n121 == 4)))] (by kernel_rfl) ?_
        refine gv_nil <| gv_cond (b := (n121 == 4)) (by kernel_rfl) (fun hc233 => ?_) (fun hc233 => ?_)
        ·replace h3 := ite_t hc233 h3
         refine gv_seq <| gv_seq <| bindE h3 ?_; clear h3; intro j234 h4 h3
         refine gv_cut_code (J := fun a w235 => Below w0.heap.size w0 w235 ∧ w132.heap.size ≤ w235.heap.size ∧ a.defers = [] ∧ a.tmps.size = 169 ∧ Ok [(0, (.string s4)), (166, (.bool j234))] a.tmps) ?_ ?_
         ·skip
          refine gv_drawA (by kernel_rfl) ?_
          intro w236 hg237
          refine gv_pre [0, 1, 2, 3, 4, 5, 6] (bA 37 [0, 1, 2, 3, 4, 5, 6]) 30 (by kernel_rfl) (by kernel_rfl) ?_
          refine gv_pureN 4 [130, 131, 132, 133] [(133, (.bool (decide (((ByteArray.size s4 : Nat) : Int) < 4))))] (by kernel_rfl) ?_
          refine gv_split (s := 133) (g := (decide (((ByteArray.size s4 : Nat) : Int) < 4))) (by kernel_rfl) (fun hc238 => ?_) (fun hc238 => ?_)
          ·skip
           replace h4 := ite_t hc238 h4
           refine gv_pureN 3 [134, 135, 136] [(135, undef), (136, undef)] (by kernel_rfl) ?_
           refine gv_nil <| gv_goA ?_
           refine gv_stage (Cls w236 []) [0, 1, 2, 3, 4, 5, 6, 7] [(7, some true)] (bA 37 [0, 1, 2, 3, 4, 5, 6, 7]) 29 (by kernel_rfl) (by kernel_rfl) (Cls.refl _ _) ?_
           have hC239 := Cls.refl w236 []
           refine gv_pureN 1 [137] [(137, undef)] (by kernel_rfl) ?_
           refine gv_nil <| gv_goA ?_
           refine gv_pre [8, 9, 10, 11, 13, 14] (bA 37 [0, 1, 2, 3, 4, 5, 6, 7, 8, 9, 10, 11, 13, 14]) 23 (by kernel_rfl) (by kernel_rfl) ?_
           refine gv_pureN 6 [138, 139, 140, 141, 143, 144] [(140, (.bool true)), (141, undef), (144, undef)] (by kernel_rfl) ?_
           refine gv_nil <| gv_goA ?_
           refine gv_stage (Cls w236 []) [0, 1, 2, 3, 4, 5, 6, 7, 8, 9, 10, 11, 12, 13, 14] [(12, some true)] (bA 37 [0, 1, 2, 3, 4, 5, 6, 7, 8, 9, 10, 11, 12, 13, 14]) 22 (by kernel_rfl) (by kernel_rfl) (Cls.refl _ _) ?_
           have hC240 := Cls.refl w236 []
           refine gv_pureN 1 [142] [(142, undef)] (by kernel_rfl) ?_
           refine gv_nil <| gv_goA ?_
           refine gv_pre [15, 16, 17, 18, 19, 20, 21, 22, 23, 24, 25, 26, 27, 28, 29, 30, 31, 32, 33, 34, 35, 36] (bA 37 [0, 1, 2, 3, 4, 5, 6, 7, 8, 9, 10, 11, 12, 13, 14, 15, 16, 17, 18, 19, 20, 21, 22, 23, 24, 25, 26, 27, 28, 29, 30, 31, 32, 33, 34, 35, 36]) 0 (by kernel_rfl) (by kernel_rfl) ?_
           refine gv_pureN 22 [145, 146, 147, 148, 149, 150, 151, 152, 153, 154, 155, 156, 157, 158, 159, 160, 161, 162, 163, 164, 165, 166] [(166, (.bool true))] (by kernel_rfl) ?_
           refine gv_nil <| gv_goA ?_
           refine gv_stageE (by kernel_rfl) ?_
           have e := sj h4; subst e
           refine gv_goal fun a hd hs hok => ?_
           have hB241 := bg hB6 hg128 nb
           have hlo242 : w0.heap.size ≤ b126 := lob hbe130 hB6.size
           have hB243 := bg hB241 hg133 (rowlo hlo242)
           have hB244 := bg hB243 hg237 nb
           have hz245 := hg237.size
           exact ⟨hB244, hz245, hd, hs, ok_pick [0, 166] hok (by kernel_rfl)⟩
          ·skip
           replace h4 := ite_f hc238 h4
           refine gv_pureN 1 [134] [(134, (.string s4))] (by kernel_rfl) ?_
           refine bindE h4 ?_; clear h4; intro x246 hx247 h4
           refine gv_sindex (t := 9) (s := s4) (kk := .i64) (i := 1) x246 [] (fun e => by cases e) rfl rfl rfl (by kernel_rfl) (by kernel_rfl) Tryz.underlying9 hx247 rfl ?_
           refine gv_pureN 1 [136] [(136, (bp b126))] (by kernel_rfl) ?_
           refine gv_nil <| gv_goA ?_
           refine gv_stage (Cls w236 []) [0, 1, 2, 3, 4, 5, 6, 7] [(7, some true)] (bA 37 [0, 1, 2, 3, 4, 5, 6, 7]) 29 (by kernel_rfl) (by kernel_rfl) (Cls.refl _ _) ?_
           have hC248 := Cls.refl w236 []
           have hk249 := hb134.grown hg237 nb
           refine gv_load (t := 5) (A := ⟨b126, 0, none⟩) (.int .u8 x123.1) [] (fun e => by cases e) rfl rfl rfl (by kernel_rfl) (by kernel_rfl) (by kernel_rfl) (inw1 fun w' hC' => ((hC'.box hk249 nm_nil).cell 0 rfl)) rfl ?_
           refine gv_nil <| gv_goA ?_
           refine gv_pre [8, 9, 10, 11, 13, 14] (bA 37 [0, 1, 2, 3, 4, 5, 6, 7, 8, 9, 10, 11, 13, 14]) 23 (by kernel_rfl) (by kernel_rfl) ?_
           refine gv_pureN 3 [138, 139, 140] [(140, (.bool (decide (x246 < x123.1))))] (by kernel_rfl) ?_
           refine gv_split (s := 140) (g := (decide (x246 < x123.1))) (by kernel_rfl) (fun hc250 => ?_) (fun hc250 => ?_)
           ·skip
            replace h4 := ite_t hc250 h4
            refine gv_pureN 3 [141, 143, 144] [(141, undef), (144, undef)] (by kernel_rfl) ?_
            refine gv_nil <| gv_goA ?_
            refine gv_stage (Cls w236 []) [0, 1, 2, 3, 4, 5, 6, 7, 8, 9, 10, 11, 12, 13, 14] [(12, some true)] (bA 37 [0, 1, 2, 3, 4, 5, 6, 7, 8, 9, 10, 11, 12, 13, 14]) 22 (by kernel_rfl) (by kernel_rfl) (Cls.refl _ _) ?_
            have hC251 := Cls.refl w236 []
            refine gv_pureN 1 [142] [(142, undef)] (by kernel_rfl) ?_
            refine gv_nil <| gv_goA ?_
            refine gv_pre [15, 16, 17, 18, 19, 20, 21, 22, 23, 24, 25, 26, 27, 28, 29, 30, 31, 32, 33, 34, 35, 36] (bA 37 [0, 1, 2, 3, 4, 5, 6, 7, 8, 9, 10, 11, 12, 13, 14, 15, 16, 17, 18, 19, 20, 21, 22, 23, 24, 25, 26, 27, 28, 29, 30, 31, 32, 33, 34, 35, 36]) 0 (by kernel_rfl) (by kernel_rfl) ?_
            refine gv_pureN 22 [145, 146, 147, 148, 149, 150, 151, 152, 153, 154, 155, 156, 157, 158, 159, 160, 161, 162, 163, 164, 165, 166] [(166, (.bool true))] (by kernel_rfl) ?_
            refine gv_sub [0, 166] (σ' := [(0, (.string s4)), (166, (.bool true))]) (by kernel_rfl) ?_
            refine gv_nil <| gv_goA ?_
            refine gv_stageE (by kernel_rfl) ?_
            have e := sj h4; subst e
            refine gv_goal fun a hd hs hok => ?_
            have hB252 := bg hB6 hg128 nb
            have hlo253 : w0.heap.size ≤ b126 := lob hbe130 hB6.size
            have hB254 := bg hB252 hg133 (rowlo hlo253)
            have hB255 := bg hB254 hg237 nb
            have hz256 := hg237.size
            exact ⟨hB255, hz256, hd, hs, ok_pick [0, 166] hok (by kernel_rfl)⟩
           ·skip
            replace h4 := ite_f hc250 h4
            refine gv_pureN 2 [141, 143] [(141, (.pointer (some ⟨b126, 1, none⟩))), (143, (.string s4))] (by kernel_rfl) ?_
            refine bindE h4 ?_; clear h4; intro x257 hx258 h4
            refine gv_sindex (t := 9) (s := s4) (kk := .i64) (i := 1) x257 [] (fun e => by cases e) rfl rfl rfl (by kernel_rfl) (by kernel_rfl) Tryz.underlying9 hx258 rfl ?_
            refine gv_nil <| gv_goA ?_
            refine gv_stage (Cls w236 []) [0, 1, 2, 3, 4, 5, 6, 7, 8, 9, 10, 11, 12, 13, 14] [(12, some true)] (bA 37 [0, 1, 2, 3, 4, 5, 6, 7, 8, 9, 10, 11, 12, 13, 14]) 22 (by kernel_rfl) (by kernel_rfl) (Cls.refl _ _) ?_
            have hC259 := Cls.refl w236 []
            refine gv_load (t := 5) (A := ⟨b126, 1, none⟩) (.int .u8 x123.2) [] (fun e => by cases e) rfl rfl rfl (by kernel_rfl) (by kernel_rfl) (by kernel_rfl) (inw1 fun w' hC' => ((hC'.box hk249 nm_nil).cell 1 rfl)) rfl ?_
            refine gv_nil <| gv_goA ?_
            refine gv_pre [15, 16, 17, 18, 19, 20, 21, 22, 23, 24, 25, 26, 27, 28, 29, 30, 31, 32, 33, 34, 35, 36] (bA 37 [0, 1, 2, 3, 4, 5, 6, 7, 8, 9, 10, 11, 12, 13, 14, 15, 16, 17, 18, 19, 20, 21, 22, 23, 24, 25, 26, 27, 28, 29, 30, 31, 32, 33, 34, 35, 36]) 0 (by kernel_rfl) (by kernel_rfl) ?_
            refine gv_pureN 3 [145, 146, 147] [(147, (.bool (decide (x123.2 < x257))))] (by kernel_rfl) ?_
            refine gv_sub [0, 147] (σ' := [(0, (.string s4)), (147, (.bool (decide (x123.2 < x257))))]) (by kernel_rfl) ?_
            refine gv_split (s := 147) (g := (decide (x123.2 < x257))) (by kernel_rfl) (fun hc260 => ?_) (fun hc260 => ?_)
            ·skip
             replace h4 := ite_t hc260 h4
             refine gv_pureN 19 [148, 149, 150, 151, 152, 153, 154, 155, 156, 157, 158, 159, 160, 161, 162, 163, 164, 165, 166] [(166, (.bool true))] (by kernel_rfl) ?_
             refine gv_nil <| gv_goA ?_
             refine gv_stageE (by kernel_rfl) ?_
             have e := sj h4; subst e
             refine gv_goal fun a hd hs hok => ?_
             have hB261 := bg hB6 hg128 nb
             have hlo262 : w0.heap.size ≤ b126 := lob hbe130 hB6.size
             have hB263 := bg hB261 hg133 (rowlo hlo262)
             have hB264 := bg hB263 hg237 nb
             have hz265 := hg237.size
             exact ⟨hB264, hz265, hd, hs, ok_pick [0, 166] hok (by kernel_rfl)⟩
            ·skip
             replace h4 := ite_f hc260 h4
             refine gv_pureN 1 [148] [(148, (.string s4))] (by kernel_rfl) ?_
             refine bindE h4 ?_; clear h4; intro x266 hx267 h4
             refine gv_sindex (t := 9) (s := s4) (kk := .i64) (i := 2) x266 [] (fun e => by cases e) rfl rfl rfl (by kernel_rfl) (by kernel_rfl) Tryz.underlying9 hx267 rfl ?_
             refine gv_pureN 3 [150, 151, 152] [(152, (.bool (decide (x266 < 128))))] (by kernel_rfl) ?_
             refine gv_split (s := 152) (g := (decide (x266 < 128))) (by kernel_rfl) (fun hc268 => ?_) (fun hc268 => ?_)
             ·skip
              replace h4 := ite_t hc268 h4
              refine gv_pureN 14 [153, 154, 155, 156, 157, 158, 159, 160, 161, 162, 163, 164, 165, 166] [(166, (.bool true))] (by kernel_rfl) ?_
              refine gv_nil <| gv_goA ?_
              refine gv_stageE (by kernel_rfl) ?_
              have e := sj h4; subst e
              refine gv_goal fun a hd hs hok => ?_
              have hB269 := bg hB6 hg128 nb
              have hlo270 : w0.heap.size ≤ b126 := lob hbe130 hB6.size
              have hB271 := bg hB269 hg133 (rowlo hlo270)
              have hB272 := bg hB271 hg237 nb
              have hz273 := hg237.size
              exact ⟨hB272, hz273, hd, hs, ok_pick [0, 166] hok (by kernel_rfl)⟩
             ·skip
              replace h4 := ite_f hc268 h4
              refine gv_pureN 1 [153] [(153, (.string s4))] (by kernel_rfl) ?_
              refine bindE h4 ?_; clear h4; intro x274 hx275 h4
              refine gv_sindex (t := 9) (s := s4) (kk := .i64) (i := 2) x274 [] (fun e => by cases e) rfl rfl rfl (by kernel_rfl) (by kernel_rfl) Tryz.underlying9 hx275 rfl ?_
              refine gv_pureN 3 [155, 156, 157] [(157, (.bool (decide (191 < x274))))] (by kernel_rfl) ?_
              refine gv_split (s := 157) (g := (decide (191 < x274))) (by kernel_rfl) (fun hc276 => ?_) (fun hc276 => ?_)
              ·skip
               replace h4 := ite_t hc276 h4
               refine gv_pureN 9 [158, 159, 160, 161, 162, 163, 164, 165, 166] [(166, (.bool true))] (by kernel_rfl) ?_
               refine gv_nil <| gv_goA ?_
               refine gv_stageE (by kernel_rfl) ?_
               have e := sj h4; subst e
               refine gv_goal fun a hd hs hok => ?_
               have hB277 := bg hB6 hg128 nb
               have hlo278 : w0.heap.size ≤ b126 := lob hbe130 hB6.size
               have hB279 := bg hB277 hg133 (rowlo hlo278)
               have hB280 := bg hB279 hg237 nb
               have hz281 := hg237.size
               exact ⟨hB280, hz281, hd, hs, ok_pick [0, 166] hok (by kernel_rfl)⟩
              ·skip
               replace h4 := ite_f hc276 h4
               refine gv_pureN 1 [158] [(158, (.string s4))] (by kernel_rfl) ?_
               refine bindE h4 ?_; clear h4; intro x282 hx283 h4
               refine gv_sindex (t := 9) (s := s4) (kk := .i64) (i := 3) x282 [] (fun e => by cases e) rfl rfl rfl (by kernel_rfl) (by kernel_rfl) Tryz.underlying9 hx283 rfl ?_
               refine gv_pureN 3 [160, 161, 162] [(162, (.bool (decide (x282 < 128))))] (by kernel_rfl) ?_
               refine gv_split (s := 162) (g := (decide (x282 < 128))) (by kernel_rfl) (fun hc284 => ?_) (fun hc284 => ?_)
               ·skip
                replace h4 := ite_t hc284 h4
                refine gv_pureN 4 [163, 164, 165, 166] [(166, (.bool true))] (by kernel_rfl) ?_
                refine gv_nil <| gv_goA ?_
                refine gv_stageE (by kernel_rfl) ?_
                have e := sj h4; subst e
                refine gv_goal fun a hd hs hok => ?_
                have hB285 := bg hB6 hg128 nb
                have hlo286 : w0.heap.size ≤ b126 := lob hbe130 hB6.size
                have hB287 := bg hB285 hg133 (rowlo hlo286)
                have hB288 := bg hB287 hg237 nb
                have hz289 := hg237.size
                exact ⟨hB288, hz289, hd, hs, ok_pick [0, 166] hok (by kernel_rfl)⟩
               ·skip
                replace h4 := ite_f hc284 h4
                refine gv_pureN 1 [163] [(163, (.string s4))] (by kernel_rfl) ?_
                refine bindE h4 ?_; clear h4; intro x290 hx291 h4
                refine gv_sindex (t := 9) (s := s4) (kk := .i64) (i := 3) x290 [] (fun e => by cases e) rfl rfl rfl (by kernel_rfl) (by kernel_rfl) Tryz.underlying9 hx291 rfl ?_
                refine gv_pureN 2 [165, 166] [(166, (.bool (decide (191 < x290))))] (by kernel_rfl) ?_
                refine gv_nil <| gv_goA ?_
                refine gv_stageE (by kernel_rfl) ?_
                have e := sj h4; subst e
                refine gv_goal fun a hd hs hok => ?_
                have hB292 := bg hB6 hg128 nb
                have hlo293 : w0.heap.size ≤ b126 := lob hbe130 hB6.size
                have hB294 := bg hB292 hg133 (rowlo hlo293)
                have hB295 := bg hB294 hg237 nb
                have hz296 := hg237.size
                exact ⟨hB295, hz296, hd, hs, ok_pick [0, 166] hok (by kernel_rfl)⟩
         ·rintro a w235 ⟨hB297, hz298, hd, hs, hok⟩
          refine gv_in ?_ hd hs hok
          clear hd hs hok
          have hz299 := (nt (nt hz7 hg128.size) hg133.size)
          clear hc233 hc178 hc139 hz135 hb134 hg133 hz131 hbe130 hb129 hg128 hc125 hx124 hn122 hx120 hc11 hx10 hc8 hz7 hB6
          refine gv_cond (b := j234) (by kernel_rfl) (fun hc300 => ?_) (fun hc300 => ?_)
          ·replace h3 := ite_t hc300 h3
           refine gv_seq <| gv_region <| gv_pureN 1 [2] [(2, (.bool false))] (by kernel_rfl) ?_
           refine gv_nil <| gv_cret ?_
           have e := sj h3; subst e
           replace h2 := cont_inr h2
           have e := sj h2; subst e
           replace h1 := congrArg some (hR2 _ rfl)
           have e := sj h1; subst e
           replace h0 := cont_inr h0
           have e := sj h0; subst e
           refine gv_ret (gv_done [(.bool false)] rfl ⟨(by kernel_rfl), trivial⟩ ?_)
           exact ⟨grown_of_below hB297, rfl⟩
          ·replace h3 := ite_f hc300 h3
           refine gv_skip <| gv_region <| gv_pureN 1 [167] [(167, (.string s4))] (by kernel_rfl) ?_
           refine bindE h3 ?_; clear h3; intro x301 hx302 h3
           refine gv_ssub (t := 9) (s := s4) (lo := (some (.int .i64 4))) (hi := none) 4 ((ByteArray.size s4 : Nat) : Int) x301 [] (fun e => by cases e) rfl rfl rfl (by kernel_rfl) (by kernel_rfl) Tryz.underlying9 (.inr ⟨_, rfl⟩) (.inl ⟨rfl, rfl⟩) hx302 rfl ?_
           refine gv_pureN 1 [0] [(0, (.string x301))] (by kernel_rfl) ?_
           refine gv_nil ?_
           have e := sj h3; subst e
           refine gv_goal fun a hd hs hok => ?_
           have hz303 := hz298
           exact ⟨x301, rfl, hB297, hz303, hd, hs, ok_pick [0] hok (by kernel_rfl)⟩
        ·replace h3 := ite_f hc233 h3
         refine gv_seq <| gv_region <| gv_pureN 1 [2] [(2, (.bool false))] (by kernel_rfl) ?_
         refine gv_nil <| gv_cret ?_
         have e := sj h3; subst e
         replace h2 := cont_inr h2
         have e := sj h2; subst e
         replace h1 := congrArg some (hR2 _ rfl)
         have e := sj h1; subst e
         replace h0 := cont_inr h0
         have e := sj h0; subst e
         refine gv_ret (gv_done [(.bool false)] rfl ⟨(by kernel_rfl), trivial⟩ ?_)
         have hB304 := bg hB6 hg128 nb
         have hlo305 : w0.heap.size ≤ b126 := lob hbe130 hB6.size
         have hB306 := bg hB304 hg133 (rowlo hlo305)
         exact ⟨grown_of_below hB306, rfl⟩
     ·rintro a w138 ⟨s137, e, hB307, hz308, hd, hs, hok⟩
      subst e
      refine gv_in ?_ hd hs hok
      clear hd hs hok
      replace h2 := cont_inl h2
      have hz309 := (nt (nt (nt hz7 hg128.size) hg133.size) hz308)
      clear hz308 hz135 hb134 hg133 hz131 hbe130 hb129 hg128 hc125 hx124 hn122 hx120 hc11 hx10 hc8 hz7 hB6
      refine gv_blk <| gv_blk ?_
      have e := sj h2; subst e
      refine gv_goal fun a hd hs hok => ?_
      have hz310 := hz309
      exact ⟨s137, rfl, hB307, hz310, hd, hs, ok_pick [0] hok (by kernel_rfl)⟩
   ·replace h2 := ite_f hc8 h2
    refine gv_cexit <| gv_exit rfl ?_
    have e := sj h2; subst e
    replace h1 := congrArg some (hR2 _ rfl)
    have e := sj h1; subst e
    refine gv_goal fun a hd hs hok => ?_
    have hz311 := hz7
    exact ⟨(), rfl, hB6, hz311, hd, hs, ok_pick [] hok (by kernel_rfl)⟩
 ·rintro a w3 ⟨s2, e, hB312, hz313, hd, hs, hok⟩
  subst e
  refine gv_in ?_ hd hs hok
  clear hd hs hok
  replace h0 := cont_inl h0
  refine gv_seq <| gv_region <| gv_pureN 1 [2] [(2, (.bool true))] (by kernel_rfl) ?_
  refine gv_nil <| gv_cret ?_
  have e := sj h0; subst e
  refine gv_ret (gv_done [(.bool true)] rfl ⟨(by kernel_rfl), trivial⟩ ?_)
  exact ⟨grown_of_below hB312, rfl⟩

theorem textstr_Valid_ok (fuel : Nat) (s_0 : ByteArray) (w0 : World) (X0 : Nat → Prop) (hX0 : ∀ k, X0 k → k < w0.heap.size) (hG0 : Rd bE w0 X0 (some ⟨0, 0, none⟩) 256 utf8First) (hG1 : Rd (prE (iE .u8) (iE .u8)) w0 X0 (some ⟨1, 0, none⟩) 16 utf8Acc) (r0 : Bool) (h0 : textstr_Valid fuel s_0 = some r0) :
    Calls Tryz.prog 9 ([(.string s_0)] : List Value).toArray w0 (Ret fun v w' => w0.grownBy w' none ∧ v = tup [(.bool r0)]) := by
 have hB0 : Below w0.heap.size w0 w0 := Below.refl _ _
 unfold textstr_Valid at h0
 refine calls_run Tryz.func9 rfl Tryz.ntmps9 (by kernel_rfl) ?_
 refine gv_sub [0] (σ' := [(0, (.string s_0))]) (by kernel_rfl) ?_
 refine gv_seq <| gv_region <| gv_pureN 1 [2] [] (by kernel_rfl) ?_
 refine gv_nil <| gv_seq <| gv_region <| bindE h0 ?_; clear h0; intro j1 h1 h0
 refine gv_cut_ops (J := fun a w2 => Below w0.heap.size w0 w2 ∧ w0.heap.size ≤ w2.heap.size ∧ a.defers = [] ∧ a.tmps.size = 10 ∧ Ok [(2, (.bool j1))] a.tmps) ?_ ?_
 ·skip
  refine gv_pureN 1 [3] [(3, (.string s_0))] (by kernel_rfl) ?_
  refine bindE h1 ?_; clear h1; intro r3 hr4 h1
  refine gv_call0 (by kernel_rfl) rfl (by kernel_rfl) enters31 (utf8_ValidString_ok fuel s_0 w0 (fun k => X0 k ∨ X0 k) (fun k hk => (hk).elim (fun h => (fun k (hk : X0 k) => ltl (hX0 k hk) hB0.size) k h) (fun h => (fun k (hk : X0 k) => ltl (hX0 k hk) hB0.size) k h)) ((hG0.below hB0 hX0).wide (fun k hk => (.inl hk))) ((hG1.below hB0 hX0).wide (fun k hk => (.inr hk))) r3 hr4) ?_
  rintro v7 w5 ⟨hg6, rfl⟩
  refine gv_pureN 1 [5] [(5, (.bool r3))] (by kernel_rfl) ?_
  refine gv_split (s := 5) (g := r3) (by kernel_rfl) (fun hc8 => ?_) (fun hc8 => ?_)
  ·skip
   replace h1 := ite_t hc8 h1
   refine gv_pureN 5 [2, 6, 7, 8, 9] [(2, (.bool (decide (((ByteArray.size s_0 : Nat) : Int) ≤ 4000))))] (by kernel_rfl) ?_
   refine bindE h1 ?_; clear h1; intro n9 hn10 h1
   refine gv_name (s := 2) (v := (.bool (decide (((ByteArray.size s_0 : Nat) : Int) ≤ 4000)))) (v' := (.bool n9)) (by kernel_rfl) (congrArg (Value.bool) (sj hn10)) ?_
   refine gv_nil ?_
   have e := sj h1; subst e
   refine gv_goal fun a hd hs hok => ?_
   have hB11 := bg hB0 hg6 nb
   have hz12 := hg6.size
   exact ⟨hB11, hz12, hd, hs, ok_pick [2] hok (by kernel_rfl)⟩
  ·skip
   replace h1 := ite_f hc8 h1
   refine gv_pureN 5 [2, 6, 7, 8, 9] [(2, (.bool false))] (by kernel_rfl) ?_
   refine gv_nil ?_
   have e := sj h1; subst e
   refine gv_goal fun a hd hs hok => ?_
   have hB13 := bg hB0 hg6 nb
   have hz14 := hg6.size
   exact ⟨hB13, hz14, hd, hs, ok_pick [2] hok (by kernel_rfl)⟩
 ·rintro a w2 ⟨hB15, hz16, hd, hs, hok⟩
  refine gv_in ?_ hd hs hok
  clear hd hs hok
  refine gv_cret ?_
  have e := sj h0; subst e
  refine gv_ret (gv_done [(.bool j1)] rfl ⟨(by kernel_rfl), trivial⟩ ?_)
  exact ⟨grown_of_below hB15, rfl⟩

theorem textstr_at_ok (fuel : Nat) (code_0 : Int) (index_1 : Int) (w0 : World)  (r0 : (Int × Int)) (h0 : textstr_at fuel code_0 index_1 = some r0) :
    Calls Tryz.prog 23 ([(.int .i64 code_0), (.int .i64 index_1)] : List Value).toArray w0 (Ret fun v w' => w0.grownBy w' none ∧ v = tup [(.agg #[(.int .i64 r0.1), (.int .i64 r0.2)])]) := by
 have hB0 : Below w0.heap.size w0 w0 := Below.refl _ _
 unfold textstr_at at h0
 refine calls_run Tryz.func23 rfl Tryz.ntmps23 (by kernel_rfl) ?_
 refine gv_sub [0, 1] (σ' := [(0, (.int .i64 code_0)), (1, (.int .i64 index_1))]) (by kernel_rfl) ?_
 refine gv_seq <| gv_region <| gv_new0 (fun b => .pointer (some ⟨b, 0, none⟩)) #[(.int .i64 0), (.int .i64 0)] 29 (by kernel_rfl) (by kernel_rfl) ?_
 intro b1 w2 hg3 hb4 hbe5 hz6
 refine gv_nil <| gv_seq <| gv_region <| gv_pureN 3 [5, 6, 7] [(7, (.agg #[(.int .i64 code_0), (.int .i64 index_1)]))] (by kernel_rfl) ?_
 refine gv_store0 29 0 (.agg #[(.int .i64 code_0), (.int .i64 index_1)]) #[(.int .i64 code_0), (.int .i64 index_1)] hb4 (by kernel_rfl) (by kernel_rfl) (by kernel_rfl) ?_
 intro w7 hg8 hb9 hz10
 refine gv_nil <| gv_cret ?_
 have e := sj h0; subst e
 refine gv_ret (gv_done [(.agg #[(.int .i64 code_0), (.int .i64 index_1)])] rfl ⟨⟨⟨b1, 0, none⟩, (by kernel_rfl), run_loadVar_row w7 b1 _ 29 _ _ _ hb9 Tryz.underlying29 rfl (by kernel_rfl)⟩, trivial⟩ ?_)
 have hB11 := bg hB0 hg3 nb
 have hlo12 : w0.heap.size ≤ b1 := lob hbe5 hB0.size
 have hB13 := bg hB11 hg8 (rowlo hlo12)
 exact ⟨grown_of_below hB13, rfl⟩

theorem textstr_check_ok (fuel : Nat) (pa0_0 : Option Addr) (pc0_0 : Nat) (l_0 : (List ByteArray)) (w0 : World) (X0 : Nat → Prop) (hX0 : ∀ k, X0 k → k < w0.heap.size) (hpa0_0 : Rd sE w0 X0 pa0_0 pc0_0 l_0) (hG0 : Rd bE w0 X0 (some ⟨0, 0, none⟩) 256 utf8First) (hG1 : Rd (prE (iE .u8) (iE .u8)) w0 X0 (some ⟨1, 0, none⟩) 16 utf8Acc) (r0 : (Int × Int)) (h0 : textstr_check fuel l_0 = some r0) :
    Calls Tryz.prog 21 ([(.slice pa0_0 (List.length l_0) pc0_0)] : List Value).toArray w0 (Ret fun v w' => w0.grownBy w' none ∧ v = tup [(.agg #[(.int .i64 r0.1), (.int .i64 r0.2)])]) := by
 have hB0 : Below w0.heap.size w0 w0 := Below.refl _ _
 unfold textstr_check at h0
 refine calls_run Tryz.func21 rfl Tryz.ntmps21 (by kernel_rfl) ?_
 refine gv_sub [0] (σ' := [(0, (.slice pa0_0 (List.length l_0) pc0_0))]) (by kernel_rfl) ?_
 refine gv_seq <| gv_region <| gv_new0 (fun b => .pointer (some ⟨b, 0, none⟩)) #[(.int .i64 0), (.int .i64 0)] 29 (by kernel_rfl) (by kernel_rfl) ?_
 intro b1 w2 hg3 hb4 hbe5 hz6
 refine gv_nil <| gv_seq <| gv_seq <| gv_region <| gv_pureN 3 [5, 6, 7] [(5, (.slice pa0_0 (List.length l_0) pc0_0)), (6, (.int .i64 ((List.length l_0 : Nat) : Int))), (7, (.int .i64 0))] (by kernel_rfl) ?_
 refine gv_nil <| bindE h0 ?_; clear h0; intro j7 h1 h0
 refine gv_cut_code (J := fun a w9 => ∃ s8 : (Int × Int), j7 = .inl s8 ∧ Below w0.heap.size w0 w9 ∧ w2.heap.size ≤ w9.heap.size ∧ Box w9 b1 29 #[(.int .i64 s8.1), (.int .i64 s8.2)] ∧ a.defers = [] ∧ a.tmps.size = 20 ∧ Ok [(2, (bp b1))] a.tmps) ?_ ?_
 ·skip
  refine gv_block <| gv_loop (A := fun (s10 : (Int × (Int × Int))) a w11 => Below w0.heap.size w0 w11 ∧ w2.heap.size ≤ w11.heap.size ∧ Box w11 b1 29 #[(.int .i64 s10.2.1), (.int .i64 s10.2.2)] ∧ a.defers = [] ∧ a.tmps.size = 20 ∧ Ok [(2, (bp b1)), (5, (.slice pa0_0 (List.length l_0) pc0_0)), (6, (.int .i64 ((List.length l_0 : Nat) : Int))), (7, (.int .i64 s10.1))] a.tmps) h1 ?_ ?_
  ·intro a hd hs hok
   have hB12 := bg hB0 hg3 nb
   exact ⟨hB12, (Nat.le_refl _), hb4, hd, hs, ok_pick [2, 5, 6, 7] hok (by kernel_rfl)⟩
  ·rintro s10 r2 h2 hR2 a w11 ⟨hB13, hz14, hb15, hd, hs, hok⟩
   refine gv_in ?_ hd hs hok
   clear hd hs hok
   refine gv_seq <| gv_region <| gv_pureN 1 [8] [(8, (.bool (decide (s10.1 < ((List.length l_0 : Nat) : Int)))))] (by kernel_rfl) ?_
   refine gv_nil <| gv_seq <| gv_cond (b := (decide (s10.1 < ((List.length l_0 : Nat) : Int)))) (by kernel_rfl) (fun hc16 => ?_) (fun hc16 => ?_)
   ·replace h2 := ite_t hc16 h2
    refine gv_skip <| gv_seq <| gv_block <| gv_seq <| gv_region <| gv_pureN 1 [9] [(9, (.int .i64 s10.1))] (by kernel_rfl) ?_
    refine bindE h2 ?_; clear h2; intro x17 hx18 h2
    refine gv_idxaddr (t := 58) (e := 9) (a := pa0_0) (len := List.length l_0) (cap := pc0_0) (kk := .i64) (i := s10.1) (sz := 1) [] (fun e => by cases e) rfl rfl rfl (by kernel_rfl) (by kernel_rfl) Tryz.underlying58 (by kernel_rfl) ((hpa0_0.below hB13 hX0).has hx18) (idx_spec hx18).1 (idx_spec hx18).2.1 rfl ?_
    refine gv_load (t := 9) (A := (elemAddr pa0_0 ((s10.1 : Int).toNat * 1))) (.string x17) [] (fun e => by cases e) rfl rfl rfl (by kernel_rfl) (by kernel_rfl) (by kernel_rfl) (inw0 ((hpa0_0.below hB13 hX0).cell hx18)) rfl ?_
    refine gv_pureN 2 [3, 4] [(3, (.int .i64 s10.1)), (4, (.string x17))] (by kernel_rfl) ?_
    refine gv_nil <| gv_seq <| gv_region <| gv_pureN 1 [12] [(12, (.string x17))] (by kernel_rfl) ?_
    refine bindE h2 ?_; clear h2; intro r19 hr20 h2
    refine gv_call0 (by kernel_rfl) rfl (by kernel_rfl) enters9 (textstr_Valid_ok fuel x17 w11 (fun k => X0 k ∨ X0 k) (fun k hk => (hk).elim (fun h => (fun k (hk : X0 k) => ltl (hX0 k hk) hB13.size) k h) (fun h => (fun k (hk : X0 k) => ltl (hX0 k hk) hB13.size) k h)) ((hG0.below hB13 hX0).wide (fun k hk => (.inl hk))) ((hG1.below hB13 hX0).wide (fun k hk => (.inr hk))) r19 hr20) ?_
    rintro v23 w21 ⟨hg22, rfl⟩
    refine gv_pureN 1 [14] [(14, (.bool (!r19)))] (by kernel_rfl) ?_
    refine gv_nil <| gv_cond (b := (!r19)) (by kernel_rfl) (fun hc24 => ?_) (fun hc24 => ?_)
    ·replace h2 := ite_t hc24 h2
     refine gv_seq <| gv_region <| gv_pureN 2 [15, 16] [(16, (.int .i64 (IntKind.i64.wrap ((-1) - s10.1))))] (by kernel_rfl) ?_
     refine bindE h2 ?_; clear h2; intro r25 hr26 h2
     refine gv_call0 (by kernel_rfl) rfl (by kernel_rfl) enters23 (textstr_at_ok fuel 6 (IntKind.i64.wrap ((-1) - s10.1)) w21  r25 hr26) ?_
     rintro v29 w27 ⟨hg28, rfl⟩
     have hg34 := (grown_trans hg22 hg28)
     have hk35 := hb15.grown hg34 nb
     refine gv_store0 29 0 (.agg #[(.int .i64 r25.1), (.int .i64 r25.2)]) #[(.int .i64 r25.1), (.int .i64 r25.2)] hk35 (by kernel_rfl) (by kernel_rfl) (by kernel_rfl) ?_
     intro w30 hg31 hb32 hz33
     refine gv_nil <| gv_cret ?_
     have e := sj h2; subst e
     replace h1 := congrArg some (hR2 _ rfl)
     have e := sj h1; subst e
     replace h0 := cont_inr h0
     have e := sj h0; subst e
     refine gv_ret (gv_done [(.agg #[(.int .i64 r25.1), (.int .i64 r25.2)])] rfl ⟨⟨⟨b1, 0, none⟩, (by kernel_rfl), run_loadVar_row w30 b1 _ 29 _ _ _ hb32 Tryz.underlying29 rfl (by kernel_rfl)⟩, trivial⟩ ?_)
     have hB36 := bg hB13 hg34 nb
     have hlo37 : w0.heap.size ≤ b1 := lob hbe5 hB0.size
     have hB38 := bg hB36 hg31 (rowlo hlo37)
     exact ⟨grown_of_below hB38, rfl⟩
    ·replace h2 := ite_f hc24 h2
     refine gv_skip <| gv_blk <| gv_region <| gv_pureN 2 [7, 18] [(7, (.int .i64 (IntKind.i64.wrap (s10.1 + 1))))] (by kernel_rfl) ?_
     refine gv_nil ?_
     have e := sj h2; subst e
     refine gv_goal fun a hd hs hok => ?_
     have hB39 := bg hB13 hg22 nb
     have hz40 := (nt hz14 hg22.size)
     have hk41 := hb15.grown hg22 nb
     exact ⟨((IntKind.i64.wrap (s10.1 + 1)), (s10.2.1, s10.2.2)), rfl, hB39, hz40, hk41, hd, hs, ok_pick [2, 5, 6, 7] hok (by kernel_rfl)⟩
   ·replace h2 := ite_f hc16 h2
    refine gv_cexit <| gv_exit rfl ?_
    have e := sj h2; subst e
    replace h1 := congrArg some (hR2 _ rfl)
    have e := sj h1; subst e
    refine gv_goal fun a hd hs hok => ?_
    have hz42 := hz14
    exact ⟨(s10.2.1, s10.2.2), rfl, hB13, hz42, hb15, hd, hs, ok_pick [2] hok (by kernel_rfl)⟩
 ·rintro a w9 ⟨s8, e, hB43, hz44, hb45, hd, hs, hok⟩
  subst e
  refine gv_in ?_ hd hs hok
  clear hd hs hok
  replace h0 := cont_inl h0
  clear hz44 hz6 hb4 hg3
  refine gv_seq <| gv_region <| gv_pureN 1 [19] [(19, (.agg #[(.int .i64 0), (.int .i64 0)]))] (by kernel_rfl) ?_
  refine gv_store0 29 0 (.agg #[(.int .i64 0), (.int .i64 0)]) #[(.int .i64 0), (.int .i64 0)] hb45 (by kernel_rfl) (by kernel_rfl) (by kernel_rfl) ?_
  intro w46 hg47 hb48 hz49
  refine gv_nil <| gv_cret ?_
  have e := sj h0; subst e
  refine gv_ret (gv_done [(.agg #[(.int .i64 0), (.int .i64 0)])] rfl ⟨⟨⟨b1, 0, none⟩, (by kernel_rfl), run_loadVar_row w46 b1 _ 29 _ _ _ hb48 Tryz.underlying29 rfl (by kernel_rfl)⟩, trivial⟩ ?_)
  have hlo50 : w0.heap.size ≤ b1 := lob hbe5 hB0.size
  have hB51 := bg hB43 hg47 (rowlo hlo50)
  exact ⟨grown_of_below hB51, rfl⟩

theorem textstr_Points_ok (fuel : Nat) (s_0 : ByteArray) (w0 : World) (X0 : Nat → Prop) (hX0 : ∀ k, X0 k → k < w0.heap.size) (hG0 : Rd bE w0 X0 (some ⟨0, 0, none⟩) 256 utf8First) (hG1 : Rd (prE (iE .u8) (iE .u8)) w0 X0 (some ⟨1, 0, none⟩) 16 utf8Acc) (r0 : ((List Int) × (Int × Int))) (h0 : textstr_Points fuel s_0 = some r0) :
    Calls Tryz.prog 4 ([(.string s_0)] : List Value).toArray w0 (Ret fun v w' => w0.grownBy w' none ∧ ∃ (a0_0r : Option Addr) (c0_0r : Nat), v = tup [(.slice a0_0r (List.length r0.1) c0_0r), (.agg #[(.int .i64 r0.2.1), (.int .i64 r0.2.2)])] ∧ Gv.Own (iE .i64) 3 w' (fun _ => False) a0_0r c0_0r r0.1 ∧ (∀ g, blk a0_0r = some g → w0.heap.size ≤ g)) := by
 have hB0 : Below w0.heap.size w0 w0 := Below.refl _ _
 unfold textstr_Points at h0
 refine calls_run Tryz.func4 rfl Tryz.ntmps4 (by kernel_rfl) ?_
 refine gv_sub [0] (σ' := [(0, (.string s_0))]) (by kernel_rfl) ?_
 refine gv_seq <| gv_region <| gv_pureN 1 [2] [] (by kernel_rfl) ?_
 refine gv_new0 (fun b => .pointer (some ⟨b, 0, none⟩)) #[(.int .i64 0), (.int .i64 0)] 29 (by kernel_rfl) (by kernel_rfl) ?_
 intro b1 w2 hg3 hb4 hbe5 hz6
 refine gv_nil <| gv_seq <| gv_seq <| gv_region <| gv_pureN 1 [8] [(8, (.string s_0))] (by kernel_rfl) ?_
 refine gv_new0 (fun b => .slice (some ⟨b, 0, none⟩) 1 1) #[(.string s_0)] 9 (by kernel_rfl) (by kernel_rfl) ?_
 intro b7 w8 hg9 hb10 hbe11 hz12
 have ho13 : Gv.Own sE 9 w8 (fun _ => False) (some ⟨b7, 0, none⟩) 1 ([s_0] : List ByteArray) := Box.ownE hb10 ⟨[(.string s_0)], [], rfl, rfl, rfl⟩ (show 1 ≤ maxLen by decide) (fun h => h)
 have hB18 := bg hB0 hg3 nb
 have hl14 : ∀ g, blk (some ⟨b7, 0, none⟩) = some g → w0.heap.size ≤ g := loo hbe11 hB18.size
 refine bindE h0 ?_; clear h0; intro r19 hr20 h0
 have hB21 := bg hB18 hg9 nb
 refine gv_call0 (by kernel_rfl) rfl (by kernel_rfl) enters21 (textstr_check_ok fuel (some ⟨b7, 0, none⟩) 1 ([s_0] : List ByteArray) w8 (fun k => (fun k => blk (some ⟨b7, 0, none⟩) = some k) k ∨ X0 k ∨ X0 k) (fun k hk => (hk).elim (fun h => (fun k (hk : blk (some ⟨b7, 0, none⟩) = some k) => ho13.lt k hk) k h) (fun h => (h).elim (fun h => (fun k (hk : X0 k) => ltl (hX0 k hk) hB21.size) k h) (fun h => (fun k (hk : X0 k) => ltl (hX0 k hk) hB21.size) k h))) ((ho13.rd (Y := fun k => blk (some ⟨b7, 0, none⟩) = some k) (fun _ h => h.elim) (fun g e => e)).wide (fun k hk => (.inl hk))) ((hG0.below hB21 hX0).wide (fun k hk => (.inr (.inl hk)))) ((hG1.below hB21 hX0).wide (fun k hk => (.inr (.inr hk)))) r19 hr20) ?_
 rintro v24 w22 ⟨hg23, rfl⟩
 refine gv_new0 (fun b => .pointer (some ⟨b, 0, none⟩)) #[(.int .i64 0), (.int .i64 0)] 29 (by kernel_rfl) (by kernel_rfl) ?_
 intro b25 w26 hg27 hb28 hbe29 hz30
 refine gv_store0 29 0 (.agg #[(.int .i64 r19.1), (.int .i64 r19.2)]) #[(.int .i64 r19.1), (.int .i64 r19.2)] hb28 (by kernel_rfl) (by kernel_rfl) (by kernel_rfl) ?_
 intro w31 hg32 hb33 hz34
 refine gv_nil <| gv_seq <| gv_region <| gv_pureN 1 [11] [(11, (bp b25))] (by kernel_rfl) ?_
 refine gv_load (t := 3) (A := ⟨b25, 0, none⟩) (.int .i64 r19.1) [] (fun e => by cases e) rfl rfl rfl (by kernel_rfl) (by kernel_rfl) (by kernel_rfl) (inw0 (hb33.cell 0 rfl)) rfl ?_
 refine gv_pureN 1 [13] [(13, (.bool (r19.1 != 0)))] (by kernel_rfl) ?_
 refine gv_nil <| gv_cond (b := (r19.1 != 0)) (by kernel_rfl) (fun hc35 => ?_) (fun hc35 => ?_)
 ·replace h0 := ite_t hc35 h0
  refine gv_seq <| gv_drawA (by kernel_rfl) ?_
  intro w36 hg37
  refine gv_pre [1] (bA 3 [1]) 2 (by kernel_rfl) (by kernel_rfl) ?_
  refine gv_pureN 1 [2] [(2, (.slice none (List.length ([] : List Int)) 0))] (by kernel_rfl) ?_
  refine gv_nil <| gv_goA ?_
  refine gv_stage (Cls w36 []) [0, 1] [(0, some true)] (bA 3 [0, 1]) 1 (by kernel_rfl) (by kernel_rfl) (Cls.refl _ _) ?_
  have hC38 := Cls.refl w36 []
  have hk39 := hb33.grown hg37 nb
  refine gv_loadBox (t := 29) (b := b25) (t' := 29) (fr := (0, 0)) #[(.int .i64 r19.1), (.int .i64 r19.2)] [] (fun e => by cases e) rfl rfl rfl (by kernel_rfl) (by kernel_rfl) (by kernel_rfl) (by kernel_rfl) (inw1 fun w' hC' => (hC'.box hk39 nm_nil)) rfl ?_
  refine gv_nil <| gv_goA ?_
  refine gv_stage (fun _ => True) [0, 1, 2] [(2, some false)] (bA 3 [0, 1, 2]) 0 (by kernel_rfl) (by kernel_rfl) trivial ?_
  have hg44 := (grown_trans (grown_trans hg9 hg23) hg27)
  have hg45 := (grown_trans hg9 hg23)
  have hk46 := hb4.grown hg45 nb
  have lt47 := ltl ((ltb hk46) _ rfl) ((lowb hbe29) _ rfl)
  have hk48 := ((hb4.grown hg44 nb).grown hg32 (rowne (ng lt47))).grown hg37 nb
  refine gv_store (t := 29) (b := b1) (off := 0) (v := (.agg #[(.int .i64 r19.1), (.int .i64 r19.2)])) (t' := 29) (cs := #[(.int .i64 0), (.int .i64 0)]) #[(.int .i64 r19.1), (.int .i64 r19.2)] (by decide) rfl rfl (by kernel_rfl) (by kernel_rfl) (by kernel_rfl) (by intro u hu; simp [Value.cells] at hu; rcases hu with rfl | rfl <;> rfl) (show 0 + 2 ≤ 2 by decide) (by rfl) hk48 ?_
  intro w40 hg41 hb42 hz43
  refine ⟨(fun _ => trivial), ?_⟩
  refine gv_nil <| gv_goA ?_
  refine gv_stageE (by kernel_rfl) ?_
  refine gv_cret ?_
  have e := sj h0; subst e
  refine gv_ret (gv_done [(.slice none (List.length ([] : List Int)) 0), (.agg #[(.int .i64 r19.1), (.int .i64 r19.2)])] rfl ⟨(by kernel_rfl), ⟨⟨b1, 0, none⟩, (by kernel_rfl), run_loadVar_row w40 b1 _ 29 _ _ _ hb42 Tryz.underlying29 rfl (by kernel_rfl)⟩, trivial⟩ ?_)
  have hg49 := (grown_trans hg23 hg27)
  have hB50 := bg hB21 hg49 nb
  have hB51 := bg hB21 hg23 nb
  have hlo52 : w0.heap.size ≤ b25 := lob hbe29 hB51.size
  have hB53 := bg hB50 hg32 (rowlo hlo52)
  have hB54 := bg hB53 hg37 nb
  have hlo55 : w0.heap.size ≤ b1 := lob hbe5 hB0.size
  have hB56 := bg hB54 hg41 (rowlo hlo55)
  exact ⟨grown_of_below hB56, none, 0, rfl, (Gv.Own.nil (iE .i64) 3 w40 (fun _ => False)), (fun _ h => by cases h)⟩
 ·replace h0 := ite_f hc35 h0
  refine gv_skip <| gv_seq <| gv_region <| gv_pureN 1 [5] [(5, (.slice none (List.length ([] : List Int)) 0))] (by kernel_rfl) ?_
  refine gv_nil <| gv_seq <| gv_seq <| gv_region <| gv_pureN 1 [15] [(15, (.string s_0))] (by kernel_rfl) ?_
  refine gv_range (t := 9) (s := s_0) (by kernel_rfl) (by kernel_rfl) Tryz.underlying9 ?_
  intro b57 w58 hg59 hb60 hbe61 hz62
  clear hz62 hc35 hz34 hz30 hb28 hr20 hB18 hz12 hb10 hz6 hg3
  refine gv_nil <| bindE h0 ?_; clear h0; intro j63 h1 h0
  refine gv_cut_code (J := fun a w64 => ∃ (a5_0j : Option Addr) (c5_0j : Nat), Below w0.heap.size w0 w64 ∧ w58.heap.size ≤ w64.heap.size ∧ Gv.Own (iE .i64) 3 w64 (fun _ => False) a5_0j c5_0j j63 ∧ (∀ g, blk a5_0j = some g → w0.heap.size ≤ g) ∧ (∀ g, blk a5_0j = some g → ¬ (· = b1) g) ∧ ¬ (fun k => blk a5_0j = some k) b1 ∧ Box w64 b1 29 #[(.int .i64 0), (.int .i64 0)] ∧ a.defers = [] ∧ a.tmps.size = 27 ∧ Ok [(3, (bp b1)), (5, (.slice a5_0j (List.length j63) c5_0j))] a.tmps) ?_ ?_
  ·skip
   refine gv_block <| gv_loop (A := fun (s65 : ((List Int) × Nat)) a w66 => ∃ (a5_0j : Option Addr) (c5_0j : Nat), Below w0.heap.size w0 w66 ∧ w58.heap.size ≤ w66.heap.size ∧ Gv.Own (iE .i64) 3 w66 (fun _ => False) a5_0j c5_0j s65.1 ∧ (∀ g, blk a5_0j = some g → w0.heap.size ≤ g) ∧ (∀ g, blk a5_0j = some g → ¬ (· = b1) g) ∧ (∀ g, blk a5_0j = some g → ¬ (· = b57) g) ∧ ¬ (fun k => blk a5_0j = some k) b1 ∧ ¬ (fun k => blk a5_0j = some k) b57 ∧ Box w66 b1 29 #[(.int .i64 0), (.int .i64 0)] ∧ At w66 b57 (.stringIter s_0 s65.2) ∧ a.defers = [] ∧ a.tmps.size = 27 ∧ Ok [(3, (bp b1)), (5, (.slice a5_0j (List.length s65.1) c5_0j)), (16, (bp b57))] a.tmps) h1 ?_ ?_
   ·intro a hd hs hok
    have hg67 := (grown_trans hg23 hg27)
    have hB68 := bg hB21 hg67 nb
    have hB69 := bg hB21 hg23 nb
    have hlo70 : w0.heap.size ≤ b25 := lob hbe29 hB69.size
    have hB71 := bg hB68 hg32 (rowlo hlo70)
    have hB72 := bg hB71 hg59 nb
    have hg73 := (grown_trans hg9 hg67)
    have hg74 := (grown_trans hg9 hg23)
    have hk75 := hb4.grown hg74 nb
    have lt76 := ltl ((ltb hk75) _ rfl) ((lowb hbe29) _ rfl)
    have hk77 := ((hb4.grown hg73 nb).grown hg32 (rowne (ng lt76))).grown hg59 nb
    exact ⟨none, 0, hB72, (Nat.le_refl _), (Gv.Own.nil (iE .i64) 3 w58 (fun _ => False)), (fun _ h => by cases h), (fun _ h => by cases h), (fun _ h => by cases h), (fun h => by cases h), (fun h => by cases h), hk77, hb60, hd, hs, ok_pick [3, 5, 16] hok (by kernel_rfl)⟩
   ·rintro s65 r2 h2 hR2 a w66 ⟨a80, c81, hB78, hz79, ho82, hl83, ap84, ap85, ap86, ap87, hb88, hb89, hd, hs, hok⟩
    refine gv_in ?_ hd hs hok
    clear hd hs hok
    clear hb60 hg59 hl14 ho13 hbe11
    refine gv_seq <| gv_region <| gv_next (b := b57) (s := s_0) (pos := s65.2) (ty := 0) (by kernel_rfl) (by kernel_rfl) hb89 (fun hc90 => ?_) (fun hc90 => ?_)
    ·skip
     replace h2 := ite_t hc90 h2
     intro w91 hg92 hb93 hz94
     refine gv_pureN 1 [18] [(18, (.bool true))] (by kernel_rfl) ?_
     refine gv_nil <| gv_seq <| gv_cond (b := true) (by kernel_rfl) (fun hc => ?_) (fun hc => ?_)
     rotate_left; · cases hc
     clear hc
     refine gv_skip <| gv_block <| gv_seq <| gv_region <| gv_pureN 2 [7, 19] [(7, (.int .i32 (runeI s_0 s65.2)))] (by kernel_rfl) ?_
     refine gv_nil <| gv_region <| gv_pureN 3 [20, 21, 22] [(20, (.slice a80 (List.length s65.1) c81)), (22, (.int .i64 (IntKind.i64.wrap ((runeI s_0 s65.2)))))] (by kernel_rfl) ?_
     refine gv_new0 (fun b => .slice (some ⟨b, 0, none⟩) 1 1) #[(.int .i64 (IntKind.i64.wrap ((runeI s_0 s65.2))))] 3 (by kernel_rfl) (by kernel_rfl) ?_
     intro b95 w96 hg97 hb98 hbe99 hz100
     have ho101 : Gv.Own (iE .i64) 3 w96 (fun _ => False) (some ⟨b95, 0, none⟩) 1 ([(IntKind.i64.wrap ((runeI s_0 s65.2)))] : List Int) := Box.ownE hb98 ⟨[(.int .i64 (IntKind.i64.wrap ((runeI s_0 s65.2))))], [], rfl, rfl, rfl⟩ (show 1 ≤ maxLen by decide) (fun h => h)
     have hg106 := (grown_trans hg23 hg27)
     have hB107 := bg hB21 hg106 nb
     have hB108 := bg hB21 hg23 nb
     have hlo109 : w0.heap.size ≤ b25 := lob hbe29 hB108.size
     have hB110 := bg hB107 hg32 (rowlo hlo109)
     have hlo111 : w0.heap.size ≤ b57 := lob hbe61 hB110.size
     have hB112 := bg hB78 hg92 (rowlo hlo111)
     have hl102 : ∀ g, blk (some ⟨b95, 0, none⟩) = some g → w0.heap.size ≤ g := loo hbe99 hB112.size
     refine bindE h2 ?_; clear h2; intro l113 hx114 h2
     have hk121 := (ho82.grown hg92 (fun _ h => h.elim) (rdnn (rowne ap87))).grown hg97 (fun _ h => h.elim) nb
     refine gv_append (iE .i64) (t := 22) (ty := 22) (e := 3) (a := a80) (ax := (some ⟨b95, 0, none⟩)) (cap := c81) (cx := 1) (xs := s65.1) (ys := ([(IntKind.i64.wrap ((runeI s_0 s65.2)))] : List Int)) l113 (X := (fun _ => False)) (Y := (fun k => blk (some ⟨b95, 0, none⟩) = some k)) (by decide) rfl rfl (by kernel_rfl) (by kernel_rfl) Tryz.underlying22 info3 hk121 (ho101.rd (Y := fun k => blk (some ⟨b95, 0, none⟩) = some k) (fun _ h => h.elim) (fun g e => e)) hx114 (.inr fun _ _ _ _ _ h => h) (fun _ h => h.elim) ?_
     intro a115 c116 w117 hg118 ho119 hk120
     refine ⟨(fun e => by cases e), ?_⟩
     have hB123 := bg hB112 hg97 nb
     have hl122 : ∀ g, blk a115 = some g → w0.heap.size ≤ g := blk_step hk120 hl83 hB123.size
     have hg125 := (grown_trans hg9 hg23)
     have hk126 := hb4.grown hg125 nb
     have lt127 := ltl ((ltb hk126) _ rfl) ((lowb hbe29) _ rfl)
     have lt128 := ltl ((ltb hb33) _ rfl) ((lowb hbe61) _ rfl)
     have lt129 := ltt lt127 lt128
     have hk130 := (hb88.grown hg92 (rowne (ng lt129))).grown hg97 nb
     have ap124 : ∀ g, blk a115 = some g → ¬ (· = b1) g := blk_neX hk120 ap84 (ltb hk130)
     have ap131 : ¬ (fun k => blk a115 = some k) b1 := fun h => blk_rev hk120 (fun h => (ap86) h) (hk130.lt) h
     have hk133 := hb93.grown hg97 nb
     have ap132 : ∀ g, blk a115 = some g → ¬ (· = b57) g := blk_neX hk120 ap85 (ltA hk133)
     have ap134 : ¬ (fun k => blk a115 = some k) b57 := fun h => blk_rev hk120 (fun h => (ap87) h) (hk133.lt) h
     have hk136 := ho82.grown hg92 (fun _ h => h.elim) (rdnn (rowne ap87))
     have ap137 : ∀ g, blk a80 = some g → ¬ (fun k => blk (some ⟨b95, 0, none⟩) = some k) g := fun g e hx => nl ((lowo hbe99) _ hx) ((fun k (hk : blk a80 = some k) => hk136.lt k hk) g e)
     have ap135 : ∀ g, blk a115 = some g → ¬ (fun k => blk (some ⟨b95, 0, none⟩) = some k) g := blk_neX hk120 ap137 (fun k (hk : blk (some ⟨b95, 0, none⟩) = some k) => ho101.lt k hk)
     have ap139 : ∀ g, blk (some ⟨b95, 0, none⟩) = some g → ¬ (fun k => blk a80 = some k) g := fun g e hx => nl ((lowo hbe99) g e) ((fun k (hk : blk a80 = some k) => hk136.lt k hk) _ hx)
     have ap138 : ∀ g, blk (some ⟨b95, 0, none⟩) = some g → ¬ (fun k => blk a115 = some k) g := fun g e h => blk_rev hk120 (fun h => ((ap139) g e) h) (ho101.lt g e) h
     refine gv_pureN 1 [5] [(5, (.slice a115 (List.length l113) c116))] (by kernel_rfl) ?_
     refine gv_nil <| gv_blk ?_
     have e := sj h2; subst e
     refine gv_goal fun a hd hs hok => ?_
     have hB140 := bg hB123 hg118 hl83
     have hz141 := (nt (nt (nt hz79 hg92.size) hg97.size) hg118.size)
     have hk142 := hk130.grown hg118 ap84
     have hk143 := hk133.grown hg118 ap85
     exact ⟨(l113, (s65.2 + runeN s_0 s65.2)), rfl, a115, c116, hB140, hz141, ho119, hl122, ap124, ap132, ap131, ap134, hk142, hk143, hd, hs, ok_pick [3, 5, 16] hok (by kernel_rfl)⟩
    ·skip
     replace h2 := ite_f hc90 h2
     refine gv_pureN 1 [18] [(18, (.bool false))] (by kernel_rfl) ?_
     refine gv_nil <| gv_seq <| gv_cond (b := false) (by kernel_rfl) (fun hc => ?_) (fun hc => ?_)
     ·cases hc
     clear hc
     refine gv_cexit <| gv_exit rfl ?_
     have e := sj h2; subst e
     replace h1 := congrArg some (hR2 _ rfl)
     have e := sj h1; subst e
     refine gv_goal fun a hd hs hok => ?_
     have hz144 := hz79
     exact ⟨a80, c81, hB78, hz144, ho82, hl83, ap84, ap86, hb88, hd, hs, ok_pick [3, 5] hok (by kernel_rfl)⟩
  ·rintro a w64 ⟨a147, c148, hB145, hz146, ho149, hl150, ap151, ap152, hb153, hd, hs, hok⟩
   refine gv_in ?_ hd hs hok
   clear hd hs hok
   clear hz146 hbe61 hb60 hg59 hb33 hg32 hbe29 hg27 hg23 hB21 hl14 ho13 hbe11 hg9 hb4
   refine gv_seq <| gv_region <| gv_pureN 3 [2, 25, 26] [(2, (.slice a147 (List.length j63) c148)), (26, (.agg #[(.int .i64 0), (.int .i64 0)]))] (by kernel_rfl) ?_
   refine gv_store0 29 0 (.agg #[(.int .i64 0), (.int .i64 0)]) #[(.int .i64 0), (.int .i64 0)] hb153 (by kernel_rfl) (by kernel_rfl) (by kernel_rfl) ?_
   intro w154 hg155 hb156 hz157
   refine gv_nil <| gv_cret ?_
   have e := sj h0; subst e
   refine gv_ret (gv_done [(.slice a147 (List.length j63) c148), (.agg #[(.int .i64 0), (.int .i64 0)])] rfl ⟨(by kernel_rfl), ⟨⟨b1, 0, none⟩, (by kernel_rfl), run_loadVar_row w154 b1 _ 29 _ _ _ hb156 Tryz.underlying29 rfl (by kernel_rfl)⟩, trivial⟩ ?_)
   have hlo158 : w0.heap.size ≤ b1 := lob hbe5 hB0.size
   have hB159 := bg hB145 hg155 (rowlo hlo158)
   have hk160 := ho149.grown hg155 (fun _ h => h.elim) (rdnn (rowne ap152))
   exact ⟨grown_of_below hB159, a147, c148, rfl, hk160, hl150⟩

theorem utf8_ValidRune_ok (fuel : Nat) (r_0 : Int) (w0 : World)  (r0 : Bool) (h0 : utf8_ValidRune fuel r_0 = some r0) :
    Calls Tryz.prog 22 ([(.int .i32 r_0)] : List Value).toArray w0 (Ret fun v w' => w0.grownBy w' none ∧ v = tup [(.bool r0)]) := by
 have hB0 : Below w0.heap.size w0 w0 := Below.refl _ _
 unfold utf8_ValidRune at h0
 refine calls_run Tryz.func22 rfl Tryz.ntmps22 (by kernel_rfl) ?_
 refine gv_sub [0] (σ' := [(0, (.int .i32 r_0))]) (by kernel_rfl) ?_
 refine gv_seq <| gv_region <| gv_pureN 1 [2] [] (by kernel_rfl) ?_
 refine gv_nil <| gv_seq <| gv_block <| gv_seq <| gv_region <| gv_cut_ops (J := fun a w1 => w0 = w1 ∧ a.defers = [] ∧ a.tmps.size = 17 ∧ Ok [(0, (.int .i32 r_0)), (3, (.bool ((decide (0 ≤ r_0)) && (decide (r_0 < 55296)))))] a.tmps) ?_ ?_
 ·skip
  refine gv_pureN 3 [4, 5, 6] [(6, (.bool (decide (0 ≤ r_0))))] (by kernel_rfl) ?_
  refine gv_split (s := 6) (g := (decide (0 ≤ r_0))) (by kernel_rfl) (fun hc2 => ?_) (fun hc2 => ?_)
  ·skip
   refine gv_pureN 4 [3, 7, 8, 9] [(3, (.bool (decide (r_0 < 55296))))] (by kernel_rfl) ?_
   refine gv_nil <| gv_sub [0, 3] (σ' := [(0, (.int .i32 r_0)), (3, (.bool (decide (r_0 < 55296))))]) (by kernel_rfl) ?_
   refine gv_goal fun a hd hs hok => ⟨rfl, hd, hs, ?_⟩
   obtain ⟨q0, q3, _⟩ := hok
   exact ⟨q0, (by rw [hc2]; exact q3), trivial⟩
  ·skip
   refine gv_pureN 4 [3, 7, 8, 9] [(3, (.bool false))] (by kernel_rfl) ?_
   refine gv_nil <| gv_sub [0, 3] (σ' := [(0, (.int .i32 r_0)), (3, (.bool false))]) (by kernel_rfl) ?_
   refine gv_goal fun a hd hs hok => ⟨rfl, hd, hs, ?_⟩
   obtain ⟨q0, q3, _⟩ := hok
   exact ⟨q0, (by rw [hc2]; exact q3), trivial⟩
 ·rintro a w1 ⟨e, hd, hs, hok⟩; subst e
  refine gv_in ?_ hd hs hok
  clear hd hs hok
  refine gv_cond (b := ((decide (0 ≤ r_0)) && (decide (r_0 < 55296)))) (by kernel_rfl) (fun hc3 => ?_) (fun hc3 => ?_)
  ·replace h0 := ite_t hc3 h0
   refine gv_seq <| gv_region <| gv_pureN 1 [2] [(2, (.bool true))] (by kernel_rfl) ?_
   refine gv_nil <| gv_cret ?_
   have e := sj h0; subst e
   refine gv_ret (gv_done [(.bool true)] rfl ⟨(by kernel_rfl), trivial⟩ ?_)
   exact ⟨grown_of_below hB0, rfl⟩
  ·replace h0 := ite_f hc3 h0
   refine gv_seq <| gv_region <| gv_cut_ops (J := fun a w4 => w0 = w4 ∧ a.defers = [] ∧ a.tmps.size = 17 ∧ Ok [(10, (.bool ((decide (57343 < r_0)) && (decide (r_0 ≤ 1114111)))))] a.tmps) ?_ ?_
   ·skip
    refine gv_pureN 3 [11, 12, 13] [(13, (.bool (decide (57343 < r_0))))] (by kernel_rfl) ?_
    refine gv_split (s := 13) (g := (decide (57343 < r_0))) (by kernel_rfl) (fun hc5 => ?_) (fun hc5 => ?_)
    ·skip
     refine gv_pureN 4 [10, 14, 15, 16] [(10, (.bool (decide (r_0 ≤ 1114111))))] (by kernel_rfl) ?_
     refine gv_nil <| gv_sub [10] (σ' := [(10, (.bool (decide (r_0 ≤ 1114111))))]) (by kernel_rfl) ?_
     refine gv_goal fun a hd hs hok => ⟨rfl, hd, hs, ?_⟩
     obtain ⟨q10, _⟩ := hok
     exact ⟨(by rw [hc5]; exact q10), trivial⟩
    ·skip
     refine gv_pureN 4 [10, 14, 15, 16] [(10, (.bool false))] (by kernel_rfl) ?_
     refine gv_nil <| gv_sub [10] (σ' := [(10, (.bool false))]) (by kernel_rfl) ?_
     refine gv_goal fun a hd hs hok => ⟨rfl, hd, hs, ?_⟩
     obtain ⟨q10, _⟩ := hok
     exact ⟨(by rw [hc5]; exact q10), trivial⟩
   ·rintro a w4 ⟨e, hd, hs, hok⟩; subst e
    refine gv_in ?_ hd hs hok
    clear hd hs hok
    refine gv_cond (b := ((decide (57343 < r_0)) && (decide (r_0 ≤ 1114111)))) (by kernel_rfl) (fun hc6 => ?_) (fun hc6 => ?_)
    ·replace h0 := ite_t hc6 h0
     refine gv_seq <| gv_region <| gv_pureN 1 [2] [(2, (.bool true))] (by kernel_rfl) ?_
     refine gv_nil <| gv_cret ?_
     have e := sj h0; subst e
     refine gv_ret (gv_done [(.bool true)] rfl ⟨(by kernel_rfl), trivial⟩ ?_)
     exact ⟨grown_of_below hB0, rfl⟩
    ·replace h0 := ite_f hc6 h0
     refine gv_skip <| gv_blk <| gv_seq <| gv_region <| gv_pureN 1 [2] [(2, (.bool false))] (by kernel_rfl) ?_
     refine gv_nil <| gv_cret ?_
     have e := sj h0; subst e
     refine gv_ret (gv_done [(.bool false)] rfl ⟨(by kernel_rfl), trivial⟩ ?_)
     exact ⟨grown_of_below hB0, rfl⟩

theorem utf8_appendRuneNonASCII_ok (fuel : Nat) (pa0_0 : Option Addr) (pc0_0 : Nat) (p_0 : (List UInt8)) (r_1 : Int) (w0 : World) (hpa0_0 : Gv.Own bE 5 w0 (fun _ => False) pa0_0 pc0_0 p_0) (r0 : (List UInt8)) (h0 : utf8_appendRuneNonASCII fuel p_0 r_1 = some r0) :
    Calls Tryz.prog 39 ([(.slice pa0_0 (List.length p_0) pc0_0), (.int .i32 r_1)] : List Value).toArray w0 (Ret fun v w' => w0.grownBy w' (blk pa0_0) ∧ ∃ (a0_0r : Option Addr) (c0_0r : Nat), v = tup [(.slice a0_0r (List.length r0) c0_0r)] ∧ Gv.Own bE 5 w' (fun _ => False) a0_0r c0_0r r0 ∧ (∀ g, blk a0_0r = some g → blk pa0_0 = some g ∨ w0.heap.size ≤ g)) := by
 have hB0 : w0.grownBy w0 (blk pa0_0) := grown_refl _ _
 unfold utf8_appendRuneNonASCII at h0
 refine calls_run Tryz.func39 rfl Tryz.ntmps39 (by kernel_rfl) ?_
 refine gv_sub [0, 1] (σ' := [(0, (.slice pa0_0 (List.length p_0) pc0_0)), (1, (.int .i32 r_1))]) (by kernel_rfl) ?_
 refine gv_seq <| gv_region <| gv_pureN 1 [4] [] (by kernel_rfl) ?_
 refine gv_nil <| gv_seq <| gv_region <| gv_pureN 3 [5, 6, 7] [(5, (.int .u32 (IntKind.u32.wrap (r_1))))] (by kernel_rfl) ?_
 refine gv_nil <| gv_block <| gv_seq <| gv_region <| gv_pureN 3 [11, 12, 13] [(11, (.bool (decide ((IntKind.u32.wrap (r_1)) ≤ 2047))))] (by kernel_rfl) ?_
 refine bindE h0 ?_; clear h0; intro n1 hn2 h0
 refine gv_name (s := 11) (v := (.bool (decide ((IntKind.u32.wrap (r_1)) ≤ 2047)))) (v' := (.bool n1)) (by kernel_rfl) (congrArg (Value.bool) (sj hn2)) ?_
 refine gv_nil <| gv_cond (b := n1) (by kernel_rfl) (fun hc3 => ?_) (fun hc3 => ?_)
 ·replace h0 := ite_t hc3 h0
  refine gv_seq <| gv_region <| gv_pureN 9 [14, 15, 16, 17, 18, 19, 20, 21, 22] [(14, (.slice pa0_0 (List.length p_0) pc0_0)), (18, (.int .u8 (bwOr .u8 192 (IntKind.u8.wrap (((r_1).fdiv (2 ^ 6))))))), (22, (.int .u8 (bwOr .u8 128 (bwAnd .u8 (IntKind.u8.wrap (r_1)) 63))))] (by kernel_rfl) ?_
  refine bindE h0 ?_; clear h0; intro b4 hb5 h0
  have hu6 := u8_spec hb5
  refine bindE h0 ?_; clear h0; intro b7 hb8 h0
  have hu9 := u8_spec hb8
  refine gv_new0 (fun b => .slice (some ⟨b, 0, none⟩) 2 2) #[(.int .u8 (bwOr .u8 192 (IntKind.u8.wrap (((r_1).fdiv (2 ^ 6)))))), (.int .u8 (bwOr .u8 128 (bwAnd .u8 (IntKind.u8.wrap (r_1)) 63)))] 5 (by kernel_rfl) (by kernel_rfl) ?_
  intro b10 w11 hg12 hb13 hbe14 hz15
  have ho16 : Gv.Own bE 5 w11 (fun _ => False) (some ⟨b10, 0, none⟩) 2 ([b4, b7] : List UInt8) := Box.ownE hb13 ⟨[(.int .u8 (bwOr .u8 192 (IntKind.u8.wrap (((r_1).fdiv (2 ^ 6))))))], [(.int .u8 (bwOr .u8 128 (bwAnd .u8 (IntKind.u8.wrap (r_1)) 63)))], rfl, (by simp only [bE, flat, hu6]), ⟨[(.int .u8 (bwOr .u8 128 (bwAnd .u8 (IntKind.u8.wrap (r_1)) 63)))], [], rfl, (by simp only [bE, flat, hu9]), rfl⟩⟩ (show 2 ≤ maxLen by decide) (fun h => h)
  have hl17 : ∀ g, blk (some ⟨b10, 0, none⟩) = some g → w0.heap.size ≤ g := loo hbe14 hB0.size
  refine bindE h0 ?_; clear h0; intro l21 hx22 h0
  have hk29 := hpa0_0.grown hg12 (fun _ h => h.elim) nb
  refine gv_append bE (t := 45) (ty := 45) (e := 5) (a := pa0_0) (ax := (some ⟨b10, 0, none⟩)) (cap := pc0_0) (cx := 2) (xs := p_0) (ys := ([b4, b7] : List UInt8)) l21 (X := (fun _ => False)) (Y := (fun k => blk (some ⟨b10, 0, none⟩) = some k)) (by decide) rfl rfl (by kernel_rfl) (by kernel_rfl) Tryz.underlying45 info5 hk29 (ho16.rd (Y := fun k => blk (some ⟨b10, 0, none⟩) = some k) (fun _ h => h.elim) (fun g e => e)) hx22 (.inr fun _ _ _ _ _ h => h) (fun _ h => h.elim) ?_
  intro a23 c24 w25 hg26 ho27 hk28
  refine ⟨(fun e => by cases e), ?_⟩
  have hB31 := grown_stepO hB0 hg12 nb
  have hl30 : ∀ g, blk a23 = some g → blk pa0_0 = some g ∨ w0.heap.size ≤ g := blkw_tr (blkw_of hk28) (fun g e => Or.inl e) hB31.size
  have ap33 : ∀ g, blk pa0_0 = some g → ¬ (fun k => blk (some ⟨b10, 0, none⟩) = some k) g := fun g e hx => nl ((lowo hbe14) _ hx) ((fun k (hk : blk pa0_0 = some k) => hpa0_0.lt k hk) g e)
  have ap32 : ∀ g, blk a23 = some g → ¬ (fun k => blk (some ⟨b10, 0, none⟩) = some k) g := blk_neX hk28 ap33 (fun k (hk : blk (some ⟨b10, 0, none⟩) = some k) => ho16.lt k hk)
  have ap35 : ∀ g, blk (some ⟨b10, 0, none⟩) = some g → ¬ (fun k => blk pa0_0 = some k) g := fun g e hx => nl ((lowo hbe14) g e) ((fun k (hk : blk pa0_0 = some k) => hpa0_0.lt k hk) _ hx)
  have ap34 : ∀ g, blk (some ⟨b10, 0, none⟩) = some g → ¬ (fun k => blk a23 = some k) g := fun g e h => blk_rev hk28 (fun h => ((ap35) g e) h) (ho16.lt g e) h
  refine gv_pureN 1 [4] [(4, (.slice a23 (List.length l21) c24))] (by kernel_rfl) ?_
  refine gv_nil <| gv_cret ?_
  have e := sj h0; subst e
  refine gv_ret (gv_done [(.slice a23 (List.length l21) c24)] rfl ⟨(by kernel_rfl), trivial⟩ ?_)
  have hB36 := grown_stepO hB31 hg26 (fun g e => Or.inl e)
  exact ⟨hB36, a23, c24, rfl, ho27, hl30⟩
 ·replace h0 := ite_f hc3 h0
  refine gv_seq <| gv_seq <| gv_region <| gv_pureN 3 [25, 26, 27] [(25, (.bool (decide ((IntKind.u32.wrap (r_1)) < 55296))))] (by kernel_rfl) ?_
  refine bindE h0 ?_; clear h0; intro n37 hn38 h0
  refine gv_name (s := 25) (v := (.bool (decide ((IntKind.u32.wrap (r_1)) < 55296)))) (v' := (.bool n37)) (by kernel_rfl) (congrArg (Value.bool) (sj hn38)) ?_
  refine gv_nil <| bindE h0 ?_; clear h0; intro j39 h1 h0
  refine gv_cut_code (J := fun a w40 => w0.grownBy w40 (blk pa0_0) ∧ w0.heap.size ≤ w40.heap.size ∧ Gv.Own bE 5 w40 (fun _ => False) pa0_0 pc0_0 p_0 ∧ a.defers = [] ∧ a.tmps.size = 78 ∧ Ok [(0, (.slice pa0_0 (List.length p_0) pc0_0)), (1, (.int .i32 r_1)), (5, (.int .u32 (IntKind.u32.wrap (r_1)))), (25, (.bool j39))] a.tmps) ?_ ?_
  ·skip
   refine gv_cond (b := n37) (by kernel_rfl) (fun hc41 => ?_) (fun hc41 => ?_)
   ·replace h1 := ite_t hc41 h1
    refine gv_skip ?_
    have e := sj h1; subst e
    refine gv_goal fun a hd hs hok => ?_
    exact ⟨hB0, (Nat.le_refl _), hpa0_0, hd, hs, ok_pick [0, 1, 5, 25] hok (by kernel_rfl)⟩
   ·replace h1 := ite_f hc41 h1
    refine gv_region <| gv_cut_ops (J := fun a w42 => w0 = w42 ∧ a.defers = [] ∧ a.tmps.size = 78 ∧ Ok [(0, (.slice pa0_0 (List.length p_0) pc0_0)), (1, (.int .i32 r_1)), (5, (.int .u32 (IntKind.u32.wrap (r_1)))), (25, (.bool ((decide (57343 < (IntKind.u32.wrap (r_1)))) && (decide ((IntKind.u32.wrap (r_1)) ≤ 65535)))))] a.tmps) ?_ ?_
    ·skip
     refine gv_pureN 3 [28, 29, 30] [(30, (.bool (decide (57343 < (IntKind.u32.wrap (r_1))))))] (by kernel_rfl) ?_
     refine gv_split (s := 30) (g := (decide (57343 < (IntKind.u32.wrap (r_1))))) (by kernel_rfl) (fun hc43 => ?_) (fun hc43 => ?_)
     ·skip
      refine gv_pureN 4 [25, 31, 32, 33] [(25, (.bool (decide ((IntKind.u32.wrap (r_1)) ≤ 65535))))] (by kernel_rfl) ?_
      refine gv_nil <| gv_sub [0, 1, 5, 25] (σ' := [(0, (.slice pa0_0 (List.length p_0) pc0_0)), (1, (.int .i32 r_1)), (5, (.int .u32 (IntKind.u32.wrap (r_1)))), (25, (.bool (decide ((IntKind.u32.wrap (r_1)) ≤ 65535))))]) (by kernel_rfl) ?_
      refine gv_goal fun a hd hs hok => ⟨rfl, hd, hs, ?_⟩
      obtain ⟨q0, q1, q5, q25, _⟩ := hok
      exact ⟨q0, q1, q5, (by rw [hc43]; exact q25), trivial⟩
     ·skip
      refine gv_pureN 4 [25, 31, 32, 33] [(25, (.bool false))] (by kernel_rfl) ?_
      refine gv_nil <| gv_sub [0, 1, 5, 25] (σ' := [(0, (.slice pa0_0 (List.length p_0) pc0_0)), (1, (.int .i32 r_1)), (5, (.int .u32 (IntKind.u32.wrap (r_1)))), (25, (.bool false))]) (by kernel_rfl) ?_
      refine gv_goal fun a hd hs hok => ⟨rfl, hd, hs, ?_⟩
      obtain ⟨q0, q1, q5, q25, _⟩ := hok
      exact ⟨q0, q1, q5, (by rw [hc43]; exact q25), trivial⟩
    ·rintro a w42 ⟨e, hd, hs, hok⟩; subst e
     refine gv_in ?_ hd hs hok
     clear hd hs hok
     have e := sj h1; subst e
     refine gv_goal fun a hd hs hok => ?_
     exact ⟨hB0, (Nat.le_refl _), hpa0_0, hd, hs, ok_pick [0, 1, 5, 25] hok (by kernel_rfl)⟩
  ·rintro a w40 ⟨hB44, hz45, hk46, hd, hs, hok⟩
   refine gv_in ?_ hd hs hok
   clear hd hs hok
   clear hz45 hn38 hc3 hn2
   refine gv_cond (b := j39) (by kernel_rfl) (fun hc47 => ?_) (fun hc47 => ?_)
   ·replace h0 := ite_t hc47 h0
    refine gv_seq <| gv_region <| gv_pureN 14 [34, 35, 36, 37, 38, 39, 40, 41, 42, 43, 44, 45, 46, 47] [(34, (.slice pa0_0 (List.length p_0) pc0_0)), (38, (.int .u8 (bwOr .u8 224 (IntKind.u8.wrap (((r_1).fdiv (2 ^ 12))))))), (43, (.int .u8 (bwOr .u8 128 (bwAnd .u8 (IntKind.u8.wrap (((r_1).fdiv (2 ^ 6)))) 63)))), (47, (.int .u8 (bwOr .u8 128 (bwAnd .u8 (IntKind.u8.wrap (r_1)) 63))))] (by kernel_rfl) ?_
    refine bindE h0 ?_; clear h0; intro b48 hb49 h0
    have hu50 := u8_spec hb49
    refine bindE h0 ?_; clear h0; intro b51 hb52 h0
    have hu53 := u8_spec hb52
    refine bindE h0 ?_; clear h0; intro b54 hb55 h0
    have hu56 := u8_spec hb55
    refine gv_new0 (fun b => .slice (some ⟨b, 0, none⟩) 3 3) #[(.int .u8 (bwOr .u8 224 (IntKind.u8.wrap (((r_1).fdiv (2 ^ 12)))))), (.int .u8 (bwOr .u8 128 (bwAnd .u8 (IntKind.u8.wrap (((r_1).fdiv (2 ^ 6)))) 63))), (.int .u8 (bwOr .u8 128 (bwAnd .u8 (IntKind.u8.wrap (r_1)) 63)))] 5 (by kernel_rfl) (by kernel_rfl) ?_
    intro b57 w58 hg59 hb60 hbe61 hz62
    have ho63 : Gv.Own bE 5 w58 (fun _ => False) (some ⟨b57, 0, none⟩) 3 ([b48, b51, b54] : List UInt8) := Box.ownE hb60 ⟨[(.int .u8 (bwOr .u8 224 (IntKind.u8.wrap (((r_1).fdiv (2 ^ 12))))))], [(.int .u8 (bwOr .u8 128 (bwAnd .u8 (IntKind.u8.wrap (((r_1).fdiv (2 ^ 6)))) 63))), (.int .u8 (bwOr .u8 128 (bwAnd .u8 (IntKind.u8.wrap (r_1)) 63)))], rfl, (by simp only [bE, flat, hu50]), ⟨[(.int .u8 (bwOr .u8 128 (bwAnd .u8 (IntKind.u8.wrap (((r_1).fdiv (2 ^ 6)))) 63)))], [(.int .u8 (bwOr .u8 128 (bwAnd .u8 (IntKind.u8.wrap (r_1)) 63)))], rfl, (by simp only [bE, flat, hu53]), ⟨[(.int .u8 (bwOr .u8 128 (bwAnd .u8 (IntKind.u8.wrap (r_1)) 63)))], [], rfl, (by simp only [bE, flat, hu56]), rfl⟩⟩⟩ (show 3 ≤ maxLen by decide) (fun h => h)
    have hl64 : ∀ g, blk (some ⟨b57, 0, none⟩) = some g → w0.heap.size ≤ g := loo hbe61 hB44.size
    refine bindE h0 ?_; clear h0; intro l68 hx69 h0
    have hk76 := hk46.grown hg59 (fun _ h => h.elim) nb
    refine gv_append bE (t := 45) (ty := 45) (e := 5) (a := pa0_0) (ax := (some ⟨b57, 0, none⟩)) (cap := pc0_0) (cx := 3) (xs := p_0) (ys := ([b48, b51, b54] : List UInt8)) l68 (X := (fun _ => False)) (Y := (fun k => blk (some ⟨b57, 0, none⟩) = some k)) (by decide) rfl rfl (by kernel_rfl) (by kernel_rfl) Tryz.underlying45 info5 hk76 (ho63.rd (Y := fun k => blk (some ⟨b57, 0, none⟩) = some k) (fun _ h => h.elim) (fun g e => e)) hx69 (.inr fun _ _ _ _ _ h => h) (fun _ h => h.elim) ?_
    intro a70 c71 w72 hg73 ho74 hk75
    refine ⟨(fun e => by cases e), ?_⟩
    have hB78 := grown_stepO hB44 hg59 nb
    have hl77 : ∀ g, blk a70 = some g → blk pa0_0 = some g ∨ w0.heap.size ≤ g := blkw_tr (blkw_of hk75) (fun g e => Or.inl e) hB78.size
    have ap80 : ∀ g, blk pa0_0 = some g → ¬ (fun k => blk (some ⟨b57, 0, none⟩) = some k) g := fun g e hx => nl ((lowo hbe61) _ hx) ((fun k (hk : blk pa0_0 = some k) => hk46.lt k hk) g e)
    have ap79 : ∀ g, blk a70 = some g → ¬ (fun k => blk (some ⟨b57, 0, none⟩) = some k) g := blk_neX hk75 ap80 (fun k (hk : blk (some ⟨b57, 0, none⟩) = some k) => ho63.lt k hk)
    have ap82 : ∀ g, blk (some ⟨b57, 0, none⟩) = some g → ¬ (fun k => blk pa0_0 = some k) g := fun g e hx => nl ((lowo hbe61) g e) ((fun k (hk : blk pa0_0 = some k) => hk46.lt k hk) _ hx)
    have ap81 : ∀ g, blk (some ⟨b57, 0, none⟩) = some g → ¬ (fun k => blk a70 = some k) g := fun g e h => blk_rev hk75 (fun h => ((ap82) g e) h) (ho63.lt g e) h
    refine gv_pureN 1 [4] [(4, (.slice a70 (List.length l68) c71))] (by kernel_rfl) ?_
    refine gv_nil <| gv_cret ?_
    have e := sj h0; subst e
    refine gv_ret (gv_done [(.slice a70 (List.length l68) c71)] rfl ⟨(by kernel_rfl), trivial⟩ ?_)
    have hB83 := grown_stepO hB78 hg73 (fun g e => Or.inl e)
    exact ⟨hB83, a70, c71, rfl, ho74, hl77⟩
   ·replace h0 := ite_f hc47 h0
    refine gv_seq <| gv_region <| gv_cut_ops (J := fun a w84 => w40 = w84 ∧ a.defers = [] ∧ a.tmps.size = 78 ∧ Ok [(0, (.slice pa0_0 (List.length p_0) pc0_0)), (1, (.int .i32 r_1)), (50, (.bool ((decide ((IntKind.u32.wrap (r_1)) > 65535)) && (decide ((IntKind.u32.wrap (r_1)) ≤ 1114111)))))] a.tmps) ?_ ?_
    ·skip
     refine gv_pureN 3 [51, 52, 53] [(53, (.bool (decide ((IntKind.u32.wrap (r_1)) > 65535))))] (by kernel_rfl) ?_
     refine gv_split (s := 53) (g := (decide ((IntKind.u32.wrap (r_1)) > 65535))) (by kernel_rfl) (fun hc85 => ?_) (fun hc85 => ?_)
     ·skip
      refine gv_pureN 4 [50, 54, 55, 56] [(50, (.bool (decide ((IntKind.u32.wrap (r_1)) ≤ 1114111))))] (by kernel_rfl) ?_
      refine gv_nil <| gv_sub [0, 1, 50] (σ' := [(0, (.slice pa0_0 (List.length p_0) pc0_0)), (1, (.int .i32 r_1)), (50, (.bool (decide ((IntKind.u32.wrap (r_1)) ≤ 1114111))))]) (by kernel_rfl) ?_
      refine gv_goal fun a hd hs hok => ⟨rfl, hd, hs, ?_⟩
      obtain ⟨q0, q1, q50, _⟩ := hok
      exact ⟨q0, q1, (by rw [hc85]; exact q50), trivial⟩
     ·skip
      refine gv_pureN 4 [50, 54, 55, 56] [(50, (.bool false))] (by kernel_rfl) ?_
      refine gv_nil <| gv_sub [0, 1, 50] (σ' := [(0, (.slice pa0_0 (List.length p_0) pc0_0)), (1, (.int .i32 r_1)), (50, (.bool false))]) (by kernel_rfl) ?_
      refine gv_goal fun a hd hs hok => ⟨rfl, hd, hs, ?_⟩
      obtain ⟨q0, q1, q50, _⟩ := hok
      exact ⟨q0, q1, (by rw [hc85]; exact q50), trivial⟩
    ·rintro a w84 ⟨e, hd, hs, hok⟩; subst e
     refine gv_in ?_ hd hs hok
     clear hd hs hok
     refine gv_cond (b := ((decide ((IntKind.u32.wrap (r_1)) > 65535)) && (decide ((IntKind.u32.wrap (r_1)) ≤ 1114111)))) (by kernel_rfl) (fun hc86 => ?_) (fun hc86 => ?_)
     ·replace h0 := ite_t hc86 h0
      refine gv_seq <| gv_region <| gv_pureN 19 [57, 58, 59, 60, 61, 62, 63, 64, 65, 66, 67, 68, 69, 70, 71, 72, 73, 74, 75] [(57, (.slice pa0_0 (List.length p_0) pc0_0)), (61, (.int .u8 (bwOr .u8 240 (IntKind.u8.wrap (((r_1).fdiv (2 ^ 18))))))), (66, (.int .u8 (bwOr .u8 128 (bwAnd .u8 (IntKind.u8.wrap (((r_1).fdiv (2 ^ 12)))) 63)))), (71, (.int .u8 (bwOr .u8 128 (bwAnd .u8 (IntKind.u8.wrap (((r_1).fdiv (2 ^ 6)))) 63)))), (75, (.int .u8 (bwOr .u8 128 (bwAnd .u8 (IntKind.u8.wrap (r_1)) 63))))] (by kernel_rfl) ?_
      refine bindE h0 ?_; clear h0; intro b87 hb88 h0
      have hu89 := u8_spec hb88
      refine bindE h0 ?_; clear h0; intro b90 hb91 h0
      have hu92 := u8_spec hb91
      refine bindE h0 ?_; clear h0; intro b93 hb94 h0
      have hu95 := u8_spec hb94
      refine bindE h0 ?_; clear h0; intro b96 hb97 h0
      have hu98 := u8_spec hb97
      refine gv_new0 (fun b => .slice (some ⟨b, 0, none⟩) 4 4) #[(.int .u8 (bwOr .u8 240 (IntKind.u8.wrap (((r_1).fdiv (2 ^ 18)))))), (.int .u8 (bwOr .u8 128 (bwAnd .u8 (IntKind.u8.wrap (((r_1).fdiv (2 ^ 12)))) 63))), (.int .u8 (bwOr .u8 128 (bwAnd .u8 (IntKind.u8.wrap (((r_1).fdiv (2 ^ 6)))) 63))), (.int .u8 (bwOr .u8 128 (bwAnd .u8 (IntKind.u8.wrap (r_1)) 63)))] 5 (by kernel_rfl) (by kernel_rfl) ?_
      intro b99 w100 hg101 hb102 hbe103 hz104
      have ho105 : Gv.Own bE 5 w100 (fun _ => False) (some ⟨b99, 0, none⟩) 4 ([b87, b90, b93, b96] : List UInt8) := Box.ownE hb102 ⟨[(.int .u8 (bwOr .u8 240 (IntKind.u8.wrap (((r_1).fdiv (2 ^ 18))))))], [(.int .u8 (bwOr .u8 128 (bwAnd .u8 (IntKind.u8.wrap (((r_1).fdiv (2 ^ 12)))) 63))), (.int .u8 (bwOr .u8 128 (bwAnd .u8 (IntKind.u8.wrap (((r_1).fdiv (2 ^ 6)))) 63))), (.int .u8 (bwOr .u8 128 (bwAnd .u8 (IntKind.u8.wrap (r_1)) 63)))], rfl, (by simp only [bE, flat, hu89]), ⟨[(.int .u8 (bwOr .u8 128 (bwAnd .u8 (IntKind.u8.wrap (((r_1).fdiv (2 ^ 12)))) 63)))], [(.int .u8 (bwOr .u8 128 (bwAnd .u8 (IntKind.u8.wrap (((r_1).fdiv (2 ^ 6)))) 63))), (.int .u8 (bwOr .u8 128 (bwAnd .u8 (IntKind.u8.wrap (r_1)) 63)))], rfl, (by simp only [bE, flat, hu92]), ⟨[(.int .u8 (bwOr .u8 128 (bwAnd .u8 (IntKind.u8.wrap (((r_1).fdiv (2 ^ 6)))) 63)))], [(.int .u8 (bwOr .u8 128 (bwAnd .u8 (IntKind.u8.wrap (r_1)) 63)))], rfl, (by simp only [bE, flat, hu95]), ⟨[(.int .u8 (bwOr .u8 128 (bwAnd .u8 (IntKind.u8.wrap (r_1)) 63)))], [], rfl, (by simp only [bE, flat, hu98]), rfl⟩⟩⟩⟩ (show 4 ≤ maxLen by decide) (fun h => h)
      have hl106 : ∀ g, blk (some ⟨b99, 0, none⟩) = some g → w0.heap.size ≤ g := loo hbe103 hB44.size
      refine bindE h0 ?_; clear h0; intro l110 hx111 h0
      have hk118 := hk46.grown hg101 (fun _ h => h.elim) nb
      refine gv_append bE (t := 45) (ty := 45) (e := 5) (a := pa0_0) (ax := (some ⟨b99, 0, none⟩)) (cap := pc0_0) (cx := 4) (xs := p_0) (ys := ([b87, b90, b93, b96] : List UInt8)) l110 (X := (fun _ => False)) (Y := (fun k => blk (some ⟨b99, 0, none⟩) = some k)) (by decide) rfl rfl (by kernel_rfl) (by kernel_rfl) Tryz.underlying45 info5 hk118 (ho105.rd (Y := fun k => blk (some ⟨b99, 0, none⟩) = some k) (fun _ h => h.elim) (fun g e => e)) hx111 (.inr fun _ _ _ _ _ h => h) (fun _ h => h.elim) ?_
      intro a112 c113 w114 hg115 ho116 hk117
      refine ⟨(fun e => by cases e), ?_⟩
      have hB120 := grown_stepO hB44 hg101 nb
      have hl119 : ∀ g, blk a112 = some g → blk pa0_0 = some g ∨ w0.heap.size ≤ g := blkw_tr (blkw_of hk117) (fun g e => Or.inl e) hB120.size
      have ap122 : ∀ g, blk pa0_0 = some g → ¬ (fun k => blk (some ⟨b99, 0, none⟩) = some k) g := fun g e hx => nl ((lowo hbe103) _ hx) ((fun k (hk : blk pa0_0 = some k) => hk46.lt k hk) g e)
      have ap121 : ∀ g, blk a112 = some g → ¬ (fun k => blk (some ⟨b99, 0, none⟩) = some k) g := blk_neX hk117 ap122 (fun k (hk : blk (some ⟨b99, 0, none⟩) = some k) => ho105.lt k hk)
      have ap124 : ∀ g, blk (some ⟨b99, 0, none⟩) = some g → ¬ (fun k => blk pa0_0 = some k) g := fun g e hx => nl ((lowo hbe103) g e) ((fun k (hk : blk pa0_0 = some k) => hk46.lt k hk) _ hx)
      have ap123 : ∀ g, blk (some ⟨b99, 0, none⟩) = some g → ¬ (fun k => blk a112 = some k) g := fun g e h => blk_rev hk117 (fun h => ((ap124) g e) h) (ho105.lt g e) h
      refine gv_pureN 1 [4] [(4, (.slice a112 (List.length l110) c113))] (by kernel_rfl) ?_
      refine gv_nil <| gv_cret ?_
      have e := sj h0; subst e
      refine gv_ret (gv_done [(.slice a112 (List.length l110) c113)] rfl ⟨(by kernel_rfl), trivial⟩ ?_)
      have hB125 := grown_stepO hB120 hg115 (fun g e => Or.inl e)
      exact ⟨hB125, a112, c113, rfl, ho116, hl119⟩
     ·replace h0 := ite_f hc86 h0
      refine gv_seq <| gv_region <| gv_pureN 1 [8] [(8, (.slice pa0_0 (List.length p_0) pc0_0))] (by kernel_rfl) ?_
      refine gv_new0 (fun b => .slice (some ⟨b, 0, none⟩) 3 3) #[(.int .u8 239), (.int .u8 191), (.int .u8 189)] 5 (by kernel_rfl) (by kernel_rfl) ?_
      intro b126 w127 hg128 hb129 hbe130 hz131
      have ho132 : Gv.Own bE 5 w127 (fun _ => False) (some ⟨b126, 0, none⟩) 3 ([(239 : UInt8), (191 : UInt8), (189 : UInt8)] : List UInt8) := Box.ownE hb129 ⟨[(.int .u8 239)], [(.int .u8 191), (.int .u8 189)], rfl, rfl, ⟨[(.int .u8 191)], [(.int .u8 189)], rfl, rfl, ⟨[(.int .u8 189)], [], rfl, rfl, rfl⟩⟩⟩ (show 3 ≤ maxLen by decide) (fun h => h)
      have hl133 : ∀ g, blk (some ⟨b126, 0, none⟩) = some g → w0.heap.size ≤ g := loo hbe130 hB44.size
      refine bindE h0 ?_; clear h0; intro l137 hx138 h0
      have hk145 := hk46.grown hg128 (fun _ h => h.elim) nb
      refine gv_append bE (t := 45) (ty := 45) (e := 5) (a := pa0_0) (ax := (some ⟨b126, 0, none⟩)) (cap := pc0_0) (cx := 3) (xs := p_0) (ys := ([(239 : UInt8), (191 : UInt8), (189 : UInt8)] : List UInt8)) l137 (X := (fun _ => False)) (Y := (fun k => blk (some ⟨b126, 0, none⟩) = some k)) (by decide) rfl rfl (by kernel_rfl) (by kernel_rfl) Tryz.underlying45 info5 hk145 (ho132.rd (Y := fun k => blk (some ⟨b126, 0, none⟩) = some k) (fun _ h => h.elim) (fun g e => e)) hx138 (.inr fun _ _ _ _ _ h => h) (fun _ h => h.elim) ?_
      intro a139 c140 w141 hg142 ho143 hk144
      refine ⟨(fun e => by cases e), ?_⟩
      have hB147 := grown_stepO hB44 hg128 nb
      have hl146 : ∀ g, blk a139 = some g → blk pa0_0 = some g ∨ w0.heap.size ≤ g := blkw_tr (blkw_of hk144) (fun g e => Or.inl e) hB147.size
      have ap149 : ∀ g, blk pa0_0 = some g → ¬ (fun k => blk (some ⟨b126, 0, none⟩) = some k) g := fun g e hx => nl ((lowo hbe130) _ hx) ((fun k (hk : blk pa0_0 = some k) => hk46.lt k hk) g e)
      have ap148 : ∀ g, blk a139 = some g → ¬ (fun k => blk (some ⟨b126, 0, none⟩) = some k) g := blk_neX hk144 ap149 (fun k (hk : blk (some ⟨b126, 0, none⟩) = some k) => ho132.lt k hk)
      have ap151 : ∀ g, blk (some ⟨b126, 0, none⟩) = some g → ¬ (fun k => blk pa0_0 = some k) g := fun g e hx => nl ((lowo hbe130) g e) ((fun k (hk : blk pa0_0 = some k) => hk46.lt k hk) _ hx)
      have ap150 : ∀ g, blk (some ⟨b126, 0, none⟩) = some g → ¬ (fun k => blk a139 = some k) g := fun g e h => blk_rev hk144 (fun h => ((ap151) g e) h) (ho132.lt g e) h
      clear ap150 ap151 ap148 ap149 hk144 hk145 hx138 hl133 ho132 hz131 hbe130 hb129 hg128 hc86 hc47 hk46 hB44
      refine gv_pureN 1 [4] [(4, (.slice a139 (List.length l137) c140))] (by kernel_rfl) ?_
      refine gv_nil <| gv_cret ?_
      have e := sj h0; subst e
      refine gv_ret (gv_done [(.slice a139 (List.length l137) c140)] rfl ⟨(by kernel_rfl), trivial⟩ ?_)
      have hB152 := grown_stepO hB147 hg142 (fun g e => Or.inl e)
      exact ⟨hB152, a139, c140, rfl, ho143, hl146⟩

theorem utf8_AppendRune_ok (fuel : Nat) (pa0_0 : Option Addr) (pc0_0 : Nat) (p_0 : (List UInt8)) (r_1 : Int) (w0 : World) (hpa0_0 : Gv.Own bE 5 w0 (fun _ => False) pa0_0 pc0_0 p_0) (r0 : (List UInt8)) (h0 : utf8_AppendRune fuel p_0 r_1 = some r0) :
    Calls Tryz.prog 24 ([(.slice pa0_0 (List.length p_0) pc0_0), (.int .i32 r_1)] : List Value).toArray w0 (Ret fun v w' => w0.grownBy w' (blk pa0_0) ∧ ∃ (a0_0r : Option Addr) (c0_0r : Nat), v = tup [(.slice a0_0r (List.length r0) c0_0r)] ∧ Gv.Own bE 5 w' (fun _ => False) a0_0r c0_0r r0 ∧ (∀ g, blk a0_0r = some g → blk pa0_0 = some g ∨ w0.heap.size ≤ g)) := by
 have hB0 : w0.grownBy w0 (blk pa0_0) := grown_refl _ _
 unfold utf8_AppendRune at h0
 refine calls_run Tryz.func24 rfl Tryz.ntmps24 (by kernel_rfl) ?_
 refine gv_sub [0, 1] (σ' := [(0, (.slice pa0_0 (List.length p_0) pc0_0)), (1, (.int .i32 r_1))]) (by kernel_rfl) ?_
 refine gv_seq <| gv_region <| gv_pureN 1 [4] [] (by kernel_rfl) ?_
 refine gv_nil <| gv_seq <| gv_seq <| gv_region <| gv_pureN 3 [5, 6, 7] [(7, (.bool (decide ((IntKind.u32.wrap (r_1)) ≤ 127))))] (by kernel_rfl) ?_
 refine gv_nil <| gv_cond (b := (decide ((IntKind.u32.wrap (r_1)) ≤ 127))) (by kernel_rfl) (fun hc1 => ?_) (fun hc1 => ?_)
 ·replace h0 := ite_t hc1 h0
  refine gv_seq <| gv_region <| gv_pureN 3 [8, 9, 10] [(8, (.slice pa0_0 (List.length p_0) pc0_0)), (10, (.int .u8 (IntKind.u8.wrap (r_1))))] (by kernel_rfl) ?_
  refine bindE h0 ?_; clear h0; intro b2 hb3 h0
  have hu4 := u8_spec hb3
  refine gv_new0 (fun b => .slice (some ⟨b, 0, none⟩) 1 1) #[(.int .u8 (IntKind.u8.wrap (r_1)))] 5 (by kernel_rfl) (by kernel_rfl) ?_
  intro b5 w6 hg7 hb8 hbe9 hz10
  have ho11 : Gv.Own bE 5 w6 (fun _ => False) (some ⟨b5, 0, none⟩) 1 ([b2] : List UInt8) := Box.ownE hb8 ⟨[(.int .u8 (IntKind.u8.wrap (r_1)))], [], rfl, (by simp only [bE, flat, hu4]), rfl⟩ (show 1 ≤ maxLen by decide) (fun h => h)
  have hl12 : ∀ g, blk (some ⟨b5, 0, none⟩) = some g → w0.heap.size ≤ g := loo hbe9 hB0.size
  refine bindE h0 ?_; clear h0; intro l16 hx17 h0
  have hk24 := hpa0_0.grown hg7 (fun _ h => h.elim) nb
  refine gv_append bE (t := 45) (ty := 45) (e := 5) (a := pa0_0) (ax := (some ⟨b5, 0, none⟩)) (cap := pc0_0) (cx := 1) (xs := p_0) (ys := ([b2] : List UInt8)) l16 (X := (fun _ => False)) (Y := (fun k => blk (some ⟨b5, 0, none⟩) = some k)) (by decide) rfl rfl (by kernel_rfl) (by kernel_rfl) Tryz.underlying45 info5 hk24 (ho11.rd (Y := fun k => blk (some ⟨b5, 0, none⟩) = some k) (fun _ h => h.elim) (fun g e => e)) hx17 (.inr fun _ _ _ _ _ h => h) (fun _ h => h.elim) ?_
  intro a18 c19 w20 hg21 ho22 hk23
  refine ⟨(fun e => by cases e), ?_⟩
  have hB26 := grown_stepO hB0 hg7 nb
  have hl25 : ∀ g, blk a18 = some g → blk pa0_0 = some g ∨ w0.heap.size ≤ g := blkw_tr (blkw_of hk23) (fun g e => Or.inl e) hB26.size
  have ap28 : ∀ g, blk pa0_0 = some g → ¬ (fun k => blk (some ⟨b5, 0, none⟩) = some k) g := fun g e hx => nl ((lowo hbe9) _ hx) ((fun k (hk : blk pa0_0 = some k) => hpa0_0.lt k hk) g e)
  have ap27 : ∀ g, blk a18 = some g → ¬ (fun k => blk (some ⟨b5, 0, none⟩) = some k) g := blk_neX hk23 ap28 (fun k (hk : blk (some ⟨b5, 0, none⟩) = some k) => ho11.lt k hk)
  have ap30 : ∀ g, blk (some ⟨b5, 0, none⟩) = some g → ¬ (fun k => blk pa0_0 = some k) g := fun g e hx => nl ((lowo hbe9) g e) ((fun k (hk : blk pa0_0 = some k) => hpa0_0.lt k hk) _ hx)
  have ap29 : ∀ g, blk (some ⟨b5, 0, none⟩) = some g → ¬ (fun k => blk a18 = some k) g := fun g e h => blk_rev hk23 (fun h => ((ap30) g e) h) (ho11.lt g e) h
  refine gv_pureN 1 [4] [(4, (.slice a18 (List.length l16) c19))] (by kernel_rfl) ?_
  refine gv_nil <| gv_cret ?_
  have e := sj h0; subst e
  refine gv_ret (gv_done [(.slice a18 (List.length l16) c19)] rfl ⟨(by kernel_rfl), trivial⟩ ?_)
  have hB31 := grown_stepO hB26 hg21 (fun g e => Or.inl e)
  exact ⟨hB31, a18, c19, rfl, ho22, hl25⟩
 ·replace h0 := ite_f hc1 h0
  refine gv_skip <| gv_seq <| gv_region <| gv_pureN 2 [13, 14] [(13, (.slice pa0_0 (List.length p_0) pc0_0)), (14, (.int .i32 r_1))] (by kernel_rfl) ?_
  refine bindE h0 ?_; clear h0; intro r32 hr33 h0
  refine gv_call0 (by kernel_rfl) rfl (by kernel_rfl) enters39 (utf8_appendRuneNonASCII_ok fuel pa0_0 pc0_0 p_0 r_1 w0 hpa0_0 r32 hr33) ?_
  rintro v36 w34 ⟨hg35, a37, c38, rfl, ho39, hk40⟩
  have hl41 : ∀ g, blk a37 = some g → blk pa0_0 = some g ∨ w0.heap.size ≤ g := blkw_tr hk40 (fun g e => Or.inl e) hB0.size
  refine gv_pureN 1 [4] [(4, (.slice a37 (List.length r32) c38))] (by kernel_rfl) ?_
  refine gv_nil <| gv_cret ?_
  have e := sj h0; subst e
  refine gv_ret (gv_done [(.slice a37 (List.length r32) c38)] rfl ⟨(by kernel_rfl), trivial⟩ ?_)
  have hB42 := grown_stepO hB0 hg35 (fun g e => Or.inl e)
  exact ⟨hB42, a37, c38, rfl, ho39, hl41⟩

theorem textstr_From_ok (fuel : Nat) (pa0_0 : Option Addr) (pc0_0 : Nat) (l_0 : (List Int)) (w0 : World) (X0 : Nat → Prop) (hX0 : ∀ k, X0 k → k < w0.heap.size) (hpa0_0 : Rd (iE .i64) w0 X0 pa0_0 pc0_0 l_0) (r0 : (ByteArray × (Int × Int))) (h0 : textstr_From fuel l_0 = some r0) :
    Calls Tryz.prog 5 ([(.slice pa0_0 (List.length l_0) pc0_0)] : List Value).toArray w0 (Ret fun v w' => w0.grownBy w' none ∧ v = tup [(.string r0.1), (.agg #[(.int .i64 r0.2.1), (.int .i64 r0.2.2)])]) := by
 have hB0 : Below w0.heap.size w0 w0 := Below.refl _ _
 unfold textstr_From at h0
 refine calls_run Tryz.func5 rfl Tryz.ntmps5 (by kernel_rfl) ?_
 refine gv_sub [0] (σ' := [(0, (.slice pa0_0 (List.length l_0) pc0_0))]) (by kernel_rfl) ?_
 refine gv_seq <| gv_region <| gv_pureN 1 [2] [] (by kernel_rfl) ?_
 refine gv_new0 (fun b => .pointer (some ⟨b, 0, none⟩)) #[(.int .i64 0), (.int .i64 0)] 29 (by kernel_rfl) (by kernel_rfl) ?_
 intro b1 w2 hg3 hb4 hbe5 hz6
 refine gv_nil <| gv_seq <| gv_region <| gv_pureN 1 [4] [(4, (.slice none (List.length ([] : List UInt8)) 0))] (by kernel_rfl) ?_
 refine gv_nil <| gv_seq <| gv_seq <| gv_region <| gv_pureN 3 [7, 8, 9] [(7, (.slice pa0_0 (List.length l_0) pc0_0)), (8, (.int .i64 ((List.length l_0 : Nat) : Int))), (9, (.int .i64 0))] (by kernel_rfl) ?_
 refine gv_nil <| bindE h0 ?_; clear h0; intro j7 h1 h0
 refine gv_cut_code (J := fun a w9 => ∃ s8 : ((List UInt8) × (Int × Int)), j7 = .inl s8 ∧ ∃ (a4_0j : Option Addr) (c4_0j : Nat), Below w0.heap.size w0 w9 ∧ w2.heap.size ≤ w9.heap.size ∧ Gv.Own bE 5 w9 (fun _ => False) a4_0j c4_0j s8.1 ∧ (∀ g, blk a4_0j = some g → w0.heap.size ≤ g) ∧ (∀ g, blk a4_0j = some g → ¬ (· = b1) g) ∧ ¬ (fun k => blk a4_0j = some k) b1 ∧ Box w9 b1 29 #[(.int .i64 s8.2.1), (.int .i64 s8.2.2)] ∧ a.defers = [] ∧ a.tmps.size = 41 ∧ Ok [(3, (bp b1)), (4, (.slice a4_0j (List.length s8.1) c4_0j))] a.tmps) ?_ ?_
 ·skip
  refine gv_block <| gv_loop (A := fun (s10 : ((List UInt8) × Int × (Int × Int))) a w11 => ∃ (a4_0j : Option Addr) (c4_0j : Nat), Below w0.heap.size w0 w11 ∧ w2.heap.size ≤ w11.heap.size ∧ Gv.Own bE 5 w11 (fun _ => False) a4_0j c4_0j s10.1 ∧ (∀ g, blk a4_0j = some g → w0.heap.size ≤ g) ∧ (∀ g, blk a4_0j = some g → ¬ (· = b1) g) ∧ ¬ (fun k => blk a4_0j = some k) b1 ∧ Box w11 b1 29 #[(.int .i64 s10.2.2.1), (.int .i64 s10.2.2.2)] ∧ a.defers = [] ∧ a.tmps.size = 41 ∧ Ok [(3, (bp b1)), (4, (.slice a4_0j (List.length s10.1) c4_0j)), (7, (.slice pa0_0 (List.length l_0) pc0_0)), (8, (.int .i64 ((List.length l_0 : Nat) : Int))), (9, (.int .i64 s10.2.1))] a.tmps) h1 ?_ ?_
  ·intro a hd hs hok
   have hB12 := bg hB0 hg3 nb
   exact ⟨none, 0, hB12, (Nat.le_refl _), (Gv.Own.nil bE 5 w2 (fun _ => False)), (fun _ h => by cases h), (fun _ h => by cases h), (fun h => by cases h), hb4, hd, hs, ok_pick [3, 4, 7, 8, 9] hok (by kernel_rfl)⟩
  ·rintro s10 r2 h2 hR2 a w11 ⟨a15, c16, hB13, hz14, ho17, hl18, ap19, ap20, hb21, hd, hs, hok⟩
   refine gv_in ?_ hd hs hok
   clear hd hs hok
   refine gv_seq <| gv_region <| gv_pureN 1 [10] [(10, (.bool (decide (s10.2.1 < ((List.length l_0 : Nat) : Int)))))] (by kernel_rfl) ?_
   refine gv_nil <| gv_seq <| gv_cond (b := (decide (s10.2.1 < ((List.length l_0 : Nat) : Int)))) (by kernel_rfl) (fun hc22 => ?_) (fun hc22 => ?_)
   ·replace h2 := ite_t hc22 h2
    refine gv_skip <| gv_seq <| gv_block <| gv_seq <| gv_region <| gv_pureN 1 [11] [(11, (.int .i64 s10.2.1))] (by kernel_rfl) ?_
    refine bindE h2 ?_; clear h2; intro x23 hx24 h2
    refine gv_idxaddr (t := 22) (e := 3) (a := pa0_0) (len := List.length l_0) (cap := pc0_0) (kk := .i64) (i := s10.2.1) (sz := 1) [] (fun e => by cases e) rfl rfl rfl (by kernel_rfl) (by kernel_rfl) Tryz.underlying22 (by kernel_rfl) ((hpa0_0.below hB13 hX0).has hx24) (idx_spec hx24).1 (idx_spec hx24).2.1 rfl ?_
    refine gv_load (t := 3) (A := (elemAddr pa0_0 ((s10.2.1 : Int).toNat * 1))) (.int .i64 x23) [] (fun e => by cases e) rfl rfl rfl (by kernel_rfl) (by kernel_rfl) (by kernel_rfl) (inw0 ((hpa0_0.below hB13 hX0).cell hx24)) rfl ?_
    refine gv_pureN 2 [5, 6] [(5, (.int .i64 s10.2.1)), (6, (.int .i64 x23))] (by kernel_rfl) ?_
    refine gv_nil <| gv_seq <| gv_seq <| gv_region <| bindE h2 ?_; clear h2; intro j25 h3 h2
    refine gv_cut_ops (J := fun a w26 => Below w0.heap.size w0 w26 ∧ w11.heap.size ≤ w26.heap.size ∧ Box w26 b1 29 #[(.int .i64 s10.2.2.1), (.int .i64 s10.2.2.2)] ∧ Gv.Own bE 5 w26 (fun _ => False) a15 c16 s10.1 ∧ a.defers = [] ∧ a.tmps.size = 41 ∧ Ok [(3, (bp b1)), (4, (.slice a15 (List.length s10.1) c16)), (5, (.int .i64 s10.2.1)), (6, (.int .i64 x23)), (7, (.slice pa0_0 (List.length l_0) pc0_0)), (8, (.int .i64 ((List.length l_0 : Nat) : Int))), (9, (.int .i64 s10.2.1)), (25, (.bool j25))] a.tmps) ?_ ?_
    ·skip
     refine gv_pureN 3 [14, 15, 16] [(16, (.bool (decide (x23 < 0))))] (by kernel_rfl) ?_
     refine gv_split (s := 16) (g := (decide (x23 < 0))) (by kernel_rfl) (fun hc27 => ?_) (fun hc27 => ?_)
     ·skip
      replace h3 := ite_t hc27 h3
      refine gv_pureN 9 [17, 18, 19, 20, 21, 22, 23, 24, 25] [(25, (.bool true))] (by kernel_rfl) ?_
      refine gv_nil ?_
      have e := sj h3; subst e
      refine gv_goal fun a hd hs hok => ?_
      exact ⟨hB13, (Nat.le_refl _), hb21, ho17, hd, hs, ok_pick [3, 4, 5, 6, 7, 8, 9, 25] hok (by kernel_rfl)⟩
     ·skip
      replace h3 := ite_f hc27 h3
      refine gv_pureN 4 [17, 18, 19, 20] [(20, (.bool (decide (x23 > 1114111))))] (by kernel_rfl) ?_
      refine gv_split (s := 20) (g := (decide (x23 > 1114111))) (by kernel_rfl) (fun hc28 => ?_) (fun hc28 => ?_)
      ·skip
       replace h3 := ite_t hc28 h3
       refine gv_pureN 5 [21, 22, 23, 24, 25] [(25, (.bool true))] (by kernel_rfl) ?_
       refine gv_nil ?_
       have e := sj h3; subst e
       refine gv_goal fun a hd hs hok => ?_
       exact ⟨hB13, (Nat.le_refl _), hb21, ho17, hd, hs, ok_pick [3, 4, 5, 6, 7, 8, 9, 25] hok (by kernel_rfl)⟩
      ·skip
       replace h3 := ite_f hc28 h3
       refine gv_pureN 2 [21, 22] [(22, (.int .i32 (IntKind.i32.wrap (x23))))] (by kernel_rfl) ?_
       refine bindE h3 ?_; clear h3; intro r29 hr30 h3
       refine gv_call0 (by kernel_rfl) rfl (by kernel_rfl) enters22 (utf8_ValidRune_ok fuel (IntKind.i32.wrap (x23)) w11  r29 hr30) ?_
       rintro v33 w31 ⟨hg32, rfl⟩
       refine gv_pureN 2 [24, 25] [(25, (.bool (!r29)))] (by kernel_rfl) ?_
       refine gv_nil ?_
       have e := sj h3; subst e
       refine gv_goal fun a hd hs hok => ?_
       have hB34 := bg hB13 hg32 nb
       have hz35 := hg32.size
       have hk36 := hb21.grown hg32 nb
       have hk37 := ho17.grown hg32 (fun _ h => h.elim) nb
       exact ⟨hB34, hz35, hk36, hk37, hd, hs, ok_pick [3, 4, 5, 6, 7, 8, 9, 25] hok (by kernel_rfl)⟩
    ·rintro a w26 ⟨hB38, hz39, hb40, hk41, hd, hs, hok⟩
     refine gv_in ?_ hd hs hok
     clear hd hs hok
     have hz42 := (nt hz14 hz39)
     clear hz39 hx24 hc22 hb21 ho17 hz14 hB13 hz6 hb4 hg3
     refine gv_cond (b := j25) (by kernel_rfl) (fun hc43 => ?_) (fun hc43 => ?_)
     ·replace h2 := ite_t hc43 h2
      refine gv_seq <| gv_region <| gv_pureN 1 [26] [(26, (.int .i64 s10.2.1))] (by kernel_rfl) ?_
      refine bindE h2 ?_; clear h2; intro r44 hr45 h2
      refine gv_call0 (by kernel_rfl) rfl (by kernel_rfl) enters23 (textstr_at_ok fuel 4 s10.2.1 w26  r44 hr45) ?_
      rintro v48 w46 ⟨hg47, rfl⟩
      refine gv_pureN 1 [2] [(2, (.string (strOf [])))] (by kernel_rfl) ?_
      have hk53 := hb40.grown hg47 nb
      refine gv_store0 29 0 (.agg #[(.int .i64 r44.1), (.int .i64 r44.2)]) #[(.int .i64 r44.1), (.int .i64 r44.2)] hk53 (by kernel_rfl) (by kernel_rfl) (by kernel_rfl) ?_
      intro w49 hg50 hb51 hz52
      refine gv_nil <| gv_cret ?_
      have e := sj h2; subst e
      replace h1 := congrArg some (hR2 _ rfl)
      have e := sj h1; subst e
      replace h0 := cont_inr h0
      have e := sj h0; subst e
      refine gv_ret (gv_done [(.string (strOf [])), (.agg #[(.int .i64 r44.1), (.int .i64 r44.2)])] rfl ⟨(by kernel_rfl), ⟨⟨b1, 0, none⟩, (by kernel_rfl), run_loadVar_row w49 b1 _ 29 _ _ _ hb51 Tryz.underlying29 rfl (by kernel_rfl)⟩, trivial⟩ ?_)
      have hB54 := bg hB38 hg47 nb
      have hlo55 : w0.heap.size ≤ b1 := lob hbe5 hB0.size
      have hB56 := bg hB54 hg50 (rowlo hlo55)
      exact ⟨grown_of_below hB56, rfl⟩
     ·replace h2 := ite_f hc43 h2
      refine gv_skip <| gv_seq <| gv_region <| gv_pureN 3 [28, 29, 30] [(28, (.slice a15 (List.length s10.1) c16)), (30, (.int .i32 (IntKind.i32.wrap (x23))))] (by kernel_rfl) ?_
      refine bindE h2 ?_; clear h2; intro r57 hr58 h2
      refine gv_call0 (by kernel_rfl) rfl (by kernel_rfl) enters24 (utf8_AppendRune_ok fuel a15 c16 s10.1 (IntKind.i32.wrap (x23)) w26 hk41 r57 hr58) ?_
      rintro v61 w59 ⟨hg60, a62, c63, rfl, ho64, hk65⟩
      have hl66 : ∀ g, blk a62 = some g → w0.heap.size ≤ g := blkw_step hk65 hl18 hB38.size
      refine gv_pureN 1 [4] [(4, (.slice a62 (List.length r57) c63))] (by kernel_rfl) ?_
      refine gv_nil <| gv_seq <| gv_region <| gv_pureN 3 [32, 33, 34] [(34, (.bool (decide (((List.length r57 : Nat) : Int) > 4000))))] (by kernel_rfl) ?_
      refine gv_nil <| gv_cond (b := (decide (((List.length r57 : Nat) : Int) > 4000))) (by kernel_rfl) (fun hc67 => ?_) (fun hc67 => ?_)
      ·replace h2 := ite_t hc67 h2
       refine gv_seq <| gv_region <| gv_pureN 1 [35] [(35, (.int .i64 s10.2.1))] (by kernel_rfl) ?_
       refine bindE h2 ?_; clear h2; intro r68 hr69 h2
       refine gv_call0 (by kernel_rfl) rfl (by kernel_rfl) enters23 (textstr_at_ok fuel 3 s10.2.1 w59  r68 hr69) ?_
       rintro v72 w70 ⟨hg71, rfl⟩
       refine gv_pureN 1 [2] [(2, (.string (strOf [])))] (by kernel_rfl) ?_
       have hk77 := (hb40.grown hg60 ap19).grown hg71 nb
       refine gv_store0 29 0 (.agg #[(.int .i64 r68.1), (.int .i64 r68.2)]) #[(.int .i64 r68.1), (.int .i64 r68.2)] hk77 (by kernel_rfl) (by kernel_rfl) (by kernel_rfl) ?_
       intro w73 hg74 hb75 hz76
       refine gv_nil <| gv_cret ?_
       have e := sj h2; subst e
       replace h1 := congrArg some (hR2 _ rfl)
       have e := sj h1; subst e
       replace h0 := cont_inr h0
       have e := sj h0; subst e
       refine gv_ret (gv_done [(.string (strOf [])), (.agg #[(.int .i64 r68.1), (.int .i64 r68.2)])] rfl ⟨(by kernel_rfl), ⟨⟨b1, 0, none⟩, (by kernel_rfl), run_loadVar_row w73 b1 _ 29 _ _ _ hb75 Tryz.underlying29 rfl (by kernel_rfl)⟩, trivial⟩ ?_)
       have hB78 := bg hB38 hg60 hl18
       have hB79 := bg hB78 hg71 nb
       have hlo80 : w0.heap.size ≤ b1 := lob hbe5 hB0.size
       have hB81 := bg hB79 hg74 (rowlo hlo80)
       exact ⟨grown_of_below hB81, rfl⟩
      ·replace h2 := ite_f hc67 h2
       refine gv_skip <| gv_blk <| gv_region <| gv_pureN 2 [9, 37] [(9, (.int .i64 (IntKind.i64.wrap (s10.2.1 + 1))))] (by kernel_rfl) ?_
       refine gv_nil ?_
       have e := sj h2; subst e
       refine gv_goal fun a hd hs hok => ?_
       have hB82 := bg hB38 hg60 hl18
       have hz83 := (nt hz42 hg60.size)
       have ap84 : ∀ g, blk a62 = some g → ¬ (· = b1) g := blkw_neX hk65 ap19 (ltb hb40)
       have ap85 : ¬ (fun k => blk a62 = some k) b1 := fun h => blkw_rev hk65 (fun h => (ap20) h) (hb40.lt) h
       have hk86 := hb40.grown hg60 ap19
       exact ⟨(r57, (IntKind.i64.wrap (s10.2.1 + 1)), (s10.2.2.1, s10.2.2.2)), rfl, a62, c63, hB82, hz83, ho64, hl66, ap84, ap85, hk86, hd, hs, ok_pick [3, 4, 7, 8, 9] hok (by kernel_rfl)⟩
   ·replace h2 := ite_f hc22 h2
    refine gv_cexit <| gv_exit rfl ?_
    have e := sj h2; subst e
    replace h1 := congrArg some (hR2 _ rfl)
    have e := sj h1; subst e
    refine gv_goal fun a hd hs hok => ?_
    have hz87 := hz14
    exact ⟨(s10.1, (s10.2.2.1, s10.2.2.2)), rfl, a15, c16, hB13, hz87, ho17, hl18, ap19, ap20, hb21, hd, hs, ok_pick [3, 4] hok (by kernel_rfl)⟩
 ·rintro a w9 ⟨s8, e, a90, c91, hB88, hz89, ho92, hl93, ap94, ap95, hb96, hd, hs, hok⟩
  subst e
  refine gv_in ?_ hd hs hok
  clear hd hs hok
  replace h0 := cont_inl h0
  clear hz89 hz6 hb4 hg3
  refine gv_seq <| gv_region <| gv_pureN 1 [38] [(38, (.slice a90 (List.length s8.1) c91))] (by kernel_rfl) ?_
  refine gv_b2s (src := 45) (dst := 9) (e := 5) (xs := s8.1) (a := a90) (cap := c91) (X := (fun k => blk a90 = some k)) [] (fun e => by cases e) rfl rfl rfl (by kernel_rfl) (by kernel_rfl) Tryz.underlying45 Tryz.underlying5 Tryz.underlying9 (inw0 (ho92.rd (Y := fun k => blk a90 = some k) (fun _ h => h.elim) (fun g e => e))) rfl ?_
  refine gv_pureN 2 [2, 40] [(2, (.string (strOf s8.1))), (40, (.agg #[(.int .i64 0), (.int .i64 0)]))] (by kernel_rfl) ?_
  refine gv_store0 29 0 (.agg #[(.int .i64 0), (.int .i64 0)]) #[(.int .i64 0), (.int .i64 0)] hb96 (by kernel_rfl) (by kernel_rfl) (by kernel_rfl) ?_
  intro w97 hg98 hb99 hz100
  clear hz100 hb96 ap95 ap94 hl93 ho92
  refine gv_nil <| gv_cret ?_
  have e := sj h0; subst e
  refine gv_ret (gv_done [(.string (strOf s8.1)), (.agg #[(.int .i64 0), (.int .i64 0)])] rfl ⟨(by kernel_rfl), ⟨⟨b1, 0, none⟩, (by kernel_rfl), run_loadVar_row w97 b1 _ 29 _ _ _ hb99 Tryz.underlying29 rfl (by kernel_rfl)⟩, trivial⟩ ?_)
  have hlo101 : w0.heap.size ≤ b1 := lob hbe5 hB0.size
  have hB102 := bg hB88 hg98 (rowlo hlo101)
  exact ⟨grown_of_below hB102, rfl⟩

theorem textstr_Length_ok (fuel : Nat) (s_0 : ByteArray) (w0 : World) (X0 : Nat → Prop) (hX0 : ∀ k, X0 k → k < w0.heap.size) (hG0 : Rd bE w0 X0 (some ⟨0, 0, none⟩) 256 utf8First) (hG1 : Rd (prE (iE .u8) (iE .u8)) w0 X0 (some ⟨1, 0, none⟩) 16 utf8Acc) (r0 : (Int × (Int × Int))) (h0 : textstr_Length fuel s_0 = some r0) :
    Calls Tryz.prog 6 ([(.string s_0)] : List Value).toArray w0 (Ret fun v w' => w0.grownBy w' none ∧ v = tup [(.int .i64 r0.1), (.agg #[(.int .i64 r0.2.1), (.int .i64 r0.2.2)])]) := by
 have hB0 : Below w0.heap.size w0 w0 := Below.refl _ _
 unfold textstr_Length at h0
 refine calls_run Tryz.func6 rfl Tryz.ntmps6 (by kernel_rfl) ?_
 refine gv_sub [0] (σ' := [(0, (.string s_0))]) (by kernel_rfl) ?_
 refine gv_seq <| gv_region <| gv_pureN 1 [2] [] (by kernel_rfl) ?_
 refine gv_new0 (fun b => .pointer (some ⟨b, 0, none⟩)) #[(.int .i64 0), (.int .i64 0)] 29 (by kernel_rfl) (by kernel_rfl) ?_
 intro b1 w2 hg3 hb4 hbe5 hz6
 refine gv_nil <| gv_seq <| gv_region <| gv_pureN 1 [7] [(7, (.string s_0))] (by kernel_rfl) ?_
 refine bindE h0 ?_; clear h0; intro r7 hr8 h0
 have hB9 := bg hB0 hg3 nb
 refine gv_call0 (by kernel_rfl) rfl (by kernel_rfl) enters4 (textstr_Points_ok fuel s_0 w2 (fun k => X0 k ∨ X0 k) (fun k hk => (hk).elim (fun h => (fun k (hk : X0 k) => ltl (hX0 k hk) hB9.size) k h) (fun h => (fun k (hk : X0 k) => ltl (hX0 k hk) hB9.size) k h)) ((hG0.below hB9 hX0).wide (fun k hk => (.inl hk))) ((hG1.below hB9 hX0).wide (fun k hk => (.inr hk))) r7 hr8) ?_
 rintro v12 w10 ⟨hg11, a13, c14, rfl, ho15, hl16⟩
 have hl17 : ∀ g, blk a13 = some g → w0.heap.size ≤ g := fun g e => Nat.le_trans hB9.size (hl16 g e)
 refine gv_pureN 3 [6, 9, 10] [(9, (.slice a13 (List.length r7.1) c14)), (10, (.agg #[(.int .i64 r7.2.1), (.int .i64 r7.2.2)]))] (by kernel_rfl) ?_
 refine gv_new0 (fun b => .pointer (some ⟨b, 0, none⟩)) #[(.int .i64 0), (.int .i64 0)] 29 (by kernel_rfl) (by kernel_rfl) ?_
 intro b18 w19 hg20 hb21 hbe22 hz23
 refine gv_pureN 1 [4] [(4, (.slice a13 (List.length r7.1) c14))] (by kernel_rfl) ?_
 refine gv_store0 29 0 (.agg #[(.int .i64 r7.2.1), (.int .i64 r7.2.2)]) #[(.int .i64 r7.2.1), (.int .i64 r7.2.2)] hb21 (by kernel_rfl) (by kernel_rfl) (by kernel_rfl) ?_
 intro w24 hg25 hb26 hz27
 refine gv_nil <| gv_seq <| gv_drawA (by kernel_rfl) ?_
 intro w28 hg29
 refine gv_pre [0, 1, 3] (bA 5 [0, 1, 3]) 2 (by kernel_rfl) (by kernel_rfl) ?_
 refine gv_pureN 3 [2, 11, 12] [(2, (.int .i64 ((List.length r7.1 : Nat) : Int)))] (by kernel_rfl) ?_
 refine gv_nil <| gv_goA ?_
 refine gv_stage (Cls w28 []) [0, 1, 2, 3] [(2, some true)] (bA 5 [0, 1, 2, 3]) 1 (by kernel_rfl) (by kernel_rfl) (Cls.refl _ _) ?_
 have hC30 := Cls.refl w28 []
 have hk31 := hb26.grown hg29 nb
 refine gv_loadBox (t := 29) (b := b18) (t' := 29) (fr := (0, 0)) #[(.int .i64 r7.2.1), (.int .i64 r7.2.2)] [] (fun e => by cases e) rfl rfl rfl (by kernel_rfl) (by kernel_rfl) (by kernel_rfl) (by kernel_rfl) (inw1 fun w' hC' => (hC'.box hk31 nm_nil)) rfl ?_
 refine gv_nil <| gv_goA ?_
 refine gv_stage (fun _ => True) [0, 1, 2, 3, 4] [(4, some false)] (bA 5 [0, 1, 2, 3, 4]) 0 (by kernel_rfl) (by kernel_rfl) trivial ?_
 have hg36 := (grown_trans hg11 hg20)
 have hk37 := hb4.grown hg11 nb
 have lt38 := ltl ((ltb hk37) _ rfl) ((lowb hbe22) _ rfl)
 have hk39 := ((hb4.grown hg36 nb).grown hg25 (rowne (ng lt38))).grown hg29 nb
 refine gv_store (t := 29) (b := b1) (off := 0) (v := (.agg #[(.int .i64 r7.2.1), (.int .i64 r7.2.2)])) (t' := 29) (cs := #[(.int .i64 0), (.int .i64 0)]) #[(.int .i64 r7.2.1), (.int .i64 r7.2.2)] (by decide) rfl rfl (by kernel_rfl) (by kernel_rfl) (by kernel_rfl) (by intro u hu; simp [Value.cells] at hu; rcases hu with rfl | rfl <;> rfl) (show 0 + 2 ≤ 2 by decide) (by rfl) hk39 ?_
 intro w32 hg33 hb34 hz35
 refine ⟨(fun _ => trivial), ?_⟩
 refine gv_nil <| gv_goA ?_
 refine gv_stageE (by kernel_rfl) ?_
 refine gv_cret ?_
 have e := sj h0; subst e
 refine gv_ret (gv_done [(.int .i64 ((List.length r7.1 : Nat) : Int)), (.agg #[(.int .i64 r7.2.1), (.int .i64 r7.2.2)])] rfl ⟨(by kernel_rfl), ⟨⟨b1, 0, none⟩, (by kernel_rfl), run_loadVar_row w32 b1 _ 29 _ _ _ hb34 Tryz.underlying29 rfl (by kernel_rfl)⟩, trivial⟩ ?_)
 have hB40 := bg hB9 hg36 nb
 have hB41 := bg hB9 hg11 nb
 have hlo42 : w0.heap.size ≤ b18 := lob hbe22 hB41.size
 have hB43 := bg hB40 hg25 (rowlo hlo42)
 have hB44 := bg hB43 hg29 nb
 have hlo45 : w0.heap.size ≤ b1 := lob hbe5 hB0.size
 have hB46 := bg hB44 hg33 (rowlo hlo45)
 exact ⟨grown_of_below hB46, rfl⟩

theorem integer_Valid_ok (fuel : Nat) (pa0_0 : Option Addr) (pc0_0 : Nat) (a_0 : (Bool × (List Int))) (w0 : World) (X0 : Nat → Prop) (hX0 : ∀ k, X0 k → k < w0.heap.size) (hpa0_0 : Rd (iE .u32) w0 X0 pa0_0 pc0_0 a_0.2) (r0 : Bool) (h0 : integer_Valid fuel a_0 = some r0) :
    Calls Tryz.prog 95 ([(.agg #[(.bool a_0.1), (.slice pa0_0 (List.length a_0.2) pc0_0)])] : List Value).toArray w0 (Ret fun v w' => w0.grownBy w' none ∧ v = tup [(.bool r0)]) := by
 have hB0 : Below w0.heap.size w0 w0 := Below.refl _ _
 unfold integer_Valid at h0
 refine calls_run Tryz.func95 rfl Tryz.ntmps95 (by kernel_rfl) ?_
 refine gv_sub [0] (σ' := [(0, (.agg #[(.bool a_0.1), (.slice pa0_0 (List.length a_0.2) pc0_0)]))]) (by kernel_rfl) ?_
 refine gv_seq <| gv_region <| gv_new0 (fun b => .pointer (some ⟨b, 0, none⟩)) #[(.bool a_0.1), (.slice pa0_0 (List.length a_0.2) pc0_0)] 25 (by kernel_rfl) (by kernel_rfl) ?_
 intro b1 w2 hg3 hb4 hbe5 hz6
 refine gv_pureN 1 [2] [] (by kernel_rfl) ?_
 refine gv_nil <| gv_seq <| gv_region <| gv_pureN 1 [4] [(4, (.pointer (some ⟨b1, 1, none⟩)))] (by kernel_rfl) ?_
 refine gv_load (t := 23) (A := ⟨b1, 1, none⟩) (.slice pa0_0 (List.length a_0.2) pc0_0) [] (fun e => by cases e) rfl rfl rfl (by kernel_rfl) (by kernel_rfl) (by kernel_rfl) (inw0 (hb4.cell 1 rfl)) rfl ?_
 refine gv_pureN 2 [3, 6] [(3, (.int .i64 ((List.length a_0.2 : Nat) : Int)))] (by kernel_rfl) ?_
 refine gv_nil <| gv_seq <| gv_region <| bindE h0 ?_; clear h0; intro j7 h1 h0
 refine gv_cut_ops (J := fun a w8 => Below w0.heap.size w0 w8 ∧ w2.heap.size ≤ w8.heap.size ∧ a.defers = [] ∧ a.tmps.size = 31 ∧ Ok [(2, (.bool j7))] a.tmps) ?_ ?_
 ·skip
  refine gv_pureN 3 [7, 8, 9] [(9, (.bool (decide (((List.length a_0.2 : Nat) : Int) ≤ 128))))] (by kernel_rfl) ?_
  refine gv_split (s := 9) (g := (decide (((List.length a_0.2 : Nat) : Int) ≤ 128))) (by kernel_rfl) (fun hc9 => ?_) (fun hc9 => ?_)
  ·skip
   replace h1 := ite_t hc9 h1
   refine gv_pureN 3 [10, 11, 12] [(12, (.bool (((List.length a_0.2 : Nat) : Int) == 0)))] (by kernel_rfl) ?_
   refine gv_split (s := 12) (g := (((List.length a_0.2 : Nat) : Int) == 0)) (by kernel_rfl) (fun hc10 => ?_) (fun hc10 => ?_)
   ·skip
    replace h1 := ite_t hc10 h1
    refine gv_pureN 1 [13] [(13, (bp b1))] (by kernel_rfl) ?_
    refine gv_load (t := 4) (A := ⟨b1, 0, none⟩) (.bool a_0.1) [] (fun e => by cases e) rfl rfl rfl (by kernel_rfl) (by kernel_rfl) (by kernel_rfl) (inw0 (hb4.cell 0 rfl)) rfl ?_
    refine gv_pureN 3 [15, 16, 17] [(17, (.bool (!a_0.1)))] (by kernel_rfl) ?_
    refine gv_split (s := 17) (g := (!a_0.1)) (by kernel_rfl) (fun hc11 => ?_) (fun hc11 => ?_)
    ·skip
     replace h1 := ite_t hc11 h1
     refine gv_pureN 14 [2, 18, 19, 20, 21, 22, 23, 24, 25, 26, 27, 28, 29, 30] [(2, (.bool true))] (by kernel_rfl) ?_
     refine gv_nil ?_
     have e := sj h1; subst e
     refine gv_goal fun a hd hs hok => ?_
     have hB12 := bg hB0 hg3 nb
     exact ⟨hB12, (Nat.le_refl _), hd, hs, ok_pick [2] hok (by kernel_rfl)⟩
    ·skip
     replace h1 := ite_f hc11 h1
     refine gv_pureN 3 [18, 19, 20] [(20, (.bool (decide (((List.length a_0.2 : Nat) : Int) > 0))))] (by kernel_rfl) ?_
     refine gv_split (s := 20) (g := (decide (((List.length a_0.2 : Nat) : Int) > 0))) (by kernel_rfl) (fun hc13 => ?_) (fun hc13 => ?_)
     ·skip
      replace h1 := ite_t hc13 h1
      refine gv_pureN 1 [21] [(21, (.pointer (some ⟨b1, 1, none⟩)))] (by kernel_rfl) ?_
      refine gv_load (t := 23) (A := ⟨b1, 1, none⟩) (.slice pa0_0 (List.length a_0.2) pc0_0) [] (fun e => by cases e) rfl rfl rfl (by kernel_rfl) (by kernel_rfl) (by kernel_rfl) (inw0 (hb4.cell 1 rfl)) rfl ?_
      refine gv_pureN 2 [23, 24] [(24, (.int .i64 (IntKind.i64.wrap (((List.length a_0.2 : Nat) : Int) - 1))))] (by kernel_rfl) ?_
      refine gv_sub [9, 17, 20, 22, 24] (σ' := [(9, (.bool true)), (17, (.bool false)), (20, (.bool true)), (22, (.slice pa0_0 (List.length a_0.2) pc0_0)), (24, (.int .i64 (IntKind.i64.wrap (((List.length a_0.2 : Nat) : Int) - 1))))]) (by kernel_rfl) ?_
      refine bindE h1 ?_; clear h1; intro x14 hx15 h1
      have hB16 := bg hB0 hg3 nb
      refine gv_idxaddr (t := 23) (e := 76) (a := pa0_0) (len := List.length a_0.2) (cap := pc0_0) (kk := .i64) (i := (IntKind.i64.wrap (((List.length a_0.2 : Nat) : Int) - 1))) (sz := 1) [] (fun e => by cases e) rfl rfl rfl (by kernel_rfl) (by kernel_rfl) Tryz.underlying23 (by kernel_rfl) ((hpa0_0.below hB16 hX0).has hx15) (idx_spec hx15).1 (idx_spec hx15).2.1 rfl ?_
      refine gv_load (t := 76) (A := (elemAddr pa0_0 (((IntKind.i64.wrap (((List.length a_0.2 : Nat) : Int) - 1)) : Int).toNat * 1))) (.int .u32 x14) [] (fun e => by cases e) rfl rfl rfl (by kernel_rfl) (by kernel_rfl) (by kernel_rfl) (inw0 ((hpa0_0.below hB16 hX0).cell hx15)) rfl ?_
      refine gv_pureN 5 [2, 27, 28, 29, 30] [(2, (.bool (x14 != 0)))] (by kernel_rfl) ?_
      refine gv_nil ?_
      have e := sj h1; subst e
      refine gv_goal fun a hd hs hok => ?_
      exact ⟨hB16, (Nat.le_refl _), hd, hs, ok_pick [2] hok (by kernel_rfl)⟩
     ·skip
      replace h1 := ite_f hc13 h1
      refine gv_pureN 11 [2, 21, 22, 23, 24, 25, 26, 27, 28, 29, 30] [(2, (.bool false))] (by kernel_rfl) ?_
      refine gv_nil ?_
      have e := sj h1; subst e
      refine gv_goal fun a hd hs hok => ?_
      have hB17 := bg hB0 hg3 nb
      exact ⟨hB17, (Nat.le_refl _), hd, hs, ok_pick [2] hok (by kernel_rfl)⟩
   ·skip
    replace h1 := ite_f hc10 h1
    refine gv_pureN 8 [13, 14, 15, 16, 17, 18, 19, 20] [(17, (.bool false)), (20, (.bool (decide (((List.length a_0.2 : Nat) : Int) > 0))))] (by kernel_rfl) ?_
    refine gv_split (s := 20) (g := (decide (((List.length a_0.2 : Nat) : Int) > 0))) (by kernel_rfl) (fun hc18 => ?_) (fun hc18 => ?_)
    ·skip
     replace h1 := ite_t hc18 h1
     refine gv_pureN 1 [21] [(21, (.pointer (some ⟨b1, 1, none⟩)))] (by kernel_rfl) ?_
     refine gv_load (t := 23) (A := ⟨b1, 1, none⟩) (.slice pa0_0 (List.length a_0.2) pc0_0) [] (fun e => by cases e) rfl rfl rfl (by kernel_rfl) (by kernel_rfl) (by kernel_rfl) (inw0 (hb4.cell 1 rfl)) rfl ?_
     refine gv_pureN 2 [23, 24] [(24, (.int .i64 (IntKind.i64.wrap (((List.length a_0.2 : Nat) : Int) - 1))))] (by kernel_rfl) ?_
     refine bindE h1 ?_; clear h1; intro x19 hx20 h1
     have hB21 := bg hB0 hg3 nb
     refine gv_idxaddr (t := 23) (e := 76) (a := pa0_0) (len := List.length a_0.2) (cap := pc0_0) (kk := .i64) (i := (IntKind.i64.wrap (((List.length a_0.2 : Nat) : Int) - 1))) (sz := 1) [] (fun e => by cases e) rfl rfl rfl (by kernel_rfl) (by kernel_rfl) Tryz.underlying23 (by kernel_rfl) ((hpa0_0.below hB21 hX0).has hx20) (idx_spec hx20).1 (idx_spec hx20).2.1 rfl ?_
     refine gv_load (t := 76) (A := (elemAddr pa0_0 (((IntKind.i64.wrap (((List.length a_0.2 : Nat) : Int) - 1)) : Int).toNat * 1))) (.int .u32 x19) [] (fun e => by cases e) rfl rfl rfl (by kernel_rfl) (by kernel_rfl) (by kernel_rfl) (inw0 ((hpa0_0.below hB21 hX0).cell hx20)) rfl ?_
     refine gv_pureN 5 [2, 27, 28, 29, 30] [(2, (.bool (x19 != 0)))] (by kernel_rfl) ?_
     refine gv_sub [2] (σ' := [(2, (.bool (x19 != 0)))]) (by kernel_rfl) ?_
     refine gv_nil ?_
     have e := sj h1; subst e
     refine gv_goal fun a hd hs hok => ?_
     exact ⟨hB21, (Nat.le_refl _), hd, hs, ok_pick [2] hok (by kernel_rfl)⟩
    ·skip
     replace h1 := ite_f hc18 h1
     refine gv_pureN 11 [2, 21, 22, 23, 24, 25, 26, 27, 28, 29, 30] [(2, (.bool false))] (by kernel_rfl) ?_
     refine gv_nil ?_
     have e := sj h1; subst e
     refine gv_goal fun a hd hs hok => ?_
     have hB22 := bg hB0 hg3 nb
     exact ⟨hB22, (Nat.le_refl _), hd, hs, ok_pick [2] hok (by kernel_rfl)⟩
  ·skip
   replace h1 := ite_f hc9 h1
   refine gv_pureN 22 [2, 10, 11, 12, 13, 14, 15, 16, 17, 18, 19, 20, 21, 22, 23, 24, 25, 26, 27, 28, 29, 30] [(2, (.bool false))] (by kernel_rfl) ?_
   refine gv_nil ?_
   have e := sj h1; subst e
   refine gv_goal fun a hd hs hok => ?_
   have hB23 := bg hB0 hg3 nb
   exact ⟨hB23, (Nat.le_refl _), hd, hs, ok_pick [2] hok (by kernel_rfl)⟩
 ·rintro a w8 ⟨hB24, hz25, hd, hs, hok⟩
  refine gv_in ?_ hd hs hok
  clear hd hs hok
  clear hz25 hz6 hbe5 hb4 hg3
  refine gv_cret ?_
  have e := sj h0; subst e
  refine gv_ret (gv_done [(.bool j7)] rfl ⟨(by kernel_rfl), trivial⟩ ?_)
  exact ⟨grown_of_below hB24, rfl⟩

theorem slicing_part_ok (fuel : Nat) (pa0_0 : Option Addr) (pc0_0 : Nat) (a_0 : (Bool × (List Int))) (given_1 : Bool) (w0 : World) (X0 : Nat → Prop) (hX0 : ∀ k, X0 k → k < w0.heap.size) (hpa0_0 : Rd (iE .u32) w0 X0 pa0_0 pc0_0 a_0.2) (r0 : Bool) (h0 : slicing_part fuel a_0 given_1 = some r0) :
    Calls Tryz.prog 79 ([(.agg #[(.bool a_0.1), (.slice pa0_0 (List.length a_0.2) pc0_0)]), (.bool given_1)] : List Value).toArray w0 (Ret fun v w' => w0.grownBy w' none ∧ v = tup [(.bool r0)]) := by
 have hB0 : Below w0.heap.size w0 w0 := Below.refl _ _
 unfold slicing_part at h0
 refine calls_run Tryz.func79 rfl Tryz.ntmps79 (by kernel_rfl) ?_
 refine gv_sub [0, 1] (σ' := [(0, (.agg #[(.bool a_0.1), (.slice pa0_0 (List.length a_0.2) pc0_0)])), (1, (.bool given_1))]) (by kernel_rfl) ?_
 refine gv_seq <| gv_region <| gv_new0 (fun b => .pointer (some ⟨b, 0, none⟩)) #[(.bool a_0.1), (.slice pa0_0 (List.length a_0.2) pc0_0)] 25 (by kernel_rfl) (by kernel_rfl) ?_
 intro b1 w2 hg3 hb4 hbe5 hz6
 refine gv_pureN 1 [4] [] (by kernel_rfl) ?_
 refine gv_nil <| gv_seq <| gv_region <| bindE h0 ?_; clear h0; intro j7 h1 h0
 refine gv_cut_ops (J := fun a w8 => Below w0.heap.size w0 w8 ∧ w2.heap.size ≤ w8.heap.size ∧ a.defers = [] ∧ a.tmps.size = 16 ∧ Ok [(4, (.bool j7))] a.tmps) ?_ ?_
 ·skip
  refine gv_loadBox (t := 25) (b := b1) (t' := 25) (fr := (0, 0)) #[(.bool a_0.1), (.slice pa0_0 (List.length a_0.2) pc0_0)] [] (fun e => by cases e) rfl rfl rfl (by kernel_rfl) (by kernel_rfl) (by kernel_rfl) (by kernel_rfl) (inw0 hb4) rfl ?_
  refine bindE h1 ?_; clear h1; intro r9 hr10 h1
  have hB11 := bg hB0 hg3 nb
  refine gv_call0 (by kernel_rfl) rfl (by kernel_rfl) enters95 (integer_Valid_ok fuel pa0_0 pc0_0 (a_0.1, a_0.2) w2 (fun k => X0 k) (fun k hk => (fun k (hk : X0 k) => ltl (hX0 k hk) hB11.size) k hk) ((hpa0_0.below hB11 hX0).wide (fun k hk => hk)) r9 hr10) ?_
  rintro v14 w12 ⟨hg13, rfl⟩
  refine gv_pureN 1 [7] [(7, (.bool r9))] (by kernel_rfl) ?_
  refine gv_split (s := 7) (g := r9) (by kernel_rfl) (fun hc15 => ?_) (fun hc15 => ?_)
  ·skip
   replace h1 := ite_t hc15 h1
   refine gv_pureN 2 [8, 9] [(9, (.bool given_1))] (by kernel_rfl) ?_
   refine gv_split (s := 9) (g := given_1) (by kernel_rfl) (fun hc16 => ?_) (fun hc16 => ?_)
   ·skip
    replace h1 := ite_t hc16 h1
    refine gv_pureN 7 [4, 10, 11, 12, 13, 14, 15] [(4, (.bool true))] (by kernel_rfl) ?_
    refine gv_nil ?_
    have e := sj h1; subst e
    refine gv_goal fun a hd hs hok => ?_
    have hB17 := bg hB11 hg13 nb
    have hz18 := hg13.size
    exact ⟨hB17, hz18, hd, hs, ok_pick [4] hok (by kernel_rfl)⟩
   ·skip
    replace h1 := ite_f hc16 h1
    refine gv_pureN 1 [10] [(10, (.pointer (some ⟨b1, 1, none⟩)))] (by kernel_rfl) ?_
    have hk19 := hb4.grown hg13 nb
    refine gv_load (t := 23) (A := ⟨b1, 1, none⟩) (.slice pa0_0 (List.length a_0.2) pc0_0) [] (fun e => by cases e) rfl rfl rfl (by kernel_rfl) (by kernel_rfl) (by kernel_rfl) (inw0 (hk19.cell 1 rfl)) rfl ?_
    refine gv_pureN 5 [4, 12, 13, 14, 15] [(4, (.bool (((List.length a_0.2 : Nat) : Int) == 0)))] (by kernel_rfl) ?_
    refine gv_nil ?_
    have e := sj h1; subst e
    refine gv_goal fun a hd hs hok => ?_
    have hB20 := bg hB11 hg13 nb
    have hz21 := hg13.size
    exact ⟨hB20, hz21, hd, hs, ok_pick [4] hok (by kernel_rfl)⟩
  ·skip
   replace h1 := ite_f hc15 h1
   refine gv_pureN 9 [4, 8, 9, 10, 11, 12, 13, 14, 15] [(4, (.bool false))] (by kernel_rfl) ?_
   refine gv_nil ?_
   have e := sj h1; subst e
   refine gv_goal fun a hd hs hok => ?_
   have hB22 := bg hB11 hg13 nb
   have hz23 := hg13.size
   exact ⟨hB22, hz23, hd, hs, ok_pick [4] hok (by kernel_rfl)⟩
 ·rintro a w8 ⟨hB24, hz25, hd, hs, hok⟩
  refine gv_in ?_ hd hs hok
  clear hd hs hok
  clear hz25 hz6 hbe5 hb4 hg3
  refine gv_cret ?_
  have e := sj h0; subst e
  refine gv_ret (gv_done [(.bool j7)] rfl ⟨(by kernel_rfl), trivial⟩ ?_)
  exact ⟨grown_of_below hB24, rfl⟩

theorem slicing_at_ok (fuel : Nat) (code_0 : Int) (index_1 : Int) (w0 : World)  (r0 : (Int × Int)) (h0 : slicing_at fuel code_0 index_1 = some r0) :
    Calls Tryz.prog 60 ([(.int .i64 code_0), (.int .i64 index_1)] : List Value).toArray w0 (Ret fun v w' => w0.grownBy w' none ∧ v = tup [(.agg #[(.int .i64 r0.1), (.int .i64 r0.2)])]) := by
 have hB0 : Below w0.heap.size w0 w0 := Below.refl _ _
 unfold slicing_at at h0
 refine calls_run Tryz.func60 rfl Tryz.ntmps60 (by kernel_rfl) ?_
 refine gv_sub [0, 1] (σ' := [(0, (.int .i64 code_0)), (1, (.int .i64 index_1))]) (by kernel_rfl) ?_
 refine gv_seq <| gv_region <| gv_new0 (fun b => .pointer (some ⟨b, 0, none⟩)) #[(.int .i64 0), (.int .i64 0)] 29 (by kernel_rfl) (by kernel_rfl) ?_
 intro b1 w2 hg3 hb4 hbe5 hz6
 refine gv_nil <| gv_seq <| gv_region <| gv_pureN 3 [5, 6, 7] [(7, (.agg #[(.int .i64 code_0), (.int .i64 index_1)]))] (by kernel_rfl) ?_
 refine gv_store0 29 0 (.agg #[(.int .i64 code_0), (.int .i64 index_1)]) #[(.int .i64 code_0), (.int .i64 index_1)] hb4 (by kernel_rfl) (by kernel_rfl) (by kernel_rfl) ?_
 intro w7 hg8 hb9 hz10
 refine gv_nil <| gv_cret ?_
 have e := sj h0; subst e
 refine gv_ret (gv_done [(.agg #[(.int .i64 code_0), (.int .i64 index_1)])] rfl ⟨⟨⟨b1, 0, none⟩, (by kernel_rfl), run_loadVar_row w7 b1 _ 29 _ _ _ hb9 Tryz.underlying29 rfl (by kernel_rfl)⟩, trivial⟩ ?_)
 have hB11 := bg hB0 hg3 nb
 have hlo12 : w0.heap.size ≤ b1 := lob hbe5 hB0.size
 have hB13 := bg hB11 hg8 (rowlo hlo12)
 exact ⟨grown_of_below hB13, rfl⟩

theorem slicing_Check_ok (fuel : Nat) (pa0_0 : Option Addr) (pc0_0 : Nat) (pa0_1 : Option Addr) (pc0_1 : Nat) (pa0_2 : Option Addr) (pc0_2 : Nat) (s_0 : ((Bool × (List Int)) × (Bool × (List Int)) × (Bool × (List Int)) × Bool × Bool × Bool)) (w0 : World) (X0 : Nat → Prop) (hX0 : ∀ k, X0 k → k < w0.heap.size) (hpa0_0 : Rd (iE .u32) w0 X0 pa0_0 pc0_0 s_0.1.2) (hpa0_1 : Rd (iE .u32) w0 X0 pa0_1 pc0_1 s_0.2.1.2) (hpa0_2 : Rd (iE .u32) w0 X0 pa0_2 pc0_2 s_0.2.2.1.2) (r0 : (Int × Int)) (h0 : slicing_Check fuel s_0 = some r0) :
    Calls Tryz.prog 59 ([(.agg #[(.bool s_0.1.1), (.slice pa0_0 (List.length s_0.1.2) pc0_0), (.bool s_0.2.1.1), (.slice pa0_1 (List.length s_0.2.1.2) pc0_1), (.bool s_0.2.2.1.1), (.slice pa0_2 (List.length s_0.2.2.1.2) pc0_2), (.bool s_0.2.2.2.1), (.bool s_0.2.2.2.2.1), (.bool s_0.2.2.2.2.2)])] : List Value).toArray w0 (Ret fun v w' => w0.grownBy w' none ∧ v = tup [(.agg #[(.int .i64 r0.1), (.int .i64 r0.2)])]) := by
 have hB0 : Below w0.heap.size w0 w0 := Below.refl _ _
 unfold slicing_Check at h0
 refine calls_run Tryz.func59 rfl Tryz.ntmps59 (by kernel_rfl) ?_
 refine gv_sub [0] (σ' := [(0, (.agg #[(.bool s_0.1.1), (.slice pa0_0 (List.length s_0.1.2) pc0_0), (.bool s_0.2.1.1), (.slice pa0_1 (List.length s_0.2.1.2) pc0_1), (.bool s_0.2.2.1.1), (.slice pa0_2 (List.length s_0.2.2.1.2) pc0_2), (.bool s_0.2.2.2.1), (.bool s_0.2.2.2.2.1), (.bool s_0.2.2.2.2.2)]))]) (by kernel_rfl) ?_
 refine gv_seq <| gv_region <| gv_new0 (fun b => .pointer (some ⟨b, 0, none⟩)) #[(.bool s_0.1.1), (.slice pa0_0 (List.length s_0.1.2) pc0_0), (.bool s_0.2.1.1), (.slice pa0_1 (List.length s_0.2.1.2) pc0_1), (.bool s_0.2.2.1.1), (.slice pa0_2 (List.length s_0.2.2.1.2) pc0_2), (.bool s_0.2.2.2.1), (.bool s_0.2.2.2.2.1), (.bool s_0.2.2.2.2.2)] 27 (by kernel_rfl) (by kernel_rfl) ?_
 intro b1 w2 hg3 hb4 hbe5 hz6
 refine gv_new0 (fun b => .pointer (some ⟨b, 0, none⟩)) #[(.int .i64 0), (.int .i64 0)] 29 (by kernel_rfl) (by kernel_rfl) ?_
 intro b7 w8 hg9 hb10 hbe11 hz12
 refine gv_nil <| gv_seq <| gv_seq <| gv_region <| bindE h0 ?_; clear h0; intro j13 h1 h0
 refine gv_cut_ops (J := fun a w14 => Below w0.heap.size w0 w14 ∧ w8.heap.size ≤ w14.heap.size ∧ Box w14 b1 27 #[(.bool s_0.1.1), (.slice pa0_0 (List.length s_0.1.2) pc0_0), (.bool s_0.2.1.1), (.slice pa0_1 (List.length s_0.2.1.2) pc0_1), (.bool s_0.2.2.1.1), (.slice pa0_2 (List.length s_0.2.2.1.2) pc0_2), (.bool s_0.2.2.2.1), (.bool s_0.2.2.2.2.1), (.bool s_0.2.2.2.2.2)] ∧ Box w14 b7 29 #[(.int .i64 0), (.int .i64 0)] ∧ a.defers = [] ∧ a.tmps.size = 37 ∧ Ok [(1, (bp b1)), (2, (bp b7)), (24, (.bool j13))] a.tmps) ?_ ?_
 ·skip
  refine gv_pureN 1 [3] [(3, (bp b1))] (by kernel_rfl) ?_
  have hk15 := hb4.grown hg9 nb
  refine gv_loadAgg (t := 25) (A := ⟨b1, 0, none⟩) #[(.bool s_0.1.1), (.slice pa0_0 (List.length s_0.1.2) pc0_0)] [] (fun e => by cases e) rfl rfl rfl (by kernel_rfl) (by kernel_rfl) (by kernel_rfl) (by kernel_rfl) (inw0 (Box.part hk15 0 _ rfl)) rfl ?_
  refine gv_pureN 1 [5] [(5, (.pointer (some ⟨b1, 6, none⟩)))] (by kernel_rfl) ?_
  refine gv_load (t := 4) (A := ⟨b1, 6, none⟩) (.bool s_0.2.2.2.1) [] (fun e => by cases e) rfl rfl rfl (by kernel_rfl) (by kernel_rfl) (by kernel_rfl) (inw0 (hk15.cell 6 rfl)) rfl ?_
  refine bindE h1 ?_; clear h1; intro r16 hr17 h1
  have hg18 := (grown_trans hg3 hg9)
  have hB19 := bg hB0 hg18 nb
  refine gv_call0 (by kernel_rfl) rfl (by kernel_rfl) enters79 (slicing_part_ok fuel pa0_0 pc0_0 (s_0.1.1, s_0.1.2) s_0.2.2.2.1 w8 (fun k => X0 k) (fun k hk => (fun k (hk : X0 k) => ltl (hX0 k hk) hB19.size) k hk) ((hpa0_0.below hB19 hX0).wide (fun k hk => hk)) r16 hr17) ?_
  rintro v22 w20 ⟨hg21, rfl⟩
  refine gv_pureN 2 [8, 9] [(9, (.bool (!r16)))] (by kernel_rfl) ?_
  refine gv_split (s := 9) (g := (!r16)) (by kernel_rfl) (fun hc23 => ?_) (fun hc23 => ?_)
  ·skip
   replace h1 := ite_t hc23 h1
   refine gv_pureN 15 [10, 11, 12, 13, 14, 15, 16, 17, 18, 19, 20, 21, 22, 23, 24] [(24, (.bool true))] (by kernel_rfl) ?_
   refine gv_nil ?_
   have e := sj h1; subst e
   refine gv_goal fun a hd hs hok => ?_
   have hB24 := bg hB19 hg21 nb
   have hz25 := hg21.size
   have hk26 := hk15.grown hg21 nb
   have hk27 := hb10.grown hg21 nb
   exact ⟨hB24, hz25, hk26, hk27, hd, hs, ok_pick [1, 2, 24] hok (by kernel_rfl)⟩
  ·skip
   replace h1 := ite_f hc23 h1
   refine gv_pureN 1 [10] [(10, (.pointer (some ⟨b1, 2, none⟩)))] (by kernel_rfl) ?_
   have hk28 := hk15.grown hg21 nb
   refine gv_loadAgg (t := 25) (A := ⟨b1, 2, none⟩) #[(.bool s_0.2.1.1), (.slice pa0_1 (List.length s_0.2.1.2) pc0_1)] [] (fun e => by cases e) rfl rfl rfl (by kernel_rfl) (by kernel_rfl) (by kernel_rfl) (by kernel_rfl) (inw0 (Box.part hk28 2 _ rfl)) rfl ?_
   refine gv_pureN 1 [12] [(12, (.pointer (some ⟨b1, 7, none⟩)))] (by kernel_rfl) ?_
   refine gv_load (t := 4) (A := ⟨b1, 7, none⟩) (.bool s_0.2.2.2.2.1) [] (fun e => by cases e) rfl rfl rfl (by kernel_rfl) (by kernel_rfl) (by kernel_rfl) (inw0 (hk28.cell 7 rfl)) rfl ?_
   refine bindE h1 ?_; clear h1; intro r29 hr30 h1
   have hB31 := bg hB19 hg21 nb
   refine gv_call0 (by kernel_rfl) rfl (by kernel_rfl) enters79 (slicing_part_ok fuel pa0_1 pc0_1 (s_0.2.1.1, s_0.2.1.2) s_0.2.2.2.2.1 w20 (fun k => X0 k) (fun k hk => (fun k (hk : X0 k) => ltl (hX0 k hk) hB31.size) k hk) ((hpa0_1.below hB31 hX0).wide (fun k hk => hk)) r29 hr30) ?_
   rintro v34 w32 ⟨hg33, rfl⟩
   refine gv_pureN 3 [15, 16, 17] [(17, (.bool (!r29)))] (by kernel_rfl) ?_
   refine gv_sub [1, 2, 17] (σ' := [(1, (bp b1)), (2, (bp b7)), (17, (.bool (!r29)))]) (by kernel_rfl) ?_
   refine gv_split (s := 17) (g := (!r29)) (by kernel_rfl) (fun hc35 => ?_) (fun hc35 => ?_)
   ·skip
    replace h1 := ite_t hc35 h1
    refine gv_pureN 7 [18, 19, 20, 21, 22, 23, 24] [(24, (.bool true))] (by kernel_rfl) ?_
    refine gv_nil ?_
    have e := sj h1; subst e
    refine gv_goal fun a hd hs hok => ?_
    have hB36 := bg hB31 hg33 nb
    have hz37 := (nt hg21.size hg33.size)
    have hk38 := hk28.grown hg33 nb
    have hg39 := (grown_trans hg21 hg33)
    have hk40 := hb10.grown hg39 nb
    exact ⟨hB36, hz37, hk38, hk40, hd, hs, ok_pick [1, 2, 24] hok (by kernel_rfl)⟩
   ·skip
    replace h1 := ite_f hc35 h1
    refine gv_pureN 1 [18] [(18, (.pointer (some ⟨b1, 4, none⟩)))] (by kernel_rfl) ?_
    have hk41 := hk28.grown hg33 nb
    refine gv_loadAgg (t := 25) (A := ⟨b1, 4, none⟩) #[(.bool s_0.2.2.1.1), (.slice pa0_2 (List.length s_0.2.2.1.2) pc0_2)] [] (fun e => by cases e) rfl rfl rfl (by kernel_rfl) (by kernel_rfl) (by kernel_rfl) (by kernel_rfl) (inw0 (Box.part hk41 4 _ rfl)) rfl ?_
    refine gv_pureN 1 [20] [(20, (.pointer (some ⟨b1, 8, none⟩)))] (by kernel_rfl) ?_
    refine gv_load (t := 4) (A := ⟨b1, 8, none⟩) (.bool s_0.2.2.2.2.2) [] (fun e => by cases e) rfl rfl rfl (by kernel_rfl) (by kernel_rfl) (by kernel_rfl) (inw0 (hk41.cell 8 rfl)) rfl ?_
    refine bindE h1 ?_; clear h1; intro r42 hr43 h1
    have hB44 := bg hB31 hg33 nb
    refine gv_call0 (by kernel_rfl) rfl (by kernel_rfl) enters79 (slicing_part_ok fuel pa0_2 pc0_2 (s_0.2.2.1.1, s_0.2.2.1.2) s_0.2.2.2.2.2 w32 (fun k => X0 k) (fun k hk => (fun k (hk : X0 k) => ltl (hX0 k hk) hB44.size) k hk) ((hpa0_2.below hB44 hX0).wide (fun k hk => hk)) r42 hr43) ?_
    rintro v47 w45 ⟨hg46, rfl⟩
    refine gv_pureN 2 [23, 24] [(24, (.bool (!r42)))] (by kernel_rfl) ?_
    refine gv_nil ?_
    have e := sj h1; subst e
    refine gv_goal fun a hd hs hok => ?_
    have hB48 := bg hB44 hg46 nb
    have hz49 := (nt (nt hg21.size hg33.size) hg46.size)
    have hk50 := hk41.grown hg46 nb
    have hg51 := (grown_trans (grown_trans hg21 hg33) hg46)
    have hk52 := hb10.grown hg51 nb
    exact ⟨hB48, hz49, hk50, hk52, hd, hs, ok_pick [1, 2, 24] hok (by kernel_rfl)⟩
 ·rintro a w14 ⟨hB53, hz54, hb55, hb56, hd, hs, hok⟩
  refine gv_in ?_ hd hs hok
  clear hd hs hok
  clear hz54 hz12 hb10 hg9 hz6
  refine gv_cond (b := j13) (by kernel_rfl) (fun hc57 => ?_) (fun hc57 => ?_)
  ·replace h0 := ite_t hc57 h0
   refine gv_seq <| gv_region <| bindE h0 ?_; clear h0; intro r58 hr59 h0
   refine gv_call0 (by kernel_rfl) rfl (by kernel_rfl) enters60 (slicing_at_ok fuel 6 (-1) w14  r58 hr59) ?_
   rintro v62 w60 ⟨hg61, rfl⟩
   have hk67 := hb56.grown hg61 nb
   refine gv_store0 29 0 (.agg #[(.int .i64 r58.1), (.int .i64 r58.2)]) #[(.int .i64 r58.1), (.int .i64 r58.2)] hk67 (by kernel_rfl) (by kernel_rfl) (by kernel_rfl) ?_
   intro w63 hg64 hb65 hz66
   refine gv_nil <| gv_cret ?_
   have e := sj h0; subst e
   refine gv_ret (gv_done [(.agg #[(.int .i64 r58.1), (.int .i64 r58.2)])] rfl ⟨⟨⟨b7, 0, none⟩, (by kernel_rfl), run_loadVar_row w63 b7 _ 29 _ _ _ hb65 Tryz.underlying29 rfl (by kernel_rfl)⟩, trivial⟩ ?_)
   have hB68 := bg hB53 hg61 nb
   have hB69 := bg hB0 hg3 nb
   have hlo70 : w0.heap.size ≤ b7 := lob hbe11 hB69.size
   have hB71 := bg hB68 hg64 (rowlo hlo70)
   exact ⟨grown_of_below hB71, rfl⟩
  ·replace h0 := ite_f hc57 h0
   refine gv_skip <| gv_seq <| gv_seq <| gv_region <| bindE h0 ?_; clear h0; intro j72 h1 h0
   refine gv_cut_ops (J := fun a w73 => Below w0.heap.size w0 w73 ∧ w14.heap.size ≤ w73.heap.size ∧ Box w73 b7 29 #[(.int .i64 0), (.int .i64 0)] ∧ a.defers = [] ∧ a.tmps.size = 37 ∧ Ok [(2, (bp b7)), (34, (.bool j72))] a.tmps) ?_ ?_
   ·skip
    refine gv_pureN 1 [26] [(26, (.pointer (some ⟨b1, 8, none⟩)))] (by kernel_rfl) ?_
    refine gv_load (t := 4) (A := ⟨b1, 8, none⟩) (.bool s_0.2.2.2.2.2) [] (fun e => by cases e) rfl rfl rfl (by kernel_rfl) (by kernel_rfl) (by kernel_rfl) (inw0 (hb55.cell 8 rfl)) rfl ?_
    refine gv_pureN 1 [28] [(28, (.bool s_0.2.2.2.2.2))] (by kernel_rfl) ?_
    refine gv_split (s := 28) (g := s_0.2.2.2.2.2) (by kernel_rfl) (fun hc74 => ?_) (fun hc74 => ?_)
    ·skip
     replace h1 := ite_t hc74 h1
     refine gv_pureN 2 [29, 30] [(30, (.pointer (some ⟨b1, 5, none⟩)))] (by kernel_rfl) ?_
     refine gv_load (t := 23) (A := ⟨b1, 5, none⟩) (.slice pa0_2 (List.length s_0.2.2.1.2) pc0_2) [] (fun e => by cases e) rfl rfl rfl (by kernel_rfl) (by kernel_rfl) (by kernel_rfl) (inw0 (hb55.cell 5 rfl)) rfl ?_
     refine gv_pureN 3 [32, 33, 34] [(34, (.bool (((List.length s_0.2.2.1.2 : Nat) : Int) == 0)))] (by kernel_rfl) ?_
     refine gv_nil ?_
     have e := sj h1; subst e
     refine gv_goal fun a hd hs hok => ?_
     exact ⟨hB53, (Nat.le_refl _), hb56, hd, hs, ok_pick [2, 34] hok (by kernel_rfl)⟩
    ·skip
     replace h1 := ite_f hc74 h1
     refine gv_pureN 6 [29, 30, 31, 32, 33, 34] [(34, (.bool false))] (by kernel_rfl) ?_
     refine gv_nil ?_
     have e := sj h1; subst e
     refine gv_goal fun a hd hs hok => ?_
     exact ⟨hB53, (Nat.le_refl _), hb56, hd, hs, ok_pick [2, 34] hok (by kernel_rfl)⟩
   ·rintro a w73 ⟨hB75, hz76, hb77, hd, hs, hok⟩
    refine gv_in ?_ hd hs hok
    clear hd hs hok
    clear hz76 hc57 hb56 hb55 hB53 hbe5 hb4
    refine gv_cond (b := j72) (by kernel_rfl) (fun hc78 => ?_) (fun hc78 => ?_)
    ·replace h0 := ite_t hc78 h0
     refine gv_seq <| gv_region <| bindE h0 ?_; clear h0; intro r79 hr80 h0
     refine gv_call0 (by kernel_rfl) rfl (by kernel_rfl) enters60 (slicing_at_ok fuel 22 (-1) w73  r79 hr80) ?_
     rintro v83 w81 ⟨hg82, rfl⟩
     have hk88 := hb77.grown hg82 nb
     refine gv_store0 29 0 (.agg #[(.int .i64 r79.1), (.int .i64 r79.2)]) #[(.int .i64 r79.1), (.int .i64 r79.2)] hk88 (by kernel_rfl) (by kernel_rfl) (by kernel_rfl) ?_
     intro w84 hg85 hb86 hz87
     refine gv_nil <| gv_cret ?_
     have e := sj h0; subst e
     refine gv_ret (gv_done [(.agg #[(.int .i64 r79.1), (.int .i64 r79.2)])] rfl ⟨⟨⟨b7, 0, none⟩, (by kernel_rfl), run_loadVar_row w84 b7 _ 29 _ _ _ hb86 Tryz.underlying29 rfl (by kernel_rfl)⟩, trivial⟩ ?_)
     have hB89 := bg hB75 hg82 nb
     have hB90 := bg hB0 hg3 nb
     have hlo91 : w0.heap.size ≤ b7 := lob hbe11 hB90.size
     have hB92 := bg hB89 hg85 (rowlo hlo91)
     exact ⟨grown_of_below hB92, rfl⟩
    ·replace h0 := ite_f hc78 h0
     refine gv_skip <| gv_seq <| gv_region <| gv_pureN 1 [36] [(36, (.agg #[(.int .i64 0), (.int .i64 0)]))] (by kernel_rfl) ?_
     refine gv_store0 29 0 (.agg #[(.int .i64 0), (.int .i64 0)]) #[(.int .i64 0), (.int .i64 0)] hb77 (by kernel_rfl) (by kernel_rfl) (by kernel_rfl) ?_
     intro w93 hg94 hb95 hz96
     refine gv_nil <| gv_cret ?_
     have e := sj h0; subst e
     refine gv_ret (gv_done [(.agg #[(.int .i64 0), (.int .i64 0)])] rfl ⟨⟨⟨b7, 0, none⟩, (by kernel_rfl), run_loadVar_row w93 b7 _ 29 _ _ _ hb95 Tryz.underlying29 rfl (by kernel_rfl)⟩, trivial⟩ ?_)
     have hB97 := bg hB0 hg3 nb
     have hlo98 : w0.heap.size ≤ b7 := lob hbe11 hB97.size
     have hB99 := bg hB75 hg94 (rowlo hlo98)
     exact ⟨grown_of_below hB99, rfl⟩

theorem integer_at_ok (fuel : Nat) (code_0 : Int) (index_1 : Int) (w0 : World)  (r0 : (Int × Int)) (h0 : integer_at fuel code_0 index_1 = some r0) :
    Calls Tryz.prog 97 ([(.int .i64 code_0), (.int .i64 index_1)] : List Value).toArray w0 (Ret fun v w' => w0.grownBy w' none ∧ v = tup [(.agg #[(.int .i64 r0.1), (.int .i64 r0.2)])]) := by
 have hB0 : Below w0.heap.size w0 w0 := Below.refl _ _
 unfold integer_at at h0
 refine calls_run Tryz.func97 rfl Tryz.ntmps97 (by kernel_rfl) ?_
 refine gv_sub [0, 1] (σ' := [(0, (.int .i64 code_0)), (1, (.int .i64 index_1))]) (by kernel_rfl) ?_
 refine gv_seq <| gv_region <| gv_new0 (fun b => .pointer (some ⟨b, 0, none⟩)) #[(.int .i64 0), (.int .i64 0)] 29 (by kernel_rfl) (by kernel_rfl) ?_
 intro b1 w2 hg3 hb4 hbe5 hz6
 refine gv_nil <| gv_seq <| gv_region <| gv_pureN 3 [5, 6, 7] [(7, (.agg #[(.int .i64 code_0), (.int .i64 index_1)]))] (by kernel_rfl) ?_
 refine gv_store0 29 0 (.agg #[(.int .i64 code_0), (.int .i64 index_1)]) #[(.int .i64 code_0), (.int .i64 index_1)] hb4 (by kernel_rfl) (by kernel_rfl) (by kernel_rfl) ?_
 intro w7 hg8 hb9 hz10
 refine gv_nil <| gv_cret ?_
 have e := sj h0; subst e
 refine gv_ret (gv_done [(.agg #[(.int .i64 code_0), (.int .i64 index_1)])] rfl ⟨⟨⟨b1, 0, none⟩, (by kernel_rfl), run_loadVar_row w7 b1 _ 29 _ _ _ hb9 Tryz.underlying29 rfl (by kernel_rfl)⟩, trivial⟩ ?_)
 have hB11 := bg hB0 hg3 nb
 have hlo12 : w0.heap.size ≤ b1 := lob hbe5 hB0.size
 have hB13 := bg hB11 hg8 (rowlo hlo12)
 exact ⟨grown_of_below hB13, rfl⟩

theorem integer_check_ok (fuel : Nat) (pa0_0 : Option Addr) (pc0_0 : Nat) (l_0 : (List (Bool × (List Int)))) (w0 : World) (X0 : Nat → Prop) (hX0 : ∀ k, X0 k → k < w0.heap.size) (hpa0_0 : Rd (prE tE (slE (iE .u32))) w0 X0 pa0_0 pc0_0 l_0) (r0 : (Int × Int)) (h0 : integer_check fuel l_0 = some r0) :
    Calls Tryz.prog 96 ([(.slice pa0_0 (List.length l_0) pc0_0)] : List Value).toArray w0 (Ret fun v w' => w0.grownBy w' none ∧ v = tup [(.agg #[(.int .i64 r0.1), (.int .i64 r0.2)])]) := by
 have hB0 : Below w0.heap.size w0 w0 := Below.refl _ _
 unfold integer_check at h0
 refine calls_run Tryz.func96 rfl Tryz.ntmps96 (by kernel_rfl) ?_
 refine gv_sub [0] (σ' := [(0, (.slice pa0_0 (List.length l_0) pc0_0))]) (by kernel_rfl) ?_
 refine gv_seq <| gv_region <| gv_new0 (fun b => .pointer (some ⟨b, 0, none⟩)) #[(.int .i64 0), (.int .i64 0)] 29 (by kernel_rfl) (by kernel_rfl) ?_
 intro b1 w2 hg3 hb4 hbe5 hz6
 refine gv_nil <| gv_seq <| gv_seq <| gv_region <| gv_pureN 3 [5, 6, 7] [(5, (.slice pa0_0 (List.length l_0) pc0_0)), (6, (.int .i64 ((List.length l_0 : Nat) : Int))), (7, (.int .i64 0))] (by kernel_rfl) ?_
 refine gv_nil <| bindE h0 ?_; clear h0; intro j7 h1 h0
 refine gv_cut_code (J := fun a w9 => ∃ s8 : (Int × Int), j7 = .inl s8 ∧ Below w0.heap.size w0 w9 ∧ w2.heap.size ≤ w9.heap.size ∧ Box w9 b1 29 #[(.int .i64 s8.1), (.int .i64 s8.2)] ∧ a.defers = [] ∧ a.tmps.size = 20 ∧ Ok [(2, (bp b1))] a.tmps) ?_ ?_
 ·skip
  refine gv_block <| gv_loop (A := fun (s10 : (Int × (Int × Int))) a w11 => Below w0.heap.size w0 w11 ∧ w2.heap.size ≤ w11.heap.size ∧ Box w11 b1 29 #[(.int .i64 s10.2.1), (.int .i64 s10.2.2)] ∧ a.defers = [] ∧ a.tmps.size = 20 ∧ Ok [(2, (bp b1)), (5, (.slice pa0_0 (List.length l_0) pc0_0)), (6, (.int .i64 ((List.length l_0 : Nat) : Int))), (7, (.int .i64 s10.1))] a.tmps) h1 ?_ ?_
  ·intro a hd hs hok
   have hB12 := bg hB0 hg3 nb
   exact ⟨hB12, (Nat.le_refl _), hb4, hd, hs, ok_pick [2, 5, 6, 7] hok (by kernel_rfl)⟩
  ·rintro s10 r2 h2 hR2 a w11 ⟨hB13, hz14, hb15, hd, hs, hok⟩
   refine gv_in ?_ hd hs hok
   clear hd hs hok
   refine gv_seq <| gv_region <| gv_pureN 1 [8] [(8, (.bool (decide (s10.1 < ((List.length l_0 : Nat) : Int)))))] (by kernel_rfl) ?_
   refine gv_nil <| gv_seq <| gv_cond (b := (decide (s10.1 < ((List.length l_0 : Nat) : Int)))) (by kernel_rfl) (fun hc16 => ?_) (fun hc16 => ?_)
   ·replace h2 := ite_t hc16 h2
    refine gv_skip <| gv_seq <| gv_block <| gv_seq <| gv_region <| gv_pureN 1 [9] [(9, (.int .i64 s10.1))] (by kernel_rfl) ?_
    refine bindE h2 ?_; clear h2; intro x17 hx18 h2
    refine gv_idxaddr (t := 67) (e := 25) (a := pa0_0) (len := List.length l_0) (cap := pc0_0) (kk := .i64) (i := s10.1) (sz := 2) [] (fun e => by cases e) rfl rfl rfl (by kernel_rfl) (by kernel_rfl) Tryz.underlying67 (by kernel_rfl) ((hpa0_0.below hB13 hX0).has hx18) (idx_spec hx18).1 (idx_spec hx18).2.1 rfl ?_
    obtain ⟨_, ⟨_, _, rfl, rfl, ⟨a20, c21, rfl, hr22⟩⟩, hc19⟩ := hpa0_0.cellsK hx18
    refine gv_loadAgg (t := 25) (A := (elemAddr pa0_0 ((s10.1 : Int).toNat * 2))) #[(.bool x17.1), (.slice a20 (List.length x17.2) c21)] [] (fun e => by cases e) rfl rfl rfl (by kernel_rfl) (by kernel_rfl) (by kernel_rfl) (by kernel_rfl) (inw0 (hc19 w11 (fun k hk => hB13.block k (hX0 k hk)))) rfl ?_
    refine gv_new0 (fun b => .pointer (some ⟨b, 0, none⟩)) #[(.bool false), (.slice none (List.length ([] : List Int)) 0)] 25 (by kernel_rfl) (by kernel_rfl) ?_
    intro b23 w24 hg25 hb26 hbe27 hz28
    refine gv_pureN 1 [3] [(3, (.int .i64 s10.1))] (by kernel_rfl) ?_
    refine gv_store0 25 0 (.agg #[(.bool x17.1), (.slice a20 (List.length x17.2) c21)]) #[(.bool x17.1), (.slice a20 (List.length x17.2) c21)] hb26 (by kernel_rfl) (by kernel_rfl) (by kernel_rfl) ?_
    intro w29 hg30 hb31 hz32
    refine gv_nil <| gv_seq <| gv_region <| gv_loadBox (t := 25) (b := b23) (t' := 25) (fr := (0, 0)) #[(.bool x17.1), (.slice a20 (List.length x17.2) c21)] [] (fun e => by cases e) rfl rfl rfl (by kernel_rfl) (by kernel_rfl) (by kernel_rfl) (by kernel_rfl) (inw0 hb31) rfl ?_
    refine bindE h2 ?_; clear h2; intro r33 hr34 h2
    have hB35 := bg hB13 hg25 nb
    have hlo36 : w0.heap.size ≤ b23 := lob hbe27 hB13.size
    have hB37 := bg hB35 hg30 (rowlo hlo36)
    refine gv_call0 (by kernel_rfl) rfl (by kernel_rfl) enters95 (integer_Valid_ok fuel a20 c21 (x17.1, x17.2) w29 (fun k => X0 k) (fun k hk => (fun k (hk : X0 k) => ltl (hX0 k hk) hB37.size) k hk) ((hr22.below hB37 hX0).wide (fun k hk => hk)) r33 hr34) ?_
    rintro v40 w38 ⟨hg39, rfl⟩
    refine gv_pureN 1 [14] [(14, (.bool (!r33)))] (by kernel_rfl) ?_
    refine gv_nil <| gv_cond (b := (!r33)) (by kernel_rfl) (fun hc41 => ?_) (fun hc41 => ?_)
    ·replace h2 := ite_t hc41 h2
     refine gv_seq <| gv_region <| gv_pureN 2 [15, 16] [(16, (.int .i64 (IntKind.i64.wrap ((-1) - s10.1))))] (by kernel_rfl) ?_
     refine bindE h2 ?_; clear h2; intro r42 hr43 h2
     refine gv_call0 (by kernel_rfl) rfl (by kernel_rfl) enters97 (integer_at_ok fuel 6 (IntKind.i64.wrap ((-1) - s10.1)) w38  r42 hr43) ?_
     rintro v46 w44 ⟨hg45, rfl⟩
     have lt51 := ltl ((ltb hb15) _ rfl) ((lowb hbe27) _ rfl)
     have hg52 := (grown_trans hg39 hg45)
     have hk53 := ((hb15.grown hg25 nb).grown hg30 (rowne (ng lt51))).grown hg52 nb
     refine gv_store0 29 0 (.agg #[(.int .i64 r42.1), (.int .i64 r42.2)]) #[(.int .i64 r42.1), (.int .i64 r42.2)] hk53 (by kernel_rfl) (by kernel_rfl) (by kernel_rfl) ?_
     intro w47 hg48 hb49 hz50
     refine gv_nil <| gv_cret ?_
     have e := sj h2; subst e
     replace h1 := congrArg some (hR2 _ rfl)
     have e := sj h1; subst e
     replace h0 := cont_inr h0
     have e := sj h0; subst e
     refine gv_ret (gv_done [(.agg #[(.int .i64 r42.1), (.int .i64 r42.2)])] rfl ⟨⟨⟨b1, 0, none⟩, (by kernel_rfl), run_loadVar_row w47 b1 _ 29 _ _ _ hb49 Tryz.underlying29 rfl (by kernel_rfl)⟩, trivial⟩ ?_)
     have hB54 := bg hB37 hg52 nb
     have hlo55 : w0.heap.size ≤ b1 := lob hbe5 hB0.size
     have hB56 := bg hB54 hg48 (rowlo hlo55)
     exact ⟨grown_of_below hB56, rfl⟩
    ·replace h2 := ite_f hc41 h2
     refine gv_skip <| gv_blk <| gv_region <| gv_pureN 2 [7, 18] [(7, (.int .i64 (IntKind.i64.wrap (s10.1 + 1))))] (by kernel_rfl) ?_
     refine gv_nil ?_
     have e := sj h2; subst e
     refine gv_goal fun a hd hs hok => ?_
     have hB57 := bg hB37 hg39 nb
     have hz58 := (nt (nt (nt hz14 hg25.size) hg30.size) hg39.size)
     have lt59 := ltl ((ltb hb15) _ rfl) ((lowb hbe27) _ rfl)
     have hk60 := ((hb15.grown hg25 nb).grown hg30 (rowne (ng lt59))).grown hg39 nb
     exact ⟨((IntKind.i64.wrap (s10.1 + 1)), (s10.2.1, s10.2.2)), rfl, hB57, hz58, hk60, hd, hs, ok_pick [2, 5, 6, 7] hok (by kernel_rfl)⟩
   ·replace h2 := ite_f hc16 h2
    refine gv_cexit <| gv_exit rfl ?_
    have e := sj h2; subst e
    replace h1 := congrArg some (hR2 _ rfl)
    have e := sj h1; subst e
    refine gv_goal fun a hd hs hok => ?_
    have hz61 := hz14
    exact ⟨(s10.2.1, s10.2.2), rfl, hB13, hz61, hb15, hd, hs, ok_pick [2] hok (by kernel_rfl)⟩
 ·rintro a w9 ⟨s8, e, hB62, hz63, hb64, hd, hs, hok⟩
  subst e
  refine gv_in ?_ hd hs hok
  clear hd hs hok
  replace h0 := cont_inl h0
  clear hz63 hz6 hb4 hg3
  refine gv_seq <| gv_region <| gv_pureN 1 [19] [(19, (.agg #[(.int .i64 0), (.int .i64 0)]))] (by kernel_rfl) ?_
  refine gv_store0 29 0 (.agg #[(.int .i64 0), (.int .i64 0)]) #[(.int .i64 0), (.int .i64 0)] hb64 (by kernel_rfl) (by kernel_rfl) (by kernel_rfl) ?_
  intro w65 hg66 hb67 hz68
  refine gv_nil <| gv_cret ?_
  have e := sj h0; subst e
  refine gv_ret (gv_done [(.agg #[(.int .i64 0), (.int .i64 0)])] rfl ⟨⟨⟨b1, 0, none⟩, (by kernel_rfl), run_loadVar_row w65 b1 _ 29 _ _ _ hb67 Tryz.underlying29 rfl (by kernel_rfl)⟩, trivial⟩ ?_)
  have hlo69 : w0.heap.size ≤ b1 := lob hbe5 hB0.size
  have hB70 := bg hB62 hg66 (rowlo hlo69)
  exact ⟨grown_of_below hB70, rfl⟩

theorem integer_Small_ok (fuel : Nat) (pa0_0 : Option Addr) (pc0_0 : Nat) (a_0 : (Bool × (List Int))) (w0 : World) (X0 : Nat → Prop) (hX0 : ∀ k, X0 k → k < w0.heap.size) (hpa0_0 : Rd (iE .u32) w0 X0 pa0_0 pc0_0 a_0.2) (r0 : (Int × (Int × Int))) (h0 : integer_Small fuel a_0 = some r0) :
    Calls Tryz.prog 80 ([(.agg #[(.bool a_0.1), (.slice pa0_0 (List.length a_0.2) pc0_0)])] : List Value).toArray w0 (Ret fun v w' => w0.grownBy w' none ∧ v = tup [(.int .i64 r0.1), (.agg #[(.int .i64 r0.2.1), (.int .i64 r0.2.2)])]) := by
 have hB0 : Below w0.heap.size w0 w0 := Below.refl _ _
 unfold integer_Small at h0
 refine calls_run Tryz.func80 rfl Tryz.ntmps80 (by kernel_rfl) ?_
 refine gv_sub [0] (σ' := [(0, (.agg #[(.bool a_0.1), (.slice pa0_0 (List.length a_0.2) pc0_0)]))]) (by kernel_rfl) ?_
 refine gv_seq <| gv_region <| gv_new0 (fun b => .pointer (some ⟨b, 0, none⟩)) #[(.bool a_0.1), (.slice pa0_0 (List.length a_0.2) pc0_0)] 25 (by kernel_rfl) (by kernel_rfl) ?_
 intro b1 w2 hg3 hb4 hbe5 hz6
 refine gv_pureN 1 [2] [] (by kernel_rfl) ?_
 refine gv_new0 (fun b => .pointer (some ⟨b, 0, none⟩)) #[(.int .i64 0), (.int .i64 0)] 29 (by kernel_rfl) (by kernel_rfl) ?_
 intro b7 w8 hg9 hb10 hbe11 hz12
 refine gv_nil <| gv_seq <| gv_seq <| gv_region ?_
 have hk13 := hb4.grown hg9 nb
 refine gv_loadBox (t := 25) (b := b1) (t' := 25) (fr := (0, 0)) #[(.bool a_0.1), (.slice pa0_0 (List.length a_0.2) pc0_0)] [] (fun e => by cases e) rfl rfl rfl (by kernel_rfl) (by kernel_rfl) (by kernel_rfl) (by kernel_rfl) (inw0 hk13) rfl ?_
 refine gv_new0 (fun b => .slice (some ⟨b, 0, none⟩) 1 1) #[(.bool a_0.1), (.slice pa0_0 (List.length a_0.2) pc0_0)] 25 (by kernel_rfl) (by kernel_rfl) ?_
 intro b14 w15 hg16 hb17 hbe18 hz19
 obtain ⟨X25, e⟩ : ∃ X : Nat → Prop, X = (fun k => X0 k) := ⟨_, rfl⟩
 have hg26 := (grown_trans hg3 hg9)
 have hB27 := bg hB0 hg26 nb
 have hx23 : ∀ k, X25 k → k < w8.heap.size := fun k h => by rw [e] at h; exact (fun k (hk : X0 k) => ltl (hX0 k hk) hB27.size) k h
 have hz28 := hg16.size
 have hx22 : ∀ k, X25 k → k < w15.heap.size := fun k h => ltl (hx23 k h) hz28
 have hx24 : ∀ k, X25 k → X0 k ∨ w0.heap.size ≤ k := fun k h => by rw [e] at h; exact (fun k (hk : X0 k) => Or.inl hk) k h
 have hB29 := bg hB27 hg16 nb
 have ho20 : Gv.Own (prE tE (slE (iE .u32))) 25 w15 X25 (some ⟨b14, 0, none⟩) 1 ([(a_0.1, a_0.2)] : List (Bool × (List Int))) := Box.ownE hb17 (by rw [e]; exact ⟨[(.bool a_0.1), (.slice pa0_0 (List.length a_0.2) pc0_0)], [], rfl, ⟨[(.bool a_0.1)], [(.slice pa0_0 (List.length a_0.2) pc0_0)], rfl, rfl, ⟨pa0_0, pc0_0, rfl, ((hpa0_0.below hB29 hX0).wide (fun _ h => h))⟩⟩, rfl⟩) (show 1 ≤ maxLen by decide) (fun h => noteq hbe18 (hx23 _ h))
 have hx30 : ∀ k, X25 k → (fun k => X0 k) k := fun k h => by rw [e] at h; exact h
 clear e
 have hl21 : ∀ g, blk (some ⟨b14, 0, none⟩) = some g → w0.heap.size ≤ g := loo hbe18 hB27.size
 have ap31 : ∀ g, blk (some ⟨b14, 0, none⟩) = some g → ¬ (· = b1) g := fun g e hx => nl (lowo hbe18 g e) ((ltb hk13) _ hx)
 have hlo33 : w0.heap.size ≤ b1 := lob hbe5 hB0.size
 have ap32 : ¬ (fun k => blk (some ⟨b14, 0, none⟩) = some k ∨ X25 k) b1 := fun h => h.elim (fun h => nl (lowo hbe18 _ h) ((ltb hk13) _ rfl)) (fun h => ((fun (hx : X0 b1) => nl hlo33 (hX0 _ hx)))  (hx30 _ h))
 have ap34 : ∀ g, blk (some ⟨b14, 0, none⟩) = some g → ¬ (· = b7) g := fun g e hx => nl (lowo hbe18 g e) ((ltb hb10) _ hx)
 have hB36 := bg hB0 hg3 nb
 have hlo37 : w0.heap.size ≤ b7 := lob hbe11 hB36.size
 have ap35 : ¬ (fun k => blk (some ⟨b14, 0, none⟩) = some k ∨ X25 k) b7 := fun h => h.elim (fun h => nl (lowo hbe18 _ h) ((ltb hb10) _ rfl)) (fun h => ((fun (hx : X0 b7) => nl hlo37 (hX0 _ hx)))  (hx30 _ h))
 refine bindE h0 ?_; clear h0; intro r38 hr39 h0
 refine gv_call0 (by kernel_rfl) rfl (by kernel_rfl) enters96 (integer_check_ok fuel (some ⟨b14, 0, none⟩) 1 ([(a_0.1, a_0.2)] : List (Bool × (List Int))) w15 (fun k => (fun k => blk (some ⟨b14, 0, none⟩) = some k ∨ X25 k) k) (fun k hk => (fun k (hk : blk (some ⟨b14, 0, none⟩) = some k ∨ X25 k) => hk.elim (fun h => ho20.lt k h) (fun h => hx22 k h)) k hk) ((ho20.rd (Y := fun k => blk (some ⟨b14, 0, none⟩) = some k ∨ X25 k) (fun _ h => .inr h) (fun g e => .inl e)).wide (fun k hk => hk)) r38 hr39) ?_
 rintro v42 w40 ⟨hg41, rfl⟩
 refine gv_new0 (fun b => .pointer (some ⟨b, 0, none⟩)) #[(.int .i64 0), (.int .i64 0)] 29 (by kernel_rfl) (by kernel_rfl) ?_
 intro b43 w44 hg45 hb46 hbe47 hz48
 refine gv_store0 29 0 (.agg #[(.int .i64 r38.1), (.int .i64 r38.2)]) #[(.int .i64 r38.1), (.int .i64 r38.2)] hb46 (by kernel_rfl) (by kernel_rfl) (by kernel_rfl) ?_
 intro w49 hg50 hb51 hz52
 refine gv_nil <| gv_seq <| gv_region <| gv_pureN 1 [12] [(12, (bp b43))] (by kernel_rfl) ?_
 refine gv_load (t := 3) (A := ⟨b43, 0, none⟩) (.int .i64 r38.1) [] (fun e => by cases e) rfl rfl rfl (by kernel_rfl) (by kernel_rfl) (by kernel_rfl) (inw0 (hb51.cell 0 rfl)) rfl ?_
 refine gv_pureN 1 [14] [(14, (.bool (r38.1 != 0)))] (by kernel_rfl) ?_
 refine gv_nil <| gv_cond (b := (r38.1 != 0)) (by kernel_rfl) (fun hc53 => ?_) (fun hc53 => ?_)
 ·replace h0 := ite_t hc53 h0
  refine gv_seq <| gv_drawA (by kernel_rfl) ?_
  intro w54 hg55
  refine gv_pre [1] (bA 3 [1]) 2 (by kernel_rfl) (by kernel_rfl) ?_
  refine gv_pureN 1 [2] [(2, (.int .i64 0))] (by kernel_rfl) ?_
  refine gv_nil <| gv_goA ?_
  refine gv_stage (Cls w54 []) [0, 1] [(0, some true)] (bA 3 [0, 1]) 1 (by kernel_rfl) (by kernel_rfl) (Cls.refl _ _) ?_
  have hC56 := Cls.refl w54 []
  have hk57 := hb51.grown hg55 nb
  refine gv_loadBox (t := 29) (b := b43) (t' := 29) (fr := (0, 0)) #[(.int .i64 r38.1), (.int .i64 r38.2)] [] (fun e => by cases e) rfl rfl rfl (by kernel_rfl) (by kernel_rfl) (by kernel_rfl) (by kernel_rfl) (inw1 fun w' hC' => (hC'.box hk57 nm_nil)) rfl ?_
  refine gv_nil <| gv_goA ?_
  refine gv_stage (fun _ => True) [0, 1, 2] [(2, some false)] (bA 3 [0, 1, 2]) 0 (by kernel_rfl) (by kernel_rfl) trivial ?_
  have hg62 := (grown_trans (grown_trans hg16 hg41) hg45)
  have hg63 := (grown_trans hg16 hg41)
  have hk64 := hb10.grown hg63 nb
  have lt65 := ltl ((ltb hk64) _ rfl) ((lowb hbe47) _ rfl)
  have hk66 := ((hb10.grown hg62 nb).grown hg50 (rowne (ng lt65))).grown hg55 nb
  refine gv_store (t := 29) (b := b7) (off := 0) (v := (.agg #[(.int .i64 r38.1), (.int .i64 r38.2)])) (t' := 29) (cs := #[(.int .i64 0), (.int .i64 0)]) #[(.int .i64 r38.1), (.int .i64 r38.2)] (by decide) rfl rfl (by kernel_rfl) (by kernel_rfl) (by kernel_rfl) (by intro u hu; simp [Value.cells] at hu; rcases hu with rfl | rfl <;> rfl) (show 0 + 2 ≤ 2 by decide) (by rfl) hk66 ?_
  intro w58 hg59 hb60 hz61
  refine ⟨(fun _ => trivial), ?_⟩
  clear hz61 hk64 hg63 hg62 hC56 hc53 hz52 hb51 hz48 hb46 hr39 ap35 hB36 ap34 ap32 ap31 hx30 hz28 hx23 hB27 hg26 hz19 hbe18 hb17 hz12 hb10 hg9 hz6 hbe5 hg3
  refine gv_nil <| gv_goA ?_
  refine gv_stageE (by kernel_rfl) ?_
  refine gv_cret ?_
  have e := sj h0; subst e
  refine gv_ret (gv_done [(.int .i64 0), (.agg #[(.int .i64 r38.1), (.int .i64 r38.2)])] rfl ⟨(by kernel_rfl), ⟨⟨b7, 0, none⟩, (by kernel_rfl), run_loadVar_row w58 b7 _ 29 _ _ _ hb60 Tryz.underlying29 rfl (by kernel_rfl)⟩, trivial⟩ ?_)
  have hg67 := (grown_trans hg41 hg45)
  have hB68 := bg hB29 hg67 nb
  have hB69 := bg hB29 hg41 nb
  have hlo70 : w0.heap.size ≤ b43 := lob hbe47 hB69.size
  have hB71 := bg hB68 hg50 (rowlo hlo70)
  have hB72 := bg hB71 hg55 nb
  have hB73 := bg hB72 hg59 (rowlo hlo37)
  exact ⟨grown_of_below hB73, rfl⟩
 ·replace h0 := ite_f hc53 h0
  refine gv_skip <| gv_seq <| gv_region <| gv_pureN 1 [5] [(5, (.int .u64 0))] (by kernel_rfl) ?_
  refine gv_nil <| gv_seq <| gv_seq <| gv_region <| gv_pureN 1 [16] [(16, (.pointer (some ⟨b1, 1, none⟩)))] (by kernel_rfl) ?_
  have hg74 := (grown_trans (grown_trans hg16 hg41) hg45)
  have lt75 := ltl ((ltb hb4) _ rfl) ((lowb hbe11) _ rfl)
  have hg76 := (grown_trans hg16 hg41)
  have hk77 := hb10.grown hg76 nb
  have lt78 := ltl ((ltb hk77) _ rfl) ((lowb hbe47) _ rfl)
  have lt79 := ltt lt75 lt78
  have hk80 := (hk13.grown hg74 nb).grown hg50 (rowne (ng lt79))
  refine gv_load (t := 23) (A := ⟨b1, 1, none⟩) (.slice pa0_0 (List.length a_0.2) pc0_0) [] (fun e => by cases e) rfl rfl rfl (by kernel_rfl) (by kernel_rfl) (by kernel_rfl) (inw0 (hk80.cell 1 rfl)) rfl ?_
  refine gv_pureN 2 [18, 19] [(18, (.int .i64 ((List.length a_0.2 : Nat) : Int))), (19, (.int .i64 0))] (by kernel_rfl) ?_
  refine gv_sub [1, 3, 5, 17, 18, 19] (σ' := [(1, (bp b1)), (3, (bp b7)), (5, (.int .u64 0)), (17, (.slice pa0_0 (List.length a_0.2) pc0_0)), (18, (.int .i64 ((List.length a_0.2 : Nat) : Int))), (19, (.int .i64 0))]) (by kernel_rfl) ?_
  refine gv_nil <| bindE h0 ?_; clear h0; intro j81 h1 h0
  refine gv_cut_code (J := fun a w83 => ∃ s82 : (Int × (Int × Int)), j81 = .inl s82 ∧ Below w0.heap.size w0 w83 ∧ w49.heap.size ≤ w83.heap.size ∧ Box w83 b1 25 #[(.bool a_0.1), (.slice pa0_0 (List.length a_0.2) pc0_0)] ∧ Box w83 b7 29 #[(.int .i64 s82.2.1), (.int .i64 s82.2.2)] ∧ a.defers = [] ∧ a.tmps.size = 49 ∧ Ok [(1, (bp b1)), (3, (bp b7)), (5, (.int .u64 s82.1))] a.tmps) ?_ ?_
  ·skip
   refine gv_block <| gv_loop (A := fun (s84 : (Int × Int × (Int × Int))) a w85 => Below w0.heap.size w0 w85 ∧ w49.heap.size ≤ w85.heap.size ∧ Box w85 b1 25 #[(.bool a_0.1), (.slice pa0_0 (List.length a_0.2) pc0_0)] ∧ Box w85 b7 29 #[(.int .i64 s84.2.2.1), (.int .i64 s84.2.2.2)] ∧ a.defers = [] ∧ a.tmps.size = 49 ∧ Ok [(1, (bp b1)), (3, (bp b7)), (5, (.int .u64 s84.1)), (17, (.slice pa0_0 (List.length a_0.2) pc0_0)), (18, (.int .i64 ((List.length a_0.2 : Nat) : Int))), (19, (.int .i64 s84.2.1))] a.tmps) h1 ?_ ?_
   ·intro a hd hs hok
    have hg86 := (grown_trans hg41 hg45)
    have hB87 := bg hB29 hg86 nb
    have hB88 := bg hB29 hg41 nb
    have hlo89 : w0.heap.size ≤ b43 := lob hbe47 hB88.size
    have hB90 := bg hB87 hg50 (rowlo hlo89)
    have hk91 := (hk77.grown hg45 nb).grown hg50 (rowne (ng lt78))
    exact ⟨hB90, (Nat.le_refl _), hk80, hk91, hd, hs, ok_pick [1, 3, 5, 17, 18, 19] hok (by kernel_rfl)⟩
   ·rintro s84 r2 h2 hR2 a w85 ⟨hB92, hz93, hb94, hb95, hd, hs, hok⟩
    refine gv_in ?_ hd hs hok
    clear hd hs hok
    clear hk80 lt79 lt78 hk77 hg76 hg74 hc53 hz52 hb51 hg50 hz48 hbe47 hb46 hg45 hg41 hr39 ap35 hB36 ap34 ap32 ap31 hl21 hx30 ho20 hB29 hx24 hx22 hz28 hx23 hB27 hg26 hz19 hbe18 hb17 hg16 hk13 hz12 hbe11 hb10 hg9 hz6 hbe5 hb4 hg3
    refine gv_seq <| gv_region <| gv_pureN 1 [20] [(20, (.bool (decide (s84.2.1 < ((List.length a_0.2 : Nat) : Int)))))] (by kernel_rfl) ?_
    refine gv_nil <| gv_seq <| gv_cond (b := (decide (s84.2.1 < ((List.length a_0.2 : Nat) : Int)))) (by kernel_rfl) (fun hc96 => ?_) (fun hc96 => ?_)
    ·replace h2 := ite_t hc96 h2
     refine gv_skip <| gv_seq <| gv_block <| gv_seq <| gv_region <| gv_pureN 1 [21] [(21, (.int .i64 s84.2.1))] (by kernel_rfl) ?_
     refine bindE h2 ?_; clear h2; intro x97 hx98 h2
     refine gv_idxaddr (t := 23) (e := 76) (a := pa0_0) (len := List.length a_0.2) (cap := pc0_0) (kk := .i64) (i := s84.2.1) (sz := 1) [] (fun e => by cases e) rfl rfl rfl (by kernel_rfl) (by kernel_rfl) Tryz.underlying23 (by kernel_rfl) ((hpa0_0.below hB92 hX0).has hx98) (idx_spec hx98).1 (idx_spec hx98).2.1 rfl ?_
     refine gv_load (t := 76) (A := (elemAddr pa0_0 ((s84.2.1 : Int).toNat * 1))) (.int .u32 x97) [] (fun e => by cases e) rfl rfl rfl (by kernel_rfl) (by kernel_rfl) (by kernel_rfl) (inw0 ((hpa0_0.below hB92 hX0).cell hx98)) rfl ?_
     refine gv_pureN 2 [6, 7] [(6, (.int .i64 s84.2.1)), (7, (.int .u32 x97))] (by kernel_rfl) ?_
     refine gv_nil <| gv_seq <| gv_seq <| gv_region <| gv_pureN 2 [24, 25] [(25, (.bool (decide (s84.2.1 > 1))))] (by kernel_rfl) ?_
     refine gv_nil <| gv_cond (b := (decide (s84.2.1 > 1))) (by kernel_rfl) (fun hc99 => ?_) (fun hc99 => ?_)
     ·replace h2 := ite_t hc99 h2
      refine gv_seq <| gv_region <| bindE h2 ?_; clear h2; intro r100 hr101 h2
      refine gv_call0 (by kernel_rfl) rfl (by kernel_rfl) enters97 (integer_at_ok fuel 14 (-1) w85  r100 hr101) ?_
      rintro v104 w102 ⟨hg103, rfl⟩
      refine gv_pureN 1 [2] [(2, (.int .i64 0))] (by kernel_rfl) ?_
      have hk109 := hb95.grown hg103 nb
      refine gv_store0 29 0 (.agg #[(.int .i64 r100.1), (.int .i64 r100.2)]) #[(.int .i64 r100.1), (.int .i64 r100.2)] hk109 (by kernel_rfl) (by kernel_rfl) (by kernel_rfl) ?_
      intro w105 hg106 hb107 hz108
      refine gv_nil <| gv_cret ?_
      have e := sj h2; subst e
      replace h1 := congrArg some (hR2 _ rfl)
      have e := sj h1; subst e
      replace h0 := cont_inr h0
      have e := sj h0; subst e
      refine gv_ret (gv_done [(.int .i64 0), (.agg #[(.int .i64 r100.1), (.int .i64 r100.2)])] rfl ⟨(by kernel_rfl), ⟨⟨b7, 0, none⟩, (by kernel_rfl), run_loadVar_row w105 b7 _ 29 _ _ _ hb107 Tryz.underlying29 rfl (by kernel_rfl)⟩, trivial⟩ ?_)
      have hB110 := bg hB92 hg103 nb
      have hB111 := bg hB110 hg106 (rowlo hlo37)
      exact ⟨grown_of_below hB111, rfl⟩
     ·replace h2 := ite_f hc99 h2
      refine gv_skip <| gv_region <| gv_pureN 5 [27, 28, 29, 30, 31] [(27, (.int .u64 s84.1)), (29, (.int .u64 (IntKind.u64.wrap (x97)))), (31, (.int .i64 (IntKind.i64.wrap (32 * s84.2.1))))] (by kernel_rfl) ?_
      refine bindE h2 ?_; clear h2; intro _ hx112 h2
      refine gv_shift .shl (t := 119) (kk := .u64) (ky := .i64) (x := (IntKind.u64.wrap (x97))) (y := (IntKind.i64.wrap (32 * s84.2.1))) (shlI .u64 (IntKind.u64.wrap (x97)) (IntKind.i64.wrap (32 * s84.2.1))) [] (fun e => by cases e) rfl rfl rfl (by kernel_rfl) (by kernel_rfl) (nn_spec hx112) (.inl ⟨rfl, rfl⟩) rfl ?_
      refine gv_pureN 2 [5, 33] [(5, (.int .u64 (bwOr .u64 s84.1 (shlI .u64 (IntKind.u64.wrap (x97)) (IntKind.i64.wrap (32 * s84.2.1))))))] (by kernel_rfl) ?_
      refine bindE h2 ?_; clear h2; intro n113 hn114 h2
      refine gv_name (s := 5) (v := (.int .u64 (bwOr .u64 s84.1 (shlI .u64 (IntKind.u64.wrap (x97)) (IntKind.i64.wrap (32 * s84.2.1)))))) (v' := (.int .u64 n113)) (by kernel_rfl) (congrArg (Value.int .u64) (sj hn114)) ?_
      refine gv_nil <| gv_blk <| gv_region <| gv_pureN 2 [19, 34] [(19, (.int .i64 (IntKind.i64.wrap (s84.2.1 + 1))))] (by kernel_rfl) ?_
      refine gv_nil ?_
      have e := sj h2; subst e
      refine gv_goal fun a hd hs hok => ?_
      have hz115 := hz93
      exact ⟨(n113, (IntKind.i64.wrap (s84.2.1 + 1)), (s84.2.2.1, s84.2.2.2)), rfl, hB92, hz115, hb94, hb95, hd, hs, ok_pick [1, 3, 5, 17, 18, 19] hok (by kernel_rfl)⟩
    ·replace h2 := ite_f hc96 h2
     refine gv_cexit <| gv_exit rfl ?_
     have e := sj h2; subst e
     replace h1 := congrArg some (hR2 _ rfl)
     have e := sj h1; subst e
     refine gv_goal fun a hd hs hok => ?_
     have hz116 := hz93
     exact ⟨(s84.1, (s84.2.2.1, s84.2.2.2)), rfl, hB92, hz116, hb94, hb95, hd, hs, ok_pick [1, 3, 5] hok (by kernel_rfl)⟩
  ·rintro a w83 ⟨s82, e, hB117, hz118, hb119, hb120, hd, hs, hok⟩
   subst e
   refine gv_in ?_ hd hs hok
   clear hd hs hok
   replace h0 := cont_inl h0
   clear hz118 hk80 lt79 lt78 hk77 hg76 hg74 hc53 hz52 hb51 hg50 hz48 hbe47 hb46 hg45 hg41 hr39 ap35 hB36 ap34 ap32 ap31 hl21 hx30 ho20 hB29 hx24 hx22 hz28 hx23 hB27 hg26 hz19 hbe18 hb17 hg16 hk13 hz12 hbe11 hb10 hg9 hz6 hbe5 hb4 hg3
   refine gv_seq <| gv_region <| gv_pureN 3 [8, 35, 36] [(8, (.int .i64 (IntKind.i64.wrap (s82.1))))] (by kernel_rfl) ?_
   refine gv_nil <| gv_seq <| gv_seq <| gv_region <| gv_pureN 1 [37] [(37, (bp b1))] (by kernel_rfl) ?_
   refine gv_load (t := 4) (A := ⟨b1, 0, none⟩) (.bool a_0.1) [] (fun e => by cases e) rfl rfl rfl (by kernel_rfl) (by kernel_rfl) (by kernel_rfl) (inw0 (hb119.cell 0 rfl)) rfl ?_
   refine gv_nil <| bindE h0 ?_; clear h0; intro j121 h1 h0
   refine gv_cut_code (J := fun a w122 => Below w0.heap.size w0 w122 ∧ w83.heap.size ≤ w122.heap.size ∧ Box w122 b1 25 #[(.bool a_0.1), (.slice pa0_0 (List.length a_0.2) pc0_0)] ∧ Box w122 b7 29 #[(.int .i64 s82.2.1), (.int .i64 s82.2.2)] ∧ a.defers = [] ∧ a.tmps.size = 49 ∧ Ok [(1, (bp b1)), (3, (bp b7)), (8, (.int .i64 j121))] a.tmps) ?_ ?_
   ·skip
    refine gv_cond (b := a_0.1) (by kernel_rfl) (fun hc123 => ?_) (fun hc123 => ?_)
    ·replace h1 := ite_t hc123 h1
     refine gv_region <| gv_pureN 3 [8, 39, 40] [(8, (.int .i64 (IntKind.i64.wrap (0 - (IntKind.i64.wrap (s82.1))))))] (by kernel_rfl) ?_
     refine bindE h1 ?_; clear h1; intro n124 hn125 h1
     refine gv_name (s := 8) (v := (.int .i64 (IntKind.i64.wrap (0 - (IntKind.i64.wrap (s82.1)))))) (v' := (.int .i64 n124)) (by kernel_rfl) (congrArg (Value.int .i64) (sj hn125)) ?_
     refine gv_nil ?_
     have e := sj h1; subst e
     refine gv_goal fun a hd hs hok => ?_
     exact ⟨hB117, (Nat.le_refl _), hb119, hb120, hd, hs, ok_pick [1, 3, 8] hok (by kernel_rfl)⟩
    ·replace h1 := ite_f hc123 h1
     refine gv_skip ?_
     have e := sj h1; subst e
     refine gv_goal fun a hd hs hok => ?_
     exact ⟨hB117, (Nat.le_refl _), hb119, hb120, hd, hs, ok_pick [1, 3, 8] hok (by kernel_rfl)⟩
   ·rintro a w122 ⟨hB126, hz127, hb128, hb129, hd, hs, hok⟩
    refine gv_in ?_ hd hs hok
    clear hd hs hok
    clear hz127 hb120 hb119 hB117
    refine gv_seq <| gv_seq <| gv_region <| gv_pureN 3 [41, 42, 43] [(42, (.bool (decide (j121 < 0)))), (43, (bp b1))] (by kernel_rfl) ?_
    refine gv_load (t := 4) (A := ⟨b1, 0, none⟩) (.bool a_0.1) [] (fun e => by cases e) rfl rfl rfl (by kernel_rfl) (by kernel_rfl) (by kernel_rfl) (inw0 (hb128.cell 0 rfl)) rfl ?_
    refine gv_pureN 1 [45] [(45, (.bool (!((decide (j121 < 0)) == a_0.1))))] (by kernel_rfl) ?_
    refine gv_nil <| gv_cond (b := (!((decide (j121 < 0)) == a_0.1))) (by kernel_rfl) (fun hc130 => ?_) (fun hc130 => ?_)
    ·replace h0 := ite_t hc130 h0
     refine gv_seq <| gv_region <| bindE h0 ?_; clear h0; intro r131 hr132 h0
     refine gv_call0 (by kernel_rfl) rfl (by kernel_rfl) enters97 (integer_at_ok fuel 14 (-1) w122  r131 hr132) ?_
     rintro v135 w133 ⟨hg134, rfl⟩
     refine gv_pureN 1 [2] [(2, (.int .i64 0))] (by kernel_rfl) ?_
     have hk140 := hb129.grown hg134 nb
     refine gv_store0 29 0 (.agg #[(.int .i64 r131.1), (.int .i64 r131.2)]) #[(.int .i64 r131.1), (.int .i64 r131.2)] hk140 (by kernel_rfl) (by kernel_rfl) (by kernel_rfl) ?_
     intro w136 hg137 hb138 hz139
     refine gv_nil <| gv_cret ?_
     have e := sj h0; subst e
     refine gv_ret (gv_done [(.int .i64 0), (.agg #[(.int .i64 r131.1), (.int .i64 r131.2)])] rfl ⟨(by kernel_rfl), ⟨⟨b7, 0, none⟩, (by kernel_rfl), run_loadVar_row w136 b7 _ 29 _ _ _ hb138 Tryz.underlying29 rfl (by kernel_rfl)⟩, trivial⟩ ?_)
     have hB141 := bg hB126 hg134 nb
     have hB142 := bg hB141 hg137 (rowlo hlo37)
     exact ⟨grown_of_below hB142, rfl⟩
    ·replace h0 := ite_f hc130 h0
     refine gv_skip <| gv_seq <| gv_region <| gv_pureN 3 [2, 47, 48] [(2, (.int .i64 j121)), (48, (.agg #[(.int .i64 0), (.int .i64 0)]))] (by kernel_rfl) ?_
     refine gv_store0 29 0 (.agg #[(.int .i64 0), (.int .i64 0)]) #[(.int .i64 0), (.int .i64 0)] hb129 (by kernel_rfl) (by kernel_rfl) (by kernel_rfl) ?_
     intro w143 hg144 hb145 hz146
     refine gv_nil <| gv_cret ?_
     have e := sj h0; subst e
     refine gv_ret (gv_done [(.int .i64 j121), (.agg #[(.int .i64 0), (.int .i64 0)])] rfl ⟨(by kernel_rfl), ⟨⟨b7, 0, none⟩, (by kernel_rfl), run_loadVar_row w143 b7 _ 29 _ _ _ hb145 Tryz.underlying29 rfl (by kernel_rfl)⟩, trivial⟩ ?_)
     have hB147 := bg hB126 hg144 (rowlo hlo37)
     exact ⟨grown_of_below hB147, rfl⟩

theorem slicing_bounded_ok (fuel : Nat) (pa0_0 : Option Addr) (pc0_0 : Nat) (a_0 : (Bool × (List Int))) (low_1 : Int) (high_2 : Int) (w0 : World) (X0 : Nat → Prop) (hX0 : ∀ k, X0 k → k < w0.heap.size) (hpa0_0 : Rd (iE .u32) w0 X0 pa0_0 pc0_0 a_0.2) (r0 : Int) (h0 : slicing_bounded fuel a_0 low_1 high_2 = some r0) :
    Calls Tryz.prog 61 ([(.agg #[(.bool a_0.1), (.slice pa0_0 (List.length a_0.2) pc0_0)]), (.int .i64 low_1), (.int .i64 high_2)] : List Value).toArray w0 (Ret fun v w' => w0.grownBy w' none ∧ v = tup [(.int .i64 r0)]) := by
 have hB0 : Below w0.heap.size w0 w0 := Below.refl _ _
 unfold slicing_bounded at h0
 refine calls_run Tryz.func61 rfl Tryz.ntmps61 (by kernel_rfl) ?_
 refine gv_sub [0, 1, 2] (σ' := [(0, (.agg #[(.bool a_0.1), (.slice pa0_0 (List.length a_0.2) pc0_0)])), (1, (.int .i64 low_1)), (2, (.int .i64 high_2))]) (by kernel_rfl) ?_
 refine gv_seq <| gv_region <| gv_new0 (fun b => .pointer (some ⟨b, 0, none⟩)) #[(.bool a_0.1), (.slice pa0_0 (List.length a_0.2) pc0_0)] 25 (by kernel_rfl) (by kernel_rfl) ?_
 intro b1 w2 hg3 hb4 hbe5 hz6
 refine gv_pureN 1 [6] [] (by kernel_rfl) ?_
 refine gv_nil <| gv_seq <| gv_region <| gv_loadBox (t := 25) (b := b1) (t' := 25) (fr := (0, 0)) #[(.bool a_0.1), (.slice pa0_0 (List.length a_0.2) pc0_0)] [] (fun e => by cases e) rfl rfl rfl (by kernel_rfl) (by kernel_rfl) (by kernel_rfl) (by kernel_rfl) (inw0 hb4) rfl ?_
 refine bindE h0 ?_; clear h0; intro r7 hr8 h0
 have hB9 := bg hB0 hg3 nb
 refine gv_call0 (by kernel_rfl) rfl (by kernel_rfl) enters80 (integer_Small_ok fuel pa0_0 pc0_0 (a_0.1, a_0.2) w2 (fun k => X0 k) (fun k hk => (fun k (hk : X0 k) => ltl (hX0 k hk) hB9.size) k hk) ((hpa0_0.below hB9 hX0).wide (fun k hk => hk)) r7 hr8) ?_
 rintro v12 w10 ⟨hg11, rfl⟩
 refine gv_pureN 3 [9, 12, 13] [(12, (.int .i64 r7.1)), (13, (.agg #[(.int .i64 r7.2.1), (.int .i64 r7.2.2)]))] (by kernel_rfl) ?_
 refine gv_new0 (fun b => .pointer (some ⟨b, 0, none⟩)) #[(.int .i64 0), (.int .i64 0)] 29 (by kernel_rfl) (by kernel_rfl) ?_
 intro b13 w14 hg15 hb16 hbe17 hz18
 refine gv_pureN 1 [7] [(7, (.int .i64 r7.1))] (by kernel_rfl) ?_
 refine gv_store0 29 0 (.agg #[(.int .i64 r7.2.1), (.int .i64 r7.2.2)]) #[(.int .i64 r7.2.1), (.int .i64 r7.2.2)] hb16 (by kernel_rfl) (by kernel_rfl) (by kernel_rfl) ?_
 intro w19 hg20 hb21 hz22
 refine gv_nil <| gv_seq <| gv_block <| gv_seq <| gv_region <| bindE h0 ?_; clear h0; intro j23 h1 h0
 refine gv_cut_ops (J := fun a w24 => Below w0.heap.size w0 w24 ∧ w19.heap.size ≤ w24.heap.size ∧ Box w24 b13 29 #[(.int .i64 r7.2.1), (.int .i64 r7.2.2)] ∧ a.defers = [] ∧ a.tmps.size = 33 ∧ Ok [(1, (.int .i64 low_1)), (2, (.int .i64 high_2)), (7, (.int .i64 r7.1)), (8, (bp b13)), (14, (.bool j23))] a.tmps) ?_ ?_
 ·skip
  refine gv_pureN 1 [15] [(15, (bp b13))] (by kernel_rfl) ?_
  refine gv_load (t := 3) (A := ⟨b13, 0, none⟩) (.int .i64 r7.2.1) [] (fun e => by cases e) rfl rfl rfl (by kernel_rfl) (by kernel_rfl) (by kernel_rfl) (inw0 (hb21.cell 0 rfl)) rfl ?_
  refine gv_pureN 2 [17, 18] [(18, (.bool (r7.2.1 != 0)))] (by kernel_rfl) ?_
  refine gv_split (s := 18) (g := (r7.2.1 != 0)) (by kernel_rfl) (fun hc25 => ?_) (fun hc25 => ?_)
  ·skip
   replace h1 := ite_t hc25 h1
   refine gv_pureN 1 [19] [(19, (bp b1))] (by kernel_rfl) ?_
   have hg26 := (grown_trans hg11 hg15)
   have hk27 := hb4.grown hg11 nb
   have lt28 := ltl ((ltb hk27) _ rfl) ((lowb hbe17) _ rfl)
   have hk29 := (hb4.grown hg26 nb).grown hg20 (rowne (ng lt28))
   refine gv_load (t := 4) (A := ⟨b1, 0, none⟩) (.bool a_0.1) [] (fun e => by cases e) rfl rfl rfl (by kernel_rfl) (by kernel_rfl) (by kernel_rfl) (inw0 (hk29.cell 0 rfl)) rfl ?_
   refine gv_pureN 2 [14, 21] [(14, (.bool a_0.1))] (by kernel_rfl) ?_
   refine gv_sub [1, 2, 7, 8, 14] (σ' := [(1, (.int .i64 low_1)), (2, (.int .i64 high_2)), (7, (.int .i64 r7.1)), (8, (bp b13)), (14, (.bool a_0.1))]) (by kernel_rfl) ?_
   refine gv_nil ?_
   have e := sj h1; subst e
   refine gv_goal fun a hd hs hok => ?_
   have hB30 := bg hB9 hg26 nb
   have hB31 := bg hB9 hg11 nb
   have hlo32 : w0.heap.size ≤ b13 := lob hbe17 hB31.size
   have hB33 := bg hB30 hg20 (rowlo hlo32)
   exact ⟨hB33, (Nat.le_refl _), hb21, hd, hs, ok_pick [1, 2, 7, 8, 14] hok (by kernel_rfl)⟩
  ·skip
   replace h1 := ite_f hc25 h1
   refine gv_pureN 4 [14, 19, 20, 21] [(14, (.bool false))] (by kernel_rfl) ?_
   refine gv_nil ?_
   have e := sj h1; subst e
   refine gv_goal fun a hd hs hok => ?_
   have hg34 := (grown_trans hg11 hg15)
   have hB35 := bg hB9 hg34 nb
   have hB36 := bg hB9 hg11 nb
   have hlo37 : w0.heap.size ≤ b13 := lob hbe17 hB36.size
   have hB38 := bg hB35 hg20 (rowlo hlo37)
   exact ⟨hB38, (Nat.le_refl _), hb21, hd, hs, ok_pick [1, 2, 7, 8, 14] hok (by kernel_rfl)⟩
 ·rintro a w24 ⟨hB39, hz40, hb41, hd, hs, hok⟩
  refine gv_in ?_ hd hs hok
  clear hd hs hok
  clear hz40 hz22 hb21 hg20 hz18 hb16 hg15 hr8 hz6 hbe5 hb4 hg3
  refine gv_cond (b := j23) (by kernel_rfl) (fun hc42 => ?_) (fun hc42 => ?_)
  ·replace h0 := ite_t hc42 h0
   refine gv_seq <| gv_region <| gv_pureN 2 [6, 22] [(6, (.int .i64 low_1))] (by kernel_rfl) ?_
   refine gv_nil <| gv_cret ?_
   have e := sj h0; subst e
   refine gv_ret (gv_done [(.int .i64 low_1)] rfl ⟨(by kernel_rfl), trivial⟩ ?_)
   exact ⟨grown_of_below hB39, rfl⟩
  ·replace h0 := ite_f hc42 h0
   refine gv_seq <| gv_region <| gv_pureN 1 [24] [(24, (bp b13))] (by kernel_rfl) ?_
   refine gv_load (t := 3) (A := ⟨b13, 0, none⟩) (.int .i64 r7.2.1) [] (fun e => by cases e) rfl rfl rfl (by kernel_rfl) (by kernel_rfl) (by kernel_rfl) (inw0 (hb41.cell 0 rfl)) rfl ?_
   refine gv_pureN 2 [23, 26] [(23, (.bool (r7.2.1 != 0)))] (by kernel_rfl) ?_
   refine gv_nil <| gv_cond (b := (r7.2.1 != 0)) (by kernel_rfl) (fun hc43 => ?_) (fun hc43 => ?_)
   ·replace h0 := ite_t hc43 h0
    refine gv_seq <| gv_region <| gv_pureN 2 [6, 27] [(6, (.int .i64 high_2))] (by kernel_rfl) ?_
    refine gv_nil <| gv_cret ?_
    have e := sj h0; subst e
    refine gv_ret (gv_done [(.int .i64 high_2)] rfl ⟨(by kernel_rfl), trivial⟩ ?_)
    exact ⟨grown_of_below hB39, rfl⟩
   ·replace h0 := ite_f hc43 h0
    refine gv_skip <| gv_blk <| gv_seq <| gv_region <| gv_pureN 6 [6, 28, 29, 30, 31, 32] [(6, (.int .i64 (if high_2 < (if r7.1 < low_1 then low_1 else r7.1) then high_2 else (if r7.1 < low_1 then low_1 else r7.1))))] (by kernel_rfl) ?_
    refine bindE h0 ?_; clear h0; intro n44 hn45 h0
    refine gv_name (s := 6) (v := (.int .i64 (if high_2 < (if r7.1 < low_1 then low_1 else r7.1) then high_2 else (if r7.1 < low_1 then low_1 else r7.1)))) (v' := (.int .i64 n44)) (by kernel_rfl) (congrArg (Value.int .i64) (sj hn45)) ?_
    refine gv_nil <| gv_cret ?_
    have e := sj h0; subst e
    refine gv_ret (gv_done [(.int .i64 n44)] rfl ⟨(by kernel_rfl), trivial⟩ ?_)
    exact ⟨grown_of_below hB39, rfl⟩

theorem slicing_end_ok (fuel : Nat) (pa0_0 : Option Addr) (pc0_0 : Nat) (a_0 : (Bool × (List Int))) (n_1 : Int) (low_2 : Int) (high_3 : Int) (w0 : World) (X0 : Nat → Prop) (hX0 : ∀ k, X0 k → k < w0.heap.size) (hpa0_0 : Rd (iE .u32) w0 X0 pa0_0 pc0_0 a_0.2) (r0 : Int) (h0 : slicing_end fuel a_0 n_1 low_2 high_3 = some r0) :
    Calls Tryz.prog 62 ([(.agg #[(.bool a_0.1), (.slice pa0_0 (List.length a_0.2) pc0_0)]), (.int .i64 n_1), (.int .i64 low_2), (.int .i64 high_3)] : List Value).toArray w0 (Ret fun v w' => w0.grownBy w' none ∧ v = tup [(.int .i64 r0)]) := by
 have hB0 : Below w0.heap.size w0 w0 := Below.refl _ _
 unfold slicing_end at h0
 refine calls_run Tryz.func62 rfl Tryz.ntmps62 (by kernel_rfl) ?_
 refine gv_sub [0, 1, 2, 3] (σ' := [(0, (.agg #[(.bool a_0.1), (.slice pa0_0 (List.length a_0.2) pc0_0)])), (1, (.int .i64 n_1)), (2, (.int .i64 low_2)), (3, (.int .i64 high_3))]) (by kernel_rfl) ?_
 refine gv_seq <| gv_region <| gv_new0 (fun b => .pointer (some ⟨b, 0, none⟩)) #[(.bool a_0.1), (.slice pa0_0 (List.length a_0.2) pc0_0)] 25 (by kernel_rfl) (by kernel_rfl) ?_
 intro b1 w2 hg3 hb4 hbe5 hz6
 refine gv_pureN 1 [8] [] (by kernel_rfl) ?_
 refine gv_nil <| gv_seq <| gv_region <| gv_loadBox (t := 25) (b := b1) (t' := 25) (fr := (0, 0)) #[(.bool a_0.1), (.slice pa0_0 (List.length a_0.2) pc0_0)] [] (fun e => by cases e) rfl rfl rfl (by kernel_rfl) (by kernel_rfl) (by kernel_rfl) (by kernel_rfl) (inw0 hb4) rfl ?_
 refine gv_pureN 4 [11, 12, 13, 14] [(13, (.int .i64 (IntKind.i64.wrap ((IntKind.i64.wrap (0 - n_1)) - 1)))), (14, (.int .i64 n_1))] (by kernel_rfl) ?_
 refine bindE h0 ?_; clear h0; intro r7 hr8 h0
 have hB9 := bg hB0 hg3 nb
 refine gv_call0 (by kernel_rfl) rfl (by kernel_rfl) enters61 (slicing_bounded_ok fuel pa0_0 pc0_0 (a_0.1, a_0.2) (IntKind.i64.wrap ((IntKind.i64.wrap (0 - n_1)) - 1)) n_1 w2 (fun k => X0 k) (fun k hk => (fun k (hk : X0 k) => ltl (hX0 k hk) hB9.size) k hk) ((hpa0_0.below hB9 hX0).wide (fun k hk => hk)) r7 hr8) ?_
 rintro v12 w10 ⟨hg11, rfl⟩
 refine gv_pureN 1 [9] [(9, (.int .i64 r7))] (by kernel_rfl) ?_
 refine gv_nil <| gv_seq <| gv_seq <| gv_region <| gv_pureN 2 [16, 17] [(17, (.bool (decide (r7 < 0))))] (by kernel_rfl) ?_
 refine gv_nil <| bindE h0 ?_; clear h0; intro j13 h1 h0
 refine gv_cut_code (J := fun a w14 => Below w0.heap.size w0 w14 ∧ w10.heap.size ≤ w14.heap.size ∧ a.defers = [] ∧ a.tmps.size = 26 ∧ Ok [(2, (.int .i64 low_2)), (3, (.int .i64 high_3)), (9, (.int .i64 j13))] a.tmps) ?_ ?_
 ·skip
  refine gv_cond (b := (decide (r7 < 0))) (by kernel_rfl) (fun hc15 => ?_) (fun hc15 => ?_)
  ·replace h1 := ite_t hc15 h1
   refine gv_region <| gv_pureN 4 [9, 18, 19, 20] [(9, (.int .i64 (IntKind.i64.wrap (r7 + n_1))))] (by kernel_rfl) ?_
   refine gv_nil ?_
   have e := sj h1; subst e
   refine gv_goal fun a hd hs hok => ?_
   have hB16 := bg hB9 hg11 nb
   exact ⟨hB16, (Nat.le_refl _), hd, hs, ok_pick [2, 3, 9] hok (by kernel_rfl)⟩
  ·replace h1 := ite_f hc15 h1
   refine gv_skip ?_
   have e := sj h1; subst e
   refine gv_goal fun a hd hs hok => ?_
   have hB17 := bg hB9 hg11 nb
   exact ⟨hB17, (Nat.le_refl _), hd, hs, ok_pick [2, 3, 9] hok (by kernel_rfl)⟩
 ·rintro a w14 ⟨hB18, hz19, hd, hs, hok⟩
  refine gv_in ?_ hd hs hok
  clear hd hs hok
  clear hz19 hg11 hB9 hr8 hz6 hbe5 hb4 hg3
  refine gv_seq <| gv_region <| gv_pureN 6 [8, 21, 22, 23, 24, 25] [(8, (.int .i64 (if high_3 < (if j13 < low_2 then low_2 else j13) then high_3 else (if j13 < low_2 then low_2 else j13))))] (by kernel_rfl) ?_
  refine bindE h0 ?_; clear h0; intro n20 hn21 h0
  refine gv_name (s := 8) (v := (.int .i64 (if high_3 < (if j13 < low_2 then low_2 else j13) then high_3 else (if j13 < low_2 then low_2 else j13)))) (v' := (.int .i64 n20)) (by kernel_rfl) (congrArg (Value.int .i64) (sj hn21)) ?_
  refine gv_nil <| gv_cret ?_
  have e := sj h0; subst e
  refine gv_ret (gv_done [(.int .i64 n20)] rfl ⟨(by kernel_rfl), trivial⟩ ?_)
  exact ⟨grown_of_below hB18, rfl⟩

theorem slicing_Resolve_ok (fuel : Nat) (pa0_0 : Option Addr) (pc0_0 : Nat) (pa0_1 : Option Addr) (pc0_1 : Nat) (pa0_2 : Option Addr) (pc0_2 : Nat) (s_0 : ((Bool × (List Int)) × (Bool × (List Int)) × (Bool × (List Int)) × Bool × Bool × Bool)) (n_1 : Int) (w0 : World) (X0 : Nat → Prop) (hX0 : ∀ k, X0 k → k < w0.heap.size) (hpa0_0 : Rd (iE .u32) w0 X0 pa0_0 pc0_0 s_0.1.2) (hpa0_1 : Rd (iE .u32) w0 X0 pa0_1 pc0_1 s_0.2.1.2) (hpa0_2 : Rd (iE .u32) w0 X0 pa0_2 pc0_2 s_0.2.2.1.2) (r0 : (Int × Int × Int × (Int × Int))) (h0 : slicing_Resolve fuel s_0 n_1 = some r0) :
    Calls Tryz.prog 40 ([(.agg #[(.bool s_0.1.1), (.slice pa0_0 (List.length s_0.1.2) pc0_0), (.bool s_0.2.1.1), (.slice pa0_1 (List.length s_0.2.1.2) pc0_1), (.bool s_0.2.2.1.1), (.slice pa0_2 (List.length s_0.2.2.1.2) pc0_2), (.bool s_0.2.2.2.1), (.bool s_0.2.2.2.2.1), (.bool s_0.2.2.2.2.2)]), (.int .i64 n_1)] : List Value).toArray w0 (Ret fun v w' => w0.grownBy w' none ∧ v = tup [(.int .i64 r0.1), (.int .i64 r0.2.1), (.int .i64 r0.2.2.1), (.agg #[(.int .i64 r0.2.2.2.1), (.int .i64 r0.2.2.2.2)])]) := by
 have hB0 : Below w0.heap.size w0 w0 := Below.refl _ _
 unfold slicing_Resolve at h0
 refine calls_run Tryz.func40 rfl Tryz.ntmps40 (by kernel_rfl) ?_
 refine gv_sub [0, 1] (σ' := [(0, (.agg #[(.bool s_0.1.1), (.slice pa0_0 (List.length s_0.1.2) pc0_0), (.bool s_0.2.1.1), (.slice pa0_1 (List.length s_0.2.1.2) pc0_1), (.bool s_0.2.2.1.1), (.slice pa0_2 (List.length s_0.2.2.1.2) pc0_2), (.bool s_0.2.2.2.1), (.bool s_0.2.2.2.2.1), (.bool s_0.2.2.2.2.2)])), (1, (.int .i64 n_1))]) (by kernel_rfl) ?_
 refine gv_seq <| gv_region <| gv_new0 (fun b => .pointer (some ⟨b, 0, none⟩)) #[(.bool s_0.1.1), (.slice pa0_0 (List.length s_0.1.2) pc0_0), (.bool s_0.2.1.1), (.slice pa0_1 (List.length s_0.2.1.2) pc0_1), (.bool s_0.2.2.1.1), (.slice pa0_2 (List.length s_0.2.2.1.2) pc0_2), (.bool s_0.2.2.2.1), (.bool s_0.2.2.2.2.1), (.bool s_0.2.2.2.2.2)] 27 (by kernel_rfl) (by kernel_rfl) ?_
 intro b1 w2 hg3 hb4 hbe5 hz6
 refine gv_pureN 3 [4, 5, 6] [] (by kernel_rfl) ?_
 refine gv_new0 (fun b => .pointer (some ⟨b, 0, none⟩)) #[(.int .i64 0), (.int .i64 0)] 29 (by kernel_rfl) (by kernel_rfl) ?_
 intro b7 w8 hg9 hb10 hbe11 hz12
 refine gv_nil <| gv_seq <| gv_seq <| gv_region ?_
 have hk13 := hb4.grown hg9 nb
 refine gv_loadBox (t := 27) (b := b1) (t' := 27) (fr := (0, 0)) #[(.bool s_0.1.1), (.slice pa0_0 (List.length s_0.1.2) pc0_0), (.bool s_0.2.1.1), (.slice pa0_1 (List.length s_0.2.1.2) pc0_1), (.bool s_0.2.2.1.1), (.slice pa0_2 (List.length s_0.2.2.1.2) pc0_2), (.bool s_0.2.2.2.1), (.bool s_0.2.2.2.2.1), (.bool s_0.2.2.2.2.2)] [] (fun e => by cases e) rfl rfl rfl (by kernel_rfl) (by kernel_rfl) (by kernel_rfl) (by kernel_rfl) (inw0 hk13) rfl ?_
 refine bindE h0 ?_; clear h0; intro r14 hr15 h0
 have hg16 := (grown_trans hg3 hg9)
 have hB17 := bg hB0 hg16 nb
 refine gv_call0 (by kernel_rfl) rfl (by kernel_rfl) enters59 (slicing_Check_ok fuel pa0_0 pc0_0 pa0_1 pc0_1 pa0_2 pc0_2 ((s_0.1.1, s_0.1.2), (s_0.2.1.1, s_0.2.1.2), (s_0.2.2.1.1, s_0.2.2.1.2), s_0.2.2.2.1, s_0.2.2.2.2.1, s_0.2.2.2.2.2) w8 (fun k => X0 k ∨ X0 k ∨ X0 k) (fun k hk => (hk).elim (fun h => (fun k (hk : X0 k) => ltl (hX0 k hk) hB17.size) k h) (fun h => (h).elim (fun h => (fun k (hk : X0 k) => ltl (hX0 k hk) hB17.size) k h) (fun h => (fun k (hk : X0 k) => ltl (hX0 k hk) hB17.size) k h))) ((hpa0_0.below hB17 hX0).wide (fun k hk => (.inl hk))) ((hpa0_1.below hB17 hX0).wide (fun k hk => (.inr (.inl hk)))) ((hpa0_2.below hB17 hX0).wide (fun k hk => (.inr (.inr hk)))) r14 hr15) ?_
 rintro v20 w18 ⟨hg19, rfl⟩
 refine gv_new0 (fun b => .pointer (some ⟨b, 0, none⟩)) #[(.int .i64 0), (.int .i64 0)] 29 (by kernel_rfl) (by kernel_rfl) ?_
 intro b21 w22 hg23 hb24 hbe25 hz26
 refine gv_store0 29 0 (.agg #[(.int .i64 r14.1), (.int .i64 r14.2)]) #[(.int .i64 r14.1), (.int .i64 r14.2)] hb24 (by kernel_rfl) (by kernel_rfl) (by kernel_rfl) ?_
 intro w27 hg28 hb29 hz30
 refine gv_nil <| gv_seq <| gv_region <| gv_pureN 1 [14] [(14, (bp b21))] (by kernel_rfl) ?_
 refine gv_load (t := 3) (A := ⟨b21, 0, none⟩) (.int .i64 r14.1) [] (fun e => by cases e) rfl rfl rfl (by kernel_rfl) (by kernel_rfl) (by kernel_rfl) (inw0 (hb29.cell 0 rfl)) rfl ?_
 refine gv_pureN 1 [16] [(16, (.bool (r14.1 != 0)))] (by kernel_rfl) ?_
 refine gv_nil <| gv_cond (b := (r14.1 != 0)) (by kernel_rfl) (fun hc31 => ?_) (fun hc31 => ?_)
 ·replace h0 := ite_t hc31 h0
  refine gv_seq <| gv_drawA (by kernel_rfl) ?_
  intro w32 hg33
  refine gv_pre [1, 2, 3] (bA 5 [1, 2, 3]) 2 (by kernel_rfl) (by kernel_rfl) ?_
  refine gv_pureN 3 [4, 5, 6] [(4, (.int .i64 0)), (5, (.int .i64 0)), (6, (.int .i64 0))] (by kernel_rfl) ?_
  refine gv_nil <| gv_goA ?_
  refine gv_stage (Cls w32 []) [0, 1, 2, 3] [(0, some true)] (bA 5 [0, 1, 2, 3]) 1 (by kernel_rfl) (by kernel_rfl) (Cls.refl _ _) ?_
  have hC34 := Cls.refl w32 []
  have hk35 := hb29.grown hg33 nb
  refine gv_loadBox (t := 29) (b := b21) (t' := 29) (fr := (0, 0)) #[(.int .i64 r14.1), (.int .i64 r14.2)] [] (fun e => by cases e) rfl rfl rfl (by kernel_rfl) (by kernel_rfl) (by kernel_rfl) (by kernel_rfl) (inw1 fun w' hC' => (hC'.box hk35 nm_nil)) rfl ?_
  refine gv_nil <| gv_goA ?_
  refine gv_stage (fun _ => True) [0, 1, 2, 3, 4] [(4, some false)] (bA 5 [0, 1, 2, 3, 4]) 0 (by kernel_rfl) (by kernel_rfl) trivial ?_
  have hg40 := (grown_trans hg19 hg23)
  have hk41 := hb10.grown hg19 nb
  have lt42 := ltl ((ltb hk41) _ rfl) ((lowb hbe25) _ rfl)
  have hk43 := ((hb10.grown hg40 nb).grown hg28 (rowne (ng lt42))).grown hg33 nb
  refine gv_store (t := 29) (b := b7) (off := 0) (v := (.agg #[(.int .i64 r14.1), (.int .i64 r14.2)])) (t' := 29) (cs := #[(.int .i64 0), (.int .i64 0)]) #[(.int .i64 r14.1), (.int .i64 r14.2)] (by decide) rfl rfl (by kernel_rfl) (by kernel_rfl) (by kernel_rfl) (by intro u hu; simp [Value.cells] at hu; rcases hu with rfl | rfl <;> rfl) (show 0 + 2 ≤ 2 by decide) (by rfl) hk43 ?_
  intro w36 hg37 hb38 hz39
  refine ⟨(fun _ => trivial), ?_⟩
  refine gv_nil <| gv_goA ?_
  refine gv_stageE (by kernel_rfl) ?_
  refine gv_cret ?_
  have e := sj h0; subst e
  refine gv_ret (gv_done [(.int .i64 0), (.int .i64 0), (.int .i64 0), (.agg #[(.int .i64 r14.1), (.int .i64 r14.2)])] rfl ⟨(by kernel_rfl), (by kernel_rfl), (by kernel_rfl), ⟨⟨b7, 0, none⟩, (by kernel_rfl), run_loadVar_row w36 b7 _ 29 _ _ _ hb38 Tryz.underlying29 rfl (by kernel_rfl)⟩, trivial⟩ ?_)
  have hB44 := bg hB17 hg40 nb
  have hB45 := bg hB17 hg19 nb
  have hlo46 : w0.heap.size ≤ b21 := lob hbe25 hB45.size
  have hB47 := bg hB44 hg28 (rowlo hlo46)
  have hB48 := bg hB47 hg33 nb
  have hB49 := bg hB0 hg3 nb
  have hlo50 : w0.heap.size ≤ b7 := lob hbe11 hB49.size
  have hB51 := bg hB48 hg37 (rowlo hlo50)
  exact ⟨grown_of_below hB51, rfl⟩
 ·replace h0 := ite_f hc31 h0
  refine gv_skip <| gv_seq <| gv_seq <| gv_region <| gv_cut_ops (J := fun a w52 => w27 = w52 ∧ a.defers = [] ∧ a.tmps.size = 84 ∧ Ok [(1, (.int .i64 n_1)), (2, (bp b1)), (7, (bp b7)), (23, (.bool ((decide (n_1 < 0)) || (decide (n_1 > 4000)))))] a.tmps) ?_ ?_
  ·skip
   refine gv_pureN 3 [18, 19, 20] [(20, (.bool (decide (n_1 < 0))))] (by kernel_rfl) ?_
   refine gv_split (s := 20) (g := (decide (n_1 < 0))) (by kernel_rfl) (fun hc53 => ?_) (fun hc53 => ?_)
   ·skip
    refine gv_pureN 3 [21, 22, 23] [(23, (.bool true))] (by kernel_rfl) ?_
    refine gv_nil <| gv_sub [1, 2, 7, 23] (σ' := [(1, (.int .i64 n_1)), (2, (bp b1)), (7, (bp b7)), (23, (.bool true))]) (by kernel_rfl) ?_
    refine gv_goal fun a hd hs hok => ⟨rfl, hd, hs, ?_⟩
    obtain ⟨q1, q2, q7, q23, _⟩ := hok
    exact ⟨q1, q2, q7, (by rw [hc53]; exact q23), trivial⟩
   ·skip
    refine gv_pureN 3 [21, 22, 23] [(23, (.bool (decide (n_1 > 4000))))] (by kernel_rfl) ?_
    refine gv_nil <| gv_sub [1, 2, 7, 23] (σ' := [(1, (.int .i64 n_1)), (2, (bp b1)), (7, (bp b7)), (23, (.bool (decide (n_1 > 4000))))]) (by kernel_rfl) ?_
    refine gv_goal fun a hd hs hok => ⟨rfl, hd, hs, ?_⟩
    obtain ⟨q1, q2, q7, q23, _⟩ := hok
    exact ⟨q1, q2, q7, (by rw [hc53]; exact q23), trivial⟩
  ·rintro a w52 ⟨e, hd, hs, hok⟩; subst e
   refine gv_in ?_ hd hs hok
   clear hd hs hok
   refine gv_cond (b := ((decide (n_1 < 0)) || (decide (n_1 > 4000)))) (by kernel_rfl) (fun hc54 => ?_) (fun hc54 => ?_)
   ·replace h0 := ite_t hc54 h0
    refine gv_seq <| gv_region <| bindE h0 ?_; clear h0; intro r55 hr56 h0
    refine gv_call0 (by kernel_rfl) rfl (by kernel_rfl) enters60 (slicing_at_ok fuel 4 (-2) w27  r55 hr56) ?_
    rintro v59 w57 ⟨hg58, rfl⟩
    clear hr56 hc54 hc31 hz30 hb29 hz26 hb24 hg16 hr15 hk13 hz12 hg9 hz6 hbe5 hb4
    refine gv_pureN 3 [4, 5, 6] [(4, (.int .i64 0)), (5, (.int .i64 0)), (6, (.int .i64 0))] (by kernel_rfl) ?_
    have hg64 := (grown_trans hg19 hg23)
    have hk65 := hb10.grown hg19 nb
    have lt66 := ltl ((ltb hk65) _ rfl) ((lowb hbe25) _ rfl)
    have hk67 := ((hb10.grown hg64 nb).grown hg28 (rowne (ng lt66))).grown hg58 nb
    refine gv_store0 29 0 (.agg #[(.int .i64 r55.1), (.int .i64 r55.2)]) #[(.int .i64 r55.1), (.int .i64 r55.2)] hk67 (by kernel_rfl) (by kernel_rfl) (by kernel_rfl) ?_
    intro w60 hg61 hb62 hz63
    refine gv_nil <| gv_cret ?_
    have e := sj h0; subst e
    refine gv_ret (gv_done [(.int .i64 0), (.int .i64 0), (.int .i64 0), (.agg #[(.int .i64 r55.1), (.int .i64 r55.2)])] rfl ⟨(by kernel_rfl), (by kernel_rfl), (by kernel_rfl), ⟨⟨b7, 0, none⟩, (by kernel_rfl), run_loadVar_row w60 b7 _ 29 _ _ _ hb62 Tryz.underlying29 rfl (by kernel_rfl)⟩, trivial⟩ ?_)
    have hB68 := bg hB17 hg64 nb
    have hB69 := bg hB17 hg19 nb
    have hlo70 : w0.heap.size ≤ b21 := lob hbe25 hB69.size
    have hB71 := bg hB68 hg28 (rowlo hlo70)
    have hB72 := bg hB71 hg58 nb
    have hB73 := bg hB0 hg3 nb
    have hlo74 : w0.heap.size ≤ b7 := lob hbe11 hB73.size
    have hB75 := bg hB72 hg61 (rowlo hlo74)
    exact ⟨grown_of_below hB75, rfl⟩
   ·replace h0 := ite_f hc54 h0
    refine gv_skip <| gv_seq <| gv_region <| gv_pureN 1 [5] [(5, (.int .i64 1))] (by kernel_rfl) ?_
    refine gv_nil <| gv_seq <| gv_seq <| gv_region <| gv_pureN 1 [25] [(25, (.pointer (some ⟨b1, 8, none⟩)))] (by kernel_rfl) ?_
    have hg76 := (grown_trans hg19 hg23)
    have lt77 := ltl ((ltb hb4) _ rfl) ((lowb hbe11) _ rfl)
    have hk78 := hb10.grown hg19 nb
    have lt79 := ltl ((ltb hk78) _ rfl) ((lowb hbe25) _ rfl)
    have lt80 := ltt lt77 lt79
    have hk81 := (hk13.grown hg76 nb).grown hg28 (rowne (ng lt80))
    refine gv_load (t := 4) (A := ⟨b1, 8, none⟩) (.bool s_0.2.2.2.2.2) [] (fun e => by cases e) rfl rfl rfl (by kernel_rfl) (by kernel_rfl) (by kernel_rfl) (inw0 (hk81.cell 8 rfl)) rfl ?_
    refine gv_nil <| bindE h0 ?_; clear h0; intro j82 h1 h0
    refine gv_cut_code (J := fun a w83 => Below w0.heap.size w0 w83 ∧ w27.heap.size ≤ w83.heap.size ∧ Box w83 b1 27 #[(.bool s_0.1.1), (.slice pa0_0 (List.length s_0.1.2) pc0_0), (.bool s_0.2.1.1), (.slice pa0_1 (List.length s_0.2.1.2) pc0_1), (.bool s_0.2.2.1.1), (.slice pa0_2 (List.length s_0.2.2.1.2) pc0_2), (.bool s_0.2.2.2.1), (.bool s_0.2.2.2.2.1), (.bool s_0.2.2.2.2.2)] ∧ Box w83 b7 29 #[(.int .i64 0), (.int .i64 0)] ∧ a.defers = [] ∧ a.tmps.size = 84 ∧ Ok [(1, (.int .i64 n_1)), (2, (bp b1)), (5, (.int .i64 j82)), (7, (bp b7))] a.tmps) ?_ ?_
    ·skip
     refine gv_cond (b := s_0.2.2.2.2.2) (by kernel_rfl) (fun hc84 => ?_) (fun hc84 => ?_)
     ·replace h1 := ite_t hc84 h1
      refine gv_region <| gv_pureN 1 [27] [(27, (.pointer (some ⟨b1, 4, none⟩)))] (by kernel_rfl) ?_
      refine gv_sub [1, 2, 7, 27] (σ' := [(1, (.int .i64 n_1)), (2, (bp b1)), (7, (bp b7)), (27, (.pointer (some ⟨b1, 4, none⟩)))]) (by kernel_rfl) ?_
      refine gv_loadAgg (t := 25) (A := ⟨b1, 4, none⟩) #[(.bool s_0.2.2.1.1), (.slice pa0_2 (List.length s_0.2.2.1.2) pc0_2)] [] (fun e => by cases e) rfl rfl rfl (by kernel_rfl) (by kernel_rfl) (by kernel_rfl) (by kernel_rfl) (inw0 (Box.part hk81 4 _ rfl)) rfl ?_
      refine bindE h1 ?_; clear h1; intro r85 hr86 h1
      have hB87 := bg hB17 hg76 nb
      have hB88 := bg hB17 hg19 nb
      have hlo89 : w0.heap.size ≤ b21 := lob hbe25 hB88.size
      have hB90 := bg hB87 hg28 (rowlo hlo89)
      refine gv_call0 (by kernel_rfl) rfl (by kernel_rfl) enters61 (slicing_bounded_ok fuel pa0_2 pc0_2 (s_0.2.2.1.1, s_0.2.2.1.2) (-10000) 10000 w27 (fun k => X0 k) (fun k hk => (fun k (hk : X0 k) => ltl (hX0 k hk) hB90.size) k hk) ((hpa0_2.below hB90 hX0).wide (fun k hk => hk)) r85 hr86) ?_
      rintro v93 w91 ⟨hg92, rfl⟩
      refine gv_pureN 1 [5] [(5, (.int .i64 r85))] (by kernel_rfl) ?_
      refine gv_nil ?_
      have e := sj h1; subst e
      refine gv_goal fun a hd hs hok => ?_
      have hB94 := bg hB90 hg92 nb
      have hz95 := hg92.size
      have hk96 := hk81.grown hg92 nb
      have hk97 := ((hk78.grown hg23 nb).grown hg28 (rowne (ng lt79))).grown hg92 nb
      exact ⟨hB94, hz95, hk96, hk97, hd, hs, ok_pick [1, 2, 5, 7] hok (by kernel_rfl)⟩
     ·replace h1 := ite_f hc84 h1
      refine gv_skip ?_
      have e := sj h1; subst e
      refine gv_goal fun a hd hs hok => ?_
      have hB98 := bg hB17 hg76 nb
      have hB99 := bg hB17 hg19 nb
      have hlo100 : w0.heap.size ≤ b21 := lob hbe25 hB99.size
      have hB101 := bg hB98 hg28 (rowlo hlo100)
      have hk102 := (hk78.grown hg23 nb).grown hg28 (rowne (ng lt79))
      exact ⟨hB101, (Nat.le_refl _), hk81, hk102, hd, hs, ok_pick [1, 2, 5, 7] hok (by kernel_rfl)⟩
    ·rintro a w83 ⟨hB103, hz104, hb105, hb106, hd, hs, hok⟩
     refine gv_in ?_ hd hs hok
     clear hd hs hok
     clear hz104 hk81 lt80 lt79 hk78 hg76 hc54 hc31 hz30 hb29 hg28 hz26 hbe25 hb24 hg23 hg19 hB17 hg16 hr15 hk13 hz12 hb10 hg9 hz6 hb4
     refine gv_seq <| gv_region <| gv_pureN 3 [9, 10, 30] [(9, (.int .i64 0)), (10, (.int .i64 n_1))] (by kernel_rfl) ?_
     refine gv_nil <| gv_seq <| gv_seq <| gv_region <| gv_pureN 2 [31, 32] [(32, (.bool (decide (j82 < 0))))] (by kernel_rfl) ?_
     refine gv_nil <| bindE h0 ?_; clear h0; intro j107 h1 h0
     refine gv_cut_code (J := fun a w108 => Below w0.heap.size w0 w108 ∧ w83.heap.size ≤ w108.heap.size ∧ Box w108 b1 27 #[(.bool s_0.1.1), (.slice pa0_0 (List.length s_0.1.2) pc0_0), (.bool s_0.2.1.1), (.slice pa0_1 (List.length s_0.2.1.2) pc0_1), (.bool s_0.2.2.1.1), (.slice pa0_2 (List.length s_0.2.2.1.2) pc0_2), (.bool s_0.2.2.2.1), (.bool s_0.2.2.2.2.1), (.bool s_0.2.2.2.2.2)] ∧ Box w108 b7 29 #[(.int .i64 0), (.int .i64 0)] ∧ a.defers = [] ∧ a.tmps.size = 84 ∧ Ok [(1, (.int .i64 n_1)), (2, (bp b1)), (5, (.int .i64 j82)), (7, (bp b7)), (9, (.int .i64 j107.1)), (10, (.int .i64 j107.2))] a.tmps) ?_ ?_
     ·skip
      refine gv_cond (b := (decide (j82 < 0))) (by kernel_rfl) (fun hc109 => ?_) (fun hc109 => ?_)
      ·replace h1 := ite_t hc109 h1
       refine gv_region <| gv_pureN 4 [9, 10, 33, 34] [(9, (.int .i64 (-1))), (10, (.int .i64 (IntKind.i64.wrap (n_1 - 1))))] (by kernel_rfl) ?_
       refine gv_nil ?_
       have e := sj h1; subst e
       refine gv_goal fun a hd hs hok => ?_
       exact ⟨hB103, (Nat.le_refl _), hb105, hb106, hd, hs, ok_pick [1, 2, 5, 7, 9, 10] hok (by kernel_rfl)⟩
      ·replace h1 := ite_f hc109 h1
       refine gv_skip ?_
       have e := sj h1; subst e
       refine gv_goal fun a hd hs hok => ?_
       exact ⟨hB103, (Nat.le_refl _), hb105, hb106, hd, hs, ok_pick [1, 2, 5, 7, 9, 10] hok (by kernel_rfl)⟩
     ·rintro a w108 ⟨hB110, hz111, hb112, hb113, hd, hs, hok⟩
      refine gv_in ?_ hd hs hok
      clear hd hs hok
      clear hz111 hb106 hb105 hB103
      refine gv_seq <| gv_region <| gv_pureN 4 [4, 11, 35, 36] [(4, (.int .i64 j107.1)), (11, (.int .i64 j107.2))] (by kernel_rfl) ?_
      refine gv_nil <| gv_seq <| gv_seq <| gv_region <| gv_pureN 2 [37, 38] [(38, (.bool (decide (j82 < 0))))] (by kernel_rfl) ?_
      refine gv_nil <| bindE h0 ?_; clear h0; intro j114 h1 h0
      refine gv_cut_code (J := fun a w115 => Below w0.heap.size w0 w115 ∧ w108.heap.size ≤ w115.heap.size ∧ Box w115 b1 27 #[(.bool s_0.1.1), (.slice pa0_0 (List.length s_0.1.2) pc0_0), (.bool s_0.2.1.1), (.slice pa0_1 (List.length s_0.2.1.2) pc0_1), (.bool s_0.2.2.1.1), (.slice pa0_2 (List.length s_0.2.2.1.2) pc0_2), (.bool s_0.2.2.2.1), (.bool s_0.2.2.2.2.1), (.bool s_0.2.2.2.2.2)] ∧ Box w115 b7 29 #[(.int .i64 0), (.int .i64 0)] ∧ a.defers = [] ∧ a.tmps.size = 84 ∧ Ok [(1, (.int .i64 n_1)), (2, (bp b1)), (4, (.int .i64 j114.1)), (5, (.int .i64 j82)), (7, (bp b7)), (9, (.int .i64 j107.1)), (10, (.int .i64 j107.2)), (11, (.int .i64 j114.2))] a.tmps) ?_ ?_
      ·skip
       refine gv_cond (b := (decide (j82 < 0))) (by kernel_rfl) (fun hc116 => ?_) (fun hc116 => ?_)
       ·replace h1 := ite_t hc116 h1
        refine gv_region <| gv_pureN 4 [4, 11, 39, 40] [(4, (.int .i64 j107.2)), (11, (.int .i64 j107.1))] (by kernel_rfl) ?_
        refine gv_nil ?_
        have e := sj h1; subst e
        refine gv_goal fun a hd hs hok => ?_
        exact ⟨hB110, (Nat.le_refl _), hb112, hb113, hd, hs, ok_pick [1, 2, 4, 5, 7, 9, 10, 11] hok (by kernel_rfl)⟩
       ·replace h1 := ite_f hc116 h1
        refine gv_skip ?_
        have e := sj h1; subst e
        refine gv_goal fun a hd hs hok => ?_
        exact ⟨hB110, (Nat.le_refl _), hb112, hb113, hd, hs, ok_pick [1, 2, 4, 5, 7, 9, 10, 11] hok (by kernel_rfl)⟩
      ·rintro a w115 ⟨hB117, hz118, hb119, hb120, hd, hs, hok⟩
       refine gv_in ?_ hd hs hok
       clear hd hs hok
       clear hz118 hb113 hb112 hB110
       refine gv_seq <| gv_seq <| gv_region <| gv_pureN 1 [41] [(41, (.pointer (some ⟨b1, 6, none⟩)))] (by kernel_rfl) ?_
       refine gv_load (t := 4) (A := ⟨b1, 6, none⟩) (.bool s_0.2.2.2.1) [] (fun e => by cases e) rfl rfl rfl (by kernel_rfl) (by kernel_rfl) (by kernel_rfl) (inw0 (hb119.cell 6 rfl)) rfl ?_
       refine gv_nil <| bindE h0 ?_; clear h0; intro j121 h1 h0
       refine gv_cut_code (J := fun a w122 => Below w0.heap.size w0 w122 ∧ w115.heap.size ≤ w122.heap.size ∧ Box w122 b1 27 #[(.bool s_0.1.1), (.slice pa0_0 (List.length s_0.1.2) pc0_0), (.bool s_0.2.1.1), (.slice pa0_1 (List.length s_0.2.1.2) pc0_1), (.bool s_0.2.2.1.1), (.slice pa0_2 (List.length s_0.2.2.1.2) pc0_2), (.bool s_0.2.2.2.1), (.bool s_0.2.2.2.2.1), (.bool s_0.2.2.2.2.2)] ∧ Box w122 b7 29 #[(.int .i64 0), (.int .i64 0)] ∧ a.defers = [] ∧ a.tmps.size = 84 ∧ Ok [(1, (.int .i64 n_1)), (2, (bp b1)), (4, (.int .i64 j121)), (5, (.int .i64 j82)), (7, (bp b7)), (9, (.int .i64 j107.1)), (10, (.int .i64 j107.2)), (11, (.int .i64 j114.2))] a.tmps) ?_ ?_
       ·skip
        refine gv_cond (b := s_0.2.2.2.1) (by kernel_rfl) (fun hc123 => ?_) (fun hc123 => ?_)
        ·replace h1 := ite_t hc123 h1
         refine gv_region <| gv_pureN 1 [43] [(43, (bp b1))] (by kernel_rfl) ?_
         refine gv_loadAgg (t := 25) (A := ⟨b1, 0, none⟩) #[(.bool s_0.1.1), (.slice pa0_0 (List.length s_0.1.2) pc0_0)] [] (fun e => by cases e) rfl rfl rfl (by kernel_rfl) (by kernel_rfl) (by kernel_rfl) (by kernel_rfl) (inw0 (Box.part hb119 0 _ rfl)) rfl ?_
         refine gv_pureN 3 [45, 46, 47] [(45, (.int .i64 n_1)), (46, (.int .i64 j107.1)), (47, (.int .i64 j107.2))] (by kernel_rfl) ?_
         refine bindE h1 ?_; clear h1; intro r124 hr125 h1
         refine gv_call0 (by kernel_rfl) rfl (by kernel_rfl) enters62 (slicing_end_ok fuel pa0_0 pc0_0 (s_0.1.1, s_0.1.2) n_1 j107.1 j107.2 w115 (fun k => X0 k) (fun k hk => (fun k (hk : X0 k) => ltl (hX0 k hk) hB117.size) k hk) ((hpa0_0.below hB117 hX0).wide (fun k hk => hk)) r124 hr125) ?_
         rintro v128 w126 ⟨hg127, rfl⟩
         refine gv_pureN 1 [4] [(4, (.int .i64 r124))] (by kernel_rfl) ?_
         refine gv_nil ?_
         have e := sj h1; subst e
         refine gv_goal fun a hd hs hok => ?_
         have hB129 := bg hB117 hg127 nb
         have hz130 := hg127.size
         have hk131 := hb119.grown hg127 nb
         have hk132 := hb120.grown hg127 nb
         exact ⟨hB129, hz130, hk131, hk132, hd, hs, ok_pick [1, 2, 4, 5, 7, 9, 10, 11] hok (by kernel_rfl)⟩
        ·replace h1 := ite_f hc123 h1
         refine gv_skip ?_
         have e := sj h1; subst e
         refine gv_goal fun a hd hs hok => ?_
         exact ⟨hB117, (Nat.le_refl _), hb119, hb120, hd, hs, ok_pick [1, 2, 4, 5, 7, 9, 10, 11] hok (by kernel_rfl)⟩
       ·rintro a w122 ⟨hB133, hz134, hb135, hb136, hd, hs, hok⟩
        refine gv_in ?_ hd hs hok
        clear hd hs hok
        clear hz134 hb120 hb119 hB117
        refine gv_seq <| gv_seq <| gv_region <| gv_pureN 1 [49] [(49, (.pointer (some ⟨b1, 7, none⟩)))] (by kernel_rfl) ?_
        refine gv_load (t := 4) (A := ⟨b1, 7, none⟩) (.bool s_0.2.2.2.2.1) [] (fun e => by cases e) rfl rfl rfl (by kernel_rfl) (by kernel_rfl) (by kernel_rfl) (inw0 (hb135.cell 7 rfl)) rfl ?_
        refine gv_nil <| bindE h0 ?_; clear h0; intro j137 h1 h0
        refine gv_cut_code (J := fun a w138 => Below w0.heap.size w0 w138 ∧ w122.heap.size ≤ w138.heap.size ∧ Box w138 b7 29 #[(.int .i64 0), (.int .i64 0)] ∧ a.defers = [] ∧ a.tmps.size = 84 ∧ Ok [(4, (.int .i64 j121)), (5, (.int .i64 j82)), (7, (bp b7)), (11, (.int .i64 j137))] a.tmps) ?_ ?_
        ·skip
         refine gv_cond (b := s_0.2.2.2.2.1) (by kernel_rfl) (fun hc139 => ?_) (fun hc139 => ?_)
         ·replace h1 := ite_t hc139 h1
          refine gv_region <| gv_pureN 1 [51] [(51, (.pointer (some ⟨b1, 2, none⟩)))] (by kernel_rfl) ?_
          refine gv_loadAgg (t := 25) (A := ⟨b1, 2, none⟩) #[(.bool s_0.2.1.1), (.slice pa0_1 (List.length s_0.2.1.2) pc0_1)] [] (fun e => by cases e) rfl rfl rfl (by kernel_rfl) (by kernel_rfl) (by kernel_rfl) (by kernel_rfl) (inw0 (Box.part hb135 2 _ rfl)) rfl ?_
          refine gv_pureN 3 [53, 54, 55] [(53, (.int .i64 n_1)), (54, (.int .i64 j107.1)), (55, (.int .i64 j107.2))] (by kernel_rfl) ?_
          refine bindE h1 ?_; clear h1; intro r140 hr141 h1
          refine gv_call0 (by kernel_rfl) rfl (by kernel_rfl) enters62 (slicing_end_ok fuel pa0_1 pc0_1 (s_0.2.1.1, s_0.2.1.2) n_1 j107.1 j107.2 w122 (fun k => X0 k) (fun k hk => (fun k (hk : X0 k) => ltl (hX0 k hk) hB133.size) k hk) ((hpa0_1.below hB133 hX0).wide (fun k hk => hk)) r140 hr141) ?_
          rintro v144 w142 ⟨hg143, rfl⟩
          refine gv_pureN 1 [11] [(11, (.int .i64 r140))] (by kernel_rfl) ?_
          refine gv_nil ?_
          have e := sj h1; subst e
          refine gv_goal fun a hd hs hok => ?_
          have hB145 := bg hB133 hg143 nb
          have hz146 := hg143.size
          have hk147 := hb136.grown hg143 nb
          exact ⟨hB145, hz146, hk147, hd, hs, ok_pick [4, 5, 7, 11] hok (by kernel_rfl)⟩
         ·replace h1 := ite_f hc139 h1
          refine gv_skip ?_
          have e := sj h1; subst e
          refine gv_goal fun a hd hs hok => ?_
          exact ⟨hB133, (Nat.le_refl _), hb136, hd, hs, ok_pick [4, 5, 7, 11] hok (by kernel_rfl)⟩
        ·rintro a w138 ⟨hB148, hz149, hb150, hd, hs, hok⟩
         refine gv_in ?_ hd hs hok
         clear hd hs hok
         clear hz149 hb136 hb135 hB133 lt77 hbe5
         refine gv_seq <| gv_seq <| gv_region <| gv_pureN 2 [57, 58] [(58, (.bool (decide (j82 < 0))))] (by kernel_rfl) ?_
         refine gv_nil <| gv_cond (b := (decide (j82 < 0))) (by kernel_rfl) (fun hc151 => ?_) (fun hc151 => ?_)
         ·replace h0 := ite_t hc151 h0
          refine gv_seq <| gv_drawA (by kernel_rfl) ?_
          intro w152 hg153
          refine gv_pre [0, 1, 2, 3, 4, 5, 6, 7, 8, 9, 10, 11, 12, 13, 14, 15] (bA 17 [0, 1, 2, 3, 4, 5, 6, 7, 8, 9, 10, 11, 12, 13, 14, 15]) 1 (by kernel_rfl) (by kernel_rfl) ?_
          refine gv_pureN 10 [59, 60, 61, 62, 63, 64, 65, 66, 67, 68] [(59, (.int .i64 j121)), (60, (.int .i64 j82)), (66, (.int .i64 (IntKind.i64.wrap ((IntKind.i64.wrap ((IntKind.i64.wrap (j121 - j137)) - j82)) - 1)))), (68, (.int .i64 (IntKind.i64.wrap (0 - j82))))] (by kernel_rfl) ?_
          refine bindE h0 ?_; clear h0; intro _ hx154 h0
          refine gv_quo (t := 3) (kk := .i64) (x := (IntKind.i64.wrap ((IntKind.i64.wrap ((IntKind.i64.wrap (j121 - j137)) - j82)) - 1))) (y := (IntKind.i64.wrap (0 - j82))) [] (fun e => by cases e) rfl rfl rfl (by kernel_rfl) (by kernel_rfl) (nz_spec hx154) rfl ?_
          refine gv_pureN 5 [4, 5, 6, 70, 71] [(4, (.int .i64 j121)), (5, (.int .i64 j82)), (6, (.int .i64 (if 0 < (IntKind.i64.wrap (((IntKind.i64.wrap ((IntKind.i64.wrap ((IntKind.i64.wrap (j121 - j137)) - j82)) - 1))).tdiv (IntKind.i64.wrap (0 - j82)))) then (IntKind.i64.wrap (((IntKind.i64.wrap ((IntKind.i64.wrap ((IntKind.i64.wrap (j121 - j137)) - j82)) - 1))).tdiv (IntKind.i64.wrap (0 - j82)))) else 0))), (71, (.agg #[(.int .i64 0), (.int .i64 0)]))] (by kernel_rfl) ?_
          refine bindE h0 ?_; clear h0; intro n155 hn156 h0
          refine gv_name (s := 6) (v := (.int .i64 (if 0 < (IntKind.i64.wrap (((IntKind.i64.wrap ((IntKind.i64.wrap ((IntKind.i64.wrap (j121 - j137)) - j82)) - 1))).tdiv (IntKind.i64.wrap (0 - j82)))) then (IntKind.i64.wrap (((IntKind.i64.wrap ((IntKind.i64.wrap ((IntKind.i64.wrap (j121 - j137)) - j82)) - 1))).tdiv (IntKind.i64.wrap (0 - j82)))) else 0))) (v' := (.int .i64 n155)) (by kernel_rfl) (congrArg (Value.int .i64) (sj hn156)) ?_
          refine gv_nil <| gv_goA ?_
          refine gv_stage (fun _ => True) [0, 1, 2, 3, 4, 5, 6, 7, 8, 9, 10, 11, 12, 13, 14, 15, 16] [(16, some false)] (bA 17 [0, 1, 2, 3, 4, 5, 6, 7, 8, 9, 10, 11, 12, 13, 14, 15, 16]) 0 (by kernel_rfl) (by kernel_rfl) trivial ?_
          have hk161 := hb150.grown hg153 nb
          refine gv_store (t := 29) (b := b7) (off := 0) (v := (.agg #[(.int .i64 0), (.int .i64 0)])) (t' := 29) (cs := #[(.int .i64 0), (.int .i64 0)]) #[(.int .i64 0), (.int .i64 0)] (by decide) rfl rfl (by kernel_rfl) (by kernel_rfl) (by kernel_rfl) (by intro u hu; simp [Value.cells] at hu; rcases hu with rfl | rfl <;> rfl) (show 0 + 2 ≤ 2 by decide) (by rfl) hk161 ?_
          intro w157 hg158 hb159 hz160
          refine ⟨(fun _ => trivial), ?_⟩
          refine gv_nil <| gv_goA ?_
          refine gv_stageE (by kernel_rfl) ?_
          refine gv_cret ?_
          have e := sj h0; subst e
          refine gv_ret (gv_done [(.int .i64 j121), (.int .i64 j82), (.int .i64 n155), (.agg #[(.int .i64 0), (.int .i64 0)])] rfl ⟨(by kernel_rfl), (by kernel_rfl), (by kernel_rfl), ⟨⟨b7, 0, none⟩, (by kernel_rfl), run_loadVar_row w157 b7 _ 29 _ _ _ hb159 Tryz.underlying29 rfl (by kernel_rfl)⟩, trivial⟩ ?_)
          have hB162 := bg hB148 hg153 nb
          have hB163 := bg hB0 hg3 nb
          have hlo164 : w0.heap.size ≤ b7 := lob hbe11 hB163.size
          have hB165 := bg hB162 hg158 (rowlo hlo164)
          exact ⟨grown_of_below hB165, rfl⟩
         ·replace h0 := ite_f hc151 h0
          refine gv_skip <| gv_seq <| gv_drawA (by kernel_rfl) ?_
          intro w166 hg167
          refine gv_pre [0, 1, 2, 3, 4, 5, 6, 7, 8, 9, 10, 11, 12, 13, 14] (bA 16 [0, 1, 2, 3, 4, 5, 6, 7, 8, 9, 10, 11, 12, 13, 14]) 1 (by kernel_rfl) (by kernel_rfl) ?_
          refine gv_pureN 9 [72, 73, 74, 75, 76, 77, 78, 79, 80] [(72, (.int .i64 j121)), (73, (.int .i64 j82)), (79, (.int .i64 (IntKind.i64.wrap ((IntKind.i64.wrap ((IntKind.i64.wrap (j137 - j121)) + j82)) - 1)))), (80, (.int .i64 j82))] (by kernel_rfl) ?_
          refine bindE h0 ?_; clear h0; intro _ hx168 h0
          refine gv_quo (t := 3) (kk := .i64) (x := (IntKind.i64.wrap ((IntKind.i64.wrap ((IntKind.i64.wrap (j137 - j121)) + j82)) - 1))) (y := j82) [] (fun e => by cases e) rfl rfl rfl (by kernel_rfl) (by kernel_rfl) (nz_spec hx168) rfl ?_
          refine gv_pureN 5 [4, 5, 6, 82, 83] [(4, (.int .i64 j121)), (5, (.int .i64 j82)), (6, (.int .i64 (if 0 < (IntKind.i64.wrap (((IntKind.i64.wrap ((IntKind.i64.wrap ((IntKind.i64.wrap (j137 - j121)) + j82)) - 1))).tdiv j82)) then (IntKind.i64.wrap (((IntKind.i64.wrap ((IntKind.i64.wrap ((IntKind.i64.wrap (j137 - j121)) + j82)) - 1))).tdiv j82)) else 0))), (83, (.agg #[(.int .i64 0), (.int .i64 0)]))] (by kernel_rfl) ?_
          refine bindE h0 ?_; clear h0; intro n169 hn170 h0
          refine gv_name (s := 6) (v := (.int .i64 (if 0 < (IntKind.i64.wrap (((IntKind.i64.wrap ((IntKind.i64.wrap ((IntKind.i64.wrap (j137 - j121)) + j82)) - 1))).tdiv j82)) then (IntKind.i64.wrap (((IntKind.i64.wrap ((IntKind.i64.wrap ((IntKind.i64.wrap (j137 - j121)) + j82)) - 1))).tdiv j82)) else 0))) (v' := (.int .i64 n169)) (by kernel_rfl) (congrArg (Value.int .i64) (sj hn170)) ?_
          refine gv_nil <| gv_goA ?_
          refine gv_stage (fun _ => True) [0, 1, 2, 3, 4, 5, 6, 7, 8, 9, 10, 11, 12, 13, 14, 15] [(15, some false)] (bA 16 [0, 1, 2, 3, 4, 5, 6, 7, 8, 9, 10, 11, 12, 13, 14, 15]) 0 (by kernel_rfl) (by kernel_rfl) trivial ?_
          have hk175 := hb150.grown hg167 nb
          refine gv_store (t := 29) (b := b7) (off := 0) (v := (.agg #[(.int .i64 0), (.int .i64 0)])) (t' := 29) (cs := #[(.int .i64 0), (.int .i64 0)]) #[(.int .i64 0), (.int .i64 0)] (by decide) rfl rfl (by kernel_rfl) (by kernel_rfl) (by kernel_rfl) (by intro u hu; simp [Value.cells] at hu; rcases hu with rfl | rfl <;> rfl) (show 0 + 2 ≤ 2 by decide) (by rfl) hk175 ?_
          intro w171 hg172 hb173 hz174
          refine ⟨(fun _ => trivial), ?_⟩
          clear hz174 hn170 hx168 hc151 hb150
          refine gv_nil <| gv_goA ?_
          refine gv_stageE (by kernel_rfl) ?_
          refine gv_cret ?_
          have e := sj h0; subst e
          refine gv_ret (gv_done [(.int .i64 j121), (.int .i64 j82), (.int .i64 n169), (.agg #[(.int .i64 0), (.int .i64 0)])] rfl ⟨(by kernel_rfl), (by kernel_rfl), (by kernel_rfl), ⟨⟨b7, 0, none⟩, (by kernel_rfl), run_loadVar_row w171 b7 _ 29 _ _ _ hb173 Tryz.underlying29 rfl (by kernel_rfl)⟩, trivial⟩ ?_)
          have hB176 := bg hB148 hg167 nb
          have hB177 := bg hB0 hg3 nb
          have hlo178 : w0.heap.size ≤ b7 := lob hbe11 hB177.size
          have hB179 := bg hB176 hg172 (rowlo hlo178)
          exact ⟨grown_of_below hB179, rfl⟩

end Go.Proofs.YtkmcegicngjhbaaGreatDoor
