import Derived.Test.YtkmcegicngjhbaaDoorRows
import Derived.Test.YtkmcegicngjhbaaDoorGh
import Derived.Test.YtkmcegicngjhbaaDoorD
import Derived.Test.YtkmcegicngjhbaaDoorSt
set_option linter.all false
set_option maxHeartbeats 4000000
set_option maxRecDepth 100000
/- Own work, printed by a program of mine: the walk of each function: a call returns what the plain function says. -/
namespace Go.Proofs.YtkmcegicngjhbaaDoor
open Go.Gv Go.Gv.D Go.RowKit
theorem nl {a b : Nat} (h : a ≤ b) : ¬ b < a := Nat.not_lt_of_le h
theorem sj {α : Type _} {a b : α} (h : some a = some b) : a = b := Option.some.inj h
theorem ng {a b : Nat} (h : b < a) : a ≠ b := Nat.ne_of_gt h
theorem ltl {a b c : Nat} (h : a < b) (h' : b ≤ c) : a < c := Nat.lt_of_lt_of_le h h'
theorem ltt {a b c : Nat} (h : a < b) (h' : b < c) : a < c := Nat.lt_trans h h'
theorem enters14 : Go.Gv.Enters Tryd.prog 14 := ⟨Tryd.f14, Tryd.func14, by kernel_rfl, by kernel_rfl⟩
theorem enters16 : Go.Gv.Enters Tryd.prog 16 := ⟨Tryd.f16, Tryd.func16, by kernel_rfl, by kernel_rfl⟩
theorem enters18 : Go.Gv.Enters Tryd.prog 18 := ⟨Tryd.f18, Tryd.func18, by kernel_rfl, by kernel_rfl⟩
theorem enters21 : Go.Gv.Enters Tryd.prog 21 := ⟨Tryd.f21, Tryd.func21, by kernel_rfl, by kernel_rfl⟩
theorem enters46 : Go.Gv.Enters Tryd.prog 46 := ⟨Tryd.f46, Tryd.func46, by kernel_rfl, by kernel_rfl⟩
theorem enters52 : Go.Gv.Enters Tryd.prog 52 := ⟨Tryd.f52, Tryd.func52, by kernel_rfl, by kernel_rfl⟩
theorem enters56 : Go.Gv.Enters Tryd.prog 56 := ⟨Tryd.f56, Tryd.func56, by kernel_rfl, by kernel_rfl⟩
theorem enters57 : Go.Gv.Enters Tryd.prog 57 := ⟨Tryd.f57, Tryd.func57, by kernel_rfl, by kernel_rfl⟩
theorem enters58 : Go.Gv.Enters Tryd.prog 58 := ⟨Tryd.f58, Tryd.func58, by kernel_rfl, by kernel_rfl⟩
theorem enters59 : Go.Gv.Enters Tryd.prog 59 := ⟨Tryd.f59, Tryd.func59, by kernel_rfl, by kernel_rfl⟩
theorem enters60 : Go.Gv.Enters Tryd.prog 60 := ⟨Tryd.f60, Tryd.func60, by kernel_rfl, by kernel_rfl⟩
theorem enters62 : Go.Gv.Enters Tryd.prog 62 := ⟨Tryd.f62, Tryd.func62, by kernel_rfl, by kernel_rfl⟩
theorem enters63 : Go.Gv.Enters Tryd.prog 63 := ⟨Tryd.f63, Tryd.func63, by kernel_rfl, by kernel_rfl⟩
theorem enters64 : Go.Gv.Enters Tryd.prog 64 := ⟨Tryd.f64, Tryd.func64, by kernel_rfl, by kernel_rfl⟩
theorem enters65 : Go.Gv.Enters Tryd.prog 65 := ⟨Tryd.f65, Tryd.func65, by kernel_rfl, by kernel_rfl⟩
theorem enters66 : Go.Gv.Enters Tryd.prog 66 := ⟨Tryd.f66, Tryd.func66, by kernel_rfl, by kernel_rfl⟩
theorem enters73 : Go.Gv.Enters Tryd.prog 73 := ⟨Tryd.f73, Tryd.func73, by kernel_rfl, by kernel_rfl⟩
theorem enters76 : Go.Gv.Enters Tryd.prog 76 := ⟨Tryd.f76, Tryd.func76, by kernel_rfl, by kernel_rfl⟩
theorem enters79 : Go.Gv.Enters Tryd.prog 79 := ⟨Tryd.f79, Tryd.func79, by kernel_rfl, by kernel_rfl⟩
theorem enters80 : Go.Gv.Enters Tryd.prog 80 := ⟨Tryd.f80, Tryd.func80, by kernel_rfl, by kernel_rfl⟩
theorem enters81 : Go.Gv.Enters Tryd.prog 81 := ⟨Tryd.f81, Tryd.func81, by kernel_rfl, by kernel_rfl⟩
theorem enters88 : Go.Gv.Enters Tryd.prog 88 := ⟨Tryd.f88, Tryd.func88, by kernel_rfl, by kernel_rfl⟩
theorem enters89 : Go.Gv.Enters Tryd.prog 89 := ⟨Tryd.f89, Tryd.func89, by kernel_rfl, by kernel_rfl⟩
theorem enters90 : Go.Gv.Enters Tryd.prog 90 := ⟨Tryd.f90, Tryd.func90, by kernel_rfl, by kernel_rfl⟩
theorem enters91 : Go.Gv.Enters Tryd.prog 91 := ⟨Tryd.f91, Tryd.func91, by kernel_rfl, by kernel_rfl⟩
theorem enters98 : Go.Gv.Enters Tryd.prog 98 := ⟨Tryd.f98, Tryd.func98, by kernel_rfl, by kernel_rfl⟩
theorem enters99 : Go.Gv.Enters Tryd.prog 99 := ⟨Tryd.f99, Tryd.func99, by kernel_rfl, by kernel_rfl⟩
theorem enters100 : Go.Gv.Enters Tryd.prog 100 := ⟨Tryd.f100, Tryd.func100, by kernel_rfl, by kernel_rfl⟩
theorem enters101 : Go.Gv.Enters Tryd.prog 101 := ⟨Tryd.f101, Tryd.func101, by kernel_rfl, by kernel_rfl⟩
theorem enters102 : Go.Gv.Enters Tryd.prog 102 := ⟨Tryd.f102, Tryd.func102, by kernel_rfl, by kernel_rfl⟩
theorem enters113 : Go.Gv.Enters Tryd.prog 113 := ⟨Tryd.f113, Tryd.func113, by kernel_rfl, by kernel_rfl⟩
theorem enters114 : Go.Gv.Enters Tryd.prog 114 := ⟨Tryd.f114, Tryd.func114, by kernel_rfl, by kernel_rfl⟩
theorem enters115 : Go.Gv.Enters Tryd.prog 115 := ⟨Tryd.f115, Tryd.func115, by kernel_rfl, by kernel_rfl⟩
theorem enters116 : Go.Gv.Enters Tryd.prog 116 := ⟨Tryd.f116, Tryd.func116, by kernel_rfl, by kernel_rfl⟩
theorem enters117 : Go.Gv.Enters Tryd.prog 117 := ⟨Tryd.f117, Tryd.func117, by kernel_rfl, by kernel_rfl⟩
theorem enters123 : Go.Gv.Enters Tryd.prog 123 := ⟨Tryd.f123, Tryd.func123, by kernel_rfl, by kernel_rfl⟩
theorem enters126 : Go.Gv.Enters Tryd.prog 126 := ⟨Tryd.f126, Tryd.func126, by kernel_rfl, by kernel_rfl⟩
theorem info9 : InfoOk Tryd.prog 9 1 := infoOk (z := (.string ⟨#[]⟩)) (bytes := 16) (by kernel_rfl) (by kernel_rfl) (by kernel_rfl) (by kernel_rfl)

theorem textstr_at_ok (fuel : Nat) (code_0 : Int) (index_1 : Int) (w0 : World)  (r0 : (Int × Int)) (h0 : textstr_at fuel code_0 index_1 = some r0) :
    Calls Tryd.prog 56 ([(.int .i64 code_0), (.int .i64 index_1)] : List Value).toArray w0 (Ret fun v w' => w0.grownBy w' none ∧ v = tup [(.agg #[(.int .i64 r0.1), (.int .i64 r0.2)])]) := by
 have hB0 : Below w0.heap.size w0 w0 := Below.refl _ _
 unfold textstr_at at h0
 refine calls_run Tryd.func56 rfl Tryd.ntmps56 (by kernel_rfl) ?_
 refine gv_sub [0, 1] (σ' := [(0, (.int .i64 code_0)), (1, (.int .i64 index_1))]) (by kernel_rfl) ?_
 refine gv_seq <| gv_region <| gv_new0 (fun b => .pointer (some ⟨b, 0, none⟩)) #[(.int .i64 0), (.int .i64 0)] 24 (by kernel_rfl) (by kernel_rfl) ?_
 intro b1 w2 hg3 hb4 hbe5 hz6
 refine gv_nil <| gv_seq <| gv_region <| gv_pureN 3 [5, 6, 7] [(7, (.agg #[(.int .i64 code_0), (.int .i64 index_1)]))] (by kernel_rfl) ?_
 refine gv_store0 24 0 (.agg #[(.int .i64 code_0), (.int .i64 index_1)]) #[(.int .i64 code_0), (.int .i64 index_1)] hb4 (by kernel_rfl) (by kernel_rfl) (by kernel_rfl) ?_
 intro w7 hg8 hb9 hz10
 refine gv_nil <| gv_cret ?_
 have e := sj h0; subst e
 refine gv_ret (gv_done [(.agg #[(.int .i64 code_0), (.int .i64 index_1)])] rfl ⟨⟨⟨b1, 0, none⟩, (by kernel_rfl), run_loadVar_row w7 b1 _ 24 _ _ _ hb9 Tryd.underlying24 rfl (by kernel_rfl)⟩, trivial⟩ ?_)
 have hB11 := bg hB0 hg3 nb
 have hlo12 : w0.heap.size ≤ b1 := lob hbe5 hB0.size
 have hB13 := bg hB11 hg8 (rowlo hlo12)
 exact ⟨grown_of_below hB13, rfl⟩

theorem utf8_word_string_ok (fuel : Nat) (s_0 : ByteArray) (w0 : World)  (r0 : Int) (h0 : utf8_word_string fuel s_0 = some r0) :
    Calls Tryd.prog 123 ([(.string s_0)] : List Value).toArray w0 (Ret fun v w' => w0.grownBy w' none ∧ v = tup [(.int .u64 r0)]) := by
 have hB0 : Below w0.heap.size w0 w0 := Below.refl _ _
 unfold utf8_word_string at h0
 refine calls_run Tryd.func123 rfl Tryd.ntmps123 (by kernel_rfl) ?_
 refine gv_sub [0] (σ' := [(0, (.string s_0))]) (by kernel_rfl) ?_
 refine gv_seq <| gv_region <| gv_pureN 1 [2] [] (by kernel_rfl) ?_
 refine gv_nil <| gv_seq <| gv_cond (b := false) (by kernel_rfl) (fun hc => ?_) (fun hc => ?_)
 ·cases hc
 clear hc
 refine gv_skip <| gv_seq <| gv_drawA (by kernel_rfl) ?_
 intro w1 hg2
 refine gv_pre [0, 1, 3, 4, 8, 9, 13, 14, 18, 19, 23, 24, 28, 29, 33, 34] (bA 39 [0, 1, 3, 4, 8, 9, 13, 14, 18, 19, 23, 24, 28, 29, 33, 34]) 23 (by kernel_rfl) (by kernel_rfl) ?_
 refine gv_pureN 1 [21] [(21, (.string s_0))] (by kernel_rfl) ?_
 refine bindE h0 ?_; clear h0; intro x3 hx4 h0
 refine gv_sindex (t := 9) (s := s_0) (kk := .i64) (i := 0) x3 [] (fun e => by cases e) rfl rfl rfl (by kernel_rfl) (by kernel_rfl) Tryd.underlying9 hx4 rfl ?_
 refine gv_pureN 1 [24] [(24, (.string s_0))] (by kernel_rfl) ?_
 refine bindE h0 ?_; clear h0; intro x5 hx6 h0
 refine gv_sindex (t := 9) (s := s_0) (kk := .i64) (i := 1) x5 [] (fun e => by cases e) rfl rfl rfl (by kernel_rfl) (by kernel_rfl) Tryd.underlying9 hx6 rfl ?_
 refine gv_pureN 1 [29] [(29, (.string s_0))] (by kernel_rfl) ?_
 refine bindE h0 ?_; clear h0; intro x7 hx8 h0
 refine gv_sindex (t := 9) (s := s_0) (kk := .i64) (i := 2) x7 [] (fun e => by cases e) rfl rfl rfl (by kernel_rfl) (by kernel_rfl) Tryd.underlying9 hx8 rfl ?_
 refine gv_pureN 1 [34] [(34, (.string s_0))] (by kernel_rfl) ?_
 refine bindE h0 ?_; clear h0; intro x9 hx10 h0
 refine gv_sindex (t := 9) (s := s_0) (kk := .i64) (i := 3) x9 [] (fun e => by cases e) rfl rfl rfl (by kernel_rfl) (by kernel_rfl) Tryd.underlying9 hx10 rfl ?_
 refine gv_pureN 1 [39] [(39, (.string s_0))] (by kernel_rfl) ?_
 refine bindE h0 ?_; clear h0; intro x11 hx12 h0
 refine gv_sindex (t := 9) (s := s_0) (kk := .i64) (i := 4) x11 [] (fun e => by cases e) rfl rfl rfl (by kernel_rfl) (by kernel_rfl) Tryd.underlying9 hx12 rfl ?_
 refine gv_pureN 1 [44] [(44, (.string s_0))] (by kernel_rfl) ?_
 refine bindE h0 ?_; clear h0; intro x13 hx14 h0
 refine gv_sindex (t := 9) (s := s_0) (kk := .i64) (i := 5) x13 [] (fun e => by cases e) rfl rfl rfl (by kernel_rfl) (by kernel_rfl) Tryd.underlying9 hx14 rfl ?_
 refine gv_pureN 1 [49] [(49, (.string s_0))] (by kernel_rfl) ?_
 refine gv_sub [0, 22, 25, 30, 35, 40, 45, 49] (σ' := [(0, (.string s_0)), (22, (.int .u8 x3)), (25, (.int .u8 x5)), (30, (.int .u8 x7)), (35, (.int .u8 x9)), (40, (.int .u8 x11)), (45, (.int .u8 x13)), (49, (.string s_0))]) (by kernel_rfl) ?_
 refine bindE h0 ?_; clear h0; intro x15 hx16 h0
 refine gv_sindex (t := 9) (s := s_0) (kk := .i64) (i := 6) x15 [] (fun e => by cases e) rfl rfl rfl (by kernel_rfl) (by kernel_rfl) Tryd.underlying9 hx16 rfl ?_
 refine gv_pureN 1 [54] [(54, (.string s_0))] (by kernel_rfl) ?_
 refine bindE h0 ?_; clear h0; intro x17 hx18 h0
 refine gv_sindex (t := 9) (s := s_0) (kk := .i64) (i := 7) x17 [] (fun e => by cases e) rfl rfl rfl (by kernel_rfl) (by kernel_rfl) Tryd.underlying9 hx18 rfl ?_
 refine gv_nil <| gv_goA ?_
 refine gv_stage (Cls w1 []) [0, 1, 2, 3, 4, 5, 6, 7, 8, 9, 10, 11, 12, 13, 14, 15, 16, 17, 18, 19, 20, 21, 22, 23, 24, 25, 26, 27, 28, 29, 30, 31, 32, 33, 34, 35, 36] [(2, some true), (5, some true), (6, some true), (7, some true), (10, some true), (11, some true), (12, some true), (15, some true), (16, some true), (17, some true), (20, some true), (21, some true), (22, some true), (25, some true), (26, some true), (27, some true), (30, some true), (31, some true), (32, some true), (35, some true), (36, some true)] (bA 39 [0, 1, 2, 3, 4, 5, 6, 7, 8, 9, 10, 11, 12, 13, 14, 15, 16, 17, 18, 19, 20, 21, 22, 23, 24, 25, 26, 27, 28, 29, 30, 31, 32, 33, 34, 35, 36]) 2 (by kernel_rfl) (by kernel_rfl) (Cls.refl _ _) ?_
 have hC19 := Cls.refl w1 []
 refine gv_pureN 21 [23, 26, 27, 28, 31, 32, 33, 36, 37, 38, 41, 42, 43, 46, 47, 48, 51, 52, 53, 56, 57] [(53, (.int .u64 (bwOr .u64 (bwOr .u64 (bwOr .u64 (bwOr .u64 (bwOr .u64 (bwOr .u64 (IntKind.u64.wrap (x3)) (IntKind.u64.wrap ((IntKind.u64.wrap (x5)) * 2 ^ 8))) (IntKind.u64.wrap ((IntKind.u64.wrap (x7)) * 2 ^ 16))) (IntKind.u64.wrap ((IntKind.u64.wrap (x9)) * 2 ^ 24))) (IntKind.u64.wrap ((IntKind.u64.wrap (x11)) * 2 ^ 32))) (IntKind.u64.wrap ((IntKind.u64.wrap (x13)) * 2 ^ 40))) (IntKind.u64.wrap ((IntKind.u64.wrap (x15)) * 2 ^ 48))))), (57, (.int .u64 (IntKind.u64.wrap ((IntKind.u64.wrap (x17)) * 2 ^ 56))))] (by kernel_rfl) ?_
 refine gv_nil <| gv_goA ?_
 refine gv_pre [37, 38] (bA 39 [0, 1, 2, 3, 4, 5, 6, 7, 8, 9, 10, 11, 12, 13, 14, 15, 16, 17, 18, 19, 20, 21, 22, 23, 24, 25, 26, 27, 28, 29, 30, 31, 32, 33, 34, 35, 36, 37, 38]) 0 (by kernel_rfl) (by kernel_rfl) ?_
 refine gv_pureN 2 [2, 58] [(2, (.int .u64 (bwOr .u64 (bwOr .u64 (bwOr .u64 (bwOr .u64 (bwOr .u64 (bwOr .u64 (bwOr .u64 (IntKind.u64.wrap (x3)) (IntKind.u64.wrap ((IntKind.u64.wrap (x5)) * 2 ^ 8))) (IntKind.u64.wrap ((IntKind.u64.wrap (x7)) * 2 ^ 16))) (IntKind.u64.wrap ((IntKind.u64.wrap (x9)) * 2 ^ 24))) (IntKind.u64.wrap ((IntKind.u64.wrap (x11)) * 2 ^ 32))) (IntKind.u64.wrap ((IntKind.u64.wrap (x13)) * 2 ^ 40))) (IntKind.u64.wrap ((IntKind.u64.wrap (x15)) * 2 ^ 48))) (IntKind.u64.wrap ((IntKind.u64.wrap (x17)) * 2 ^ 56)))))] (by kernel_rfl) ?_
 refine bindE h0 ?_; clear h0; intro n20 hn21 h0
 refine gv_name (s := 2) (v := (.int .u64 (bwOr .u64 (bwOr .u64 (bwOr .u64 (bwOr .u64 (bwOr .u64 (bwOr .u64 (bwOr .u64 (IntKind.u64.wrap (x3)) (IntKind.u64.wrap ((IntKind.u64.wrap (x5)) * 2 ^ 8))) (IntKind.u64.wrap ((IntKind.u64.wrap (x7)) * 2 ^ 16))) (IntKind.u64.wrap ((IntKind.u64.wrap (x9)) * 2 ^ 24))) (IntKind.u64.wrap ((IntKind.u64.wrap (x11)) * 2 ^ 32))) (IntKind.u64.wrap ((IntKind.u64.wrap (x13)) * 2 ^ 40))) (IntKind.u64.wrap ((IntKind.u64.wrap (x15)) * 2 ^ 48))) (IntKind.u64.wrap ((IntKind.u64.wrap (x17)) * 2 ^ 56))))) (v' := (.int .u64 n20)) (by kernel_rfl) (congrArg (Value.int .u64) (sj hn21)) ?_
 refine gv_nil <| gv_goA ?_
 refine gv_stageE (by kernel_rfl) ?_
 refine gv_cret ?_
 have e := sj h0; subst e
 refine gv_ret (gv_done [(.int .u64 n20)] rfl ⟨(by kernel_rfl), trivial⟩ ?_)
 have hB22 := bg hB0 hg2 nb
 exact ⟨grown_of_below hB22, rfl⟩

theorem utf8_ValidString_ok (fuel : Nat) (s_0 : ByteArray) (w0 : World) (X0 : Nat → Prop) (hX0 : ∀ k, X0 k → k < w0.heap.size) (hG1 : Rd bE w0 X0 (some ⟨1, 0, none⟩) 256 utf8First) (hG2 : Rd (prE (iE .u8) (iE .u8)) w0 X0 (some ⟨2, 0, none⟩) 16 utf8Acc) (r0 : Bool) (h0 : utf8_ValidString fuel s_0 = some r0) :
    Calls Tryd.prog 98 ([(.string s_0)] : List Value).toArray w0 (Ret fun v w' => w0.grownBy w' none ∧ v = tup [(.bool r0)]) := by
 have hB0 : Below w0.heap.size w0 w0 := Below.refl _ _
 unfold utf8_ValidString at h0
 refine calls_run Tryd.func98 rfl Tryd.ntmps98 (by kernel_rfl) ?_
 refine gv_sub [0] (σ' := [(0, (.string s_0))]) (by kernel_rfl) ?_
 refine gv_seq <| gv_region <| gv_pureN 1 [2] [] (by kernel_rfl) ?_
 refine gv_nil <| gv_seq <| bindE h0 ?_; clear h0; intro j1 h1 h0
 refine gv_cut_code (J := fun a w3 => ∃ s2 : Unit, j1 = .inl s2 ∧ Below w0.heap.size w0 w3 ∧ w0.heap.size ≤ w3.heap.size ∧ a.defers = [] ∧ a.tmps.size = 169 ∧ Ok [] a.tmps) ?_ ?_
 ·skip
  refine gv_block <| gv_loop (A := fun (s4 : ByteArray) a w5 => Below w0.heap.size w0 w5 ∧ w0.heap.size ≤ w5.heap.size ∧ a.defers = [] ∧ a.tmps.size = 169 ∧ Ok [(0, (.string s4))] a.tmps) h1 ?_ ?_
  ·intro a hd hs hok
   exact ⟨hB0, (Nat.le_refl _), hd, hs, ok_pick [0] hok (by kernel_rfl)⟩
  ·rintro s4 r2 h2 hR2 a w5 ⟨hB6, hz7, hd, hs, hok⟩
   refine gv_in ?_ hd hs hok
   clear hd hs hok
   refine gv_seq <| gv_seq <| gv_region <| gv_pureN 3 [7, 8, 9] [(9, (.bool (decide (((ByteArray.size s4 : Nat) : Int) > 0))))] (by kernel_rfl) ?_
   refine gv_nil <| gv_cond (b := (decide (((ByteArray.size s4 : Nat) : Int) > 0))) (by kernel_rfl) (fun hc8 => ?_) (fun hc8 => ?_)
   ·replace h2 := ite_t hc8 h2
    refine gv_skip <| gv_block <| gv_seq <| gv_region <| gv_pureN 1 [10] [(10, (.string s4))] (by kernel_rfl) ?_
    refine bindE h2 ?_; clear h2; intro x9 hx10 h2
    refine gv_sindex (t := 9) (s := s4) (kk := .i64) (i := 0) x9 [] (fun e => by cases e) rfl rfl rfl (by kernel_rfl) (by kernel_rfl) Tryd.underlying9 hx10 rfl ?_
    refine gv_pureN 1 [3] [(3, (.int .u8 x9))] (by kernel_rfl) ?_
    refine gv_nil <| gv_seq <| gv_seq <| gv_region <| gv_pureN 2 [12, 13] [(13, (.bool (decide (x9 < 128))))] (by kernel_rfl) ?_
    refine gv_nil <| gv_cond (b := (decide (x9 < 128))) (by kernel_rfl) (fun hc11 => ?_) (fun hc11 => ?_)
    ·replace h2 := ite_t hc11 h2
     refine gv_seq <| gv_region <| gv_pureN 1 [14] [(14, (.string s4))] (by kernel_rfl) ?_
     refine bindE h2 ?_; clear h2; intro x12 hx13 h2
     refine gv_ssub (t := 9) (s := s4) (lo := (some (.int .i64 1))) (hi := none) 1 ((ByteArray.size s4 : Nat) : Int) x12 [] (fun e => by cases e) rfl rfl rfl (by kernel_rfl) (by kernel_rfl) Tryd.underlying9 (.inr ⟨_, rfl⟩) (.inl ⟨rfl, rfl⟩) hx13 rfl ?_
     refine gv_pureN 1 [0] [(0, (.string x12))] (by kernel_rfl) ?_
     refine gv_nil <| gv_seq <| gv_seq <| gv_region <| bindE h2 ?_; clear h2; intro j14 h3 h2
     refine gv_cut_ops (J := fun a w15 => Below w0.heap.size w0 w15 ∧ w5.heap.size ≤ w15.heap.size ∧ a.defers = [] ∧ a.tmps.size = 169 ∧ Ok [(0, (.string x12)), (24, (.bool j14))] a.tmps) ?_ ?_
     ·skip
      refine gv_pureN 4 [16, 17, 18, 19] [(19, (.bool (decide (((ByteArray.size x12 : Nat) : Int) > 8))))] (by kernel_rfl) ?_
      refine gv_split (s := 19) (g := (decide (((ByteArray.size x12 : Nat) : Int) > 8))) (by kernel_rfl) (fun hc16 => ?_) (fun hc16 => ?_)
      ·skip
       replace h3 := ite_t hc16 h3
       refine gv_pureN 1 [20] [(20, (.string x12))] (by kernel_rfl) ?_
       refine bindE h3 ?_; clear h3; intro r17 hr18 h3
       refine gv_call0 (by kernel_rfl) rfl (by kernel_rfl) enters123 (utf8_word_string_ok fuel x12 w5  r17 hr18) ?_
       rintro v21 w19 ⟨hg20, rfl⟩
       refine gv_pureN 3 [22, 23, 24] [(24, (.bool ((bwAnd .u64 r17 9259542123273814144) == 0)))] (by kernel_rfl) ?_
       refine gv_nil ?_
       have e := sj h3; subst e
       refine gv_goal fun a hd hs hok => ?_
       have hB22 := bg hB6 hg20 nb
       have hz23 := hg20.size
       exact ⟨hB22, hz23, hd, hs, ok_pick [0, 24] hok (by kernel_rfl)⟩
      ·skip
       replace h3 := ite_f hc16 h3
       refine gv_pureN 5 [20, 21, 22, 23, 24] [(24, (.bool false))] (by kernel_rfl) ?_
       refine gv_nil ?_
       have e := sj h3; subst e
       refine gv_goal fun a hd hs hok => ?_
       exact ⟨hB6, (Nat.le_refl _), hd, hs, ok_pick [0, 24] hok (by kernel_rfl)⟩
     ·rintro a w15 ⟨hB24, hz25, hd, hs, hok⟩
      refine gv_in ?_ hd hs hok
      clear hd hs hok
      have hz26 := (nt hz7 hz25)
      clear hz25 hx13 hc11 hx10 hc8 hz7 hB6
      refine bindE h2 ?_; clear h2; intro j27 h3 h2
      refine gv_cut_code (J := fun a w28 => Below w0.heap.size w0 w28 ∧ w15.heap.size ≤ w28.heap.size ∧ a.defers = [] ∧ a.tmps.size = 169 ∧ Ok [(0, (.string j27))] a.tmps) ?_ ?_
      ·skip
       refine gv_cond (b := j14) (by kernel_rfl) (fun hc29 => ?_) (fun hc29 => ?_)
       ·replace h3 := ite_t hc29 h3
        refine gv_seq <| gv_region <| gv_pureN 1 [25] [(25, (.string x12))] (by kernel_rfl) ?_
        refine bindE h3 ?_; clear h3; intro x30 hx31 h3
        refine gv_ssub (t := 9) (s := x12) (lo := (some (.int .i64 8))) (hi := none) 8 ((ByteArray.size x12 : Nat) : Int) x30 [] (fun e => by cases e) rfl rfl rfl (by kernel_rfl) (by kernel_rfl) Tryd.underlying9 (.inr ⟨_, rfl⟩) (.inl ⟨rfl, rfl⟩) hx31 rfl ?_
        refine gv_pureN 1 [0] [(0, (.string x30))] (by kernel_rfl) ?_
        refine gv_nil <| gv_seq <| bindE h3 ?_; clear h3; intro j32 h4 h3
        refine gv_cut_code (J := fun a w33 => Below w0.heap.size w0 w33 ∧ w15.heap.size ≤ w33.heap.size ∧ a.defers = [] ∧ a.tmps.size = 169 ∧ Ok [(0, (.string x30)), (39, (.bool j32))] a.tmps) ?_ ?_
        ·skip
         refine gv_drawA (by kernel_rfl) ?_
         intro w34 hg35
         refine gv_pre [0, 1, 2, 3, 4, 6, 7] (bA 13 [0, 1, 2, 3, 4, 6, 7]) 6 (by kernel_rfl) (by kernel_rfl) ?_
         refine gv_pureN 4 [27, 28, 29, 30] [(30, (.bool (decide (((ByteArray.size x30 : Nat) : Int) > 16))))] (by kernel_rfl) ?_
         refine gv_split (s := 30) (g := (decide (((ByteArray.size x30 : Nat) : Int) > 16))) (by kernel_rfl) (fun hc36 => ?_) (fun hc36 => ?_)
         ·skip
          replace h4 := ite_t hc36 h4
          refine gv_pureN 2 [31, 33] [(31, (.string x30)), (33, (.string x30))] (by kernel_rfl) ?_
          refine bindE h4 ?_; clear h4; intro x37 hx38 h4
          refine gv_ssub (t := 9) (s := x30) (lo := (some (.int .i64 8))) (hi := none) 8 ((ByteArray.size x30 : Nat) : Int) x37 [] (fun e => by cases e) rfl rfl rfl (by kernel_rfl) (by kernel_rfl) Tryd.underlying9 (.inr ⟨_, rfl⟩) (.inl ⟨rfl, rfl⟩) hx38 rfl ?_
          refine gv_nil <| gv_goA ?_
          refine gv_stage (fun _ => True) [0, 1, 2, 3, 4, 5, 6, 7] [(5, some false)] (bA 13 [0, 1, 2, 3, 4, 5, 6, 7]) 5 (by kernel_rfl) (by kernel_rfl) trivial ?_
          refine bindE h4 ?_; clear h4; intro r39 hr40 h4
          refine gv_call (f := 123) (vs := [(.string x30)]) (cap := []) _ (by decide) rfl rfl rfl (by kernel_rfl) (by kernel_rfl) enters123 (utf8_word_string_ok fuel x30 w34  r39 hr40) ?_
          rintro v43 w41 ⟨hg42, rfl⟩
          refine ⟨(fun _ => trivial), ?_⟩
          refine gv_nil <| gv_goA ?_
          refine gv_stage (fun _ => True) [0, 1, 2, 3, 4, 5, 6, 7, 8] [(8, some false)] (bA 13 [0, 1, 2, 3, 4, 5, 6, 7, 8]) 4 (by kernel_rfl) (by kernel_rfl) trivial ?_
          refine bindE h4 ?_; clear h4; intro r44 hr45 h4
          refine gv_call (f := 123) (vs := [(.string x37)]) (cap := []) _ (by decide) rfl rfl rfl (by kernel_rfl) (by kernel_rfl) enters123 (utf8_word_string_ok fuel x37 w41  r44 hr45) ?_
          rintro v48 w46 ⟨hg47, rfl⟩
          refine ⟨(fun _ => trivial), ?_⟩
          refine gv_nil <| gv_goA ?_
          refine gv_pre [9, 10, 11, 12] (bA 13 [0, 1, 2, 3, 4, 5, 6, 7, 8, 9, 10, 11, 12]) 0 (by kernel_rfl) (by kernel_rfl) ?_
          refine gv_pureN 4 [36, 37, 38, 39] [(39, (.bool ((bwAnd .u64 (bwOr .u64 r39 r44) 9259542123273814144) == 0)))] (by kernel_rfl) ?_
          refine gv_nil <| gv_goA ?_
          refine gv_stageE (by kernel_rfl) ?_
          have e := sj h4; subst e
          refine gv_goal fun a hd hs hok => ?_
          have hg49 := (grown_trans (grown_trans hg35 hg42) hg47)
          have hB50 := bg hB24 hg49 nb
          have hz51 := (nt (nt hg35.size hg42.size) hg47.size)
          exact ⟨hB50, hz51, hd, hs, ok_pick [0, 39] hok (by kernel_rfl)⟩
         ·skip
          replace h4 := ite_f hc36 h4
          refine gv_pureN 3 [31, 33, 34] [(31, undef), (34, undef)] (by kernel_rfl) ?_
          refine gv_nil <| gv_goA ?_
          refine gv_stage (fun _ => True) [0, 1, 2, 3, 4, 5, 6, 7] [(5, some false)] (bA 13 [0, 1, 2, 3, 4, 5, 6, 7]) 5 (by kernel_rfl) (by kernel_rfl) trivial ?_
          refine gv_pureNC trivial 1 [32] [(32, undef)] (by kernel_rfl) ?_
          refine gv_nil <| gv_goA ?_
          refine gv_stage (fun _ => True) [0, 1, 2, 3, 4, 5, 6, 7, 8] [(8, some false)] (bA 13 [0, 1, 2, 3, 4, 5, 6, 7, 8]) 4 (by kernel_rfl) (by kernel_rfl) trivial ?_
          refine gv_pureNC trivial 1 [35] [(35, undef)] (by kernel_rfl) ?_
          refine gv_nil <| gv_goA ?_
          refine gv_pre [9, 10, 11, 12] (bA 13 [0, 1, 2, 3, 4, 5, 6, 7, 8, 9, 10, 11, 12]) 0 (by kernel_rfl) (by kernel_rfl) ?_
          refine gv_pureN 4 [36, 37, 38, 39] [(39, (.bool false))] (by kernel_rfl) ?_
          refine gv_nil <| gv_goA ?_
          refine gv_stageE (by kernel_rfl) ?_
          have e := sj h4; subst e
          refine gv_goal fun a hd hs hok => ?_
          have hB52 := bg hB24 hg35 nb
          have hz53 := hg35.size
          exact ⟨hB52, hz53, hd, hs, ok_pick [0, 39] hok (by kernel_rfl)⟩
        ·rintro a w33 ⟨hB54, hz55, hd, hs, hok⟩
         refine gv_in ?_ hd hs hok
         clear hd hs hok
         refine gv_cond (b := j32) (by kernel_rfl) (fun hc56 => ?_) (fun hc56 => ?_)
         ·replace h3 := ite_t hc56 h3
          refine gv_seq <| gv_region <| gv_pureN 1 [40] [(40, (.string x30))] (by kernel_rfl) ?_
          refine bindE h3 ?_; clear h3; intro x57 hx58 h3
          refine gv_ssub (t := 9) (s := x30) (lo := (some (.int .i64 16))) (hi := none) 16 ((ByteArray.size x30 : Nat) : Int) x57 [] (fun e => by cases e) rfl rfl rfl (by kernel_rfl) (by kernel_rfl) Tryd.underlying9 (.inr ⟨_, rfl⟩) (.inl ⟨rfl, rfl⟩) hx58 rfl ?_
          refine gv_pureN 1 [0] [(0, (.string x57))] (by kernel_rfl) ?_
          refine gv_nil <| bindE h3 ?_; clear h3; intro j59 h4 h3
          refine gv_cut_code (J := fun a w60 => Below w0.heap.size w0 w60 ∧ w33.heap.size ≤ w60.heap.size ∧ a.defers = [] ∧ a.tmps.size = 169 ∧ Ok [(0, (.string j59))] a.tmps) ?_ ?_
          ·skip
           refine gv_block <| gv_loop (A := fun (s61 : ByteArray) a w62 => Below w0.heap.size w0 w62 ∧ w33.heap.size ≤ w62.heap.size ∧ a.defers = [] ∧ a.tmps.size = 169 ∧ Ok [(0, (.string s61))] a.tmps) h4 ?_ ?_
           ·intro a hd hs hok
            exact ⟨hB54, (Nat.le_refl _), hd, hs, ok_pick [0] hok (by kernel_rfl)⟩
           ·rintro s61 r5 h5 hR5 a w62 ⟨hB63, hz64, hd, hs, hok⟩
            refine gv_in ?_ hd hs hok
            clear hd hs hok
            clear hx58 hc56 hB54 hx31 hc29 hB24
            refine gv_seq <| gv_seq <| bindE h5 ?_; clear h5; intro j65 h6 h5
            refine gv_cut_code (J := fun a w66 => Below w0.heap.size w0 w66 ∧ w62.heap.size ≤ w66.heap.size ∧ a.defers = [] ∧ a.tmps.size = 169 ∧ Ok [(0, (.string s61)), (62, (.bool j65))] a.tmps) ?_ ?_
            ·skip
             refine gv_drawA (by kernel_rfl) ?_
             intro w67 hg68
             refine gv_pre [0, 1, 2, 3, 4, 6, 7, 10, 11, 13, 14] (bA 21 [0, 1, 2, 3, 4, 6, 7, 10, 11, 13, 14]) 10 (by kernel_rfl) (by kernel_rfl) ?_
             refine gv_pureN 4 [42, 43, 44, 45] [(45, (.bool (decide (((ByteArray.size s61 : Nat) : Int) > 32))))] (by kernel_rfl) ?_
             refine gv_split (s := 45) (g := (decide (((ByteArray.size s61 : Nat) : Int) > 32))) (by kernel_rfl) (fun hc69 => ?_) (fun hc69 => ?_)
             ·skip
              replace h6 := ite_t hc69 h6
              refine gv_pureN 2 [46, 48] [(46, (.string s61)), (48, (.string s61))] (by kernel_rfl) ?_
              refine bindE h6 ?_; clear h6; intro x70 hx71 h6
              refine gv_ssub (t := 9) (s := s61) (lo := (some (.int .i64 8))) (hi := none) 8 ((ByteArray.size s61 : Nat) : Int) x70 [] (fun e => by cases e) rfl rfl rfl (by kernel_rfl) (by kernel_rfl) Tryd.underlying9 (.inr ⟨_, rfl⟩) (.inl ⟨rfl, rfl⟩) hx71 rfl ?_
              refine gv_pureN 1 [52] [(52, (.string s61))] (by kernel_rfl) ?_
              refine bindE h6 ?_; clear h6; intro x72 hx73 h6
              refine gv_ssub (t := 9) (s := s61) (lo := (some (.int .i64 16))) (hi := none) 16 ((ByteArray.size s61 : Nat) : Int) x72 [] (fun e => by cases e) rfl rfl rfl (by kernel_rfl) (by kernel_rfl) Tryd.underlying9 (.inr ⟨_, rfl⟩) (.inl ⟨rfl, rfl⟩) hx73 rfl ?_
              refine gv_pureN 1 [55] [(55, (.string s61))] (by kernel_rfl) ?_
              refine bindE h6 ?_; clear h6; intro x74 hx75 h6
              refine gv_ssub (t := 9) (s := s61) (lo := (some (.int .i64 24))) (hi := none) 24 ((ByteArray.size s61 : Nat) : Int) x74 [] (fun e => by cases e) rfl rfl rfl (by kernel_rfl) (by kernel_rfl) Tryd.underlying9 (.inr ⟨_, rfl⟩) (.inl ⟨rfl, rfl⟩) hx75 rfl ?_
              refine gv_nil <| gv_goA ?_
              refine gv_stage (fun _ => True) [0, 1, 2, 3, 4, 5, 6, 7, 10, 11, 13, 14] [(5, some false)] (bA 21 [0, 1, 2, 3, 4, 5, 6, 7, 10, 11, 13, 14]) 9 (by kernel_rfl) (by kernel_rfl) trivial ?_
              refine bindE h6 ?_; clear h6; intro r76 hr77 h6
              refine gv_call (f := 123) (vs := [(.string s61)]) (cap := []) _ (by decide) rfl rfl rfl (by kernel_rfl) (by kernel_rfl) enters123 (utf8_word_string_ok fuel s61 w67  r76 hr77) ?_
              rintro v80 w78 ⟨hg79, rfl⟩
              refine ⟨(fun _ => trivial), ?_⟩
              refine gv_nil <| gv_goA ?_
              refine gv_stage (fun _ => True) [0, 1, 2, 3, 4, 5, 6, 7, 8, 10, 11, 13, 14] [(8, some false)] (bA 21 [0, 1, 2, 3, 4, 5, 6, 7, 8, 10, 11, 13, 14]) 8 (by kernel_rfl) (by kernel_rfl) trivial ?_
              refine bindE h6 ?_; clear h6; intro r81 hr82 h6
              refine gv_call (f := 123) (vs := [(.string x70)]) (cap := []) _ (by decide) rfl rfl rfl (by kernel_rfl) (by kernel_rfl) enters123 (utf8_word_string_ok fuel x70 w78  r81 hr82) ?_
              rintro v85 w83 ⟨hg84, rfl⟩
              refine ⟨(fun _ => trivial), ?_⟩
              refine gv_nil <| gv_goA ?_
              refine gv_pre [9] (bA 21 [0, 1, 2, 3, 4, 5, 6, 7, 8, 9, 10, 11, 13, 14]) 7 (by kernel_rfl) (by kernel_rfl) ?_
              refine gv_pureN 1 [51] [(51, (.int .u64 (bwOr .u64 r76 r81)))] (by kernel_rfl) ?_
              refine gv_nil <| gv_goA ?_
              refine gv_stage (fun _ => True) [0, 1, 2, 3, 4, 5, 6, 7, 8, 9, 10, 11, 12, 13, 14] [(12, some false)] (bA 21 [0, 1, 2, 3, 4, 5, 6, 7, 8, 9, 10, 11, 12, 13, 14]) 6 (by kernel_rfl) (by kernel_rfl) trivial ?_
              refine bindE h6 ?_; clear h6; intro r86 hr87 h6
              refine gv_call (f := 123) (vs := [(.string x72)]) (cap := []) _ (by decide) rfl rfl rfl (by kernel_rfl) (by kernel_rfl) enters123 (utf8_word_string_ok fuel x72 w83  r86 hr87) ?_
              rintro v90 w88 ⟨hg89, rfl⟩
              refine ⟨(fun _ => trivial), ?_⟩
              have hz91 := (nt (nt hg68.size hg79.size) hg84.size)
              clear hr87 hr82 hr77 hx75 hx73 hx71 hc69
              refine gv_nil <| gv_goA ?_
              refine gv_stage (fun _ => True) [0, 1, 2, 3, 4, 5, 6, 7, 8, 9, 10, 11, 12, 13, 14, 15] [(15, some false)] (bA 21 [0, 1, 2, 3, 4, 5, 6, 7, 8, 9, 10, 11, 12, 13, 14, 15]) 5 (by kernel_rfl) (by kernel_rfl) trivial ?_
              refine bindE h6 ?_; clear h6; intro r92 hr93 h6
              refine gv_call (f := 123) (vs := [(.string x74)]) (cap := []) _ (by decide) rfl rfl rfl (by kernel_rfl) (by kernel_rfl) enters123 (utf8_word_string_ok fuel x74 w88  r92 hr93) ?_
              rintro v96 w94 ⟨hg95, rfl⟩
              refine ⟨(fun _ => trivial), ?_⟩
              refine gv_nil <| gv_goA ?_
              refine gv_pre [16, 17, 18, 19, 20] (bA 21 [0, 1, 2, 3, 4, 5, 6, 7, 8, 9, 10, 11, 12, 13, 14, 15, 16, 17, 18, 19, 20]) 0 (by kernel_rfl) (by kernel_rfl) ?_
              refine gv_pureN 5 [58, 59, 60, 61, 62] [(62, (.bool ((bwAnd .u64 (bwOr .u64 (bwOr .u64 r76 r81) (bwOr .u64 r86 r92)) 9259542123273814144) == 0)))] (by kernel_rfl) ?_
              refine gv_nil <| gv_goA ?_
              refine gv_stageE (by kernel_rfl) ?_
              have e := sj h6; subst e
              refine gv_goal fun a hd hs hok => ?_
              have hg97 := (grown_trans (grown_trans (grown_trans (grown_trans hg68 hg79) hg84) hg89) hg95)
              have hB98 := bg hB63 hg97 nb
              have hz99 := (nt (nt hz91 hg89.size) hg95.size)
              exact ⟨hB98, hz99, hd, hs, ok_pick [0, 62] hok (by kernel_rfl)⟩
             ·skip
              replace h6 := ite_f hc69 h6
              refine gv_pureN 7 [46, 48, 49, 52, 53, 55, 56] [(46, undef), (49, undef), (53, undef), (56, undef)] (by kernel_rfl) ?_
              refine gv_nil <| gv_goA ?_
              refine gv_stage (fun _ => True) [0, 1, 2, 3, 4, 5, 6, 7, 10, 11, 13, 14] [(5, some false)] (bA 21 [0, 1, 2, 3, 4, 5, 6, 7, 10, 11, 13, 14]) 9 (by kernel_rfl) (by kernel_rfl) trivial ?_
              refine gv_pureNC trivial 1 [47] [(47, undef)] (by kernel_rfl) ?_
              refine gv_nil <| gv_goA ?_
              refine gv_stage (fun _ => True) [0, 1, 2, 3, 4, 5, 6, 7, 8, 10, 11, 13, 14] [(8, some false)] (bA 21 [0, 1, 2, 3, 4, 5, 6, 7, 8, 10, 11, 13, 14]) 8 (by kernel_rfl) (by kernel_rfl) trivial ?_
              refine gv_pureNC trivial 1 [50] [(50, undef)] (by kernel_rfl) ?_
              refine gv_nil <| gv_goA ?_
              refine gv_pre [9] (bA 21 [0, 1, 2, 3, 4, 5, 6, 7, 8, 9, 10, 11, 13, 14]) 7 (by kernel_rfl) (by kernel_rfl) ?_
              refine gv_pureN 1 [51] [(51, undef)] (by kernel_rfl) ?_
              refine gv_nil <| gv_goA ?_
              refine gv_stage (fun _ => True) [0, 1, 2, 3, 4, 5, 6, 7, 8, 9, 10, 11, 12, 13, 14] [(12, some false)] (bA 21 [0, 1, 2, 3, 4, 5, 6, 7, 8, 9, 10, 11, 12, 13, 14]) 6 (by kernel_rfl) (by kernel_rfl) trivial ?_
              refine gv_pureNC trivial 1 [54] [(54, undef)] (by kernel_rfl) ?_
              refine gv_nil <| gv_goA ?_
              refine gv_stage (fun _ => True) [0, 1, 2, 3, 4, 5, 6, 7, 8, 9, 10, 11, 12, 13, 14, 15] [(15, some false)] (bA 21 [0, 1, 2, 3, 4, 5, 6, 7, 8, 9, 10, 11, 12, 13, 14, 15]) 5 (by kernel_rfl) (by kernel_rfl) trivial ?_
              refine gv_pureNC trivial 1 [57] [(57, undef)] (by kernel_rfl) ?_
              refine gv_nil <| gv_goA ?_
              refine gv_pre [16, 17, 18, 19, 20] (bA 21 [0, 1, 2, 3, 4, 5, 6, 7, 8, 9, 10, 11, 12, 13, 14, 15, 16, 17, 18, 19, 20]) 0 (by kernel_rfl) (by kernel_rfl) ?_
              refine gv_pureN 5 [58, 59, 60, 61, 62] [(62, (.bool false))] (by kernel_rfl) ?_
              refine gv_nil <| gv_goA ?_
              refine gv_stageE (by kernel_rfl) ?_
              have e := sj h6; subst e
              refine gv_goal fun a hd hs hok => ?_
              have hB100 := bg hB63 hg68 nb
              have hz101 := hg68.size
              exact ⟨hB100, hz101, hd, hs, ok_pick [0, 62] hok (by kernel_rfl)⟩
            ·rintro a w66 ⟨hB102, hz103, hd, hs, hok⟩
             refine gv_in ?_ hd hs hok
             clear hd hs hok
             have hz104 := (nt hz64 hz103)
             refine gv_cond (b := j65) (by kernel_rfl) (fun hc105 => ?_) (fun hc105 => ?_)
             ·replace h5 := ite_t hc105 h5
              refine gv_skip <| gv_block <| gv_region <| gv_pureN 1 [63] [(63, (.string s61))] (by kernel_rfl) ?_
              refine bindE h5 ?_; clear h5; intro x106 hx107 h5
              refine gv_ssub (t := 9) (s := s61) (lo := (some (.int .i64 32))) (hi := none) 32 ((ByteArray.size s61 : Nat) : Int) x106 [] (fun e => by cases e) rfl rfl rfl (by kernel_rfl) (by kernel_rfl) Tryd.underlying9 (.inr ⟨_, rfl⟩) (.inl ⟨rfl, rfl⟩) hx107 rfl ?_
              refine gv_pureN 1 [0] [(0, (.string x106))] (by kernel_rfl) ?_
              refine gv_nil <| gv_blk ?_
              have e := sj h5; subst e
              refine gv_goal fun a hd hs hok => ?_
              have hz108 := hz104
              exact ⟨x106, rfl, hB102, hz108, hd, hs, ok_pick [0] hok (by kernel_rfl)⟩
             ·replace h5 := ite_f hc105 h5
              refine gv_cexit <| gv_exit rfl ?_
              have e := sj h5; subst e
              replace h4 := congrArg some (hR5 _ rfl)
              have e := sj h4; subst e
              refine gv_goal fun a hd hs hok => ?_
              have hz109 := hz104
              exact ⟨hB102, hz109, hd, hs, ok_pick [0] hok (by kernel_rfl)⟩
          ·rintro a w60 ⟨hB110, hz111, hd, hs, hok⟩
           refine gv_in ?_ hd hs hok
           clear hd hs hok
           have hz112 := (nt hz55 hz111)
           clear hz111 hx58 hc56 hz55 hB54 hx31 hc29 hB24
           have e := sj h3; subst e
           refine gv_goal fun a hd hs hok => ?_
           have hz113 := hz112
           exact ⟨hB110, hz113, hd, hs, ok_pick [0] hok (by kernel_rfl)⟩
         ·replace h3 := ite_f hc56 h3
          refine gv_skip ?_
          have e := sj h3; subst e
          refine gv_goal fun a hd hs hok => ?_
          have hz114 := hz55
          exact ⟨hB54, hz114, hd, hs, ok_pick [0] hok (by kernel_rfl)⟩
       ·replace h3 := ite_f hc29 h3
        refine gv_skip ?_
        have e := sj h3; subst e
        refine gv_goal fun a hd hs hok => ?_
        exact ⟨hB24, (Nat.le_refl _), hd, hs, ok_pick [0] hok (by kernel_rfl)⟩
      ·rintro a w28 ⟨hB115, hz116, hd, hs, hok⟩
       refine gv_in ?_ hd hs hok
       clear hd hs hok
       have hz117 := (nt hz26 hz116)
       refine gv_cexit <| gv_exit rfl ?_
       have e := sj h2; subst e
       refine gv_goal fun a hd hs hok => ?_
       have hz118 := hz117
       exact ⟨j27, rfl, hB115, hz118, hd, hs, ok_pick [0] hok (by kernel_rfl)⟩
    ·replace h2 := ite_f hc11 h2
     refine gv_skip <| gv_seq <| gv_region <| gv_pureN 1 [65] [(65, (.int .u8 x9))] (by kernel_rfl) ?_
     refine bindE h2 ?_; clear h2; intro x119 hx120 h2
     refine gv_idxarr (t := 141) (e := 5) (A := ⟨1, 0, none⟩) (len := 256) (kk := .u8) (i := x9) (sz := 1) [] (fun e => by cases e) rfl rfl rfl (by kernel_rfl) (by kernel_rfl) Tryd.underlying141 (by kernel_rfl) (idx_spec hx120).1 (by have e := (idx_spec hx120).2.1; rw [utf8First_len] at e; exact e) rfl ?_
     refine gv_load (t := 5) (A := (elemAddr (some ⟨1, 0, none⟩) ((x9 : Int).toNat * 1))) (.int .u8 ((x119).toNat : Int)) [] (fun e => by cases e) rfl rfl rfl (by kernel_rfl) (by kernel_rfl) (by kernel_rfl) (inw0 ((hG1.below hB6 hX0).cell hx120)) rfl ?_
     refine gv_pureN 1 [4] [(4, (.int .u8 ((x119).toNat : Int)))] (by kernel_rfl) ?_
     refine gv_nil <| gv_seq <| gv_region <| gv_pureN 4 [5, 68, 69, 70] [(5, (.int .i64 (IntKind.i64.wrap ((bwAnd .u8 ((x119).toNat : Int) 7)))))] (by kernel_rfl) ?_
     refine bindE h2 ?_; clear h2; intro n121 hn122 h2
     refine gv_name (s := 5) (v := (.int .i64 (IntKind.i64.wrap ((bwAnd .u8 ((x119).toNat : Int) 7))))) (v' := (.int .i64 n121)) (by kernel_rfl) (congrArg (Value.int .i64) (sj hn122)) ?_
     refine gv_nil <| gv_seq <| gv_region <| gv_pureN 2 [71, 72] [(72, (.int .u8 ((((x119).toNat : Int)).fdiv (2 ^ 4))))] (by kernel_rfl) ?_
     refine bindE h2 ?_; clear h2; intro x123 hx124 h2
     refine gv_idxarr (t := 144) (e := 143) (A := ⟨2, 0, none⟩) (len := 16) (kk := .u8) (i := ((((x119).toNat : Int)).fdiv (2 ^ 4))) (sz := 2) [] (fun e => by cases e) rfl rfl rfl (by kernel_rfl) (by kernel_rfl) Tryd.underlying144 (by kernel_rfl) (idx_spec hx124).1 (by have e := (idx_spec hx124).2.1; rw [utf8Acc_len] at e; exact e) rfl ?_
     obtain ⟨_, ⟨_, _, rfl, rfl, rfl⟩, hc125⟩ := hG2.cellsK hx124
     refine gv_loadAgg (t := 143) (A := (elemAddr (some ⟨2, 0, none⟩) ((((((x119).toNat : Int)).fdiv (2 ^ 4)) : Int).toNat * 2))) #[(.int .u8 x123.1), (.int .u8 x123.2)] [] (fun e => by cases e) rfl rfl rfl (by kernel_rfl) (by kernel_rfl) (by kernel_rfl) (by kernel_rfl) (inw0 (hc125 w5 (fun k hk => hB6.block k (hX0 k hk)))) rfl ?_
     refine gv_new0 (fun b => .pointer (some ⟨b, 0, none⟩)) #[(.int .u8 0), (.int .u8 0)] 143 (by kernel_rfl) (by kernel_rfl) ?_
     intro b126 w127 hg128 hb129 hbe130 hz131
     refine gv_sub [0, 5, 6, 74] (σ' := [(0, (.string s4)), (5, (.int .i64 n121)), (6, (bp b126)), (74, (.agg #[(.int .u8 x123.1), (.int .u8 x123.2)]))]) (by kernel_rfl) ?_
     refine gv_store0 143 0 (.agg #[(.int .u8 x123.1), (.int .u8 x123.2)]) #[(.int .u8 x123.1), (.int .u8 x123.2)] hb129 (by kernel_rfl) (by kernel_rfl) (by kernel_rfl) ?_
     intro w132 hg133 hb134 hz135
     refine gv_nil <| gv_seq <| gv_region <| gv_pureN 1 [75] [(75, (.int .i64 n121))] (by kernel_rfl) ?_
     refine gv_nil <| gv_block <| gv_seq <| gv_region <| gv_pureN 2 [76, 77] [(76, (.bool (n121 == 2)))] (by kernel_rfl) ?_
     refine gv_nil <| bindE h2 ?_; clear h2; intro j136 h3 h2
     refine gv_cut_code (J := fun a w138 => ∃ s137 : ByteArray, j136 = .inl s137 ∧ Below w0.heap.size w0 w138 ∧ w132.heap.size ≤ w138.heap.size ∧ a.defers = [] ∧ a.tmps.size = 169 ∧ Ok [(0, (.string s137))] a.tmps) ?_ ?_
     ·skip
      refine gv_cond (b := (n121 == 2)) (by kernel_rfl) (fun hc139 => ?_) (fun hc139 => ?_)
      ·replace h3 := ite_t hc139 h3
       refine gv_seq <| gv_seq <| bindE h3 ?_; clear h3; intro j140 h4 h3
       refine gv_cut_code (J := fun a w141 => Below w0.heap.size w0 w141 ∧ w132.heap.size ≤ w141.heap.size ∧ a.defers = [] ∧ a.tmps.size = 169 ∧ Ok [(0, (.string s4)), (94, (.bool j140))] a.tmps) ?_ ?_
       ·skip
        refine gv_drawA (by kernel_rfl) ?_
        intro w142 hg143
        refine gv_pre [0, 1, 2, 3, 4, 5, 6] (bA 17 [0, 1, 2, 3, 4, 5, 6]) 10 (by kernel_rfl) (by kernel_rfl) ?_
        refine gv_pureN 4 [78, 79, 80, 81] [(81, (.bool (decide (((ByteArray.size s4 : Nat) : Int) < 2))))] (by kernel_rfl) ?_
        refine gv_split (s := 81) (g := (decide (((ByteArray.size s4 : Nat) : Int) < 2))) (by kernel_rfl) (fun hc144 => ?_) (fun hc144 => ?_)
        ·skip
         replace h4 := ite_t hc144 h4
         refine gv_pureN 3 [82, 83, 84] [(83, undef), (84, undef)] (by kernel_rfl) ?_
         refine gv_nil <| gv_goA ?_
         refine gv_stage (Cls w142 []) [0, 1, 2, 3, 4, 5, 6, 7] [(7, some true)] (bA 17 [0, 1, 2, 3, 4, 5, 6, 7]) 9 (by kernel_rfl) (by kernel_rfl) (Cls.refl _ _) ?_
         have hC145 := Cls.refl w142 []
         refine gv_pureN 1 [85] [(85, undef)] (by kernel_rfl) ?_
         refine gv_nil <| gv_goA ?_
         refine gv_pre [8, 9, 10, 11, 13, 14] (bA 17 [0, 1, 2, 3, 4, 5, 6, 7, 8, 9, 10, 11, 13, 14]) 3 (by kernel_rfl) (by kernel_rfl) ?_
         refine gv_pureN 6 [86, 87, 88, 89, 91, 92] [(88, (.bool true)), (89, undef), (92, undef)] (by kernel_rfl) ?_
         refine gv_nil <| gv_goA ?_
         refine gv_stage (Cls w142 []) [0, 1, 2, 3, 4, 5, 6, 7, 8, 9, 10, 11, 12, 13, 14] [(12, some true)] (bA 17 [0, 1, 2, 3, 4, 5, 6, 7, 8, 9, 10, 11, 12, 13, 14]) 2 (by kernel_rfl) (by kernel_rfl) (Cls.refl _ _) ?_
         have hC146 := Cls.refl w142 []
         refine gv_pureN 1 [90] [(90, undef)] (by kernel_rfl) ?_
         refine gv_nil <| gv_goA ?_
         refine gv_pre [15, 16] (bA 17 [0, 1, 2, 3, 4, 5, 6, 7, 8, 9, 10, 11, 12, 13, 14, 15, 16]) 0 (by kernel_rfl) (by kernel_rfl) ?_
         refine gv_pureN 2 [93, 94] [(94, (.bool true))] (by kernel_rfl) ?_
         refine gv_nil <| gv_goA ?_
         refine gv_stageE (by kernel_rfl) ?_
         have e := sj h4; subst e
         refine gv_goal fun a hd hs hok => ?_
         have hB147 := bg hB6 hg128 nb
         have hlo148 : w0.heap.size ≤ b126 := lob hbe130 hB6.size
         have hB149 := bg hB147 hg133 (rowlo hlo148)
         have hB150 := bg hB149 hg143 nb
         have hz151 := hg143.size
         exact ⟨hB150, hz151, hd, hs, ok_pick [0, 94] hok (by kernel_rfl)⟩
        ·skip
         replace h4 := ite_f hc144 h4
         refine gv_pureN 1 [82] [(82, (.string s4))] (by kernel_rfl) ?_
         refine bindE h4 ?_; clear h4; intro x152 hx153 h4
         refine gv_sindex (t := 9) (s := s4) (kk := .i64) (i := 1) x152 [] (fun e => by cases e) rfl rfl rfl (by kernel_rfl) (by kernel_rfl) Tryd.underlying9 hx153 rfl ?_
         refine gv_pureN 1 [84] [(84, (bp b126))] (by kernel_rfl) ?_
         refine gv_nil <| gv_goA ?_
         refine gv_stage (Cls w142 []) [0, 1, 2, 3, 4, 5, 6, 7] [(7, some true)] (bA 17 [0, 1, 2, 3, 4, 5, 6, 7]) 9 (by kernel_rfl) (by kernel_rfl) (Cls.refl _ _) ?_
         have hC154 := Cls.refl w142 []
         have hk155 := hb134.grown hg143 nb
         refine gv_load (t := 5) (A := ⟨b126, 0, none⟩) (.int .u8 x123.1) [] (fun e => by cases e) rfl rfl rfl (by kernel_rfl) (by kernel_rfl) (by kernel_rfl) (inw1 fun w' hC' => ((hC'.box hk155 nm_nil).cell 0 rfl)) rfl ?_
         refine gv_nil <| gv_goA ?_
         refine gv_pre [8, 9, 10, 11, 13, 14] (bA 17 [0, 1, 2, 3, 4, 5, 6, 7, 8, 9, 10, 11, 13, 14]) 3 (by kernel_rfl) (by kernel_rfl) ?_
         refine gv_pureN 3 [86, 87, 88] [(88, (.bool (decide (x152 < x123.1))))] (by kernel_rfl) ?_
         refine gv_split (s := 88) (g := (decide (x152 < x123.1))) (by kernel_rfl) (fun hc156 => ?_) (fun hc156 => ?_)
         ·skip
          replace h4 := ite_t hc156 h4
          refine gv_pureN 3 [89, 91, 92] [(89, undef), (92, undef)] (by kernel_rfl) ?_
          refine gv_nil <| gv_goA ?_
          refine gv_stage (Cls w142 []) [0, 1, 2, 3, 4, 5, 6, 7, 8, 9, 10, 11, 12, 13, 14] [(12, some true)] (bA 17 [0, 1, 2, 3, 4, 5, 6, 7, 8, 9, 10, 11, 12, 13, 14]) 2 (by kernel_rfl) (by kernel_rfl) (Cls.refl _ _) ?_
          have hC157 := Cls.refl w142 []
          refine gv_pureN 1 [90] [(90, undef)] (by kernel_rfl) ?_
          refine gv_nil <| gv_goA ?_
          refine gv_pre [15, 16] (bA 17 [0, 1, 2, 3, 4, 5, 6, 7, 8, 9, 10, 11, 12, 13, 14, 15, 16]) 0 (by kernel_rfl) (by kernel_rfl) ?_
          refine gv_pureN 2 [93, 94] [(94, (.bool true))] (by kernel_rfl) ?_
          refine gv_nil <| gv_goA ?_
          refine gv_stageE (by kernel_rfl) ?_
          have e := sj h4; subst e
          refine gv_goal fun a hd hs hok => ?_
          have hB158 := bg hB6 hg128 nb
          have hlo159 : w0.heap.size ≤ b126 := lob hbe130 hB6.size
          have hB160 := bg hB158 hg133 (rowlo hlo159)
          have hB161 := bg hB160 hg143 nb
          have hz162 := hg143.size
          exact ⟨hB161, hz162, hd, hs, ok_pick [0, 94] hok (by kernel_rfl)⟩
         ·skip
          replace h4 := ite_f hc156 h4
          refine gv_pureN 2 [89, 91] [(89, (.pointer (some ⟨b126, 1, none⟩))), (91, (.string s4))] (by kernel_rfl) ?_
          refine bindE h4 ?_; clear h4; intro x163 hx164 h4
          refine gv_sindex (t := 9) (s := s4) (kk := .i64) (i := 1) x163 [] (fun e => by cases e) rfl rfl rfl (by kernel_rfl) (by kernel_rfl) Tryd.underlying9 hx164 rfl ?_
          refine gv_nil <| gv_goA ?_
          refine gv_stage (Cls w142 []) [0, 1, 2, 3, 4, 5, 6, 7, 8, 9, 10, 11, 12, 13, 14] [(12, some true)] (bA 17 [0, 1, 2, 3, 4, 5, 6, 7, 8, 9, 10, 11, 12, 13, 14]) 2 (by kernel_rfl) (by kernel_rfl) (Cls.refl _ _) ?_
          have hC165 := Cls.refl w142 []
          refine gv_load (t := 5) (A := ⟨b126, 1, none⟩) (.int .u8 x123.2) [] (fun e => by cases e) rfl rfl rfl (by kernel_rfl) (by kernel_rfl) (by kernel_rfl) (inw1 fun w' hC' => ((hC'.box hk155 nm_nil).cell 1 rfl)) rfl ?_
          refine gv_nil <| gv_goA ?_
          refine gv_pre [15, 16] (bA 17 [0, 1, 2, 3, 4, 5, 6, 7, 8, 9, 10, 11, 12, 13, 14, 15, 16]) 0 (by kernel_rfl) (by kernel_rfl) ?_
          refine gv_pureN 2 [93, 94] [(94, (.bool (decide (x123.2 < x163))))] (by kernel_rfl) ?_
          refine gv_nil <| gv_goA ?_
          refine gv_stageE (by kernel_rfl) ?_
          have e := sj h4; subst e
          refine gv_goal fun a hd hs hok => ?_
          have hB166 := bg hB6 hg128 nb
          have hlo167 : w0.heap.size ≤ b126 := lob hbe130 hB6.size
          have hB168 := bg hB166 hg133 (rowlo hlo167)
          have hB169 := bg hB168 hg143 nb
          have hz170 := hg143.size
          exact ⟨hB169, hz170, hd, hs, ok_pick [0, 94] hok (by kernel_rfl)⟩
       ·rintro a w141 ⟨hB171, hz172, hd, hs, hok⟩
        refine gv_in ?_ hd hs hok
        clear hd hs hok
        have hz173 := (nt (nt hz7 hg128.size) hg133.size)
        clear hc139 hz135 hb134 hg133 hz131 hbe130 hb129 hg128 hc125 hx124 hn122 hx120 hc11 hx10 hc8 hz7 hB6
        refine gv_cond (b := j140) (by kernel_rfl) (fun hc174 => ?_) (fun hc174 => ?_)
        ·replace h3 := ite_t hc174 h3
         refine gv_seq <| gv_region <| gv_pureN 1 [2] [(2, (.bool false))] (by kernel_rfl) ?_
         refine gv_nil <| gv_cret ?_
         have e := sj h3; subst e
         replace h2 := cont_inr h2
         have e := sj h2; subst e
         replace h1 := congrArg some (hR2 _ rfl)
         have e := sj h1; subst e
         replace h0 := cont_inr h0
         have e := sj h0; subst e
         refine gv_ret (gv_done [(.bool false)] rfl ⟨(by kernel_rfl), trivial⟩ ?_)
         exact ⟨grown_of_below hB171, rfl⟩
        ·replace h3 := ite_f hc174 h3
         refine gv_skip <| gv_region <| gv_pureN 1 [95] [(95, (.string s4))] (by kernel_rfl) ?_
         refine bindE h3 ?_; clear h3; intro x175 hx176 h3
         refine gv_ssub (t := 9) (s := s4) (lo := (some (.int .i64 2))) (hi := none) 2 ((ByteArray.size s4 : Nat) : Int) x175 [] (fun e => by cases e) rfl rfl rfl (by kernel_rfl) (by kernel_rfl) Tryd.underlying9 (.inr ⟨_, rfl⟩) (.inl ⟨rfl, rfl⟩) hx176 rfl ?_
         refine gv_pureN 1 [0] [(0, (.string x175))] (by kernel_rfl) ?_
         refine gv_nil ?_
         have e := sj h3; subst e
         refine gv_goal fun a hd hs hok => ?_
         have hz177 := hz172
         exact ⟨x175, rfl, hB171, hz177, hd, hs, ok_pick [0] hok (by kernel_rfl)⟩
      ·replace h3 := ite_f hc139 h3
       refine gv_seq <| gv_region <| gv_pureN 2 [97, 98] [(97, (.bool (n121 == 3)))] (by kernel_rfl) ?_
       refine gv_nil <| gv_cond (b := (n121 == 3)) (by kernel_rfl) (fun hc178 => ?_) (fun hc178 => ?_)
       ·replace h3 := ite_t hc178 h3
        refine gv_seq <| gv_seq <| bindE h3 ?_; clear h3; intro j179 h4 h3
        refine gv_cut_code (J := fun a w180 => Below w0.heap.size w0 w180 ∧ w132.heap.size ≤ w180.heap.size ∧ a.defers = [] ∧ a.tmps.size = 169 ∧ Ok [(0, (.string s4)), (125, (.bool j179))] a.tmps) ?_ ?_
        ·skip
         refine gv_drawA (by kernel_rfl) ?_
         intro w181 hg182
         refine gv_pre [0, 1, 2, 3, 4, 5, 6] (bA 27 [0, 1, 2, 3, 4, 5, 6]) 20 (by kernel_rfl) (by kernel_rfl) ?_
         refine gv_pureN 4 [99, 100, 101, 102] [(102, (.bool (decide (((ByteArray.size s4 : Nat) : Int) < 3))))] (by kernel_rfl) ?_
         refine gv_split (s := 102) (g := (decide (((ByteArray.size s4 : Nat) : Int) < 3))) (by kernel_rfl) (fun hc183 => ?_) (fun hc183 => ?_)
         ·skip
          replace h4 := ite_t hc183 h4
          refine gv_pureN 3 [103, 104, 105] [(104, undef), (105, undef)] (by kernel_rfl) ?_
          refine gv_nil <| gv_goA ?_
          refine gv_stage (Cls w181 []) [0, 1, 2, 3, 4, 5, 6, 7] [(7, some true)] (bA 27 [0, 1, 2, 3, 4, 5, 6, 7]) 19 (by kernel_rfl) (by kernel_rfl) (Cls.refl _ _) ?_
          have hC184 := Cls.refl w181 []
          refine gv_pureN 1 [106] [(106, undef)] (by kernel_rfl) ?_
          refine gv_nil <| gv_goA ?_
          refine gv_pre [8, 9, 10, 11, 13, 14] (bA 27 [0, 1, 2, 3, 4, 5, 6, 7, 8, 9, 10, 11, 13, 14]) 13 (by kernel_rfl) (by kernel_rfl) ?_
          refine gv_pureN 6 [107, 108, 109, 110, 112, 113] [(109, (.bool true)), (110, undef), (113, undef)] (by kernel_rfl) ?_
          refine gv_nil <| gv_goA ?_
          refine gv_stage (Cls w181 []) [0, 1, 2, 3, 4, 5, 6, 7, 8, 9, 10, 11, 12, 13, 14] [(12, some true)] (bA 27 [0, 1, 2, 3, 4, 5, 6, 7, 8, 9, 10, 11, 12, 13, 14]) 12 (by kernel_rfl) (by kernel_rfl) (Cls.refl _ _) ?_
          have hC185 := Cls.refl w181 []
          refine gv_pureN 1 [111] [(111, undef)] (by kernel_rfl) ?_
          refine gv_nil <| gv_goA ?_
          refine gv_pre [15, 16, 17, 18, 19, 20, 21, 22, 23, 24, 25, 26] (bA 27 [0, 1, 2, 3, 4, 5, 6, 7, 8, 9, 10, 11, 12, 13, 14, 15, 16, 17, 18, 19, 20, 21, 22, 23, 24, 25, 26]) 0 (by kernel_rfl) (by kernel_rfl) ?_
          refine gv_pureN 12 [114, 115, 116, 117, 118, 119, 120, 121, 122, 123, 124, 125] [(125, (.bool true))] (by kernel_rfl) ?_
          refine gv_nil <| gv_goA ?_
          refine gv_stageE (by kernel_rfl) ?_
          have e := sj h4; subst e
          refine gv_goal fun a hd hs hok => ?_
          have hB186 := bg hB6 hg128 nb
          have hlo187 : w0.heap.size ≤ b126 := lob hbe130 hB6.size
          have hB188 := bg hB186 hg133 (rowlo hlo187)
          have hB189 := bg hB188 hg182 nb
          have hz190 := hg182.size
          exact ⟨hB189, hz190, hd, hs, ok_pick [0, 125] hok (by kernel_rfl)⟩
         ·skip
          replace h4 := ite_f hc183 h4
          refine gv_pureN 1 [103] [(103, (.string s4))] (by kernel_rfl) ?_
          refine bindE h4 ?_; clear h4; intro x191 hx192 h4
          refine gv_sindex (t := 9) (s := s4) (kk := .i64) (i := 1) x191 [] (fun e => by cases e) rfl rfl rfl (by kernel_rfl) (by kernel_rfl) Tryd.underlying9 hx192 rfl ?_
          refine gv_pureN 1 [105] [(105, (bp b126))] (by kernel_rfl) ?_
          refine gv_nil <| gv_goA ?_
          refine gv_stage (Cls w181 []) [0, 1, 2, 3, 4, 5, 6, 7] [(7, some true)] (bA 27 [0, 1, 2, 3, 4, 5, 6, 7]) 19 (by kernel_rfl) (by kernel_rfl) (Cls.refl _ _) ?_
          have hC193 := Cls.refl w181 []
          have hk194 := hb134.grown hg182 nb
          refine gv_load (t := 5) (A := ⟨b126, 0, none⟩) (.int .u8 x123.1) [] (fun e => by cases e) rfl rfl rfl (by kernel_rfl) (by kernel_rfl) (by kernel_rfl) (inw1 fun w' hC' => ((hC'.box hk194 nm_nil).cell 0 rfl)) rfl ?_
          refine gv_nil <| gv_goA ?_
          refine gv_pre [8, 9, 10, 11, 13, 14] (bA 27 [0, 1, 2, 3, 4, 5, 6, 7, 8, 9, 10, 11, 13, 14]) 13 (by kernel_rfl) (by kernel_rfl) ?_
          refine gv_pureN 3 [107, 108, 109] [(109, (.bool (decide (x191 < x123.1))))] (by kernel_rfl) ?_
          refine gv_split (s := 109) (g := (decide (x191 < x123.1))) (by kernel_rfl) (fun hc195 => ?_) (fun hc195 => ?_)
          ·skip
           replace h4 := ite_t hc195 h4
           refine gv_pureN 3 [110, 112, 113] [(110, undef), (113, undef)] (by kernel_rfl) ?_
           refine gv_nil <| gv_goA ?_
           refine gv_stage (Cls w181 []) [0, 1, 2, 3, 4, 5, 6, 7, 8, 9, 10, 11, 12, 13, 14] [(12, some true)] (bA 27 [0, 1, 2, 3, 4, 5, 6, 7, 8, 9, 10, 11, 12, 13, 14]) 12 (by kernel_rfl) (by kernel_rfl) (Cls.refl _ _) ?_
           have hC196 := Cls.refl w181 []
           refine gv_pureN 1 [111] [(111, undef)] (by kernel_rfl) ?_
           refine gv_nil <| gv_goA ?_
           refine gv_pre [15, 16, 17, 18, 19, 20, 21, 22, 23, 24, 25, 26] (bA 27 [0, 1, 2, 3, 4, 5, 6, 7, 8, 9, 10, 11, 12, 13, 14, 15, 16, 17, 18, 19, 20, 21, 22, 23, 24, 25, 26]) 0 (by kernel_rfl) (by kernel_rfl) ?_
           refine gv_pureN 12 [114, 115, 116, 117, 118, 119, 120, 121, 122, 123, 124, 125] [(125, (.bool true))] (by kernel_rfl) ?_
           refine gv_nil <| gv_goA ?_
           refine gv_stageE (by kernel_rfl) ?_
           have e := sj h4; subst e
           refine gv_goal fun a hd hs hok => ?_
           have hB197 := bg hB6 hg128 nb
           have hlo198 : w0.heap.size ≤ b126 := lob hbe130 hB6.size
           have hB199 := bg hB197 hg133 (rowlo hlo198)
           have hB200 := bg hB199 hg182 nb
           have hz201 := hg182.size
           exact ⟨hB200, hz201, hd, hs, ok_pick [0, 125] hok (by kernel_rfl)⟩
          ·skip
           replace h4 := ite_f hc195 h4
           refine gv_pureN 2 [110, 112] [(110, (.pointer (some ⟨b126, 1, none⟩))), (112, (.string s4))] (by kernel_rfl) ?_
           refine bindE h4 ?_; clear h4; intro x202 hx203 h4
           refine gv_sindex (t := 9) (s := s4) (kk := .i64) (i := 1) x202 [] (fun e => by cases e) rfl rfl rfl (by kernel_rfl) (by kernel_rfl) Tryd.underlying9 hx203 rfl ?_
           refine gv_nil <| gv_goA ?_
           refine gv_stage (Cls w181 []) [0, 1, 2, 3, 4, 5, 6, 7, 8, 9, 10, 11, 12, 13, 14] [(12, some true)] (bA 27 [0, 1, 2, 3, 4, 5, 6, 7, 8, 9, 10, 11, 12, 13, 14]) 12 (by kernel_rfl) (by kernel_rfl) (Cls.refl _ _) ?_
           have hC204 := Cls.refl w181 []
           refine gv_load (t := 5) (A := ⟨b126, 1, none⟩) (.int .u8 x123.2) [] (fun e => by cases e) rfl rfl rfl (by kernel_rfl) (by kernel_rfl) (by kernel_rfl) (inw1 fun w' hC' => ((hC'.box hk194 nm_nil).cell 1 rfl)) rfl ?_
           refine gv_nil <| gv_goA ?_
           refine gv_pre [15, 16, 17, 18, 19, 20, 21, 22, 23, 24, 25, 26] (bA 27 [0, 1, 2, 3, 4, 5, 6, 7, 8, 9, 10, 11, 12, 13, 14, 15, 16, 17, 18, 19, 20, 21, 22, 23, 24, 25, 26]) 0 (by kernel_rfl) (by kernel_rfl) ?_
           refine gv_pureN 3 [114, 115, 116] [(116, (.bool (decide (x123.2 < x202))))] (by kernel_rfl) ?_
           refine gv_sub [0, 116] (σ' := [(0, (.string s4)), (116, (.bool (decide (x123.2 < x202))))]) (by kernel_rfl) ?_
           refine gv_split (s := 116) (g := (decide (x123.2 < x202))) (by kernel_rfl) (fun hc205 => ?_) (fun hc205 => ?_)
           ·skip
            replace h4 := ite_t hc205 h4
            refine gv_pureN 9 [117, 118, 119, 120, 121, 122, 123, 124, 125] [(125, (.bool true))] (by kernel_rfl) ?_
            refine gv_nil <| gv_goA ?_
            refine gv_stageE (by kernel_rfl) ?_
            have e := sj h4; subst e
            refine gv_goal fun a hd hs hok => ?_
            have hB206 := bg hB6 hg128 nb
            have hlo207 : w0.heap.size ≤ b126 := lob hbe130 hB6.size
            have hB208 := bg hB206 hg133 (rowlo hlo207)
            have hB209 := bg hB208 hg182 nb
            have hz210 := hg182.size
            exact ⟨hB209, hz210, hd, hs, ok_pick [0, 125] hok (by kernel_rfl)⟩
           ·skip
            replace h4 := ite_f hc205 h4
            refine gv_pureN 1 [117] [(117, (.string s4))] (by kernel_rfl) ?_
            refine bindE h4 ?_; clear h4; intro x211 hx212 h4
            refine gv_sindex (t := 9) (s := s4) (kk := .i64) (i := 2) x211 [] (fun e => by cases e) rfl rfl rfl (by kernel_rfl) (by kernel_rfl) Tryd.underlying9 hx212 rfl ?_
            refine gv_pureN 3 [119, 120, 121] [(121, (.bool (decide (x211 < 128))))] (by kernel_rfl) ?_
            refine gv_split (s := 121) (g := (decide (x211 < 128))) (by kernel_rfl) (fun hc213 => ?_) (fun hc213 => ?_)
            ·skip
             replace h4 := ite_t hc213 h4
             refine gv_pureN 4 [122, 123, 124, 125] [(125, (.bool true))] (by kernel_rfl) ?_
             refine gv_nil <| gv_goA ?_
             refine gv_stageE (by kernel_rfl) ?_
             have e := sj h4; subst e
             refine gv_goal fun a hd hs hok => ?_
             have hB214 := bg hB6 hg128 nb
             have hlo215 : w0.heap.size ≤ b126 := lob hbe130 hB6.size
             have hB216 := bg hB214 hg133 (rowlo hlo215)
             have hB217 := bg hB216 hg182 nb
             have hz218 := hg182.size
             exact ⟨hB217, hz218, hd, hs, ok_pick [0, 125] hok (by kernel_rfl)⟩
            ·skip
             replace h4 := ite_f hc213 h4
             refine gv_pureN 1 [122] [(122, (.string s4))] (by kernel_rfl) ?_
             refine bindE h4 ?_; clear h4; intro x219 hx220 h4
             refine gv_sindex (t := 9) (s := s4) (kk := .i64) (i := 2) x219 [] (fun e => by cases e) rfl rfl rfl (by kernel_rfl) (by kernel_rfl) Tryd.underlying9 hx220 rfl ?_
             refine gv_pureN 2 [124, 125] [(125, (.bool (decide (191 < x219))))] (by kernel_rfl) ?_
             refine gv_nil <| gv_goA ?_
             refine gv_stageE (by kernel_rfl) ?_
             have e := sj h4; subst e
             refine gv_goal fun a hd hs hok => ?_
             have hB221 := bg hB6 hg128 nb
             have hlo222 : w0.heap.size ≤ b126 := lob hbe130 hB6.size
             have hB223 := bg hB221 hg133 (rowlo hlo222)
             have hB224 := bg hB223 hg182 nb
             have hz225 := hg182.size
             exact ⟨hB224, hz225, hd, hs, ok_pick [0, 125] hok (by kernel_rfl)⟩
        ·rintro a w180 ⟨hB226, hz227, hd, hs, hok⟩
         refine gv_in ?_ hd hs hok
         clear hd hs hok
         have hz228 := (nt (nt hz7 hg128.size) hg133.size)
         clear hc178 hc139 hz135 hb134 hg133 hz131 hbe130 hb129 hg128 hc125 hx124 hn122 hx120 hc11 hx10 hc8 hz7 hB6
         refine gv_cond (b := j179) (by kernel_rfl) (fun hc229 => ?_) (fun hc229 => ?_)
         ·replace h3 := ite_t hc229 h3
          refine gv_seq <| gv_region <| gv_pureN 1 [2] [(2, (.bool false))] (by kernel_rfl) ?_
          refine gv_nil <| gv_cret ?_
          have e := sj h3; subst e
          replace h2 := cont_inr h2
          have e := sj h2; subst e
          replace h1 := congrArg some (hR2 _ rfl)
          have e := sj h1; subst e
          replace h0 := cont_inr h0
          have e := sj h0; subst e
          refine gv_ret (gv_done [(.bool false)] rfl ⟨(by kernel_rfl), trivial⟩ ?_)
          exact ⟨grown_of_below hB226, rfl⟩
         ·replace h3 := ite_f hc229 h3
          refine gv_skip <| gv_region <| gv_pureN 1 [126] [(126, (.string s4))] (by kernel_rfl) ?_
          refine bindE h3 ?_; clear h3; intro x230 hx231 h3
          refine gv_ssub (t := 9) (s := s4) (lo := (some (.int .i64 3))) (hi := none) 3 ((ByteArray.size s4 : Nat) : Int) x230 [] (fun e => by cases e) rfl rfl rfl (by kernel_rfl) (by kernel_rfl) Tryd.underlying9 (.inr ⟨_, rfl⟩) (.inl ⟨rfl, rfl⟩) hx231 rfl ?_
          refine gv_pureN 1 [0] [(0, (.string x230))] (by kernel_rfl) ?_
          refine gv_nil ?_
          have e := sj h3; subst e
          refine gv_goal fun a hd hs hok => ?_
          have hz232 := hz227
          exact ⟨x230, rfl, hB226, hz232, hd, hs, ok_pick [0] hok (by kernel_rfl)⟩
       ·replace h3 := ite_f hc178 h3
        refine gv_seq <| gv_region <| gv_pureN 2 [128, 129] [(128, (.bool (n121 == 4)))] (by kernel_rfl) ?_
        refine gv_nil <| gv_cond (b := (n121 == 4)) (by kernel_rfl) (fun hc233 => ?_) (fun hc233 => ?_)
        ·replace h3 := ite_t hc233 h3
         refine gv_seq <| gv_seq <| bindE h3 ?_; clear h3; intro j234 h4 h3
         refine gv_cut_code (J := fun a w235 => Below w0.heap.size w0 w235 ∧ w132.heap.size ≤ w235.heap.size ∧ a.defers = [] ∧ a.tmps.size = 169 ∧ Ok [(0, (.string s4)), (166, (.bool j234))] a.tmps) ?_ ?_
         ·skip
          refine gv_drawA (by kernel_rfl) ?_
          intro w236 hg237
          refine gv_pre [0, 1, 2, 3, 4, 5, 6] (bA 37 [0, 1, 2, 3, 4, 5, 6]) 30 (by kernel_rfl) (by kernel_rfl) ?_
          refine gv_pureN 4 [130, 131, 132, 133] [(133, (.bool (decide (((ByteArray.size s4 : Nat) : Int) < 4))))] (by kernel_rfl) ?_
          refine gv_split (s := 133) (g := (decide (((ByteArray.size s4 : Nat) : Int) < 4))) (by kernel_rfl) (fun hc238 => ?_) (fun hc238 => ?_)
          ·skip
           replace h4 := ite_t hc238 h4
           refine gv_pureN 3 [134, 135, 136] [(135, undef), (136, undef)] (by kernel_rfl) ?_
           refine gv_nil <| gv_goA ?_
           refine gv_stage (Cls w236 []) [0, 1, 2, 3, 4, 5, 6, 7] [(7, some true)] (bA 37 [0, 1, 2, 3, 4, 5, 6, 7]) 29 (by kernel_rfl) (by kernel_rfl) (Cls.refl _ _) ?_
           have hC239 := Cls.refl w236 []
           refine gv_pureN 1 [137] [(137, undef)] (by kernel_rfl) ?_
           refine gv_nil <| gv_goA ?_
           refine gv_pre [8, 9, 10, 11, 13, 14] (bA 37 [0, 1, 2, 3, 4, 5, 6, 7, 8, 9, 10, 11, 13, 14]) 23 (by kernel_rfl) (by kernel_rfl) ?_
           refine gv_pureN 6 [138, 139, 140, 141, 143, 144] [(140, (.bool true)), (141, undef), (144, undef)] (by kernel_rfl) ?_
           refine gv_nil <| gv_goA ?_
           refine gv_stage (Cls w236 []) [0, 1, 2, 3, 4, 5, 6, 7, 8, 9, 10, 11, 12, 13, 14] [(12, some true)] (bA 37 [0, 1, 2, 3, 4, 5, 6, 7, 8, 9, 10, 11, 12, 13, 14]) 22 (by kernel_rfl) (by kernel_rfl) (Cls.refl _ _) ?_
           have hC240 := Cls.refl w236 []
           refine gv_pureN 1 [142] [(142, undef)] (by kernel_rfl) ?_
           refine gv_nil <| gv_goA ?_
           refine gv_pre [15, 16, 17, 18, 19, 20, 21, 22, 23, 24, 25, 26, 27, 28, 29, 30, 31, 32, 33, 34, 35, 36] (bA 37 [0, 1, 2, 3, 4, 5, 6, 7, 8, 9, 10, 11, 12, 13, 14, 15, 16, 17, 18, 19, 20, 21, 22, 23, 24, 25, 26, 27, 28, 29, 30, 31, 32, 33, 34, 35, 36]) 0 (by kernel_rfl) (by kernel_rfl) ?_
           refine gv_pureN 22 [145, 146, 147, 148, 149, 150, 151, 152, 153, 154, 155, 156, 157, 158, 159, 160, 161, 162, 163, 164, 165, 166] [(166, (.bool true))] (by kernel_rfl) ?_
           refine gv_nil <| gv_goA ?_
           refine gv_stageE (by kernel_rfl) ?_
           have e := sj h4; subst e
           refine gv_goal fun a hd hs hok => ?_
           have hB241 := bg hB6 hg128 nb
           have hlo242 : w0.heap.size ≤ b126 := lob hbe130 hB6.size
           have hB243 := bg hB241 hg133 (rowlo hlo242)
           have hB244 := bg hB243 hg237 nb
           have hz245 := hg237.size
           exact ⟨hB244, hz245, hd, hs, ok_pick [0, 166] hok (by kernel_rfl)⟩
          ·skip
           replace h4 := ite_f hc238 h4
           refine gv_pureN 1 [134] [(134, (.string s4))] (by kernel_rfl) ?_
           refine bindE h4 ?_; clear h4; intro x246 hx247 h4
           refine gv_sindex (t := 9) (s := s4) (kk := .i64) (i := 1) x246 [] (fun e => by cases e) rfl rfl rfl (by kernel_rfl) (by kernel_rfl) Tryd.underlying9 hx247 rfl ?_
           refine gv_pureN 1 [136] [(136, (bp b126))] (by kernel_rfl) ?_
           refine gv_nil <| gv_goA ?_
           refine gv_stage (Cls w236 []) [0, 1, 2, 3, 4, 5, 6, 7] [(7, some true)] (bA 37 [0, 1, 2, 3, 4, 5, 6, 7]) 29 (by kernel_rfl) (by kernel_rfl) (Cls.refl _ _) ?_
           have hC248 := Cls.refl w236 []
           have hk249 := hb134.grown hg237 nb
           refine gv_load (t := 5) (A := ⟨b126, 0, none⟩) (.int .u8 x123.1) [] (fun e => by cases e) rfl rfl rfl (by kernel_rfl) (by kernel_rfl) (by kernel_rfl) (inw1 fun w' hC' => ((hC'.box hk249 nm_nil).cell 0 rfl)) rfl ?_
           refine gv_nil <| gv_goA ?_
           refine gv_pre [8, 9, 10, 11, 13, 14] (bA 37 [0, 1, 2, 3, 4, 5, 6, 7, 8, 9, 10, 11, 13, 14]) 23 (by kernel_rfl) (by kernel_rfl) ?_
           refine gv_pureN 3 [138, 139, 140] [(140, (.bool (decide (x246 < x123.1))))] (by kernel_rfl) ?_
           refine gv_split (s := 140) (g := (decide (x246 < x123.1))) (by kernel_rfl) (fun hc250 => ?_) (fun hc250 => ?_)
           ·skip
            replace h4 := ite_t hc250 h4
            refine gv_pureN 3 [141, 143, 144] [(141, undef), (144, undef)] (by kernel_rfl) ?_
            refine gv_nil <| gv_goA ?_
            refine gv_stage (Cls w236 []) [0, 1, 2, 3, 4, 5, 6, 7, 8, 9, 10, 11, 12, 13, 14] [(12, some true)] (bA 37 [0, 1, 2, 3, 4, 5, 6, 7, 8, 9, 10, 11, 12, 13, 14]) 22 (by kernel_rfl) (by kernel_rfl) (Cls.refl _ _) ?_
            have hC251 := Cls.refl w236 []
            refine gv_pureN 1 [142] [(142, undef)] (by kernel_rfl) ?_
            refine gv_nil <| gv_goA ?_
            refine gv_pre [15, 16, 17, 18, 19, 20, 21, 22, 23, 24, 25, 26, 27, 28, 29, 30, 31, 32, 33, 34, 35, 36] (bA 37 [0, 1, 2, 3, 4, 5, 6, 7, 8, 9, 10, 11, 12, 13, 14, 15, 16, 17, 18, 19, 20, 21, 22, 23, 24, 25, 26, 27, 28, 29, 30, 31, 32, 33, 34, 35, 36]) 0 (by kernel_rfl) (by kernel_rfl) ?_
            refine gv_pureN 22 [145, 146, 147, 148, 149, 150, 151, 152, 153, 154, 155, 156, 157, 158, 159, 160, 161, 162, 163, 164, 165, 166] [(166, (.bool true))] (by kernel_rfl) ?_
            refine gv_sub [0, 166] (σ' := [(0, (.string s4)), (166, (.bool true))]) (by kernel_rfl) ?_
            refine gv_nil <| gv_goA ?_
            refine gv_stageE (by kernel_rfl) ?_
            have e := sj h4; subst e
            refine gv_goal fun a hd hs hok => ?_
            have hB252 := bg hB6 hg128 nb
            have hlo253 : w0.heap.size ≤ b126 := lob hbe130 hB6.size
            have hB254 := bg hB252 hg133 (rowlo hlo253)
            have hB255 := bg hB254 hg237 nb
            have hz256 := hg237.size
            exact ⟨hB255, hz256, hd, hs, ok_pick [0, 166] hok (by kernel_rfl)⟩
           ·skip
            replace h4 := ite_f hc250 h4
            refine gv_pureN 2 [141, 143] [(141, (.pointer (some ⟨b126, 1, none⟩))), (143, (.string s4))] (by kernel_rfl) ?_
            refine bindE h4 ?_; clear h4; intro x257 hx258 h4
            refine gv_sindex (t := 9) (s := s4) (kk := .i64) (i := 1) x257 [] (fun e => by cases e) rfl rfl rfl (by kernel_rfl) (by kernel_rfl) Tryd.underlying9 hx258 rfl ?_
            refine gv_nil <| gv_goA ?_
            refine gv_stage (Cls w236 []) [0, 1, 2, 3, 4, 5, 6, 7, 8, 9, 10, 11, 12, 13, 14] [(12, some true)] (bA 37 [0, 1, 2, 3, 4, 5, 6, 7, 8, 9, 10, 11, 12, 13, 14]) 22 (by kernel_rfl) (by kernel_rfl) (Cls.refl _ _) ?_
            have hC259 := Cls.refl w236 []
            refine gv_load (t := 5) (A := ⟨b126, 1, none⟩) (.int .u8 x123.2) [] (fun e => by cases e) rfl rfl rfl (by kernel_rfl) (by kernel_rfl) (by kernel_rfl) (inw1 fun w' hC' => ((hC'.box hk249 nm_nil).cell 1 rfl)) rfl ?_
            refine gv_nil <| gv_goA ?_
            refine gv_pre [15, 16, 17, 18, 19, 20, 21, 22, 23, 24, 25, 26, 27, 28, 29, 30, 31, 32, 33, 34, 35, 36] (bA 37 [0, 1, 2, 3, 4, 5, 6, 7, 8, 9, 10, 11, 12, 13, 14, 15, 16, 17, 18, 19, 20, 21, 22, 23, 24, 25, 26, 27, 28, 29, 30, 31, 32, 33, 34, 35, 36]) 0 (by kernel_rfl) (by kernel_rfl) ?_
            refine gv_pureN 3 [145, 146, 147] [(147, (.bool (decide (x123.2 < x257))))] (by kernel_rfl) ?_
            refine gv_sub [0, 147] (σ' := [(0, (.string s4)), (147, (.bool (decide (x123.2 < x257))))]) (by kernel_rfl) ?_
            refine gv_split (s := 147) (g := (decide (x123.2 < x257))) (by kernel_rfl) (fun hc260 => ?_) (fun hc260 => ?_)
            ·skip
             replace h4 := ite_t hc260 h4
             refine gv_pureN 19 [148, 149, 150, 151, 152, 153, 154, 155, 156, 157, 158, 159, 160, 161, 162, 163, 164, 165, 166] [(166, (.bool true))] (by kernel_rfl) ?_
             refine gv_nil <| gv_goA ?_
             refine gv_stageE (by kernel_rfl) ?_
             have e := sj h4; subst e
             refine gv_goal fun a hd hs hok => ?_
             have hB261 := bg hB6 hg128 nb
             have hlo262 : w0.heap.size ≤ b126 := lob hbe130 hB6.size
             have hB263 := bg hB261 hg133 (rowlo hlo262)
             have hB264 := bg hB263 hg237 nb
             have hz265 := hg237.size
             exact ⟨hB264, hz265, hd, hs, ok_pick [0, 166] hok (by kernel_rfl)⟩
            ·skip
             replace h4 := ite_f hc260 h4
             refine gv_pureN 1 [148] [(148, (.string s4))] (by kernel_rfl) ?_
             refine bindE h4 ?_; clear h4; intro x266 hx267 h4
             refine gv_sindex (t := 9) (s := s4) (kk := .i64) (i := 2) x266 [] (fun e => by cases e) rfl rfl rfl (by kernel_rfl) (by kernel_rfl) Tryd.underlying9 hx267 rfl ?_
             refine gv_pureN 3 [150, 151, 152] [(152, (.bool (decide (x266 < 128))))] (by kernel_rfl) ?_
             refine gv_split (s := 152) (g := (decide (x266 < 128))) (by kernel_rfl) (fun hc268 => ?_) (fun hc268 => ?_)
             ·skip
              replace h4 := ite_t hc268 h4
              refine gv_pureN 14 [153, 154, 155, 156, 157, 158, 159, 160, 161, 162, 163, 164, 165, 166] [(166, (.bool true))] (by kernel_rfl) ?_
              refine gv_nil <| gv_goA ?_
              refine gv_stageE (by kernel_rfl) ?_
              have e := sj h4; subst e
              refine gv_goal fun a hd hs hok => ?_
              have hB269 := bg hB6 hg128 nb
              have hlo270 : w0.heap.size ≤ b126 := lob hbe130 hB6.size
              have hB271 := bg hB269 hg133 (rowlo hlo270)
              have hB272 := bg hB271 hg237 nb
              have hz273 := hg237.size
              exact ⟨hB272, hz273, hd, hs, ok_pick [0, 166] hok (by kernel_rfl)⟩
             ·skip
              replace h4 := ite_f hc268 h4
              refine gv_pureN 1 [153] [(153, (.string s4))] (by kernel_rfl) ?_
              refine bindE h4 ?_; clear h4; intro x274 hx275 h4
              refine gv_sindex (t := 9) (s := s4) (kk := .i64) (i := 2) x274 [] (fun e => by cases e) rfl rfl rfl (by kernel_rfl) (by kernel_rfl) Tryd.underlying9 hx275 rfl ?_
              refine gv_pureN 3 [155, 156, 157] [(157, (.bool (decide (191 < x274))))] (by kernel_rfl) ?_
              refine gv_split (s := 157) (g := (decide (191 < x274))) (by kernel_rfl) (fun hc276 => ?_) (fun hc276 => ?_)
              ·skip
               replace h4 := ite_t hc276 h4
               refine gv_pureN 9 [158, 159, 160, 161, 162, 163, 164, 165, 166] [(166, (.bool true))] (by kernel_rfl) ?_
               refine gv_nil <| gv_goA ?_
               refine gv_stageE (by kernel_rfl) ?_
               have e := sj h4; subst e
               refine gv_goal fun a hd hs hok => ?_
               have hB277 := bg hB6 hg128 nb
               have hlo278 : w0.heap.size ≤ b126 := lob hbe130 hB6.size
               have hB279 := bg hB277 hg133 (rowlo hlo278)
               have hB280 := bg hB279 hg237 nb
               have hz281 := hg237.size
               exact ⟨hB280, hz281, hd, hs, ok_pick [0, 166] hok (by kernel_rfl)⟩
              ·skip
               replace h4 := ite_f hc276 h4
               refine gv_pureN 1 [158] [(158, (.string s4))] (by kernel_rfl) ?_
               refine bindE h4 ?_; clear h4; intro x282 hx283 h4
               refine gv_sindex (t := 9) (s := s4) (kk := .i64) (i := 3) x282 [] (fun e => by cases e) rfl rfl rfl (by kernel_rfl) (by kernel_rfl) Tryd.underlying9 hx283 rfl ?_
               refine gv_pureN 3 [160, 161, 162] [(162, (.bool (decide (x282 < 128))))] (by kernel_rfl) ?_
               refine gv_split (s := 162) (g := (decide (x282 < 128))) (by kernel_rfl) (fun hc284 => ?_) (fun hc284 => ?_)
               ·skip
                replace h4 := ite_t hc284 h4
                refine gv_pureN 4 [163, 164, 165, 166] [(166, (.bool true))] (by kernel_rfl) ?_
                refine gv_nil <| gv_goA ?_
                refine gv_stageE (by kernel_rfl) ?_
                have e := sj h4; subst e
                refine gv_goal fun a hd hs hok => ?_
                have hB285 := bg hB6 hg128 nb
                have hlo286 : w0.heap.size ≤ b126 := lob hbe130 hB6.size
                have hB287 := bg hB285 hg133 (rowlo hlo286)
                have hB288 := bg hB287 hg237 nb
                have hz289 := hg237.size
                exact ⟨hB288, hz289, hd, hs, ok_pick [0, 166] hok (by kernel_rfl)⟩
               ·skip
                replace h4 := ite_f hc284 h4
                refine gv_pureN 1 [163] [(163, (.string s4))] (by kernel_rfl) ?_
                refine bindE h4 ?_; clear h4; intro x290 hx291 h4
                refine gv_sindex (t := 9) (s := s4) (kk := .i64) (i := 3) x290 [] (fun e => by cases e) rfl rfl rfl (by kernel_rfl) (by kernel_rfl) Tryd.underlying9 hx291 rfl ?_
                refine gv_pureN 2 [165, 166] [(166, (.bool (decide (191 < x290))))] (by kernel_rfl) ?_
                refine gv_nil <| gv_goA ?_
                refine gv_stageE (by kernel_rfl) ?_
                have e := sj h4; subst e
                refine gv_goal fun a hd hs hok => ?_
                have hB292 := bg hB6 hg128 nb
                have hlo293 : w0.heap.size ≤ b126 := lob hbe130 hB6.size
                have hB294 := bg hB292 hg133 (rowlo hlo293)
                have hB295 := bg hB294 hg237 nb
                have hz296 := hg237.size
                exact ⟨hB295, hz296, hd, hs, ok_pick [0, 166] hok (by kernel_rfl)⟩
         ·rintro a w235 ⟨hB297, hz298, hd, hs, hok⟩
          refine gv_in ?_ hd hs hok
          clear hd hs hok
          have hz299 := (nt (nt hz7 hg128.size) hg133.size)
          clear hc233 hc178 hc139 hz135 hb134 hg133 hz131 hbe130 hb129 hg128 hc125 hx124 hn122 hx120 hc11 hx10 hc8 hz7 hB6
          refine gv_cond (b := j234) (by kernel_rfl) (fun hc300 => ?_) (fun hc300 => ?_)
          ·replace h3 := ite_t hc300 h3
           refine gv_seq <| gv_region <| gv_pureN 1 [2] [(2, (.bool false))] (by kernel_rfl) ?_
           refine gv_nil <| gv_cret ?_
           have e := sj h3; subst e
           replace h2 := cont_inr h2
           have e := sj h2; subst e
           replace h1 := congrArg some (hR2 _ rfl)
           have e := sj h1; subst e
           replace h0 := cont_inr h0
           have e := sj h0; subst e
           refine gv_ret (gv_done [(.bool false)] rfl ⟨(by kernel_rfl), trivial⟩ ?_)
           exact ⟨grown_of_below hB297, rfl⟩
          ·replace h3 := ite_f hc300 h3
           refine gv_skip <| gv_region <| gv_pureN 1 [167] [(167, (.string s4))] (by kernel_rfl) ?_
           refine bindE h3 ?_; clear h3; intro x301 hx302 h3
           refine gv_ssub (t := 9) (s := s4) (lo := (some (.int .i64 4))) (hi := none) 4 ((ByteArray.size s4 : Nat) : Int) x301 [] (fun e => by cases e) rfl rfl rfl (by kernel_rfl) (by kernel_rfl) Tryd.underlying9 (.inr ⟨_, rfl⟩) (.inl ⟨rfl, rfl⟩) hx302 rfl ?_
           refine gv_pureN 1 [0] [(0, (.string x301))] (by kernel_rfl) ?_
           refine gv_nil ?_
           have e := sj h3; subst e
           refine gv_goal fun a hd hs hok => ?_
           have hz303 := hz298
           exact ⟨x301, rfl, hB297, hz303, hd, hs, ok_pick [0] hok (by kernel_rfl)⟩
        ·replace h3 := ite_f hc233 h3
         refine gv_seq <| gv_region <| gv_pureN 1 [2] [(2, (.bool false))] (by kernel_rfl) ?_
         refine gv_nil <| gv_cret ?_
         have e := sj h3; subst e
         replace h2 := cont_inr h2
         have e := sj h2; subst e
         replace h1 := congrArg some (hR2 _ rfl)
         have e := sj h1; subst e
         replace h0 := cont_inr h0
         have e := sj h0; subst e
         refine gv_ret (gv_done [(.bool false)] rfl ⟨(by kernel_rfl), trivial⟩ ?_)
         have hB304 := bg hB6 hg128 nb
         have hlo305 : w0.heap.size ≤ b126 := lob hbe130 hB6.size
         have hB306 := bg hB304 hg133 (rowlo hlo305)
         exact ⟨grown_of_below hB306, rfl⟩
     ·rintro a w138 ⟨s137, e, hB307, hz308, hd, hs, hok⟩
      subst e
      refine gv_in ?_ hd hs hok
      clear hd hs hok
      replace h2 := cont_inl h2
      have hz309 := (nt (nt (nt hz7 hg128.size) hg133.size) hz308)
      clear hz308 hz135 hb134 hg133 hz131 hbe130 hb129 hg128 hc125 hx124 hn122 hx120 hc11 hx10 hc8 hz7 hB6
      refine gv_blk <| gv_blk ?_
      have e := sj h2; subst e
      refine gv_goal fun a hd hs hok => ?_
      have hz310 := hz309
      exact ⟨s137, rfl, hB307, hz310, hd, hs, ok_pick [0] hok (by kernel_rfl)⟩
   ·replace h2 := ite_f hc8 h2
    refine gv_cexit <| gv_exit rfl ?_
    have e := sj h2; subst e
    replace h1 := congrArg some (hR2 _ rfl)
    have e := sj h1; subst e
    refine gv_goal fun a hd hs hok => ?_
    have hz311 := hz7
    exact ⟨(), rfl, hB6, hz311, hd, hs, ok_pick [] hok (by kernel_rfl)⟩
 ·rintro a w3 ⟨s2, e, hB312, hz313, hd, hs, hok⟩
  subst e
  refine gv_in ?_ hd hs hok
  clear hd hs hok
  replace h0 := cont_inl h0
  refine gv_seq <| gv_region <| gv_pureN 1 [2] [(2, (.bool true))] (by kernel_rfl) ?_
  refine gv_nil <| gv_cret ?_
  have e := sj h0; subst e
  refine gv_ret (gv_done [(.bool true)] rfl ⟨(by kernel_rfl), trivial⟩ ?_)
  exact ⟨grown_of_below hB312, rfl⟩

theorem textstr_Valid_ok (fuel : Nat) (s_0 : ByteArray) (w0 : World) (X0 : Nat → Prop) (hX0 : ∀ k, X0 k → k < w0.heap.size) (hG1 : Rd bE w0 X0 (some ⟨1, 0, none⟩) 256 utf8First) (hG2 : Rd (prE (iE .u8) (iE .u8)) w0 X0 (some ⟨2, 0, none⟩) 16 utf8Acc) (r0 : Bool) (h0 : textstr_Valid fuel s_0 = some r0) :
    Calls Tryd.prog 76 ([(.string s_0)] : List Value).toArray w0 (Ret fun v w' => w0.grownBy w' none ∧ v = tup [(.bool r0)]) := by
 have hB0 : Below w0.heap.size w0 w0 := Below.refl _ _
 unfold textstr_Valid at h0
 refine calls_run Tryd.func76 rfl Tryd.ntmps76 (by kernel_rfl) ?_
 refine gv_sub [0] (σ' := [(0, (.string s_0))]) (by kernel_rfl) ?_
 refine gv_seq <| gv_region <| gv_pureN 1 [2] [] (by kernel_rfl) ?_
 refine gv_nil <| gv_seq <| gv_region <| bindE h0 ?_; clear h0; intro j1 h1 h0
 refine gv_cut_ops (J := fun a w2 => Below w0.heap.size w0 w2 ∧ w0.heap.size ≤ w2.heap.size ∧ a.defers = [] ∧ a.tmps.size = 10 ∧ Ok [(2, (.bool j1))] a.tmps) ?_ ?_
 ·skip
  refine gv_pureN 1 [3] [(3, (.string s_0))] (by kernel_rfl) ?_
  refine bindE h1 ?_; clear h1; intro r3 hr4 h1
  refine gv_call0 (by kernel_rfl) rfl (by kernel_rfl) enters98 (utf8_ValidString_ok fuel s_0 w0 (fun k => X0 k ∨ X0 k) (fun k hk => (hk).elim (fun h => (fun k (hk : X0 k) => ltl (hX0 k hk) hB0.size) k h) (fun h => (fun k (hk : X0 k) => ltl (hX0 k hk) hB0.size) k h)) ((hG1.below hB0 hX0).wide (fun k hk => (.inl hk))) ((hG2.below hB0 hX0).wide (fun k hk => (.inr hk))) r3 hr4) ?_
  rintro v7 w5 ⟨hg6, rfl⟩
  refine gv_pureN 1 [5] [(5, (.bool r3))] (by kernel_rfl) ?_
  refine gv_split (s := 5) (g := r3) (by kernel_rfl) (fun hc8 => ?_) (fun hc8 => ?_)
  ·skip
   replace h1 := ite_t hc8 h1
   refine gv_pureN 5 [2, 6, 7, 8, 9] [(2, (.bool (decide (((ByteArray.size s_0 : Nat) : Int) ≤ 4000))))] (by kernel_rfl) ?_
   refine bindE h1 ?_; clear h1; intro n9 hn10 h1
   refine gv_name (s := 2) (v := (.bool (decide (((ByteArray.size s_0 : Nat) : Int) ≤ 4000)))) (v' := (.bool n9)) (by kernel_rfl) (congrArg (Value.bool) (sj hn10)) ?_
   refine gv_nil ?_
   have e := sj h1; subst e
   refine gv_goal fun a hd hs hok => ?_
   have hB11 := bg hB0 hg6 nb
   have hz12 := hg6.size
   exact ⟨hB11, hz12, hd, hs, ok_pick [2] hok (by kernel_rfl)⟩
  ·skip
   replace h1 := ite_f hc8 h1
   refine gv_pureN 5 [2, 6, 7, 8, 9] [(2, (.bool false))] (by kernel_rfl) ?_
   refine gv_nil ?_
   have e := sj h1; subst e
   refine gv_goal fun a hd hs hok => ?_
   have hB13 := bg hB0 hg6 nb
   have hz14 := hg6.size
   exact ⟨hB13, hz14, hd, hs, ok_pick [2] hok (by kernel_rfl)⟩
 ·rintro a w2 ⟨hB15, hz16, hd, hs, hok⟩
  refine gv_in ?_ hd hs hok
  clear hd hs hok
  refine gv_cret ?_
  have e := sj h0; subst e
  refine gv_ret (gv_done [(.bool j1)] rfl ⟨(by kernel_rfl), trivial⟩ ?_)
  exact ⟨grown_of_below hB15, rfl⟩

theorem textstr_check_ok (fuel : Nat) (pa0_0 : Option Addr) (pc0_0 : Nat) (l_0 : (List ByteArray)) (w0 : World) (X0 : Nat → Prop) (hX0 : ∀ k, X0 k → k < w0.heap.size) (hpa0_0 : Rd sE w0 X0 pa0_0 pc0_0 l_0) (hG1 : Rd bE w0 X0 (some ⟨1, 0, none⟩) 256 utf8First) (hG2 : Rd (prE (iE .u8) (iE .u8)) w0 X0 (some ⟨2, 0, none⟩) 16 utf8Acc) (r0 : (Int × Int)) (h0 : textstr_check fuel l_0 = some r0) :
    Calls Tryd.prog 58 ([(.slice pa0_0 (List.length l_0) pc0_0)] : List Value).toArray w0 (Ret fun v w' => w0.grownBy w' none ∧ v = tup [(.agg #[(.int .i64 r0.1), (.int .i64 r0.2)])]) := by
 have hB0 : Below w0.heap.size w0 w0 := Below.refl _ _
 unfold textstr_check at h0
 refine calls_run Tryd.func58 rfl Tryd.ntmps58 (by kernel_rfl) ?_
 refine gv_sub [0] (σ' := [(0, (.slice pa0_0 (List.length l_0) pc0_0))]) (by kernel_rfl) ?_
 refine gv_seq <| gv_region <| gv_new0 (fun b => .pointer (some ⟨b, 0, none⟩)) #[(.int .i64 0), (.int .i64 0)] 24 (by kernel_rfl) (by kernel_rfl) ?_
 intro b1 w2 hg3 hb4 hbe5 hz6
 refine gv_nil <| gv_seq <| gv_seq <| gv_region <| gv_pureN 3 [5, 6, 7] [(5, (.slice pa0_0 (List.length l_0) pc0_0)), (6, (.int .i64 ((List.length l_0 : Nat) : Int))), (7, (.int .i64 0))] (by kernel_rfl) ?_
 refine gv_nil <| bindE h0 ?_; clear h0; intro j7 h1 h0
 refine gv_cut_code (J := fun a w9 => ∃ s8 : (Int × Int), j7 = .inl s8 ∧ Below w0.heap.size w0 w9 ∧ w2.heap.size ≤ w9.heap.size ∧ Box w9 b1 24 #[(.int .i64 s8.1), (.int .i64 s8.2)] ∧ a.defers = [] ∧ a.tmps.size = 20 ∧ Ok [(2, (bp b1))] a.tmps) ?_ ?_
 ·skip
  refine gv_block <| gv_loop (A := fun (s10 : (Int × (Int × Int))) a w11 => Below w0.heap.size w0 w11 ∧ w2.heap.size ≤ w11.heap.size ∧ Box w11 b1 24 #[(.int .i64 s10.2.1), (.int .i64 s10.2.2)] ∧ a.defers = [] ∧ a.tmps.size = 20 ∧ Ok [(2, (bp b1)), (5, (.slice pa0_0 (List.length l_0) pc0_0)), (6, (.int .i64 ((List.length l_0 : Nat) : Int))), (7, (.int .i64 s10.1))] a.tmps) h1 ?_ ?_
  ·intro a hd hs hok
   have hB12 := bg hB0 hg3 nb
   exact ⟨hB12, (Nat.le_refl _), hb4, hd, hs, ok_pick [2, 5, 6, 7] hok (by kernel_rfl)⟩
  ·rintro s10 r2 h2 hR2 a w11 ⟨hB13, hz14, hb15, hd, hs, hok⟩
   refine gv_in ?_ hd hs hok
   clear hd hs hok
   refine gv_seq <| gv_region <| gv_pureN 1 [8] [(8, (.bool (decide (s10.1 < ((List.length l_0 : Nat) : Int)))))] (by kernel_rfl) ?_
   refine gv_nil <| gv_seq <| gv_cond (b := (decide (s10.1 < ((List.length l_0 : Nat) : Int)))) (by kernel_rfl) (fun hc16 => ?_) (fun hc16 => ?_)
   ·replace h2 := ite_t hc16 h2
    refine gv_skip <| gv_seq <| gv_block <| gv_seq <| gv_region <| gv_pureN 1 [9] [(9, (.int .i64 s10.1))] (by kernel_rfl) ?_
    refine bindE h2 ?_; clear h2; intro x17 hx18 h2
    refine gv_idxaddr (t := 22) (e := 9) (a := pa0_0) (len := List.length l_0) (cap := pc0_0) (kk := .i64) (i := s10.1) (sz := 1) [] (fun e => by cases e) rfl rfl rfl (by kernel_rfl) (by kernel_rfl) Tryd.underlying22 (by kernel_rfl) ((hpa0_0.below hB13 hX0).has hx18) (idx_spec hx18).1 (idx_spec hx18).2.1 rfl ?_
    refine gv_load (t := 9) (A := (elemAddr pa0_0 ((s10.1 : Int).toNat * 1))) (.string x17) [] (fun e => by cases e) rfl rfl rfl (by kernel_rfl) (by kernel_rfl) (by kernel_rfl) (inw0 ((hpa0_0.below hB13 hX0).cell hx18)) rfl ?_
    refine gv_pureN 2 [3, 4] [(3, (.int .i64 s10.1)), (4, (.string x17))] (by kernel_rfl) ?_
    refine gv_nil <| gv_seq <| gv_region <| gv_pureN 1 [12] [(12, (.string x17))] (by kernel_rfl) ?_
    refine bindE h2 ?_; clear h2; intro r19 hr20 h2
    refine gv_call0 (by kernel_rfl) rfl (by kernel_rfl) enters76 (textstr_Valid_ok fuel x17 w11 (fun k => X0 k ∨ X0 k) (fun k hk => (hk).elim (fun h => (fun k (hk : X0 k) => ltl (hX0 k hk) hB13.size) k h) (fun h => (fun k (hk : X0 k) => ltl (hX0 k hk) hB13.size) k h)) ((hG1.below hB13 hX0).wide (fun k hk => (.inl hk))) ((hG2.below hB13 hX0).wide (fun k hk => (.inr hk))) r19 hr20) ?_
    rintro v23 w21 ⟨hg22, rfl⟩
    refine gv_pureN 1 [14] [(14, (.bool (!r19)))] (by kernel_rfl) ?_
    refine gv_nil <| gv_cond (b := (!r19)) (by kernel_rfl) (fun hc24 => ?_) (fun hc24 => ?_)
    ·replace h2 := ite_t hc24 h2
     refine gv_seq <| gv_region <| gv_pureN 2 [15, 16] [(16, (.int .i64 (IntKind.i64.wrap ((-1) - s10.1))))] (by kernel_rfl) ?_
     refine bindE h2 ?_; clear h2; intro r25 hr26 h2
     refine gv_call0 (by kernel_rfl) rfl (by kernel_rfl) enters56 (textstr_at_ok fuel 6 (IntKind.i64.wrap ((-1) - s10.1)) w21  r25 hr26) ?_
     rintro v29 w27 ⟨hg28, rfl⟩
     have hg34 := (grown_trans hg22 hg28)
     have hk35 := hb15.grown hg34 nb
     refine gv_store0 24 0 (.agg #[(.int .i64 r25.1), (.int .i64 r25.2)]) #[(.int .i64 r25.1), (.int .i64 r25.2)] hk35 (by kernel_rfl) (by kernel_rfl) (by kernel_rfl) ?_
     intro w30 hg31 hb32 hz33
     refine gv_nil <| gv_cret ?_
     have e := sj h2; subst e
     replace h1 := congrArg some (hR2 _ rfl)
     have e := sj h1; subst e
     replace h0 := cont_inr h0
     have e := sj h0; subst e
     refine gv_ret (gv_done [(.agg #[(.int .i64 r25.1), (.int .i64 r25.2)])] rfl ⟨⟨⟨b1, 0, none⟩, (by kernel_rfl), run_loadVar_row w30 b1 _ 24 _ _ _ hb32 Tryd.underlying24 rfl (by kernel_rfl)⟩, trivial⟩ ?_)
     have hB36 := bg hB13 hg34 nb
     have hlo37 : w0.heap.size ≤ b1 := lob hbe5 hB0.size
     have hB38 := bg hB36 hg31 (rowlo hlo37)
     exact ⟨grown_of_below hB38, rfl⟩
    ·replace h2 := ite_f hc24 h2
     refine gv_skip <| gv_blk <| gv_region <| gv_pureN 2 [7, 18] [(7, (.int .i64 (IntKind.i64.wrap (s10.1 + 1))))] (by kernel_rfl) ?_
     refine gv_nil ?_
     have e := sj h2; subst e
     refine gv_goal fun a hd hs hok => ?_
     have hB39 := bg hB13 hg22 nb
     have hz40 := (nt hz14 hg22.size)
     have hk41 := hb15.grown hg22 nb
     exact ⟨((IntKind.i64.wrap (s10.1 + 1)), (s10.2.1, s10.2.2)), rfl, hB39, hz40, hk41, hd, hs, ok_pick [2, 5, 6, 7] hok (by kernel_rfl)⟩
   ·replace h2 := ite_f hc16 h2
    refine gv_cexit <| gv_exit rfl ?_
    have e := sj h2; subst e
    replace h1 := congrArg some (hR2 _ rfl)
    have e := sj h1; subst e
    refine gv_goal fun a hd hs hok => ?_
    have hz42 := hz14
    exact ⟨(s10.2.1, s10.2.2), rfl, hB13, hz42, hb15, hd, hs, ok_pick [2] hok (by kernel_rfl)⟩
 ·rintro a w9 ⟨s8, e, hB43, hz44, hb45, hd, hs, hok⟩
  subst e
  refine gv_in ?_ hd hs hok
  clear hd hs hok
  replace h0 := cont_inl h0
  clear hz44 hz6 hb4 hg3
  refine gv_seq <| gv_region <| gv_pureN 1 [19] [(19, (.agg #[(.int .i64 0), (.int .i64 0)]))] (by kernel_rfl) ?_
  refine gv_store0 24 0 (.agg #[(.int .i64 0), (.int .i64 0)]) #[(.int .i64 0), (.int .i64 0)] hb45 (by kernel_rfl) (by kernel_rfl) (by kernel_rfl) ?_
  intro w46 hg47 hb48 hz49
  refine gv_nil <| gv_cret ?_
  have e := sj h0; subst e
  refine gv_ret (gv_done [(.agg #[(.int .i64 0), (.int .i64 0)])] rfl ⟨⟨⟨b1, 0, none⟩, (by kernel_rfl), run_loadVar_row w46 b1 _ 24 _ _ _ hb48 Tryd.underlying24 rfl (by kernel_rfl)⟩, trivial⟩ ?_)
  have hlo50 : w0.heap.size ≤ b1 := lob hbe5 hB0.size
  have hB51 := bg hB43 hg47 (rowlo hlo50)
  exact ⟨grown_of_below hB51, rfl⟩

theorem textstr_blank_ok (fuel : Nat) (c_0 : Int) (w0 : World)  (r0 : Bool) (h0 : textstr_blank fuel c_0 = some r0) :
    Calls Tryd.prog 60 ([(.int .i32 c_0)] : List Value).toArray w0 (Ret fun v w' => w0.grownBy w' none ∧ v = tup [(.bool r0)]) := by
 have hB0 : Below w0.heap.size w0 w0 := Below.refl _ _
 unfold textstr_blank at h0
 refine calls_run Tryd.func60 rfl Tryd.ntmps60 (by kernel_rfl) ?_
 refine gv_sub [0] (σ' := [(0, (.int .i32 c_0))]) (by kernel_rfl) ?_
 refine gv_seq <| gv_region <| gv_pureN 1 [2] [] (by kernel_rfl) ?_
 refine gv_nil <| gv_seq <| gv_region <| gv_cut_ops (J := fun a w1 => w0 = w1 ∧ a.defers = [] ∧ a.tmps.size = 13 ∧ Ok [(2, (.bool ((c_0 == 32) || ((c_0 == 9) || (c_0 == 10)))))] a.tmps) ?_ ?_
 ·skip
  refine gv_pureN 3 [3, 4, 5] [(5, (.bool (c_0 == 32)))] (by kernel_rfl) ?_
  refine gv_split (s := 5) (g := (c_0 == 32)) (by kernel_rfl) (fun hc2 => ?_) (fun hc2 => ?_)
  ·skip
   refine gv_pureN 8 [2, 6, 7, 8, 9, 10, 11, 12] [(2, (.bool true))] (by kernel_rfl) ?_
   refine gv_nil <| gv_sub [2] (σ' := [(2, (.bool true))]) (by kernel_rfl) ?_
   refine gv_goal fun a hd hs hok => ⟨rfl, hd, hs, ?_⟩
   obtain ⟨q2, _⟩ := hok
   exact ⟨(by rw [hc2]; exact q2), trivial⟩
  ·skip
   refine gv_pureN 4 [6, 7, 8, 9] [(9, (.bool (c_0 == 9)))] (by kernel_rfl) ?_
   refine gv_split (s := 9) (g := (c_0 == 9)) (by kernel_rfl) (fun hc3 => ?_) (fun hc3 => ?_)
   ·skip
    refine gv_pureN 4 [2, 10, 11, 12] [(2, (.bool true))] (by kernel_rfl) ?_
    refine gv_nil <| gv_sub [2] (σ' := [(2, (.bool true))]) (by kernel_rfl) ?_
    refine gv_goal fun a hd hs hok => ⟨rfl, hd, hs, ?_⟩
    obtain ⟨q2, _⟩ := hok
    exact ⟨(by rw [hc2, hc3]; exact q2), trivial⟩
   ·skip
    refine gv_pureN 4 [2, 10, 11, 12] [(2, (.bool (c_0 == 10)))] (by kernel_rfl) ?_
    refine gv_nil <| gv_sub [2] (σ' := [(2, (.bool (c_0 == 10)))]) (by kernel_rfl) ?_
    refine gv_goal fun a hd hs hok => ⟨rfl, hd, hs, ?_⟩
    obtain ⟨q2, _⟩ := hok
    exact ⟨(by rw [hc2, hc3]; exact q2), trivial⟩
 ·rintro a w1 ⟨e, hd, hs, hok⟩; subst e
  refine gv_in ?_ hd hs hok
  clear hd hs hok
  refine gv_cret ?_
  have e := sj h0; subst e
  refine gv_ret (gv_done [(.bool ((c_0 == 32) || ((c_0 == 9) || (c_0 == 10))))] rfl ⟨(by kernel_rfl), trivial⟩ ?_)
  exact ⟨grown_of_below hB0, rfl⟩

theorem textstr_pieces_ok (fuel : Nat) (pa0_0 : Option Addr) (pc0_0 : Nat) (l_0 : (List ByteArray)) (w0 : World) (X0 : Nat → Prop) (hX0 : ∀ k, X0 k → k < w0.heap.size) (hpa0_0 : Rd sE w0 X0 pa0_0 pc0_0 l_0) (r0 : ((List ByteArray) × (Int × Int))) (h0 : textstr_pieces fuel l_0 = some r0) :
    Calls Tryd.prog 57 ([(.slice pa0_0 (List.length l_0) pc0_0)] : List Value).toArray w0 (Ret fun v w' => w0.grownBy w' none ∧ ∃ (a0_0r : Option Addr) (c0_0r : Nat), ∃ (X0_0r : Nat → Prop), v = tup [(.slice a0_0r (List.length r0.1) c0_0r), (.agg #[(.int .i64 r0.2.1), (.int .i64 r0.2.2)])] ∧ Rd sE w' X0_0r a0_0r c0_0r r0.1 ∧ (∀ k, X0_0r k → k < w'.heap.size ∧ (X0 k ∨ w0.heap.size ≤ k))) := by
 have hB0 : Below w0.heap.size w0 w0 := Below.refl _ _
 unfold textstr_pieces at h0
 refine calls_run Tryd.func57 rfl Tryd.ntmps57 (by kernel_rfl) ?_
 refine gv_sub [0] (σ' := [(0, (.slice pa0_0 (List.length l_0) pc0_0))]) (by kernel_rfl) ?_
 refine gv_seq <| gv_region <| gv_pureN 1 [2] [] (by kernel_rfl) ?_
 refine gv_new0 (fun b => .pointer (some ⟨b, 0, none⟩)) #[(.int .i64 0), (.int .i64 0)] 24 (by kernel_rfl) (by kernel_rfl) ?_
 intro b1 w2 hg3 hb4 hbe5 hz6
 refine gv_nil <| gv_seq <| gv_seq <| gv_region <| gv_pureN 3 [4, 5, 6] [(6, (.bool (decide (((List.length l_0 : Nat) : Int) > 1000))))] (by kernel_rfl) ?_
 refine gv_nil <| gv_cond (b := (decide (((List.length l_0 : Nat) : Int) > 1000))) (by kernel_rfl) (fun hc7 => ?_) (fun hc7 => ?_)
 ·replace h0 := ite_t hc7 h0
  refine gv_seq <| gv_region <| bindE h0 ?_; clear h0; intro r8 hr9 h0
  refine gv_call0 (by kernel_rfl) rfl (by kernel_rfl) enters56 (textstr_at_ok fuel 2 (-1) w2  r8 hr9) ?_
  rintro v12 w10 ⟨hg11, rfl⟩
  refine gv_pureN 1 [2] [(2, (.slice none (List.length ([] : List ByteArray)) 0))] (by kernel_rfl) ?_
  have hk17 := hb4.grown hg11 nb
  refine gv_store0 24 0 (.agg #[(.int .i64 r8.1), (.int .i64 r8.2)]) #[(.int .i64 r8.1), (.int .i64 r8.2)] hk17 (by kernel_rfl) (by kernel_rfl) (by kernel_rfl) ?_
  intro w13 hg14 hb15 hz16
  refine gv_nil <| gv_cret ?_
  have e := sj h0; subst e
  refine gv_ret (gv_done [(.slice none (List.length ([] : List ByteArray)) 0), (.agg #[(.int .i64 r8.1), (.int .i64 r8.2)])] rfl ⟨(by kernel_rfl), ⟨⟨b1, 0, none⟩, (by kernel_rfl), run_loadVar_row w13 b1 _ 24 _ _ _ hb15 Tryd.underlying24 rfl (by kernel_rfl)⟩, trivial⟩ ?_)
  have hg18 := (grown_trans hg3 hg11)
  have hB19 := bg hB0 hg18 nb
  have hlo20 : w0.heap.size ≤ b1 := lob hbe5 hB0.size
  have hB21 := bg hB19 hg14 (rowlo hlo20)
  exact ⟨grown_of_below hB21, none, 0, (fun _ => False), rfl, (Rd.nil sE w13 (fun _ => False) none 0), (fun k hk => ⟨(fun _ h => h.elim) k hk, (fun _ h => h.elim) k hk⟩)⟩
 ·replace h0 := ite_f hc7 h0
  refine gv_skip <| gv_seq <| gv_region <| gv_pureN 3 [2, 8, 9] [(2, (.slice pa0_0 (List.length l_0) pc0_0)), (9, (.agg #[(.int .i64 0), (.int .i64 0)]))] (by kernel_rfl) ?_
  refine gv_store0 24 0 (.agg #[(.int .i64 0), (.int .i64 0)]) #[(.int .i64 0), (.int .i64 0)] hb4 (by kernel_rfl) (by kernel_rfl) (by kernel_rfl) ?_
  intro w22 hg23 hb24 hz25
  refine gv_nil <| gv_cret ?_
  have e := sj h0; subst e
  refine gv_ret (gv_done [(.slice pa0_0 (List.length l_0) pc0_0), (.agg #[(.int .i64 0), (.int .i64 0)])] rfl ⟨(by kernel_rfl), ⟨⟨b1, 0, none⟩, (by kernel_rfl), run_loadVar_row w22 b1 _ 24 _ _ _ hb24 Tryd.underlying24 rfl (by kernel_rfl)⟩, trivial⟩ ?_)
  have hB26 := bg hB0 hg3 nb
  have hlo27 : w0.heap.size ≤ b1 := lob hbe5 hB0.size
  have hB28 := bg hB26 hg23 (rowlo hlo27)
  exact ⟨grown_of_below hB28, pa0_0, pc0_0, X0, rfl, (hpa0_0.below hB28 hX0), (fun k hk => ⟨(fun k (hk : X0 k) => ltl (hX0 k hk) hB28.size) k hk, (fun k (hk : X0 k) => Or.inl hk) k hk⟩)⟩

theorem strings_FieldsFunc_blank_ok (fuel : Nat) (s_0 : ByteArray) (w0 : World) (r0 : (List ByteArray)) (h0 : strings_FieldsFunc_blank fuel s_0 = some r0) :
    Calls Tryd.prog 59 ([(.string s_0), (.func (.func 60) #[] #[])] : List Value).toArray w0 (Ret fun v w' => w0.grownBy w' none ∧ ∃ (a0_0r : Option Addr) (c0_0r : Nat), v = tup [(.slice a0_0r (List.length r0) c0_0r)] ∧ Gv.Own sE 9 w' (fun _ => False) a0_0r c0_0r r0 ∧ (∀ g, blk a0_0r = some g → w0.heap.size ≤ g)) := by
  unfold strings_FieldsFunc_blank at h0
  split at h0
  · rename_i hb
    cases h0
    have hp : Go.Proofs.PredGrows Tryd.prog 60 #[] blankN w0 := by
      intro W x hx hW
      have hd : textstr_blank 0 (x : Int) = some (blankN x) := by
        unfold textstr_blank blankN
        by_cases h1 : x = 32
        · subst h1; rfl
        · by_cases h2 : x = 9
          · subst h2; rfl
          · by_cases h3 : x = 10
            · subst h3; rfl
            · have e1 : ((x : Int) == 32) = false := beq_eq_false_iff_ne.2 (by omega)
              have e2 : ((x : Int) == 9) = false := beq_eq_false_iff_ne.2 (by omega)
              have e3 : ((x : Int) == 10) = false := beq_eq_false_iff_ne.2 (by omega)
              have f1 : (x == 32) = false := beq_eq_false_iff_ne.2 h1
              have f2 : (x == 9) = false := beq_eq_false_iff_ne.2 h2
              have f3 : (x == 10) = false := beq_eq_false_iff_ne.2 h3
              simp [e1, e2, e3, f1, f2, f3]
      refine (textstr_blank_ok 0 (x : Int) W _ hd).mono fun e w' h => ?_
      cases e <;> first | exact h.elim | skip
      obtain ⟨h1, h2⟩ := h
      exact ⟨congrArg Ending.returned h2, below_of_grown h1⟩
    have ef : ∀ args w, (callFunc 60 args).run Tryd.prog w = .ok (.enter 60 args) w := fun args w => by
      obtain ⟨fn, h1, h2, h3⟩ := enters60
      obtain ⟨c, hc⟩ : ∃ c, fn.body = some c := by cases hb : fn.body with | none => rw [hb] at h3; cases h3 | some c => exact ⟨c, rfl⟩
      exact enters_of h1 h2 hc args w
    refine (Go.Proofs.Any.strings_FieldsFunc_grows lays229 60 #[] ef blankN s_0 w0 hb hp hi154 hi9).mono fun e w' ⟨A, he, hA, hrow, hw⟩ => ?_
    subst he
    exact ⟨grown_of_below hw, some ⟨A, 0, none⟩, _, rfl, own_rows (rows_base hrow) rfl, fun g hg => by cases hg; exact hA⟩
  · cases h0

theorem textstr_Words_ok (fuel : Nat) (s_0 : ByteArray) (w0 : World) (X0 : Nat → Prop) (hX0 : ∀ k, X0 k → k < w0.heap.size) (hG1 : Rd bE w0 X0 (some ⟨1, 0, none⟩) 256 utf8First) (hG2 : Rd (prE (iE .u8) (iE .u8)) w0 X0 (some ⟨2, 0, none⟩) 16 utf8Acc) (r0 : ((List ByteArray) × (Int × Int))) (h0 : textstr_Words fuel s_0 = some r0) :
    Calls Tryd.prog 16 ([(.string s_0)] : List Value).toArray w0 (Ret fun v w' => w0.grownBy w' none ∧ ∃ (a0_0r : Option Addr) (c0_0r : Nat), ∃ (X0_0r : Nat → Prop), v = tup [(.slice a0_0r (List.length r0.1) c0_0r), (.agg #[(.int .i64 r0.2.1), (.int .i64 r0.2.2)])] ∧ Rd sE w' X0_0r a0_0r c0_0r r0.1 ∧ (∀ k, X0_0r k → k < w'.heap.size ∧ (X0 k ∨ w0.heap.size ≤ k))) := by
 have hB0 : Below w0.heap.size w0 w0 := Below.refl _ _
 unfold textstr_Words at h0
 refine calls_run Tryd.func16 rfl Tryd.ntmps16 (by kernel_rfl) ?_
 refine gv_sub [0] (σ' := [(0, (.string s_0))]) (by kernel_rfl) ?_
 refine gv_seq <| gv_region <| gv_pureN 1 [2] [] (by kernel_rfl) ?_
 refine gv_new0 (fun b => .pointer (some ⟨b, 0, none⟩)) #[(.int .i64 0), (.int .i64 0)] 24 (by kernel_rfl) (by kernel_rfl) ?_
 intro b1 w2 hg3 hb4 hbe5 hz6
 refine gv_nil <| gv_seq <| gv_seq <| gv_region <| gv_pureN 1 [5] [(5, (.string s_0))] (by kernel_rfl) ?_
 refine gv_new0 (fun b => .slice (some ⟨b, 0, none⟩) 1 1) #[(.string s_0)] 9 (by kernel_rfl) (by kernel_rfl) ?_
 intro b7 w8 hg9 hb10 hbe11 hz12
 have ho13 : Gv.Own sE 9 w8 (fun _ => False) (some ⟨b7, 0, none⟩) 1 ([s_0] : List ByteArray) := Box.ownE hb10 ⟨[(.string s_0)], [], rfl, rfl, rfl⟩ (show 1 ≤ maxLen by decide) (fun h => h)
 have hB18 := bg hB0 hg3 nb
 have hl14 : ∀ g, blk (some ⟨b7, 0, none⟩) = some g → w0.heap.size ≤ g := loo hbe11 hB18.size
 refine bindE h0 ?_; clear h0; intro r19 hr20 h0
 have hB21 := bg hB18 hg9 nb
 refine gv_call0 (by kernel_rfl) rfl (by kernel_rfl) enters58 (textstr_check_ok fuel (some ⟨b7, 0, none⟩) 1 ([s_0] : List ByteArray) w8 (fun k => (fun k => blk (some ⟨b7, 0, none⟩) = some k) k ∨ X0 k ∨ X0 k) (fun k hk => (hk).elim (fun h => (fun k (hk : blk (some ⟨b7, 0, none⟩) = some k) => ho13.lt k hk) k h) (fun h => (h).elim (fun h => (fun k (hk : X0 k) => ltl (hX0 k hk) hB21.size) k h) (fun h => (fun k (hk : X0 k) => ltl (hX0 k hk) hB21.size) k h))) ((ho13.rd (Y := fun k => blk (some ⟨b7, 0, none⟩) = some k) (fun _ h => h.elim) (fun g e => e)).wide (fun k hk => (.inl hk))) ((hG1.below hB21 hX0).wide (fun k hk => (.inr (.inl hk)))) ((hG2.below hB21 hX0).wide (fun k hk => (.inr (.inr hk)))) r19 hr20) ?_
 rintro v24 w22 ⟨hg23, rfl⟩
 refine gv_new0 (fun b => .pointer (some ⟨b, 0, none⟩)) #[(.int .i64 0), (.int .i64 0)] 24 (by kernel_rfl) (by kernel_rfl) ?_
 intro b25 w26 hg27 hb28 hbe29 hz30
 refine gv_store0 24 0 (.agg #[(.int .i64 r19.1), (.int .i64 r19.2)]) #[(.int .i64 r19.1), (.int .i64 r19.2)] hb28 (by kernel_rfl) (by kernel_rfl) (by kernel_rfl) ?_
 intro w31 hg32 hb33 hz34
 refine gv_nil <| gv_seq <| gv_region <| gv_pureN 1 [8] [(8, (bp b25))] (by kernel_rfl) ?_
 refine gv_load (t := 3) (A := ⟨b25, 0, none⟩) (.int .i64 r19.1) [] (fun e => by cases e) rfl rfl rfl (by kernel_rfl) (by kernel_rfl) (by kernel_rfl) (inw0 (hb33.cell 0 rfl)) rfl ?_
 refine gv_pureN 1 [10] [(10, (.bool (r19.1 != 0)))] (by kernel_rfl) ?_
 refine gv_nil <| gv_cond (b := (r19.1 != 0)) (by kernel_rfl) (fun hc35 => ?_) (fun hc35 => ?_)
 ·replace h0 := ite_t hc35 h0
  refine gv_seq <| gv_drawA (by kernel_rfl) ?_
  intro w36 hg37
  refine gv_pre [1] (bA 3 [1]) 2 (by kernel_rfl) (by kernel_rfl) ?_
  refine gv_pureN 1 [2] [(2, (.slice none (List.length ([] : List ByteArray)) 0))] (by kernel_rfl) ?_
  refine gv_nil <| gv_goA ?_
  refine gv_stage (Cls w36 []) [0, 1] [(0, some true)] (bA 3 [0, 1]) 1 (by kernel_rfl) (by kernel_rfl) (Cls.refl _ _) ?_
  have hC38 := Cls.refl w36 []
  have hk39 := hb33.grown hg37 nb
  refine gv_loadBox (t := 24) (b := b25) (t' := 24) (fr := (0, 0)) #[(.int .i64 r19.1), (.int .i64 r19.2)] [] (fun e => by cases e) rfl rfl rfl (by kernel_rfl) (by kernel_rfl) (by kernel_rfl) (by kernel_rfl) (inw1 fun w' hC' => (hC'.box hk39 nm_nil)) rfl ?_
  refine gv_nil <| gv_goA ?_
  refine gv_stage (fun _ => True) [0, 1, 2] [(2, some false)] (bA 3 [0, 1, 2]) 0 (by kernel_rfl) (by kernel_rfl) trivial ?_
  have hg44 := (grown_trans (grown_trans hg9 hg23) hg27)
  have hg45 := (grown_trans hg9 hg23)
  have hk46 := hb4.grown hg45 nb
  have lt47 := ltl ((ltb hk46) _ rfl) ((lowb hbe29) _ rfl)
  have hk48 := ((hb4.grown hg44 nb).grown hg32 (rowne (ng lt47))).grown hg37 nb
  refine gv_store (t := 24) (b := b1) (off := 0) (v := (.agg #[(.int .i64 r19.1), (.int .i64 r19.2)])) (t' := 24) (cs := #[(.int .i64 0), (.int .i64 0)]) #[(.int .i64 r19.1), (.int .i64 r19.2)] (by decide) rfl rfl (by kernel_rfl) (by kernel_rfl) (by kernel_rfl) (by intro u hu; simp [Value.cells] at hu; rcases hu with rfl | rfl <;> rfl) (show 0 + 2 ≤ 2 by decide) (by rfl) hk48 ?_
  intro w40 hg41 hb42 hz43
  refine ⟨(fun _ => trivial), ?_⟩
  refine gv_nil <| gv_goA ?_
  refine gv_stageE (by kernel_rfl) ?_
  refine gv_cret ?_
  have e := sj h0; subst e
  refine gv_ret (gv_done [(.slice none (List.length ([] : List ByteArray)) 0), (.agg #[(.int .i64 r19.1), (.int .i64 r19.2)])] rfl ⟨(by kernel_rfl), ⟨⟨b1, 0, none⟩, (by kernel_rfl), run_loadVar_row w40 b1 _ 24 _ _ _ hb42 Tryd.underlying24 rfl (by kernel_rfl)⟩, trivial⟩ ?_)
  have hg49 := (grown_trans hg23 hg27)
  have hB50 := bg hB21 hg49 nb
  have hB51 := bg hB21 hg23 nb
  have hlo52 : w0.heap.size ≤ b25 := lob hbe29 hB51.size
  have hB53 := bg hB50 hg32 (rowlo hlo52)
  have hB54 := bg hB53 hg37 nb
  have hlo55 : w0.heap.size ≤ b1 := lob hbe5 hB0.size
  have hB56 := bg hB54 hg41 (rowlo hlo55)
  exact ⟨grown_of_below hB56, none, 0, (fun _ => False), rfl, (Rd.nil sE w40 (fun _ => False) none 0), (fun k hk => ⟨(fun _ h => h.elim) k hk, (fun _ h => h.elim) k hk⟩)⟩
 ·replace h0 := ite_f hc35 h0
  refine gv_skip <| gv_seq <| gv_region <| gv_pureN 1 [12] [(12, (.string s_0))] (by kernel_rfl) ?_
  refine bindE h0 ?_; clear h0; intro r57 hr58 h0
  refine gv_call0 (by kernel_rfl) rfl (by kernel_rfl) enters59 (strings_FieldsFunc_blank_ok fuel s_0 w31  r57 hr58) ?_
  rintro v61 w59 ⟨hg60, a62, c63, rfl, ho64, hl65⟩
  have hg67 := (grown_trans hg23 hg27)
  have hB68 := bg hB21 hg67 nb
  have hB69 := bg hB21 hg23 nb
  have hlo70 : w0.heap.size ≤ b25 := lob hbe29 hB69.size
  have hB71 := bg hB68 hg32 (rowlo hlo70)
  have hl66 : ∀ g, blk a62 = some g → w0.heap.size ≤ g := fun g e => Nat.le_trans hB71.size (hl65 g e)
  clear hlo70 hB69 hB68 hg67 hr58 hc35 hz34 hb33 hz30 hb28 hB21 hr20 hl14 hB18 ho13 hz12 hbe11 hb10 hz6 hg3
  refine bindE h0 ?_; clear h0; intro r72 hr73 h0
  refine gv_call0 (by kernel_rfl) rfl (by kernel_rfl) enters57 (textstr_pieces_ok fuel a62 c63 r57 w59 (fun k => (fun k => blk a62 = some k) k) (fun k hk => (fun k (hk : blk a62 = some k) => ho64.lt k hk) k hk) ((ho64.rd (Y := fun k => blk a62 = some k) (fun _ h => h.elim) (fun g e => e)).wide (fun k hk => hk)) r72 hr73) ?_
  rintro v76 w74 ⟨hg75, a77, c78, X80, rfl, ho79, hx81⟩
  have hx82 : ∀ k, X80 k → k < w74.heap.size := fun k hk => (hx81 k hk).1
  have hB84 := bg hB71 hg60 nb
  have hx83 : ∀ k, X80 k → X0 k ∨ w0.heap.size ≤ k := fun k hk => (hx81 k hk).2.elim (fun h => (fun k (hk : blk a62 = some k) => Or.inr (hl66 k hk)) k h) (fun h => .inr (Nat.le_trans hB84.size h))
  refine gv_pureN 3 [2, 15, 16] [(2, (.slice a77 (List.length r72.1) c78)), (16, (.agg #[(.int .i64 r72.2.1), (.int .i64 r72.2.2)]))] (by kernel_rfl) ?_
  refine gv_sub [2, 3, 16] (σ' := [(2, (.slice a77 (List.length r72.1) c78)), (3, (bp b1)), (16, (.agg #[(.int .i64 r72.2.1), (.int .i64 r72.2.2)]))]) (by kernel_rfl) ?_
  have hg89 := (grown_trans (grown_trans hg9 hg23) hg27)
  have hg90 := (grown_trans hg9 hg23)
  have hk91 := hb4.grown hg90 nb
  have lt92 := ltl ((ltb hk91) _ rfl) ((lowb hbe29) _ rfl)
  have hg93 := (grown_trans hg60 hg75)
  have hk94 := ((hb4.grown hg89 nb).grown hg32 (rowne (ng lt92))).grown hg93 nb
  refine gv_store0 24 0 (.agg #[(.int .i64 r72.2.1), (.int .i64 r72.2.2)]) #[(.int .i64 r72.2.1), (.int .i64 r72.2.2)] hk94 (by kernel_rfl) (by kernel_rfl) (by kernel_rfl) ?_
  intro w85 hg86 hb87 hz88
  refine gv_nil <| gv_cret ?_
  have e := sj h0; subst e
  refine gv_ret (gv_done [(.slice a77 (List.length r72.1) c78), (.agg #[(.int .i64 r72.2.1), (.int .i64 r72.2.2)])] rfl ⟨(by kernel_rfl), ⟨⟨b1, 0, none⟩, (by kernel_rfl), run_loadVar_row w85 b1 _ 24 _ _ _ hb87 Tryd.underlying24 rfl (by kernel_rfl)⟩, trivial⟩ ?_)
  have hB95 := bg hB84 hg75 nb
  have hlo96 : w0.heap.size ≤ b1 := lob hbe5 hB0.size
  have hB97 := bg hB95 hg86 (rowlo hlo96)
  have hk98 := (hk91.grown hg27 nb).grown hg32 (rowne (ng lt92))
  have ap99 : ¬ (fun k => blk a62 = some k) b1 := fun hx => nl ((show ∀ k, blk a62 = some k → w31.heap.size ≤ k from hl65) _ hx) ((ltb hk98) _ rfl)
  have hk100 := hk98.grown hg60 nb
  have ap101 : ¬ X80 b1 := fun h => ((hx81 _ h).2.elim (fun h => (ap99)  h) (fun h => nl h (hk100.lt)))
  have hk102 := ho79.grown hg86 hx82 (rowne ap101)
  have hx103 := ltx hx82 hg86.size
  exact ⟨grown_of_below hB97, a77, c78, X80, rfl, hk102, (fun k hk => ⟨hx103 k hk, hx83 k hk⟩)⟩

theorem textstr_Wrap_ok (fuel : Nat) (s_0 : ByteArray) (width_1 : Int) (w0 : World) (X0 : Nat → Prop) (hX0 : ∀ k, X0 k → k < w0.heap.size) (hG1 : Rd bE w0 X0 (some ⟨1, 0, none⟩) 256 utf8First) (hG2 : Rd (prE (iE .u8) (iE .u8)) w0 X0 (some ⟨2, 0, none⟩) 16 utf8Acc) (r0 : ((List ByteArray) × (Int × Int))) (h0 : textstr_Wrap fuel s_0 width_1 = some r0) :
    Calls Tryd.prog 14 ([(.string s_0), (.int .i64 width_1)] : List Value).toArray w0 (Ret fun v w' => w0.grownBy w' none ∧ ∃ (a0_0r : Option Addr) (c0_0r : Nat), ∃ (X0_0r : Nat → Prop), v = tup [(.slice a0_0r (List.length r0.1) c0_0r), (.agg #[(.int .i64 r0.2.1), (.int .i64 r0.2.2)])] ∧ Rd sE w' X0_0r a0_0r c0_0r r0.1 ∧ (∀ k, X0_0r k → k < w'.heap.size ∧ (X0 k ∨ w0.heap.size ≤ k))) := by
 have hB0 : Below w0.heap.size w0 w0 := Below.refl _ _
 unfold textstr_Wrap at h0
 refine calls_run Tryd.func14 rfl Tryd.ntmps14 (by kernel_rfl) ?_
 refine gv_sub [0, 1] (σ' := [(0, (.string s_0)), (1, (.int .i64 width_1))]) (by kernel_rfl) ?_
 refine gv_seq <| gv_region <| gv_pureN 1 [4] [] (by kernel_rfl) ?_
 refine gv_new0 (fun b => .pointer (some ⟨b, 0, none⟩)) #[(.int .i64 0), (.int .i64 0)] 24 (by kernel_rfl) (by kernel_rfl) ?_
 intro b1 w2 hg3 hb4 hbe5 hz6
 refine gv_nil <| gv_seq <| gv_seq <| gv_region <| gv_cut_ops (J := fun a w7 => w2 = w7 ∧ a.defers = [] ∧ a.tmps.size = 84 ∧ Ok [(0, (.string s_0)), (1, (.int .i64 width_1)), (5, (bp b1)), (18, (.bool ((decide (width_1 < 1)) || (decide (width_1 > 4000)))))] a.tmps) ?_ ?_
 ·skip
  refine gv_pureN 3 [13, 14, 15] [(15, (.bool (decide (width_1 < 1))))] (by kernel_rfl) ?_
  refine gv_split (s := 15) (g := (decide (width_1 < 1))) (by kernel_rfl) (fun hc8 => ?_) (fun hc8 => ?_)
  ·skip
   refine gv_pureN 3 [16, 17, 18] [(18, (.bool true))] (by kernel_rfl) ?_
   refine gv_nil <| gv_sub [0, 1, 5, 18] (σ' := [(0, (.string s_0)), (1, (.int .i64 width_1)), (5, (bp b1)), (18, (.bool true))]) (by kernel_rfl) ?_
   refine gv_goal fun a hd hs hok => ⟨rfl, hd, hs, ?_⟩
   obtain ⟨q0, q1, q5, q18, _⟩ := hok
   exact ⟨q0, q1, q5, (by rw [hc8]; exact q18), trivial⟩
  ·skip
   refine gv_pureN 3 [16, 17, 18] [(18, (.bool (decide (width_1 > 4000))))] (by kernel_rfl) ?_
   refine gv_nil <| gv_sub [0, 1, 5, 18] (σ' := [(0, (.string s_0)), (1, (.int .i64 width_1)), (5, (bp b1)), (18, (.bool (decide (width_1 > 4000))))]) (by kernel_rfl) ?_
   refine gv_goal fun a hd hs hok => ⟨rfl, hd, hs, ?_⟩
   obtain ⟨q0, q1, q5, q18, _⟩ := hok
   exact ⟨q0, q1, q5, (by rw [hc8]; exact q18), trivial⟩
 ·rintro a w7 ⟨e, hd, hs, hok⟩; subst e
  refine gv_in ?_ hd hs hok
  clear hd hs hok
  refine gv_cond (b := ((decide (width_1 < 1)) || (decide (width_1 > 4000)))) (by kernel_rfl) (fun hc9 => ?_) (fun hc9 => ?_)
  ·replace h0 := ite_t hc9 h0
   refine gv_seq <| gv_region <| bindE h0 ?_; clear h0; intro r10 hr11 h0
   refine gv_call0 (by kernel_rfl) rfl (by kernel_rfl) enters56 (textstr_at_ok fuel 4 (-2) w2  r10 hr11) ?_
   rintro v14 w12 ⟨hg13, rfl⟩
   refine gv_pureN 1 [4] [(4, (.slice none (List.length ([] : List ByteArray)) 0))] (by kernel_rfl) ?_
   have hk19 := hb4.grown hg13 nb
   refine gv_store0 24 0 (.agg #[(.int .i64 r10.1), (.int .i64 r10.2)]) #[(.int .i64 r10.1), (.int .i64 r10.2)] hk19 (by kernel_rfl) (by kernel_rfl) (by kernel_rfl) ?_
   intro w15 hg16 hb17 hz18
   refine gv_nil <| gv_cret ?_
   have e := sj h0; subst e
   refine gv_ret (gv_done [(.slice none (List.length ([] : List ByteArray)) 0), (.agg #[(.int .i64 r10.1), (.int .i64 r10.2)])] rfl ⟨(by kernel_rfl), ⟨⟨b1, 0, none⟩, (by kernel_rfl), run_loadVar_row w15 b1 _ 24 _ _ _ hb17 Tryd.underlying24 rfl (by kernel_rfl)⟩, trivial⟩ ?_)
   have hg20 := (grown_trans hg3 hg13)
   have hB21 := bg hB0 hg20 nb
   have hlo22 : w0.heap.size ≤ b1 := lob hbe5 hB0.size
   have hB23 := bg hB21 hg16 (rowlo hlo22)
   exact ⟨grown_of_below hB23, none, 0, (fun _ => False), rfl, (Rd.nil sE w15 (fun _ => False) none 0), (fun k hk => ⟨(fun _ h => h.elim) k hk, (fun _ h => h.elim) k hk⟩)⟩
  ·replace h0 := ite_f hc9 h0
   refine gv_skip <| gv_seq <| gv_region <| gv_pureN 1 [21] [(21, (.string s_0))] (by kernel_rfl) ?_
   refine bindE h0 ?_; clear h0; intro r24 hr25 h0
   have hB26 := bg hB0 hg3 nb
   refine gv_call0 (by kernel_rfl) rfl (by kernel_rfl) enters16 (textstr_Words_ok fuel s_0 w2 (fun k => X0 k ∨ X0 k) (fun k hk => (hk).elim (fun h => (fun k (hk : X0 k) => ltl (hX0 k hk) hB26.size) k h) (fun h => (fun k (hk : X0 k) => ltl (hX0 k hk) hB26.size) k h)) ((hG1.below hB26 hX0).wide (fun k hk => (.inl hk))) ((hG2.below hB26 hX0).wide (fun k hk => (.inr hk))) r24 hr25) ?_
   rintro v29 w27 ⟨hg28, a30, c31, X33, rfl, ho32, hx34⟩
   have hx35 : ∀ k, X33 k → k < w27.heap.size := fun k hk => (hx34 k hk).1
   have hx36 : ∀ k, X33 k → X0 k ∨ w0.heap.size ≤ k := fun k hk => (hx34 k hk).2.elim (fun h => (h).elim (fun h => (fun k (hk : X0 k) => Or.inl hk) k h) (fun h => (fun k (hk : X0 k) => Or.inl hk) k h)) (fun h => .inr (Nat.le_trans hB26.size h))
   refine gv_pureN 3 [20, 23, 24] [(23, (.slice a30 (List.length r24.1) c31)), (24, (.agg #[(.int .i64 r24.2.1), (.int .i64 r24.2.2)]))] (by kernel_rfl) ?_
   refine gv_new0 (fun b => .pointer (some ⟨b, 0, none⟩)) #[(.int .i64 0), (.int .i64 0)] 24 (by kernel_rfl) (by kernel_rfl) ?_
   intro b37 w38 hg39 hb40 hbe41 hz42
   refine gv_pureN 1 [6] [(6, (.slice a30 (List.length r24.1) c31))] (by kernel_rfl) ?_
   refine gv_store0 24 0 (.agg #[(.int .i64 r24.2.1), (.int .i64 r24.2.2)]) #[(.int .i64 r24.2.1), (.int .i64 r24.2.2)] hb40 (by kernel_rfl) (by kernel_rfl) (by kernel_rfl) ?_
   intro w43 hg44 hb45 hz46
   refine gv_nil <| gv_seq <| gv_seq <| gv_region <| gv_pureN 1 [25] [(25, (bp b37))] (by kernel_rfl) ?_
   refine gv_load (t := 3) (A := ⟨b37, 0, none⟩) (.int .i64 r24.2.1) [] (fun e => by cases e) rfl rfl rfl (by kernel_rfl) (by kernel_rfl) (by kernel_rfl) (inw0 (hb45.cell 0 rfl)) rfl ?_
   refine gv_pureN 1 [27] [(27, (.bool (r24.2.1 != 0)))] (by kernel_rfl) ?_
   refine gv_nil <| gv_cond (b := (r24.2.1 != 0)) (by kernel_rfl) (fun hc47 => ?_) (fun hc47 => ?_)
   ·replace h0 := ite_t hc47 h0
    refine gv_seq <| gv_drawA (by kernel_rfl) ?_
    intro w48 hg49
    refine gv_pre [1] (bA 3 [1]) 2 (by kernel_rfl) (by kernel_rfl) ?_
    refine gv_pureN 1 [4] [(4, (.slice none (List.length ([] : List ByteArray)) 0))] (by kernel_rfl) ?_
    refine gv_nil <| gv_goA ?_
    refine gv_stage (Cls w48 []) [0, 1] [(0, some true)] (bA 3 [0, 1]) 1 (by kernel_rfl) (by kernel_rfl) (Cls.refl _ _) ?_
    have hC50 := Cls.refl w48 []
    have hk51 := hb45.grown hg49 nb
    refine gv_loadBox (t := 24) (b := b37) (t' := 24) (fr := (0, 0)) #[(.int .i64 r24.2.1), (.int .i64 r24.2.2)] [] (fun e => by cases e) rfl rfl rfl (by kernel_rfl) (by kernel_rfl) (by kernel_rfl) (by kernel_rfl) (inw1 fun w' hC' => (hC'.box hk51 nm_nil)) rfl ?_
    refine gv_nil <| gv_goA ?_
    refine gv_stage (fun _ => True) [0, 1, 2] [(2, some false)] (bA 3 [0, 1, 2]) 0 (by kernel_rfl) (by kernel_rfl) trivial ?_
    have hg56 := (grown_trans hg28 hg39)
    have hk57 := hb4.grown hg28 nb
    have lt58 := ltl ((ltb hk57) _ rfl) ((lowb hbe41) _ rfl)
    have hk59 := ((hb4.grown hg56 nb).grown hg44 (rowne (ng lt58))).grown hg49 nb
    refine gv_store (t := 24) (b := b1) (off := 0) (v := (.agg #[(.int .i64 r24.2.1), (.int .i64 r24.2.2)])) (t' := 24) (cs := #[(.int .i64 0), (.int .i64 0)]) #[(.int .i64 r24.2.1), (.int .i64 r24.2.2)] (by decide) rfl rfl (by kernel_rfl) (by kernel_rfl) (by kernel_rfl) (by intro u hu; simp [Value.cells] at hu; rcases hu with rfl | rfl <;> rfl) (show 0 + 2 ≤ 2 by decide) (by rfl) hk59 ?_
    intro w52 hg53 hb54 hz55
    refine ⟨(fun _ => trivial), ?_⟩
    clear hz55 lt58 hk57 hg56 hC50 hc47 hz46 hb45 hz42 hb40 hx34 hr25 hc9 hz6 hb4 hg3
    refine gv_nil <| gv_goA ?_
    refine gv_stageE (by kernel_rfl) ?_
    refine gv_cret ?_
    have e := sj h0; subst e
    refine gv_ret (gv_done [(.slice none (List.length ([] : List ByteArray)) 0), (.agg #[(.int .i64 r24.2.1), (.int .i64 r24.2.2)])] rfl ⟨(by kernel_rfl), ⟨⟨b1, 0, none⟩, (by kernel_rfl), run_loadVar_row w52 b1 _ 24 _ _ _ hb54 Tryd.underlying24 rfl (by kernel_rfl)⟩, trivial⟩ ?_)
    have hg60 := (grown_trans hg28 hg39)
    have hB61 := bg hB26 hg60 nb
    have hB62 := bg hB26 hg28 nb
    have hlo63 : w0.heap.size ≤ b37 := lob hbe41 hB62.size
    have hB64 := bg hB61 hg44 (rowlo hlo63)
    have hB65 := bg hB64 hg49 nb
    have hlo66 : w0.heap.size ≤ b1 := lob hbe5 hB0.size
    have hB67 := bg hB65 hg53 (rowlo hlo66)
    exact ⟨grown_of_below hB67, none, 0, (fun _ => False), rfl, (Rd.nil sE w52 (fun _ => False) none 0), (fun k hk => ⟨(fun _ h => h.elim) k hk, (fun _ h => h.elim) k hk⟩)⟩
   ·replace h0 := ite_f hc47 h0
    refine gv_skip <| gv_seq <| gv_region <| gv_pureN 1 [8] [(8, (.slice none (List.length ([] : List ByteArray)) 0))] (by kernel_rfl) ?_
    refine gv_nil <| gv_seq <| gv_region <| gv_pureN 1 [9] [(9, (.int .i64 0))] (by kernel_rfl) ?_
    refine gv_nil <| gv_seq <| gv_seq <| gv_region <| gv_pureN 3 [29, 30, 31] [(29, (.slice a30 (List.length r24.1) c31)), (30, (.int .i64 ((List.length r24.1 : Nat) : Int))), (31, (.int .i64 0))] (by kernel_rfl) ?_
    refine gv_sub [1, 5, 8, 9, 29, 30, 31] (σ' := [(1, (.int .i64 width_1)), (5, (bp b1)), (8, (.slice none (List.length ([] : List ByteArray)) 0)), (9, (.int .i64 0)), (29, (.slice a30 (List.length r24.1) c31)), (30, (.int .i64 ((List.length r24.1 : Nat) : Int))), (31, (.int .i64 0))]) (by kernel_rfl) ?_
    refine gv_nil <| bindE h0 ?_; clear h0; intro j68 h1 h0
    refine gv_cut_code (J := fun a w69 => ∃ (a8_0j : Option Addr) (c8_0j : Nat), Below w0.heap.size w0 w69 ∧ w43.heap.size ≤ w69.heap.size ∧ Gv.Own sE 9 w69 (fun _ => False) a8_0j c8_0j j68 ∧ (∀ g, blk a8_0j = some g → w0.heap.size ≤ g) ∧ (∀ g, blk a8_0j = some g → ¬ (· = b1) g) ∧ ¬ (fun k => blk a8_0j = some k) b1 ∧ Box w69 b1 24 #[(.int .i64 0), (.int .i64 0)] ∧ a.defers = [] ∧ a.tmps.size = 84 ∧ Ok [(5, (bp b1)), (8, (.slice a8_0j (List.length j68) c8_0j))] a.tmps) ?_ ?_
    ·skip
     refine gv_block <| gv_loop (A := fun (s70 : ((List ByteArray) × Int × Int)) a w71 => ∃ (a8_0j : Option Addr) (c8_0j : Nat), Below w0.heap.size w0 w71 ∧ w43.heap.size ≤ w71.heap.size ∧ Gv.Own sE 9 w71 (fun _ => False) a8_0j c8_0j s70.1 ∧ (∀ g, blk a8_0j = some g → w0.heap.size ≤ g) ∧ (∀ g, blk a8_0j = some g → ¬ (· = b1) g) ∧ (∀ g, blk a8_0j = some g → ¬ X33 g) ∧ ¬ (fun k => blk a8_0j = some k) b1 ∧ Box w71 b1 24 #[(.int .i64 0), (.int .i64 0)] ∧ Rd sE w71 X33 a30 c31 r24.1 ∧ a.defers = [] ∧ a.tmps.size = 84 ∧ Ok [(1, (.int .i64 width_1)), (5, (bp b1)), (8, (.slice a8_0j (List.length s70.1) c8_0j)), (9, (.int .i64 s70.2.1)), (29, (.slice a30 (List.length r24.1) c31)), (30, (.int .i64 ((List.length r24.1 : Nat) : Int))), (31, (.int .i64 s70.2.2))] a.tmps) h1 ?_ ?_
     ·intro a hd hs hok
      have hg72 := (grown_trans hg28 hg39)
      have hB73 := bg hB26 hg72 nb
      have hB74 := bg hB26 hg28 nb
      have hlo75 : w0.heap.size ≤ b37 := lob hbe41 hB74.size
      have hB76 := bg hB73 hg44 (rowlo hlo75)
      have hk77 := hb4.grown hg28 nb
      have lt78 := ltl ((ltb hk77) _ rfl) ((lowb hbe41) _ rfl)
      have hk79 := (hb4.grown hg72 nb).grown hg44 (rowne (ng lt78))
      have ap80 : ¬ X33 b37 := fun hx => nl ((lowb hbe41) _ rfl) (hx35 _ hx)
      have hx81 := ltx hx35 hg39.size
      have hk82 := (ho32.grown hg39 hx35 nb).grown hg44 hx81 (rowne ap80)
      exact ⟨none, 0, hB76, (Nat.le_refl _), (Gv.Own.nil sE 9 w43 (fun _ => False)), (fun _ h => by cases h), (fun _ h => by cases h), (fun _ h => by cases h), (fun h => by cases h), hk79, hk82, hd, hs, ok_pick [1, 5, 8, 9, 29, 30, 31] hok (by kernel_rfl)⟩
     ·rintro s70 r2 h2 hR2 a w71 ⟨a85, c86, hB83, hz84, ho87, hl88, ap89, ap90, ap91, hb92, hk93, hd, hs, hok⟩
      refine gv_in ?_ hd hs hok
      clear hd hs hok
      clear hc47 hz46 hb45 hz42 hbe41 hb40 ho32 hg28 hB26 hr25 hc9 hz6 hg3
      refine gv_seq <| gv_region <| gv_pureN 1 [32] [(32, (.bool (decide (s70.2.2 < ((List.length r24.1 : Nat) : Int)))))] (by kernel_rfl) ?_
      refine gv_nil <| gv_seq <| gv_cond (b := (decide (s70.2.2 < ((List.length r24.1 : Nat) : Int)))) (by kernel_rfl) (fun hc94 => ?_) (fun hc94 => ?_)
      ·replace h2 := ite_t hc94 h2
       refine gv_skip <| gv_seq <| bindE h2 ?_; clear h2; intro j95 h3 h2
       refine gv_cut_code (J := fun a w96 => ∃ (a8_0j : Option Addr) (c8_0j : Nat), Below w0.heap.size w0 w96 ∧ w71.heap.size ≤ w96.heap.size ∧ Gv.Own sE 9 w96 (fun _ => False) a8_0j c8_0j j95.1 ∧ (∀ g, blk a8_0j = some g → w0.heap.size ≤ g) ∧ (∀ g, blk a8_0j = some g → ¬ (· = b1) g) ∧ (∀ g, blk a8_0j = some g → ¬ X33 g) ∧ ¬ (fun k => blk a8_0j = some k) b1 ∧ Box w96 b1 24 #[(.int .i64 0), (.int .i64 0)] ∧ Rd sE w96 X33 a30 c31 r24.1 ∧ a.defers = [] ∧ a.tmps.size = 84 ∧ Ok [(1, (.int .i64 width_1)), (5, (bp b1)), (8, (.slice a8_0j (List.length j95.1) c8_0j)), (9, (.int .i64 j95.2)), (29, (.slice a30 (List.length r24.1) c31)), (30, (.int .i64 ((List.length r24.1 : Nat) : Int))), (31, (.int .i64 s70.2.2))] a.tmps) ?_ ?_
       ·skip
        refine gv_block <| gv_seq <| gv_region <| bindE h3 ?_; clear h3; intro x97 hx98 h3
        refine gv_idxaddr (t := 22) (e := 9) (a := a30) (len := List.length r24.1) (cap := c31) (kk := .i64) (i := s70.2.2) (sz := 1) [] (fun e => by cases e) rfl rfl rfl (by kernel_rfl) (by kernel_rfl) Tryd.underlying22 (by kernel_rfl) (hk93.has hx98) (idx_spec hx98).1 (idx_spec hx98).2.1 rfl ?_
        refine gv_load (t := 9) (A := (elemAddr a30 ((s70.2.2 : Int).toNat * 1))) (.string x97) [] (fun e => by cases e) rfl rfl rfl (by kernel_rfl) (by kernel_rfl) (by kernel_rfl) (inw0 (hk93.cell hx98)) rfl ?_
        refine gv_pureN 1 [11] [(11, (.string x97))] (by kernel_rfl) ?_
        refine gv_nil <| gv_seq <| gv_region <| gv_pureN 1 [35] [(35, (.string x97))] (by kernel_rfl) ?_
        refine bindE h3 ?_; clear h3; intro l106 hx107 h3
        refine gv_s2r (src := 9) (dst := 72) (e := 21) (s := x97) (by decide) rfl rfl (by kernel_rfl) (by kernel_rfl) Tryd.underlying9 Tryd.underlying72 Tryd.underlying21 hx107 ?_
        rintro a99 c100 w101 hg102 hr103 hz105
        refine ⟨(fun e => by cases e), ?_⟩
        have hx108 : ∀ k, k = w71.heap.size → k < w101.heap.size := lts hz105
        have hx109 : ∀ k, k = w71.heap.size → X0 k ∨ w0.heap.size ≤ k := fun k hk => .inr (lowe hB83.size k hk)
        refine gv_pureN 1 [12] [(12, (.slice a99 (List.length l106) c100))] (by kernel_rfl) ?_
        refine gv_nil <| gv_seq <| gv_seq <| gv_region <| gv_pureN 4 [37, 38, 39, 40] [(40, (.bool (decide (((List.length l106 : Nat) : Int) < s70.2.1))))] (by kernel_rfl) ?_
        refine gv_nil <| gv_cond (b := (decide (((List.length l106 : Nat) : Int) < s70.2.1))) (by kernel_rfl) (fun hc110 => ?_) (fun hc110 => ?_)
        ·replace h3 := ite_t hc110 h3
         refine gv_seq <| gv_region <| gv_pureN 4 [41, 42, 43, 44] [(41, (.slice a85 (List.length s70.1) c86)), (44, (.int .i64 (IntKind.i64.wrap (((List.length s70.1 : Nat) : Int) - 1))))] (by kernel_rfl) ?_
         refine bindE h3 ?_; clear h3; intro x111 hx112 h3
         have hk113 := ho87.grown hg102 (fun _ h => h.elim) nb
         refine gv_idxaddr (t := 22) (e := 9) (a := a85) (len := List.length s70.1) (cap := c86) (kk := .i64) (i := (IntKind.i64.wrap (((List.length s70.1 : Nat) : Int) - 1))) (sz := 1) [] (fun e => by cases e) rfl rfl rfl (by kernel_rfl) (by kernel_rfl) Tryd.underlying22 (by kernel_rfl) ((hk113.rd (Y := fun k => blk a85 = some k) (fun _ h => h.elim) (fun g e => e)).has hx112) (idx_spec hx112).1 (idx_spec hx112).2.1 rfl ?_
         refine gv_load (t := 9) (A := (elemAddr a85 (((IntKind.i64.wrap (((List.length s70.1 : Nat) : Int) - 1)) : Int).toNat * 1))) (.string x111) [] (fun e => by cases e) rfl rfl rfl (by kernel_rfl) (by kernel_rfl) (by kernel_rfl) (inw0 ((hk113.rd (Y := fun k => blk a85 = some k) (fun _ h => h.elim) (fun g e => e)).cell hx112)) rfl ?_
         refine gv_pureN 1 [47] [(47, (.string x97))] (by kernel_rfl) ?_
         refine bindE h3 ?_; clear h3; intro x114 hx115 h3
         refine gv_cat (t := 9) (s := (strOf [32])) (u := x97) x114 [] (fun e => by cases e) rfl rfl rfl (by kernel_rfl) (by kernel_rfl) hx115 rfl ?_
         refine bindE h3 ?_; clear h3; intro x116 hx117 h3
         refine gv_cat (t := 9) (s := x111) (u := x114) x116 [] (fun e => by cases e) rfl rfl rfl (by kernel_rfl) (by kernel_rfl) hx117 rfl ?_
         refine gv_sub [1, 5, 8, 9, 12, 29, 30, 31, 41, 44, 49] (σ' := [(1, (.int .i64 width_1)), (5, (bp b1)), (8, (.slice a85 (List.length s70.1) c86)), (9, (.int .i64 s70.2.1)), (12, (.slice a99 (List.length l106) c100)), (29, (.slice a30 (List.length r24.1) c31)), (30, (.int .i64 ((List.length r24.1 : Nat) : Int))), (31, (.int .i64 s70.2.2)), (41, (.slice a85 (List.length s70.1) c86)), (44, (.int .i64 (IntKind.i64.wrap (((List.length s70.1 : Nat) : Int) - 1)))), (49, (.string x116))]) (by kernel_rfl) ?_
         refine bindE h3 ?_; clear h3; intro x118 hx119 h3
         refine gv_idxaddr (t := 22) (e := 9) (a := a85) (len := List.length s70.1) (cap := c86) (kk := .i64) (i := (IntKind.i64.wrap (((List.length s70.1 : Nat) : Int) - 1))) (sz := 1) [] (fun e => by cases e) rfl rfl rfl (by kernel_rfl) (by kernel_rfl) Tryd.underlying22 (by kernel_rfl) ((hk113.rd (Y := fun k => blk a85 = some k) (fun _ h => h.elim) (fun g e => e)).has hx119) (idx_spec hx119).1 (idx_spec hx119).2.1 rfl ?_
         refine bindE h3 ?_; clear h3; intro l120 hx121 h3
         refine gv_upd (f := Value.string) (hf := fun _ => rfl) (t := 9) (e := 9) (a := a85) (cap := c86) (xs := s70.1) (i := (IntKind.i64.wrap (((List.length s70.1 : Nat) : Int) - 1))) x116 l120 (by decide) rfl rfl (by kernel_rfl) rfl (by kernel_rfl) (by kernel_rfl) hk113 hx121 ?_
         intro w122 hg123 ho124 hz125
         refine ⟨(fun e => by cases e), ?_⟩
         have hln126 : List.length s70.1 = List.length l120 := by obtain ⟨_, _, e⟩ := upd_spec hx121; rw [e, List.length_set]
         refine gv_name (s := 8) (v := (.slice a85 (List.length s70.1) c86)) (v' := (.slice a85 (List.length l120) c86)) (by kernel_rfl) (by rw [hln126]) ?_
         refine gv_nil <| gv_seq <| gv_region <| gv_pureN 6 [9, 51, 52, 53, 54, 55] [(9, (.int .i64 (IntKind.i64.wrap (s70.2.1 - (IntKind.i64.wrap (((List.length l106 : Nat) : Int) + 1))))))] (by kernel_rfl) ?_
         refine bindE h3 ?_; clear h3; intro n127 hn128 h3
         refine gv_name (s := 9) (v := (.int .i64 (IntKind.i64.wrap (s70.2.1 - (IntKind.i64.wrap (((List.length l106 : Nat) : Int) + 1)))))) (v' := (.int .i64 n127)) (by kernel_rfl) (congrArg (Value.int .i64) (sj hn128)) ?_
         refine gv_nil <| gv_cexit <| gv_exit rfl ?_
         have e := sj h3; subst e
         refine gv_goal fun a hd hs hok => ?_
         have hB129 := bg hB83 hg102 nb
         have hB130 := bg hB129 hg123 hl88
         have hz131 := (nt hg102.size hg123.size)
         have hk132 := (hb92.grown hg102 nb).grown hg123 ap89
         have hx133 := ltx (ltx hx35 hg39.size) hg44.size
         have hx134 := ltx (fun k hk => ltl (hx133 k hk) hz84) hg102.size
         have hk135 := (hk93.grown hg102 (fun k hk => ltl (hx133 k hk) hz84) nb).grown hg123 hx134 ap90
         exact ⟨a85, c86, hB130, hz131, ho124, hl88, ap89, ap90, ap91, hk132, hk135, hd, hs, ok_pick [1, 5, 8, 9, 29, 30, 31] hok (by kernel_rfl)⟩
        ·replace h3 := ite_f hc110 h3
         refine gv_skip <| gv_seq <| bindE h3 ?_; clear h3; intro j136 h4 h3
         refine gv_cut_code (J := fun a w137 => ∃ (a8_0j : Option Addr) (c8_0j : Nat), ∃ (a12_0j : Option Addr) (c12_0j : Nat), ∃ (X12_0j : Nat → Prop), Below w0.heap.size w0 w137 ∧ w101.heap.size ≤ w137.heap.size ∧ Gv.Own sE 9 w137 (fun _ => False) a8_0j c8_0j j136.1 ∧ (∀ g, blk a8_0j = some g → w0.heap.size ≤ g) ∧ Rd (iE .i32) w137 X12_0j a12_0j c12_0j j136.2 ∧ (∀ k, X12_0j k → k < w137.heap.size) ∧ (∀ k, X12_0j k → X0 k ∨ w0.heap.size ≤ k) ∧ (∀ g, blk a8_0j = some g → ¬ X12_0j g) ∧ (∀ g, blk a8_0j = some g → ¬ (· = b1) g) ∧ (∀ g, blk a8_0j = some g → ¬ X33 g) ∧ ¬ (fun k => blk a8_0j = some k) b1 ∧ ¬ X12_0j b1 ∧ Box w137 b1 24 #[(.int .i64 0), (.int .i64 0)] ∧ Rd sE w137 X33 a30 c31 r24.1 ∧ a.defers = [] ∧ a.tmps.size = 84 ∧ Ok [(1, (.int .i64 width_1)), (5, (bp b1)), (8, (.slice a8_0j (List.length j136.1) c8_0j)), (12, (.slice a12_0j (List.length j136.2) c12_0j)), (29, (.slice a30 (List.length r24.1) c31)), (30, (.int .i64 ((List.length r24.1 : Nat) : Int))), (31, (.int .i64 s70.2.2))] a.tmps) ?_ ?_
         ·skip
          refine gv_block <| gv_loop (A := fun (s138 : ((List ByteArray) × (List Int))) a w139 => ∃ (a8_0j : Option Addr) (c8_0j : Nat), ∃ (a12_0j : Option Addr) (c12_0j : Nat), ∃ (X12_0j : Nat → Prop), Below w0.heap.size w0 w139 ∧ w101.heap.size ≤ w139.heap.size ∧ Gv.Own sE 9 w139 (fun _ => False) a8_0j c8_0j s138.1 ∧ (∀ g, blk a8_0j = some g → w0.heap.size ≤ g) ∧ Rd (iE .i32) w139 X12_0j a12_0j c12_0j s138.2 ∧ (∀ k, X12_0j k → k < w139.heap.size) ∧ (∀ k, X12_0j k → X0 k ∨ w0.heap.size ≤ k) ∧ (∀ g, blk a8_0j = some g → ¬ X12_0j g) ∧ (∀ g, blk a8_0j = some g → ¬ (· = b1) g) ∧ (∀ g, blk a8_0j = some g → ¬ X33 g) ∧ ¬ (fun k => blk a8_0j = some k) b1 ∧ ¬ X12_0j b1 ∧ Box w139 b1 24 #[(.int .i64 0), (.int .i64 0)] ∧ Rd sE w139 X33 a30 c31 r24.1 ∧ a.defers = [] ∧ a.tmps.size = 84 ∧ Ok [(1, (.int .i64 width_1)), (5, (bp b1)), (8, (.slice a8_0j (List.length s138.1) c8_0j)), (12, (.slice a12_0j (List.length s138.2) c12_0j)), (29, (.slice a30 (List.length r24.1) c31)), (30, (.int .i64 ((List.length r24.1 : Nat) : Int))), (31, (.int .i64 s70.2.2))] a.tmps) h4 ?_ ?_
          ·intro a hd hs hok
           have hB140 := bg hB83 hg102 nb
           have hk141 := ho87.grown hg102 (fun _ h => h.elim) nb
           have ap142 : ∀ g, blk a85 = some g → ¬ (· = w71.heap.size) g := fun g e hx => nl ((lowe (Nat.le_refl w71.heap.size)) _ hx) ((fun k (hk : blk a85 = some k) => ho87.lt k hk) g e)
           have ap143 : ¬ (· = w71.heap.size) b1 := fun hx => nl ((lowe (Nat.le_refl w71.heap.size)) _ hx) ((ltb hb92) _ rfl)
           have hk144 := hb92.grown hg102 nb
           have hx145 := ltx (ltx hx35 hg39.size) hg44.size
           have hk146 := hk93.grown hg102 (fun k hk => ltl (hx145 k hk) hz84) nb
           exact ⟨a85, c86, a99, c100, (· = w71.heap.size), hB140, (Nat.le_refl _), hk141, hl88, hr103, hx108, hx109, ap142, ap89, ap90, ap91, ap143, hk144, hk146, hd, hs, ok_pick [1, 5, 8, 12, 29, 30, 31] hok (by kernel_rfl)⟩
          ·rintro s138 r5 h5 hR5 a w139 ⟨a149, c150, a151, c152, X151, hB147, hz148, ho153, hl154, hr155, hx156, hx157, ap158, ap159, ap160, ap161, ap162, hb163, hk164, hd, hs, hok⟩
           refine gv_in ?_ hd hs hok
           clear hd hs hok
           clear hc110 hx109 hx108 hz105 hr103 hx107 hx98 hc94 hk93 hb92 ap91 ap90 ap89 hl88 ho87 hB83
           refine gv_seq <| gv_seq <| gv_region <| gv_pureN 4 [56, 57, 58, 59] [(59, (.bool (decide (((List.length s138.2 : Nat) : Int) > width_1))))] (by kernel_rfl) ?_
           refine gv_nil <| gv_cond (b := (decide (((List.length s138.2 : Nat) : Int) > width_1))) (by kernel_rfl) (fun hc165 => ?_) (fun hc165 => ?_)
           ·replace h5 := ite_t hc165 h5
            refine gv_skip <| gv_block <| gv_drawA (by kernel_rfl) ?_
            intro w166 hg167
            refine gv_pre [0, 1, 2, 3, 7, 8, 9] (bA 12 [0, 1, 2, 3, 7, 8, 9]) 5 (by kernel_rfl) (by kernel_rfl) ?_
            refine gv_pureN 3 [60, 61, 62] [(60, (.slice a149 (List.length s138.1) c150)), (61, (.slice a151 (List.length s138.2) c152)), (62, (.int .i64 width_1))] (by kernel_rfl) ?_
            refine bindE h5 ?_; clear h5; intro x168 hx169 h5
            have hk173 := hr155.grown hg167 hx156 nb
            refine gv_ssl2 (iE .i32) (t := 72) (e := 21) (xs := s138.2) (a := a151) (cap := c152) (lo := none) (hi := (some (.int .i64 width_1))) 0 width_1 x168 (fun e => by cases e) rfl rfl rfl (by kernel_rfl) (by kernel_rfl) Tryd.underlying72 (by kernel_rfl) (.inl ⟨rfl, rfl⟩) (.inr ⟨_, rfl⟩) hx169 hk173.1 ?_
            intro a170 c171 hsub172
            have hr174 := hsub172 _ _ hk173
            refine gv_pureN 2 [67, 68] [(67, (.slice a151 (List.length s138.2) c152)), (68, (.int .i64 width_1))] (by kernel_rfl) ?_
            refine bindE h5 ?_; clear h5; intro x175 hx176 h5
            refine gv_ssl2 (iE .i32) (t := 72) (e := 21) (xs := s138.2) (a := a151) (cap := c152) (lo := (some (.int .i64 width_1))) (hi := none) width_1 ((List.length s138.2 : Nat) : Int) x175 (fun e => by cases e) rfl rfl rfl (by kernel_rfl) (by kernel_rfl) Tryd.underlying72 (by kernel_rfl) (.inr ⟨_, rfl⟩) (.inl ⟨rfl, rfl⟩) hx176 hk173.1 ?_
            intro a177 c178 hsub179
            have hr180 := hsub179 _ _ hk173
            refine gv_nil <| gv_goA ?_
            refine gv_stage (Cls w166 []) [0, 1, 2, 3, 4, 7, 8, 9] [(4, some true)] (bA 12 [0, 1, 2, 3, 4, 7, 8, 9]) 4 (by kernel_rfl) (by kernel_rfl) (Cls.refl _ _) ?_
            have hC181 := Cls.refl w166 []
            have hx182 := ltx hx156 hg167.size
            refine gv_r2s (src := 72) (dst := 9) (e := 21) (xs := x168) (a := a170) (cap := c171) (X := X151) [] (fun e => by cases e) rfl rfl rfl (by kernel_rfl) (by kernel_rfl) Tryd.underlying72 Tryd.underlying21 Tryd.underlying9 (inw1 fun w' hC' => (hC'.rd hr174 hx182 nmx_nil)) rfl ?_
            refine gv_nil <| gv_goA ?_
            refine gv_stage (fun _ => True) [0, 1, 2, 3, 4, 5, 7, 8, 9] [(5, some false)] (bA 12 [0, 1, 2, 3, 4, 5, 7, 8, 9]) 3 (by kernel_rfl) (by kernel_rfl) trivial ?_
            refine gv_new (fun b => .slice (some ⟨b, 0, none⟩) 1 1) #[(.string (strR x168))] 9 (by decide) rfl rfl (by kernel_rfl) (by kernel_rfl) ?_
            intro b183 w184 hg185 hb186 hbe187 hz188
            refine ⟨(fun _ => trivial), ?_⟩
            have ho189 : Gv.Own sE 9 w184 (fun _ => False) (some ⟨b183, 0, none⟩) 1 ([(strR x168)] : List ByteArray) := Box.ownE hb186 ⟨[(.string (strR x168))], [], rfl, rfl, rfl⟩ (show 1 ≤ maxLen by decide) (fun h => h)
            have hB194 := bg hB147 hg167 nb
            have hl190 : ∀ g, blk (some ⟨b183, 0, none⟩) = some g → w0.heap.size ≤ g := loo hbe187 hB194.size
            refine gv_nil <| gv_goA ?_
            refine gv_stage (fun _ => True) [0, 1, 2, 3, 4, 5, 6, 7, 8, 9] [(6, some false)] (bA 12 [0, 1, 2, 3, 4, 5, 6, 7, 8, 9]) 2 (by kernel_rfl) (by kernel_rfl) trivial ?_
            refine bindE h5 ?_; clear h5; intro l195 hx196 h5
            have hg203 := (grown_trans hg167 hg185)
            have hk204 := ho153.grown hg203 (fun _ h => h.elim) nb
            refine gv_append sE (t := 22) (ty := 22) (e := 9) (a := a149) (ax := (some ⟨b183, 0, none⟩)) (cap := c150) (cx := 1) (xs := s138.1) (ys := ([(strR x168)] : List ByteArray)) l195 (X := (fun _ => False)) (Y := (fun k => blk (some ⟨b183, 0, none⟩) = some k)) (by decide) rfl rfl (by kernel_rfl) (by kernel_rfl) Tryd.underlying22 info9 hk204 (ho189.rd (Y := fun k => blk (some ⟨b183, 0, none⟩) = some k) (fun _ h => h.elim) (fun g e => e)) hx196 (.inr fun _ _ _ _ _ h => h) (fun _ h => h.elim) ?_
            intro a197 c198 w199 hg200 ho201 hk202
            refine ⟨(fun _ => trivial), ?_⟩
            have hB206 := bg hB194 hg185 nb
            have hl205 : ∀ g, blk a197 = some g → w0.heap.size ≤ g := blk_step hk202 hl154 hB206.size
            have hx208 := ltx hx182 hg185.size
            have ap207 : ∀ g, blk a197 = some g → ¬ X151 g := blk_neX hk202 ap158 hx208
            have hk210 := hb163.grown hg203 nb
            have ap209 : ∀ g, blk a197 = some g → ¬ (· = b1) g := blk_neX hk202 ap159 (ltb hk210)
            have ap211 : ¬ (fun k => blk a197 = some k) b1 := fun h => blk_rev hk202 (fun h => (ap161) h) (hk210.lt) h
            have hx213 := ltx (ltx hx35 hg39.size) hg44.size
            have hx214 := ltx (fun k hk => ltl (hx213 k hk) hz84) hg102.size
            have hx215 := ltx (fun k hk => ltl (hx214 k hk) hz148) hg203.size
            have ap212 : ∀ g, blk a197 = some g → ¬ X33 g := blk_neX hk202 ap160 hx215
            have hx217 := ltx hx182 hg185.size
            have ap216 : ∀ g, blk a197 = some g → ¬ X151 g := blk_neX hk202 ap158 hx217
            have hx219 := ltx hx182 hg185.size
            have ap218 : ∀ g, blk a197 = some g → ¬ X151 g := blk_neX hk202 ap158 hx219
            have hk221 := ho153.grown hg167 (fun _ h => h.elim) nb
            have ap222 : ∀ g, blk a149 = some g → ¬ (fun k => blk (some ⟨b183, 0, none⟩) = some k) g := fun g e hx => nl ((lowo hbe187) _ hx) ((fun k (hk : blk a149 = some k) => hk221.lt k hk) g e)
            have ap220 : ∀ g, blk a197 = some g → ¬ (fun k => blk (some ⟨b183, 0, none⟩) = some k) g := blk_neX hk202 ap222 (fun k (hk : blk (some ⟨b183, 0, none⟩) = some k) => ho189.lt k hk)
            have ap224 : ∀ g, blk (some ⟨b183, 0, none⟩) = some g → ¬ (fun k => blk a149 = some k) g := fun g e hx => nl ((lowo hbe187) g e) ((fun k (hk : blk a149 = some k) => hk221.lt k hk) _ hx)
            have ap223 : ∀ g, blk (some ⟨b183, 0, none⟩) = some g → ¬ (fun k => blk a197 = some k) g := fun g e h => blk_rev hk202 (fun h => ((ap224) g e) h) (ho189.lt g e) h
            refine gv_nil <| gv_goA ?_
            refine gv_pre [10, 11] (bA 12 [0, 1, 2, 3, 4, 5, 6, 7, 8, 9, 10, 11]) 0 (by kernel_rfl) (by kernel_rfl) ?_
            refine gv_pureN 2 [8, 12] [(8, (.slice a197 (List.length l195) c198)), (12, (.slice a177 (List.length x175) c178))] (by kernel_rfl) ?_
            refine gv_nil <| gv_goA ?_
            refine gv_stageE (by kernel_rfl) ?_
            refine gv_blk ?_
            have e := sj h5; subst e
            refine gv_goal fun a hd hs hok => ?_
            have hB225 := bg hB206 hg200 hl154
            have hz226 := (nt (nt (nt hz148 hg167.size) hg185.size) hg200.size)
            have hk227 := (hr180.grown hg185 hx182 nb).grown hg200 hx219 ap158
            have hx228 := ltx hx219 hg200.size
            have hk229 := hk210.grown hg200 ap159
            have hk230 := (hk164.grown hg203 (fun k hk => ltl (hx214 k hk) hz148) nb).grown hg200 hx215 ap160
            exact ⟨(l195, x175), rfl, a197, c198, a177, c178, X151, hB225, hz226, ho201, hl205, hk227, hx228, hx157, ap218, ap209, ap212, ap211, ap162, hk229, hk230, hd, hs, ok_pick [1, 5, 8, 12, 29, 30, 31] hok (by kernel_rfl)⟩
           ·replace h5 := ite_f hc165 h5
            refine gv_cexit <| gv_exit rfl ?_
            have e := sj h5; subst e
            replace h4 := congrArg some (hR5 _ rfl)
            have e := sj h4; subst e
            refine gv_goal fun a hd hs hok => ?_
            have hz231 := hz148
            exact ⟨a149, c150, a151, c152, X151, hB147, hz231, ho153, hl154, hr155, hx156, hx157, ap158, ap159, ap160, ap161, ap162, hb163, hk164, hd, hs, ok_pick [1, 5, 8, 12, 29, 30, 31] hok (by kernel_rfl)⟩
         ·rintro a w137 ⟨a234, c235, a236, c237, X236, hB232, hz233, ho238, hl239, hr240, hx241, hx242, ap243, ap244, ap245, ap246, ap247, hb248, hk249, hd, hs, hok⟩
          refine gv_in ?_ hd hs hok
          clear hd hs hok
          have hz250 := (nt hg102.size hz233)
          clear hc110 hx109 hx108 hz105 hr103 hx107 hx98 hc94 hk93 hb92 ap91 ap90 ap89 hl88 ho87 hB83
          refine gv_region <| gv_pureN 2 [70, 71] [(70, (.slice a234 (List.length j136.1) c235)), (71, (.slice a236 (List.length j136.2) c237))] (by kernel_rfl) ?_
          refine gv_r2s (src := 72) (dst := 9) (e := 21) (xs := j136.2) (a := a236) (cap := c237) (X := X236) [] (fun e => by cases e) rfl rfl rfl (by kernel_rfl) (by kernel_rfl) Tryd.underlying72 Tryd.underlying21 Tryd.underlying9 (inw0 hr240) rfl ?_
          refine gv_new0 (fun b => .slice (some ⟨b, 0, none⟩) 1 1) #[(.string (strR j136.2))] 9 (by kernel_rfl) (by kernel_rfl) ?_
          intro b251 w252 hg253 hb254 hbe255 hz256
          have ho257 : Gv.Own sE 9 w252 (fun _ => False) (some ⟨b251, 0, none⟩) 1 ([(strR j136.2)] : List ByteArray) := Box.ownE hb254 ⟨[(.string (strR j136.2))], [], rfl, rfl, rfl⟩ (show 1 ≤ maxLen by decide) (fun h => h)
          have hl258 : ∀ g, blk (some ⟨b251, 0, none⟩) = some g → w0.heap.size ≤ g := loo hbe255 hB232.size
          refine bindE h3 ?_; clear h3; intro l262 hx263 h3
          have hk270 := ho238.grown hg253 (fun _ h => h.elim) nb
          refine gv_append sE (t := 22) (ty := 22) (e := 9) (a := a234) (ax := (some ⟨b251, 0, none⟩)) (cap := c235) (cx := 1) (xs := j136.1) (ys := ([(strR j136.2)] : List ByteArray)) l262 (X := (fun _ => False)) (Y := (fun k => blk (some ⟨b251, 0, none⟩) = some k)) (by decide) rfl rfl (by kernel_rfl) (by kernel_rfl) Tryd.underlying22 info9 hk270 (ho257.rd (Y := fun k => blk (some ⟨b251, 0, none⟩) = some k) (fun _ h => h.elim) (fun g e => e)) hx263 (.inr fun _ _ _ _ _ h => h) (fun _ h => h.elim) ?_
          intro a264 c265 w266 hg267 ho268 hk269
          refine ⟨(fun e => by cases e), ?_⟩
          have hB272 := bg hB232 hg253 nb
          have hl271 : ∀ g, blk a264 = some g → w0.heap.size ≤ g := blk_step hk269 hl239 hB272.size
          have hx274 := ltx hx241 hg253.size
          have ap273 : ∀ g, blk a264 = some g → ¬ X236 g := blk_neX hk269 ap243 hx274
          have hk276 := hb248.grown hg253 nb
          have ap275 : ∀ g, blk a264 = some g → ¬ (· = b1) g := blk_neX hk269 ap244 (ltb hk276)
          have ap277 : ¬ (fun k => blk a264 = some k) b1 := fun h => blk_rev hk269 (fun h => (ap246) h) (hk276.lt) h
          have hx279 := ltx (ltx hx35 hg39.size) hg44.size
          have hx280 := ltx (fun k hk => ltl (hx279 k hk) hz84) hg102.size
          have hx281 := ltx (fun k hk => ltl (hx280 k hk) hz233) hg253.size
          have ap278 : ∀ g, blk a264 = some g → ¬ X33 g := blk_neX hk269 ap245 hx281
          have ap283 : ∀ g, blk a234 = some g → ¬ (fun k => blk (some ⟨b251, 0, none⟩) = some k) g := fun g e hx => nl ((lowo hbe255) _ hx) ((fun k (hk : blk a234 = some k) => ho238.lt k hk) g e)
          have ap282 : ∀ g, blk a264 = some g → ¬ (fun k => blk (some ⟨b251, 0, none⟩) = some k) g := blk_neX hk269 ap283 (fun k (hk : blk (some ⟨b251, 0, none⟩) = some k) => ho257.lt k hk)
          have ap285 : ∀ g, blk (some ⟨b251, 0, none⟩) = some g → ¬ (fun k => blk a234 = some k) g := fun g e hx => nl ((lowo hbe255) g e) ((fun k (hk : blk a234 = some k) => ho238.lt k hk) _ hx)
          have ap284 : ∀ g, blk (some ⟨b251, 0, none⟩) = some g → ¬ (fun k => blk a264 = some k) g := fun g e h => blk_rev hk269 (fun h => ((ap285) g e) h) (ho257.lt g e) h
          refine gv_pureN 6 [8, 9, 75, 76, 77, 78] [(8, (.slice a264 (List.length l262) c265)), (9, (.int .i64 (IntKind.i64.wrap (width_1 - ((List.length j136.2 : Nat) : Int)))))] (by kernel_rfl) ?_
          refine bindE h3 ?_; clear h3; intro n286 hn287 h3
          refine gv_name (s := 9) (v := (.int .i64 (IntKind.i64.wrap (width_1 - ((List.length j136.2 : Nat) : Int))))) (v' := (.int .i64 n286)) (by kernel_rfl) (congrArg (Value.int .i64) (sj hn287)) ?_
          refine gv_nil <| gv_blk ?_
          have e := sj h3; subst e
          refine gv_goal fun a hd hs hok => ?_
          have hB288 := bg hB272 hg267 hl239
          have hz289 := (nt (nt hz250 hg253.size) hg267.size)
          have hk290 := hk276.grown hg267 ap244
          have hk291 := (hk249.grown hg253 (fun k hk => ltl (hx280 k hk) hz233) nb).grown hg267 hx281 ap245
          exact ⟨a264, c265, hB288, hz289, ho268, hl271, ap275, ap278, ap277, hk290, hk291, hd, hs, ok_pick [1, 5, 8, 9, 29, 30, 31] hok (by kernel_rfl)⟩
       ·rintro a w96 ⟨a294, c295, hB292, hz293, ho296, hl297, ap298, ap299, ap300, hb301, hk302, hd, hs, hok⟩
        refine gv_in ?_ hd hs hok
        clear hd hs hok
        have hz303 := (nt hz84 hz293)
        clear hc94 hk93 hb92 ap91 ap90 ap89 hl88 ho87 hB83
        refine gv_region <| gv_pureN 2 [31, 79] [(31, (.int .i64 (IntKind.i64.wrap (s70.2.2 + 1))))] (by kernel_rfl) ?_
        refine gv_nil ?_
        have e := sj h2; subst e
        refine gv_goal fun a hd hs hok => ?_
        have hz304 := hz303
        exact ⟨(j95.1, j95.2, (IntKind.i64.wrap (s70.2.2 + 1))), rfl, a294, c295, hB292, hz304, ho296, hl297, ap298, ap299, ap300, hb301, hk302, hd, hs, ok_pick [1, 5, 8, 9, 29, 30, 31] hok (by kernel_rfl)⟩
      ·replace h2 := ite_f hc94 h2
       refine gv_cexit <| gv_exit rfl ?_
       have e := sj h2; subst e
       replace h1 := congrArg some (hR2 _ rfl)
       have e := sj h1; subst e
       refine gv_goal fun a hd hs hok => ?_
       have hz305 := hz84
       exact ⟨a85, c86, hB83, hz305, ho87, hl88, ap89, ap91, hb92, hd, hs, ok_pick [5, 8] hok (by kernel_rfl)⟩
    ·rintro a w69 ⟨a308, c309, hB306, hz307, ho310, hl311, ap312, ap313, hb314, hd, hs, hok⟩
     refine gv_in ?_ hd hs hok
     clear hd hs hok
     clear hz307 hc47 hz46 hb45 hg44 hz42 hbe41 hb40 hg39 hx36 hx35 hx34 ho32 hg28 hB26 hr25 hc9 hz6 hb4 hg3
     refine gv_seq <| gv_region <| gv_pureN 1 [80] [(80, (.slice a308 (List.length j68) c309))] (by kernel_rfl) ?_
     refine bindE h0 ?_; clear h0; intro r315 hr316 h0
     refine gv_call0 (by kernel_rfl) rfl (by kernel_rfl) enters57 (textstr_pieces_ok fuel a308 c309 j68 w69 (fun k => (fun k => blk a308 = some k) k) (fun k hk => (fun k (hk : blk a308 = some k) => ho310.lt k hk) k hk) ((ho310.rd (Y := fun k => blk a308 = some k) (fun _ h => h.elim) (fun g e => e)).wide (fun k hk => hk)) r315 hr316) ?_
     rintro v319 w317 ⟨hg318, a320, c321, X323, rfl, ho322, hx324⟩
     have hx325 : ∀ k, X323 k → k < w317.heap.size := fun k hk => (hx324 k hk).1
     have hx326 : ∀ k, X323 k → X0 k ∨ w0.heap.size ≤ k := fun k hk => (hx324 k hk).2.elim (fun h => (fun k (hk : blk a308 = some k) => Or.inr (hl311 k hk)) k h) (fun h => .inr (Nat.le_trans hB306.size h))
     clear hr316 ap312 hl311 ho310
     refine gv_pureN 3 [4, 82, 83] [(4, (.slice a320 (List.length r315.1) c321)), (83, (.agg #[(.int .i64 r315.2.1), (.int .i64 r315.2.2)]))] (by kernel_rfl) ?_
     have hk331 := hb314.grown hg318 nb
     refine gv_store0 24 0 (.agg #[(.int .i64 r315.2.1), (.int .i64 r315.2.2)]) #[(.int .i64 r315.2.1), (.int .i64 r315.2.2)] hk331 (by kernel_rfl) (by kernel_rfl) (by kernel_rfl) ?_
     intro w327 hg328 hb329 hz330
     refine gv_nil <| gv_cret ?_
     have e := sj h0; subst e
     refine gv_ret (gv_done [(.slice a320 (List.length r315.1) c321), (.agg #[(.int .i64 r315.2.1), (.int .i64 r315.2.2)])] rfl ⟨(by kernel_rfl), ⟨⟨b1, 0, none⟩, (by kernel_rfl), run_loadVar_row w327 b1 _ 24 _ _ _ hb329 Tryd.underlying24 rfl (by kernel_rfl)⟩, trivial⟩ ?_)
     have hB332 := bg hB306 hg318 nb
     have hlo333 : w0.heap.size ≤ b1 := lob hbe5 hB0.size
     have hB334 := bg hB332 hg328 (rowlo hlo333)
     have ap335 : ¬ X323 b1 := fun h => ((hx324 _ h).2.elim (fun h => (ap313)  h) (fun h => nl h (hb314.lt)))
     have hk336 := ho322.grown hg328 hx325 (rowne ap335)
     have hx337 := ltx hx325 hg328.size
     exact ⟨grown_of_below hB334, a320, c321, X323, rfl, hk336, (fun k hk => ⟨hx337 k hk, hx326 k hk⟩)⟩

theorem utf8_RuneCountInString_ok (fuel : Nat) (s_0 : ByteArray) (w0 : World)  (r0 : Int) (h0 : utf8_RuneCountInString fuel s_0 = some r0) :
    Calls Tryd.prog 73 ([(.string s_0)] : List Value).toArray w0 (Ret fun v w' => w0.grownBy w' none ∧ v = tup [(.int .i64 r0)]) := by
 have hB0 : Below w0.heap.size w0 w0 := Below.refl _ _
 unfold utf8_RuneCountInString at h0
 refine calls_run Tryd.func73 rfl Tryd.ntmps73 (by kernel_rfl) ?_
 refine gv_sub [0] (σ' := [(0, (.string s_0))]) (by kernel_rfl) ?_
 refine gv_seq <| gv_region <| gv_pureN 1 [2] [(2, (.int .i64 0))] (by kernel_rfl) ?_
 refine gv_nil <| gv_seq <| gv_seq <| gv_region <| gv_pureN 1 [3] [(3, (.string s_0))] (by kernel_rfl) ?_
 refine gv_range (t := 9) (s := s_0) (by kernel_rfl) (by kernel_rfl) Tryd.underlying9 ?_
 intro b1 w2 hg3 hb4 hbe5 hz6
 refine gv_nil <| bindE h0 ?_; clear h0; intro j7 h1 h0
 refine gv_cut_code (J := fun a w8 => Below w0.heap.size w0 w8 ∧ w2.heap.size ≤ w8.heap.size ∧ a.defers = [] ∧ a.tmps.size = 10 ∧ Ok [(2, (.int .i64 j7))] a.tmps) ?_ ?_
 ·skip
  refine gv_block <| gv_loop (A := fun (s9 : (Int × Nat)) a w10 => Below w0.heap.size w0 w10 ∧ w2.heap.size ≤ w10.heap.size ∧ At w10 b1 (.stringIter s_0 s9.2) ∧ a.defers = [] ∧ a.tmps.size = 10 ∧ Ok [(2, (.int .i64 s9.1)), (4, (bp b1))] a.tmps) h1 ?_ ?_
  ·intro a hd hs hok
   have hB11 := bg hB0 hg3 nb
   exact ⟨hB11, (Nat.le_refl _), hb4, hd, hs, ok_pick [2, 4] hok (by kernel_rfl)⟩
  ·rintro s9 r2 h2 hR2 a w10 ⟨hB12, hz13, hb14, hd, hs, hok⟩
   refine gv_in ?_ hd hs hok
   clear hd hs hok
   refine gv_seq <| gv_region <| gv_next (b := b1) (s := s_0) (pos := s9.2) (ty := 0) (by kernel_rfl) (by kernel_rfl) hb14 (fun hc15 => ?_) (fun hc15 => ?_)
   ·skip
    replace h2 := ite_t hc15 h2
    intro w16 hg17 hb18 hz19
    refine gv_pureN 1 [6] [(6, (.bool true))] (by kernel_rfl) ?_
    refine gv_nil <| gv_seq <| gv_cond (b := true) (by kernel_rfl) (fun hc => ?_) (fun hc => ?_)
    rotate_left; · cases hc
    clear hc
    refine gv_skip <| gv_block <| gv_region <| gv_pureN 3 [2, 7, 8] [(2, (.int .i64 (IntKind.i64.wrap (s9.1 + 1))))] (by kernel_rfl) ?_
    refine gv_nil <| gv_blk ?_
    have e := sj h2; subst e
    refine gv_goal fun a hd hs hok => ?_
    have hlo20 : w0.heap.size ≤ b1 := lob hbe5 hB0.size
    have hB21 := bg hB12 hg17 (rowlo hlo20)
    have hz22 := (nt hz13 hg17.size)
    exact ⟨((IntKind.i64.wrap (s9.1 + 1)), (s9.2 + runeN s_0 s9.2)), rfl, hB21, hz22, hb18, hd, hs, ok_pick [2, 4] hok (by kernel_rfl)⟩
   ·skip
    replace h2 := ite_f hc15 h2
    refine gv_pureN 1 [6] [(6, (.bool false))] (by kernel_rfl) ?_
    refine gv_nil <| gv_seq <| gv_cond (b := false) (by kernel_rfl) (fun hc => ?_) (fun hc => ?_)
    ·cases hc
    clear hc
    refine gv_cexit <| gv_exit rfl ?_
    have e := sj h2; subst e
    replace h1 := congrArg some (hR2 _ rfl)
    have e := sj h1; subst e
    refine gv_goal fun a hd hs hok => ?_
    have hz23 := hz13
    exact ⟨hB12, hz23, hd, hs, ok_pick [2] hok (by kernel_rfl)⟩
 ·rintro a w8 ⟨hB24, hz25, hd, hs, hok⟩
  refine gv_in ?_ hd hs hok
  clear hd hs hok
  clear hz25 hz6 hbe5 hb4 hg3
  refine gv_seq <| gv_region <| gv_pureN 2 [2, 9] [(2, (.int .i64 j7))] (by kernel_rfl) ?_
  refine gv_nil <| gv_cret ?_
  have e := sj h0; subst e
  refine gv_ret (gv_done [(.int .i64 j7)] rfl ⟨(by kernel_rfl), trivial⟩ ?_)
  exact ⟨grown_of_below hB24, rfl⟩

theorem utf8_decodeRuneInStringSlow_ok (fuel : Nat) (s_0 : ByteArray) (w0 : World) (X0 : Nat → Prop) (hX0 : ∀ k, X0 k → k < w0.heap.size) (hG1 : Rd bE w0 X0 (some ⟨1, 0, none⟩) 256 utf8First) (hG2 : Rd (prE (iE .u8) (iE .u8)) w0 X0 (some ⟨2, 0, none⟩) 16 utf8Acc) (r0 : (Int × Int)) (h0 : utf8_decodeRuneInStringSlow fuel s_0 = some r0) :
    Calls Tryd.prog 126 ([(.string s_0)] : List Value).toArray w0 (Ret fun v w' => w0.grownBy w' none ∧ v = tup [(.int .i32 r0.1), (.int .i64 r0.2)]) := by
 have hB0 : Below w0.heap.size w0 w0 := Below.refl _ _
 unfold utf8_decodeRuneInStringSlow at h0
 refine calls_run Tryd.func126 rfl Tryd.ntmps126 (by kernel_rfl) ?_
 refine gv_sub [0] (σ' := [(0, (.string s_0))]) (by kernel_rfl) ?_
 refine gv_seq <| gv_region <| gv_pureN 2 [2, 3] [] (by kernel_rfl) ?_
 refine gv_nil <| gv_seq <| gv_region <| gv_pureN 3 [4, 13, 14] [(4, (.int .i64 ((ByteArray.size s_0 : Nat) : Int)))] (by kernel_rfl) ?_
 refine gv_nil <| gv_seq <| gv_seq <| gv_region <| gv_pureN 2 [15, 16] [(16, (.bool (decide (((ByteArray.size s_0 : Nat) : Int) < 1))))] (by kernel_rfl) ?_
 refine gv_nil <| gv_cond (b := (decide (((ByteArray.size s_0 : Nat) : Int) < 1))) (by kernel_rfl) (fun hc1 => ?_) (fun hc1 => ?_)
 ·replace h0 := ite_t hc1 h0
  refine gv_seq <| gv_region <| gv_pureN 2 [2, 3] [(2, (.int .i32 65533)), (3, (.int .i64 0))] (by kernel_rfl) ?_
  refine gv_nil <| gv_cret ?_
  have e := sj h0; subst e
  refine gv_ret (gv_done [(.int .i32 65533), (.int .i64 0)] rfl ⟨(by kernel_rfl), (by kernel_rfl), trivial⟩ ?_)
  exact ⟨grown_of_below hB0, rfl⟩
 ·replace h0 := ite_f hc1 h0
  refine gv_skip <| gv_seq <| gv_region <| gv_pureN 1 [17] [(17, (.string s_0))] (by kernel_rfl) ?_
  refine bindE h0 ?_; clear h0; intro x2 hx3 h0
  refine gv_sindex (t := 9) (s := s_0) (kk := .i64) (i := 0) x2 [] (fun e => by cases e) rfl rfl rfl (by kernel_rfl) (by kernel_rfl) Tryd.underlying9 hx3 rfl ?_
  refine gv_pureN 1 [5] [(5, (.int .u8 x2))] (by kernel_rfl) ?_
  refine gv_nil <| gv_seq <| gv_region <| gv_pureN 1 [19] [(19, (.int .u8 x2))] (by kernel_rfl) ?_
  refine bindE h0 ?_; clear h0; intro x4 hx5 h0
  refine gv_idxarr (t := 141) (e := 5) (A := ⟨1, 0, none⟩) (len := 256) (kk := .u8) (i := x2) (sz := 1) [] (fun e => by cases e) rfl rfl rfl (by kernel_rfl) (by kernel_rfl) Tryd.underlying141 (by kernel_rfl) (idx_spec hx5).1 (by have e := (idx_spec hx5).2.1; rw [utf8First_len] at e; exact e) rfl ?_
  refine gv_load (t := 5) (A := (elemAddr (some ⟨1, 0, none⟩) ((x2 : Int).toNat * 1))) (.int .u8 ((x4).toNat : Int)) [] (fun e => by cases e) rfl rfl rfl (by kernel_rfl) (by kernel_rfl) (by kernel_rfl) (inw0 ((hG1.below hB0 hX0).cell hx5)) rfl ?_
  refine gv_pureN 1 [6] [(6, (.int .u8 ((x4).toNat : Int)))] (by kernel_rfl) ?_
  refine gv_nil <| gv_seq <| gv_seq <| gv_region <| gv_pureN 2 [22, 23] [(23, (.bool (decide (((x4).toNat : Int) ≥ 240))))] (by kernel_rfl) ?_
  refine gv_nil <| gv_cond (b := (decide (((x4).toNat : Int) ≥ 240))) (by kernel_rfl) (fun hc6 => ?_) (fun hc6 => ?_)
  ·replace h0 := ite_t hc6 h0
   refine gv_seq <| gv_region <| gv_pureN 5 [7, 24, 25, 26, 27] [(7, (.int .i32 (((IntKind.i32.wrap ((IntKind.i32.wrap (((x4).toNat : Int))) * 2 ^ 31))).fdiv (2 ^ 31))))] (by kernel_rfl) ?_
   refine bindE h0 ?_; clear h0; intro n7 hn8 h0
   refine gv_name (s := 7) (v := (.int .i32 (((IntKind.i32.wrap ((IntKind.i32.wrap (((x4).toNat : Int))) * 2 ^ 31))).fdiv (2 ^ 31)))) (v' := (.int .i32 n7)) (by kernel_rfl) (congrArg (Value.int .i32) (sj hn8)) ?_
   refine gv_nil <| gv_seq <| gv_region <| gv_pureN 1 [28] [(28, (.string s_0))] (by kernel_rfl) ?_
   refine bindE h0 ?_; clear h0; intro x9 hx10 h0
   refine gv_sindex (t := 9) (s := s_0) (kk := .i64) (i := 0) x9 [] (fun e => by cases e) rfl rfl rfl (by kernel_rfl) (by kernel_rfl) Tryd.underlying9 hx10 rfl ?_
   refine gv_pureN 8 [2, 3, 30, 31, 32, 33, 34, 35] [(2, (.int .i32 (bwOr .i32 (bwAndNot .i32 (IntKind.i32.wrap (x9)) n7) (bwAnd .i32 65533 n7)))), (3, (.int .i64 1))] (by kernel_rfl) ?_
   refine gv_sub [2, 3] (σ' := [(2, (.int .i32 (bwOr .i32 (bwAndNot .i32 (IntKind.i32.wrap (x9)) n7) (bwAnd .i32 65533 n7)))), (3, (.int .i64 1))]) (by kernel_rfl) ?_
   refine bindE h0 ?_; clear h0; intro n11 hn12 h0
   refine gv_name (s := 2) (v := (.int .i32 (bwOr .i32 (bwAndNot .i32 (IntKind.i32.wrap (x9)) n7) (bwAnd .i32 65533 n7)))) (v' := (.int .i32 n11)) (by kernel_rfl) (congrArg (Value.int .i32) (sj hn12)) ?_
   refine gv_nil <| gv_cret ?_
   have e := sj h0; subst e
   refine gv_ret (gv_done [(.int .i32 n11), (.int .i64 1)] rfl ⟨(by kernel_rfl), (by kernel_rfl), trivial⟩ ?_)
   exact ⟨grown_of_below hB0, rfl⟩
  ·replace h0 := ite_f hc6 h0
   refine gv_skip <| gv_seq <| gv_region <| gv_pureN 4 [8, 36, 37, 38] [(8, (.int .i64 (IntKind.i64.wrap ((bwAnd .u8 ((x4).toNat : Int) 7)))))] (by kernel_rfl) ?_
   refine bindE h0 ?_; clear h0; intro n13 hn14 h0
   refine gv_name (s := 8) (v := (.int .i64 (IntKind.i64.wrap ((bwAnd .u8 ((x4).toNat : Int) 7))))) (v' := (.int .i64 n13)) (by kernel_rfl) (congrArg (Value.int .i64) (sj hn14)) ?_
   refine gv_nil <| gv_seq <| gv_region <| gv_pureN 2 [39, 40] [(40, (.int .u8 ((((x4).toNat : Int)).fdiv (2 ^ 4))))] (by kernel_rfl) ?_
   refine bindE h0 ?_; clear h0; intro x15 hx16 h0
   refine gv_idxarr (t := 144) (e := 143) (A := ⟨2, 0, none⟩) (len := 16) (kk := .u8) (i := ((((x4).toNat : Int)).fdiv (2 ^ 4))) (sz := 2) [] (fun e => by cases e) rfl rfl rfl (by kernel_rfl) (by kernel_rfl) Tryd.underlying144 (by kernel_rfl) (idx_spec hx16).1 (by have e := (idx_spec hx16).2.1; rw [utf8Acc_len] at e; exact e) rfl ?_
   refine gv_sub [0, 4, 5, 8, 41] (σ' := [(0, (.string s_0)), (4, (.int .i64 ((ByteArray.size s_0 : Nat) : Int))), (5, (.int .u8 x2)), (8, (.int .i64 n13)), (41, (.pointer (some (elemAddr (some ⟨2, 0, none⟩) ((((((x4).toNat : Int)).fdiv (2 ^ 4)) : Int).toNat * 2)))))]) (by kernel_rfl) ?_
   obtain ⟨_, ⟨_, _, rfl, rfl, rfl⟩, hc17⟩ := hG2.cellsK hx16
   refine gv_loadAgg (t := 143) (A := (elemAddr (some ⟨2, 0, none⟩) ((((((x4).toNat : Int)).fdiv (2 ^ 4)) : Int).toNat * 2))) #[(.int .u8 x15.1), (.int .u8 x15.2)] [] (fun e => by cases e) rfl rfl rfl (by kernel_rfl) (by kernel_rfl) (by kernel_rfl) (by kernel_rfl) (inw0 (hc17 w0 (fun k hk => hB0.block k (hX0 k hk)))) rfl ?_
   refine gv_new0 (fun b => .pointer (some ⟨b, 0, none⟩)) #[(.int .u8 0), (.int .u8 0)] 143 (by kernel_rfl) (by kernel_rfl) ?_
   intro b18 w19 hg20 hb21 hbe22 hz23
   refine gv_store0 143 0 (.agg #[(.int .u8 x15.1), (.int .u8 x15.2)]) #[(.int .u8 x15.1), (.int .u8 x15.2)] hb21 (by kernel_rfl) (by kernel_rfl) (by kernel_rfl) ?_
   intro w24 hg25 hb26 hz27
   refine gv_nil <| gv_seq <| gv_seq <| gv_region <| gv_pureN 3 [43, 44, 45] [(45, (.bool (decide (((ByteArray.size s_0 : Nat) : Int) < n13))))] (by kernel_rfl) ?_
   refine gv_nil <| gv_cond (b := (decide (((ByteArray.size s_0 : Nat) : Int) < n13))) (by kernel_rfl) (fun hc28 => ?_) (fun hc28 => ?_)
   ·replace h0 := ite_t hc28 h0
    refine gv_seq <| gv_region <| gv_pureN 2 [2, 3] [(2, (.int .i32 65533)), (3, (.int .i64 1))] (by kernel_rfl) ?_
    refine gv_nil <| gv_cret ?_
    have e := sj h0; subst e
    refine gv_ret (gv_done [(.int .i32 65533), (.int .i64 1)] rfl ⟨(by kernel_rfl), (by kernel_rfl), trivial⟩ ?_)
    have hB29 := bg hB0 hg20 nb
    have hlo30 : w0.heap.size ≤ b18 := lob hbe22 hB0.size
    have hB31 := bg hB29 hg25 (rowlo hlo30)
    exact ⟨grown_of_below hB31, rfl⟩
   ·replace h0 := ite_f hc28 h0
    refine gv_skip <| gv_seq <| gv_region <| gv_pureN 1 [46] [(46, (.string s_0))] (by kernel_rfl) ?_
    refine bindE h0 ?_; clear h0; intro x32 hx33 h0
    refine gv_sindex (t := 9) (s := s_0) (kk := .i64) (i := 1) x32 [] (fun e => by cases e) rfl rfl rfl (by kernel_rfl) (by kernel_rfl) Tryd.underlying9 hx33 rfl ?_
    refine gv_pureN 1 [10] [(10, (.int .u8 x32))] (by kernel_rfl) ?_
    refine gv_nil <| gv_seq <| gv_seq <| gv_region <| bindE h0 ?_; clear h0; intro j34 h1 h0
    refine gv_cut_ops (J := fun a w35 => Below w0.heap.size w0 w35 ∧ w24.heap.size ≤ w35.heap.size ∧ a.defers = [] ∧ a.tmps.size = 117 ∧ Ok [(0, (.string s_0)), (5, (.int .u8 x2)), (8, (.int .i64 n13)), (10, (.int .u8 x32)), (57, (.bool j34))] a.tmps) ?_ ?_
    ·skip
     refine gv_pureN 2 [48, 49] [(48, (.int .u8 x32)), (49, (bp b18))] (by kernel_rfl) ?_
     refine gv_load (t := 5) (A := ⟨b18, 0, none⟩) (.int .u8 x15.1) [] (fun e => by cases e) rfl rfl rfl (by kernel_rfl) (by kernel_rfl) (by kernel_rfl) (inw0 (hb26.cell 0 rfl)) rfl ?_
     refine gv_pureN 2 [51, 52] [(52, (.bool (decide (x32 < x15.1))))] (by kernel_rfl) ?_
     refine gv_split (s := 52) (g := (decide (x32 < x15.1))) (by kernel_rfl) (fun hc36 => ?_) (fun hc36 => ?_)
     ·skip
      replace h1 := ite_t hc36 h1
      refine gv_pureN 5 [53, 54, 55, 56, 57] [(57, (.bool true))] (by kernel_rfl) ?_
      refine gv_nil ?_
      have e := sj h1; subst e
      refine gv_goal fun a hd hs hok => ?_
      have hB37 := bg hB0 hg20 nb
      have hlo38 : w0.heap.size ≤ b18 := lob hbe22 hB0.size
      have hB39 := bg hB37 hg25 (rowlo hlo38)
      exact ⟨hB39, (Nat.le_refl _), hd, hs, ok_pick [0, 5, 8, 10, 57] hok (by kernel_rfl)⟩
     ·skip
      replace h1 := ite_f hc36 h1
      refine gv_pureN 1 [53] [(53, (.pointer (some ⟨b18, 1, none⟩)))] (by kernel_rfl) ?_
      refine gv_load (t := 5) (A := ⟨b18, 1, none⟩) (.int .u8 x15.2) [] (fun e => by cases e) rfl rfl rfl (by kernel_rfl) (by kernel_rfl) (by kernel_rfl) (inw0 (hb26.cell 1 rfl)) rfl ?_
      refine gv_pureN 3 [55, 56, 57] [(57, (.bool (decide (x15.2 < x32))))] (by kernel_rfl) ?_
      refine gv_nil ?_
      have e := sj h1; subst e
      refine gv_goal fun a hd hs hok => ?_
      have hB40 := bg hB0 hg20 nb
      have hlo41 : w0.heap.size ≤ b18 := lob hbe22 hB0.size
      have hB42 := bg hB40 hg25 (rowlo hlo41)
      exact ⟨hB42, (Nat.le_refl _), hd, hs, ok_pick [0, 5, 8, 10, 57] hok (by kernel_rfl)⟩
    ·rintro a w35 ⟨hB43, hz44, hd, hs, hok⟩
     refine gv_in ?_ hd hs hok
     clear hd hs hok
     clear hz44 hx33 hc28 hz27 hb26 hg25 hz23 hbe22 hb21 hg20 hc17 hx16 hn14 hc6 hx5 hx3 hc1
     refine gv_cond (b := j34) (by kernel_rfl) (fun hc45 => ?_) (fun hc45 => ?_)
     ·replace h0 := ite_t hc45 h0
      refine gv_seq <| gv_region <| gv_pureN 2 [2, 3] [(2, (.int .i32 65533)), (3, (.int .i64 1))] (by kernel_rfl) ?_
      refine gv_nil <| gv_cret ?_
      have e := sj h0; subst e
      refine gv_ret (gv_done [(.int .i32 65533), (.int .i64 1)] rfl ⟨(by kernel_rfl), (by kernel_rfl), trivial⟩ ?_)
      exact ⟨grown_of_below hB43, rfl⟩
     ·replace h0 := ite_f hc45 h0
      refine gv_skip <| gv_seq <| gv_seq <| gv_region <| gv_pureN 2 [58, 59] [(59, (.bool (decide (n13 ≤ 2))))] (by kernel_rfl) ?_
      refine gv_nil <| gv_cond (b := (decide (n13 ≤ 2))) (by kernel_rfl) (fun hc46 => ?_) (fun hc46 => ?_)
      ·replace h0 := ite_t hc46 h0
       refine gv_seq <| gv_region <| gv_pureN 10 [2, 3, 60, 61, 62, 63, 64, 65, 66, 67] [(2, (.int .i32 (bwOr .i32 (IntKind.i32.wrap ((IntKind.i32.wrap ((bwAnd .u8 x2 31))) * 2 ^ 6)) (IntKind.i32.wrap ((bwAnd .u8 x32 63)))))), (3, (.int .i64 2))] (by kernel_rfl) ?_
       refine bindE h0 ?_; clear h0; intro n47 hn48 h0
       refine gv_name (s := 2) (v := (.int .i32 (bwOr .i32 (IntKind.i32.wrap ((IntKind.i32.wrap ((bwAnd .u8 x2 31))) * 2 ^ 6)) (IntKind.i32.wrap ((bwAnd .u8 x32 63)))))) (v' := (.int .i32 n47)) (by kernel_rfl) (congrArg (Value.int .i32) (sj hn48)) ?_
       refine gv_nil <| gv_cret ?_
       have e := sj h0; subst e
       refine gv_ret (gv_done [(.int .i32 n47), (.int .i64 2)] rfl ⟨(by kernel_rfl), (by kernel_rfl), trivial⟩ ?_)
       exact ⟨grown_of_below hB43, rfl⟩
      ·replace h0 := ite_f hc46 h0
       refine gv_skip <| gv_seq <| gv_region <| gv_pureN 1 [68] [(68, (.string s_0))] (by kernel_rfl) ?_
       refine bindE h0 ?_; clear h0; intro x49 hx50 h0
       refine gv_sindex (t := 9) (s := s_0) (kk := .i64) (i := 2) x49 [] (fun e => by cases e) rfl rfl rfl (by kernel_rfl) (by kernel_rfl) Tryd.underlying9 hx50 rfl ?_
       refine gv_pureN 1 [11] [(11, (.int .u8 x49))] (by kernel_rfl) ?_
       refine gv_nil <| gv_seq <| gv_seq <| gv_region <| gv_cut_ops (J := fun a w51 => w35 = w51 ∧ a.defers = [] ∧ a.tmps.size = 117 ∧ Ok [(0, (.string s_0)), (5, (.int .u8 x2)), (8, (.int .i64 n13)), (10, (.int .u8 x32)), (11, (.int .u8 x49)), (75, (.bool ((decide (x49 < 128)) || (decide (191 < x49)))))] a.tmps) ?_ ?_
       ·skip
        refine gv_pureN 3 [70, 71, 72] [(72, (.bool (decide (x49 < 128))))] (by kernel_rfl) ?_
        refine gv_split (s := 72) (g := (decide (x49 < 128))) (by kernel_rfl) (fun hc52 => ?_) (fun hc52 => ?_)
        ·skip
         refine gv_pureN 3 [73, 74, 75] [(75, (.bool true))] (by kernel_rfl) ?_
         refine gv_nil <| gv_sub [0, 5, 8, 10, 11, 75] (σ' := [(0, (.string s_0)), (5, (.int .u8 x2)), (8, (.int .i64 n13)), (10, (.int .u8 x32)), (11, (.int .u8 x49)), (75, (.bool true))]) (by kernel_rfl) ?_
         refine gv_goal fun a hd hs hok => ⟨rfl, hd, hs, ?_⟩
         obtain ⟨q0, q5, q8, q10, q11, q75, _⟩ := hok
         exact ⟨q0, q5, q8, q10, q11, (by rw [hc52]; exact q75), trivial⟩
        ·skip
         refine gv_pureN 3 [73, 74, 75] [(75, (.bool (decide (191 < x49))))] (by kernel_rfl) ?_
         refine gv_nil <| gv_sub [0, 5, 8, 10, 11, 75] (σ' := [(0, (.string s_0)), (5, (.int .u8 x2)), (8, (.int .i64 n13)), (10, (.int .u8 x32)), (11, (.int .u8 x49)), (75, (.bool (decide (191 < x49))))]) (by kernel_rfl) ?_
         refine gv_goal fun a hd hs hok => ⟨rfl, hd, hs, ?_⟩
         obtain ⟨q0, q5, q8, q10, q11, q75, _⟩ := hok
         exact ⟨q0, q5, q8, q10, q11, (by rw [hc52]; exact q75), trivial⟩
       ·rintro a w51 ⟨e, hd, hs, hok⟩; subst e
        refine gv_in ?_ hd hs hok
        clear hd hs hok
        refine gv_cond (b := ((decide (x49 < 128)) || (decide (191 < x49)))) (by kernel_rfl) (fun hc53 => ?_) (fun hc53 => ?_)
        ·replace h0 := ite_t hc53 h0
         refine gv_seq <| gv_region <| gv_pureN 2 [2, 3] [(2, (.int .i32 65533)), (3, (.int .i64 1))] (by kernel_rfl) ?_
         refine gv_nil <| gv_cret ?_
         have e := sj h0; subst e
         refine gv_ret (gv_done [(.int .i32 65533), (.int .i64 1)] rfl ⟨(by kernel_rfl), (by kernel_rfl), trivial⟩ ?_)
         exact ⟨grown_of_below hB43, rfl⟩
        ·replace h0 := ite_f hc53 h0
         refine gv_skip <| gv_seq <| gv_seq <| gv_region <| gv_pureN 2 [76, 77] [(77, (.bool (decide (n13 ≤ 3))))] (by kernel_rfl) ?_
         refine gv_nil <| gv_cond (b := (decide (n13 ≤ 3))) (by kernel_rfl) (fun hc54 => ?_) (fun hc54 => ?_)
         ·replace h0 := ite_t hc54 h0
          refine gv_seq <| gv_region <| gv_pureN 15 [2, 3, 78, 79, 80, 81, 82, 83, 84, 85, 86, 87, 88, 89, 90] [(2, (.int .i32 (bwOr .i32 (bwOr .i32 (IntKind.i32.wrap ((IntKind.i32.wrap ((bwAnd .u8 x2 15))) * 2 ^ 12)) (IntKind.i32.wrap ((IntKind.i32.wrap ((bwAnd .u8 x32 63))) * 2 ^ 6))) (IntKind.i32.wrap ((bwAnd .u8 x49 63)))))), (3, (.int .i64 3))] (by kernel_rfl) ?_
          refine bindE h0 ?_; clear h0; intro n55 hn56 h0
          refine gv_name (s := 2) (v := (.int .i32 (bwOr .i32 (bwOr .i32 (IntKind.i32.wrap ((IntKind.i32.wrap ((bwAnd .u8 x2 15))) * 2 ^ 12)) (IntKind.i32.wrap ((IntKind.i32.wrap ((bwAnd .u8 x32 63))) * 2 ^ 6))) (IntKind.i32.wrap ((bwAnd .u8 x49 63)))))) (v' := (.int .i32 n55)) (by kernel_rfl) (congrArg (Value.int .i32) (sj hn56)) ?_
          refine gv_nil <| gv_cret ?_
          have e := sj h0; subst e
          refine gv_ret (gv_done [(.int .i32 n55), (.int .i64 3)] rfl ⟨(by kernel_rfl), (by kernel_rfl), trivial⟩ ?_)
          exact ⟨grown_of_below hB43, rfl⟩
         ·replace h0 := ite_f hc54 h0
          refine gv_skip <| gv_seq <| gv_region <| gv_pureN 1 [91] [(91, (.string s_0))] (by kernel_rfl) ?_
          refine bindE h0 ?_; clear h0; intro x57 hx58 h0
          refine gv_sindex (t := 9) (s := s_0) (kk := .i64) (i := 3) x57 [] (fun e => by cases e) rfl rfl rfl (by kernel_rfl) (by kernel_rfl) Tryd.underlying9 hx58 rfl ?_
          refine gv_pureN 1 [12] [(12, (.int .u8 x57))] (by kernel_rfl) ?_
          refine gv_nil <| gv_seq <| gv_seq <| gv_region <| gv_cut_ops (J := fun a w59 => w35 = w59 ∧ a.defers = [] ∧ a.tmps.size = 117 ∧ Ok [(5, (.int .u8 x2)), (10, (.int .u8 x32)), (11, (.int .u8 x49)), (12, (.int .u8 x57)), (98, (.bool ((decide (x57 < 128)) || (decide (191 < x57)))))] a.tmps) ?_ ?_
          ·skip
           refine gv_pureN 3 [93, 94, 95] [(95, (.bool (decide (x57 < 128))))] (by kernel_rfl) ?_
           refine gv_split (s := 95) (g := (decide (x57 < 128))) (by kernel_rfl) (fun hc60 => ?_) (fun hc60 => ?_)
           ·skip
            refine gv_pureN 3 [96, 97, 98] [(98, (.bool true))] (by kernel_rfl) ?_
            refine gv_nil <| gv_sub [5, 10, 11, 12, 98] (σ' := [(5, (.int .u8 x2)), (10, (.int .u8 x32)), (11, (.int .u8 x49)), (12, (.int .u8 x57)), (98, (.bool true))]) (by kernel_rfl) ?_
            refine gv_goal fun a hd hs hok => ⟨rfl, hd, hs, ?_⟩
            obtain ⟨q5, q10, q11, q12, q98, _⟩ := hok
            exact ⟨q5, q10, q11, q12, (by rw [hc60]; exact q98), trivial⟩
           ·skip
            refine gv_pureN 3 [96, 97, 98] [(98, (.bool (decide (191 < x57))))] (by kernel_rfl) ?_
            refine gv_nil <| gv_sub [5, 10, 11, 12, 98] (σ' := [(5, (.int .u8 x2)), (10, (.int .u8 x32)), (11, (.int .u8 x49)), (12, (.int .u8 x57)), (98, (.bool (decide (191 < x57))))]) (by kernel_rfl) ?_
            refine gv_goal fun a hd hs hok => ⟨rfl, hd, hs, ?_⟩
            obtain ⟨q5, q10, q11, q12, q98, _⟩ := hok
            exact ⟨q5, q10, q11, q12, (by rw [hc60]; exact q98), trivial⟩
          ·rintro a w59 ⟨e, hd, hs, hok⟩; subst e
           refine gv_in ?_ hd hs hok
           clear hd hs hok
           refine gv_cond (b := ((decide (x57 < 128)) || (decide (191 < x57)))) (by kernel_rfl) (fun hc61 => ?_) (fun hc61 => ?_)
           ·replace h0 := ite_t hc61 h0
            refine gv_seq <| gv_region <| gv_pureN 2 [2, 3] [(2, (.int .i32 65533)), (3, (.int .i64 1))] (by kernel_rfl) ?_
            refine gv_nil <| gv_cret ?_
            have e := sj h0; subst e
            refine gv_ret (gv_done [(.int .i32 65533), (.int .i64 1)] rfl ⟨(by kernel_rfl), (by kernel_rfl), trivial⟩ ?_)
            exact ⟨grown_of_below hB43, rfl⟩
           ·replace h0 := ite_f hc61 h0
            refine gv_skip <| gv_seq <| gv_region <| gv_pureN 20 [2, 3, 99, 100, 101, 102, 103, 104, 105, 106, 107, 108, 109, 110, 111, 112, 113, 114, 115, 116] [(2, (.int .i32 (bwOr .i32 (bwOr .i32 (bwOr .i32 (IntKind.i32.wrap ((IntKind.i32.wrap ((bwAnd .u8 x2 7))) * 2 ^ 18)) (IntKind.i32.wrap ((IntKind.i32.wrap ((bwAnd .u8 x32 63))) * 2 ^ 12))) (IntKind.i32.wrap ((IntKind.i32.wrap ((bwAnd .u8 x49 63))) * 2 ^ 6))) (IntKind.i32.wrap ((bwAnd .u8 x57 63)))))), (3, (.int .i64 4))] (by kernel_rfl) ?_
            refine bindE h0 ?_; clear h0; intro n62 hn63 h0
            refine gv_name (s := 2) (v := (.int .i32 (bwOr .i32 (bwOr .i32 (bwOr .i32 (IntKind.i32.wrap ((IntKind.i32.wrap ((bwAnd .u8 x2 7))) * 2 ^ 18)) (IntKind.i32.wrap ((IntKind.i32.wrap ((bwAnd .u8 x32 63))) * 2 ^ 12))) (IntKind.i32.wrap ((IntKind.i32.wrap ((bwAnd .u8 x49 63))) * 2 ^ 6))) (IntKind.i32.wrap ((bwAnd .u8 x57 63)))))) (v' := (.int .i32 n62)) (by kernel_rfl) (congrArg (Value.int .i32) (sj hn63)) ?_
            refine gv_nil <| gv_cret ?_
            have e := sj h0; subst e
            refine gv_ret (gv_done [(.int .i32 n62), (.int .i64 4)] rfl ⟨(by kernel_rfl), (by kernel_rfl), trivial⟩ ?_)
            exact ⟨grown_of_below hB43, rfl⟩

theorem utf8_DecodeRuneInString_ok (fuel : Nat) (s_0 : ByteArray) (w0 : World) (X0 : Nat → Prop) (hX0 : ∀ k, X0 k → k < w0.heap.size) (hG1 : Rd bE w0 X0 (some ⟨1, 0, none⟩) 256 utf8First) (hG2 : Rd (prE (iE .u8) (iE .u8)) w0 X0 (some ⟨2, 0, none⟩) 16 utf8Acc) (r0 : (Int × Int)) (h0 : utf8_DecodeRuneInString fuel s_0 = some r0) :
    Calls Tryd.prog 102 ([(.string s_0)] : List Value).toArray w0 (Ret fun v w' => w0.grownBy w' none ∧ v = tup [(.int .i32 r0.1), (.int .i64 r0.2)]) := by
 have hB0 : Below w0.heap.size w0 w0 := Below.refl _ _
 unfold utf8_DecodeRuneInString at h0
 refine calls_run Tryd.func102 rfl Tryd.ntmps102 (by kernel_rfl) ?_
 refine gv_sub [0] (σ' := [(0, (.string s_0))]) (by kernel_rfl) ?_
 refine gv_seq <| gv_region <| gv_pureN 2 [2, 3] [] (by kernel_rfl) ?_
 refine gv_nil <| gv_seq <| gv_seq <| gv_region <| bindE h0 ?_; clear h0; intro j1 h1 h0
 refine gv_cut_ops (J := fun a w2 => Below w0.heap.size w0 w2 ∧ w0.heap.size ≤ w2.heap.size ∧ a.defers = [] ∧ a.tmps.size = 19 ∧ Ok [(0, (.string s_0)), (10, (.bool j1))] a.tmps) ?_ ?_
 ·skip
  refine gv_pureN 3 [4, 5, 6] [(6, (.bool (!(s_0.toList == (strOf []).toList))))] (by kernel_rfl) ?_
  refine gv_split (s := 6) (g := (!(s_0.toList == (strOf []).toList))) (by kernel_rfl) (fun hc3 => ?_) (fun hc3 => ?_)
  ·skip
   replace h1 := ite_t hc3 h1
   refine gv_pureN 1 [7] [(7, (.string s_0))] (by kernel_rfl) ?_
   refine bindE h1 ?_; clear h1; intro x4 hx5 h1
   refine gv_sindex (t := 9) (s := s_0) (kk := .i64) (i := 0) x4 [] (fun e => by cases e) rfl rfl rfl (by kernel_rfl) (by kernel_rfl) Tryd.underlying9 hx5 rfl ?_
   refine gv_pureN 2 [9, 10] [(10, (.bool (decide (x4 < 128))))] (by kernel_rfl) ?_
   refine gv_nil ?_
   have e := sj h1; subst e
   refine gv_goal fun a hd hs hok => ?_
   exact ⟨hB0, (Nat.le_refl _), hd, hs, ok_pick [0, 10] hok (by kernel_rfl)⟩
  ·skip
   replace h1 := ite_f hc3 h1
   refine gv_pureN 4 [7, 8, 9, 10] [(10, (.bool false))] (by kernel_rfl) ?_
   refine gv_nil ?_
   have e := sj h1; subst e
   refine gv_goal fun a hd hs hok => ?_
   exact ⟨hB0, (Nat.le_refl _), hd, hs, ok_pick [0, 10] hok (by kernel_rfl)⟩
 ·rintro a w2 ⟨hB6, hz7, hd, hs, hok⟩
  refine gv_in ?_ hd hs hok
  clear hd hs hok
  refine gv_cond (b := j1) (by kernel_rfl) (fun hc8 => ?_) (fun hc8 => ?_)
  ·replace h0 := ite_t hc8 h0
   refine gv_seq <| gv_region <| gv_pureN 1 [11] [(11, (.string s_0))] (by kernel_rfl) ?_
   refine bindE h0 ?_; clear h0; intro x9 hx10 h0
   refine gv_sindex (t := 9) (s := s_0) (kk := .i64) (i := 0) x9 [] (fun e => by cases e) rfl rfl rfl (by kernel_rfl) (by kernel_rfl) Tryd.underlying9 hx10 rfl ?_
   refine gv_pureN 3 [2, 3, 13] [(2, (.int .i32 (IntKind.i32.wrap (x9)))), (3, (.int .i64 1))] (by kernel_rfl) ?_
   refine gv_nil <| gv_cret ?_
   have e := sj h0; subst e
   refine gv_ret (gv_done [(.int .i32 (IntKind.i32.wrap (x9))), (.int .i64 1)] rfl ⟨(by kernel_rfl), (by kernel_rfl), trivial⟩ ?_)
   exact ⟨grown_of_below hB6, rfl⟩
  ·replace h0 := ite_f hc8 h0
   refine gv_region <| gv_pureN 1 [15] [(15, (.string s_0))] (by kernel_rfl) ?_
   refine bindE h0 ?_; clear h0; intro r11 hr12 h0
   refine gv_call0 (by kernel_rfl) rfl (by kernel_rfl) enters126 (utf8_decodeRuneInStringSlow_ok fuel s_0 w2 (fun k => X0 k ∨ X0 k) (fun k hk => (hk).elim (fun h => (fun k (hk : X0 k) => ltl (hX0 k hk) hB6.size) k h) (fun h => (fun k (hk : X0 k) => ltl (hX0 k hk) hB6.size) k h)) ((hG1.below hB6 hX0).wide (fun k hk => (.inl hk))) ((hG2.below hB6 hX0).wide (fun k hk => (.inr hk))) r11 hr12) ?_
   rintro v15 w13 ⟨hg14, rfl⟩
   refine gv_pureN 5 [2, 3, 14, 17, 18] [(2, (.int .i32 r11.1)), (3, (.int .i64 r11.2))] (by kernel_rfl) ?_
   refine gv_nil <| gv_cret ?_
   have e := sj h0; subst e
   refine gv_ret (gv_done [(.int .i32 r11.1), (.int .i64 r11.2)] rfl ⟨(by kernel_rfl), (by kernel_rfl), trivial⟩ ?_)
   have hB16 := bg hB6 hg14 nb
   exact ⟨grown_of_below hB16, rfl⟩

theorem textstr_Split_ok (fuel : Nat) (s_0 : ByteArray) (sep_1 : ByteArray) (most_2 : Int) (w0 : World) (X0 : Nat → Prop) (hX0 : ∀ k, X0 k → k < w0.heap.size) {gmx : Int} (hG0 : Rd (iE .i64) w0 X0 (some ⟨0, 0, none⟩) 1 [gmx]) (hG1 : Rd bE w0 X0 (some ⟨1, 0, none⟩) 256 utf8First) (hG2 : Rd (prE (iE .u8) (iE .u8)) w0 X0 (some ⟨2, 0, none⟩) 16 utf8Acc) (r0 : ((List ByteArray) × (Int × Int))) (h0 : textstr_Split fuel s_0 sep_1 most_2 = some r0) :
    Calls Tryd.prog 46 ([(.string s_0), (.string sep_1), (.int .i64 most_2)] : List Value).toArray w0 (Ret fun v w' => w0.grownBy w' none ∧ ∃ (a0_0r : Option Addr) (c0_0r : Nat), ∃ (X0_0r : Nat → Prop), v = tup [(.slice a0_0r (List.length r0.1) c0_0r), (.agg #[(.int .i64 r0.2.1), (.int .i64 r0.2.2)])] ∧ Rd sE w' X0_0r a0_0r c0_0r r0.1 ∧ (∀ k, X0_0r k → k < w'.heap.size ∧ (X0 k ∨ w0.heap.size ≤ k))) := by
 have hB0 : Below w0.heap.size w0 w0 := Below.refl _ _
 unfold textstr_Split at h0
 refine calls_run Tryd.func46 rfl Tryd.ntmps46 (by kernel_rfl) ?_
 refine gv_sub [0, 1, 2] (σ' := [(0, (.string s_0)), (1, (.string sep_1)), (2, (.int .i64 most_2))]) (by kernel_rfl) ?_
 refine gv_seq <| gv_region <| gv_pureN 1 [6] [] (by kernel_rfl) ?_
 refine gv_new0 (fun b => .pointer (some ⟨b, 0, none⟩)) #[(.int .i64 0), (.int .i64 0)] 24 (by kernel_rfl) (by kernel_rfl) ?_
 intro b1 w2 hg3 hb4 hbe5 hz6
 refine gv_nil <| gv_seq <| gv_seq <| gv_region <| gv_pureN 2 [9, 10] [(9, (.string s_0)), (10, (.string sep_1))] (by kernel_rfl) ?_
 refine gv_new0 (fun b => .slice (some ⟨b, 0, none⟩) 2 2) #[(.string s_0), (.string sep_1)] 9 (by kernel_rfl) (by kernel_rfl) ?_
 intro b7 w8 hg9 hb10 hbe11 hz12
 have ho13 : Gv.Own sE 9 w8 (fun _ => False) (some ⟨b7, 0, none⟩) 2 ([s_0, sep_1] : List ByteArray) := Box.ownE hb10 ⟨[(.string s_0)], [(.string sep_1)], rfl, rfl, ⟨[(.string sep_1)], [], rfl, rfl, rfl⟩⟩ (show 2 ≤ maxLen by decide) (fun h => h)
 have hB18 := bg hB0 hg3 nb
 have hl14 : ∀ g, blk (some ⟨b7, 0, none⟩) = some g → w0.heap.size ≤ g := loo hbe11 hB18.size
 refine bindE h0 ?_; clear h0; intro r19 hr20 h0
 have hB21 := bg hB18 hg9 nb
 refine gv_call0 (by kernel_rfl) rfl (by kernel_rfl) enters58 (textstr_check_ok fuel (some ⟨b7, 0, none⟩) 2 ([s_0, sep_1] : List ByteArray) w8 (fun k => (fun k => blk (some ⟨b7, 0, none⟩) = some k) k ∨ X0 k ∨ X0 k) (fun k hk => (hk).elim (fun h => (fun k (hk : blk (some ⟨b7, 0, none⟩) = some k) => ho13.lt k hk) k h) (fun h => (h).elim (fun h => (fun k (hk : X0 k) => ltl (hX0 k hk) hB21.size) k h) (fun h => (fun k (hk : X0 k) => ltl (hX0 k hk) hB21.size) k h))) ((ho13.rd (Y := fun k => blk (some ⟨b7, 0, none⟩) = some k) (fun _ h => h.elim) (fun g e => e)).wide (fun k hk => (.inl hk))) ((hG1.below hB21 hX0).wide (fun k hk => (.inr (.inl hk)))) ((hG2.below hB21 hX0).wide (fun k hk => (.inr (.inr hk)))) r19 hr20) ?_
 rintro v24 w22 ⟨hg23, rfl⟩
 refine gv_new0 (fun b => .pointer (some ⟨b, 0, none⟩)) #[(.int .i64 0), (.int .i64 0)] 24 (by kernel_rfl) (by kernel_rfl) ?_
 intro b25 w26 hg27 hb28 hbe29 hz30
 refine gv_store0 24 0 (.agg #[(.int .i64 r19.1), (.int .i64 r19.2)]) #[(.int .i64 r19.1), (.int .i64 r19.2)] hb28 (by kernel_rfl) (by kernel_rfl) (by kernel_rfl) ?_
 intro w31 hg32 hb33 hz34
 refine gv_nil <| gv_seq <| gv_region <| gv_pureN 1 [13] [(13, (bp b25))] (by kernel_rfl) ?_
 refine gv_load (t := 3) (A := ⟨b25, 0, none⟩) (.int .i64 r19.1) [] (fun e => by cases e) rfl rfl rfl (by kernel_rfl) (by kernel_rfl) (by kernel_rfl) (inw0 (hb33.cell 0 rfl)) rfl ?_
 refine gv_pureN 1 [15] [(15, (.bool (r19.1 != 0)))] (by kernel_rfl) ?_
 refine gv_nil <| gv_cond (b := (r19.1 != 0)) (by kernel_rfl) (fun hc35 => ?_) (fun hc35 => ?_)
 ·replace h0 := ite_t hc35 h0
  refine gv_seq <| gv_drawA (by kernel_rfl) ?_
  intro w36 hg37
  refine gv_pre [1] (bA 3 [1]) 2 (by kernel_rfl) (by kernel_rfl) ?_
  refine gv_pureN 1 [6] [(6, (.slice none (List.length ([] : List ByteArray)) 0))] (by kernel_rfl) ?_
  refine gv_nil <| gv_goA ?_
  refine gv_stage (Cls w36 []) [0, 1] [(0, some true)] (bA 3 [0, 1]) 1 (by kernel_rfl) (by kernel_rfl) (Cls.refl _ _) ?_
  have hC38 := Cls.refl w36 []
  have hk39 := hb33.grown hg37 nb
  refine gv_loadBox (t := 24) (b := b25) (t' := 24) (fr := (0, 0)) #[(.int .i64 r19.1), (.int .i64 r19.2)] [] (fun e => by cases e) rfl rfl rfl (by kernel_rfl) (by kernel_rfl) (by kernel_rfl) (by kernel_rfl) (inw1 fun w' hC' => (hC'.box hk39 nm_nil)) rfl ?_
  refine gv_nil <| gv_goA ?_
  refine gv_stage (fun _ => True) [0, 1, 2] [(2, some false)] (bA 3 [0, 1, 2]) 0 (by kernel_rfl) (by kernel_rfl) trivial ?_
  have hg44 := (grown_trans (grown_trans hg9 hg23) hg27)
  have hg45 := (grown_trans hg9 hg23)
  have hk46 := hb4.grown hg45 nb
  have lt47 := ltl ((ltb hk46) _ rfl) ((lowb hbe29) _ rfl)
  have hk48 := ((hb4.grown hg44 nb).grown hg32 (rowne (ng lt47))).grown hg37 nb
  refine gv_store (t := 24) (b := b1) (off := 0) (v := (.agg #[(.int .i64 r19.1), (.int .i64 r19.2)])) (t' := 24) (cs := #[(.int .i64 0), (.int .i64 0)]) #[(.int .i64 r19.1), (.int .i64 r19.2)] (by decide) rfl rfl (by kernel_rfl) (by kernel_rfl) (by kernel_rfl) (by intro u hu; simp [Value.cells] at hu; rcases hu with rfl | rfl <;> rfl) (show 0 + 2 ≤ 2 by decide) (by rfl) hk48 ?_
  intro w40 hg41 hb42 hz43
  refine ⟨(fun _ => trivial), ?_⟩
  refine gv_nil <| gv_goA ?_
  refine gv_stageE (by kernel_rfl) ?_
  refine gv_cret ?_
  have e := sj h0; subst e
  refine gv_ret (gv_done [(.slice none (List.length ([] : List ByteArray)) 0), (.agg #[(.int .i64 r19.1), (.int .i64 r19.2)])] rfl ⟨(by kernel_rfl), ⟨⟨b1, 0, none⟩, (by kernel_rfl), run_loadVar_row w40 b1 _ 24 _ _ _ hb42 Tryd.underlying24 rfl (by kernel_rfl)⟩, trivial⟩ ?_)
  have hg49 := (grown_trans hg23 hg27)
  have hB50 := bg hB21 hg49 nb
  have hB51 := bg hB21 hg23 nb
  have hlo52 : w0.heap.size ≤ b25 := lob hbe29 hB51.size
  have hB53 := bg hB50 hg32 (rowlo hlo52)
  have hB54 := bg hB53 hg37 nb
  have hlo55 : w0.heap.size ≤ b1 := lob hbe5 hB0.size
  have hB56 := bg hB54 hg41 (rowlo hlo55)
  exact ⟨grown_of_below hB56, none, 0, (fun _ => False), rfl, (Rd.nil sE w40 (fun _ => False) none 0), (fun k hk => ⟨(fun _ h => h.elim) k hk, (fun _ h => h.elim) k hk⟩)⟩
 ·replace h0 := ite_f hc35 h0
  refine gv_skip <| gv_seq <| gv_seq <| gv_region <| gv_pureN 2 [17, 18] [(18, (.bool (sep_1.toList == (strOf []).toList)))] (by kernel_rfl) ?_
  refine gv_nil <| gv_cond (b := (sep_1.toList == (strOf []).toList)) (by kernel_rfl) (fun hc57 => ?_) (fun hc57 => ?_)
  ·replace h0 := ite_t hc57 h0
   refine gv_seq <| gv_region <| bindE h0 ?_; clear h0; intro r58 hr59 h0
   refine gv_call0 (by kernel_rfl) rfl (by kernel_rfl) enters56 (textstr_at_ok fuel 10 (-2) w31  r58 hr59) ?_
   rintro v62 w60 ⟨hg61, rfl⟩
   clear hr59 hc57 hc35 hz34 hb33 hz30 hb28 hr20 hl14 hB18 ho13 hz12 hbe11 hb10 hz6 hg3
   refine gv_pureN 1 [6] [(6, (.slice none (List.length ([] : List ByteArray)) 0))] (by kernel_rfl) ?_
   have hg67 := (grown_trans (grown_trans hg9 hg23) hg27)
   have hg68 := (grown_trans hg9 hg23)
   have hk69 := hb4.grown hg68 nb
   have lt70 := ltl ((ltb hk69) _ rfl) ((lowb hbe29) _ rfl)
   have hk71 := ((hb4.grown hg67 nb).grown hg32 (rowne (ng lt70))).grown hg61 nb
   refine gv_store0 24 0 (.agg #[(.int .i64 r58.1), (.int .i64 r58.2)]) #[(.int .i64 r58.1), (.int .i64 r58.2)] hk71 (by kernel_rfl) (by kernel_rfl) (by kernel_rfl) ?_
   intro w63 hg64 hb65 hz66
   refine gv_nil <| gv_cret ?_
   have e := sj h0; subst e
   refine gv_ret (gv_done [(.slice none (List.length ([] : List ByteArray)) 0), (.agg #[(.int .i64 r58.1), (.int .i64 r58.2)])] rfl ⟨(by kernel_rfl), ⟨⟨b1, 0, none⟩, (by kernel_rfl), run_loadVar_row w63 b1 _ 24 _ _ _ hb65 Tryd.underlying24 rfl (by kernel_rfl)⟩, trivial⟩ ?_)
   have hg72 := (grown_trans hg23 hg27)
   have hB73 := bg hB21 hg72 nb
   have hB74 := bg hB21 hg23 nb
   have hlo75 : w0.heap.size ≤ b25 := lob hbe29 hB74.size
   have hB76 := bg hB73 hg32 (rowlo hlo75)
   have hB77 := bg hB76 hg61 nb
   have hlo78 : w0.heap.size ≤ b1 := lob hbe5 hB0.size
   have hB79 := bg hB77 hg64 (rowlo hlo78)
   exact ⟨grown_of_below hB79, none, 0, (fun _ => False), rfl, (Rd.nil sE w63 (fun _ => False) none 0), (fun k hk => ⟨(fun _ h => h.elim) k hk, (fun _ h => h.elim) k hk⟩)⟩
  ·replace h0 := ite_f hc57 h0
   refine gv_skip <| gv_seq <| gv_seq <| gv_region <| gv_pureN 2 [20, 21] [(21, (.bool (decide (most_2 < 0))))] (by kernel_rfl) ?_
   refine gv_nil <| gv_cond (b := (decide (most_2 < 0))) (by kernel_rfl) (fun hc80 => ?_) (fun hc80 => ?_)
   ·replace h0 := ite_t hc80 h0
    refine gv_seq <| gv_region <| gv_pureN 2 [22, 23] [(22, (.string s_0)), (23, (.string sep_1))] (by kernel_rfl) ?_
    refine bindE h0 ?_; clear h0; intro r81 hr82 h0
    have hg83 := (grown_trans hg23 hg27)
    have hB84 := bg hB21 hg83 nb
    have hB85 := bg hB21 hg23 nb
    have hlo86 : w0.heap.size ≤ b25 := lob hbe29 hB85.size
    have hB87 := bg hB84 hg32 (rowlo hlo86)
    refine gv_call0 (by kernel_rfl) rfl (by kernel_rfl) enters80 (strings_Split_ok fuel s_0 sep_1 w31 (fun k => X0 k ∨ X0 k ∨ X0 k) (fun k hk => (hk).elim (fun h => (fun k (hk : X0 k) => ltl (hX0 k hk) hB87.size) k h) (fun h => (h).elim (fun h => (fun k (hk : X0 k) => ltl (hX0 k hk) hB87.size) k h) (fun h => (fun k (hk : X0 k) => ltl (hX0 k hk) hB87.size) k h))) ((hG0.below hB87 hX0).wide (fun k hk => (.inl hk))) ((hG1.below hB87 hX0).wide (fun k hk => (.inr (.inl hk)))) ((hG2.below hB87 hX0).wide (fun k hk => (.inr (.inr hk)))) r81 hr82) ?_
    rintro v90 w88 ⟨hg89, a91, c92, rfl, ho93, hl94⟩
    have hl95 : ∀ g, blk a91 = some g → w0.heap.size ≤ g := fun g e => Nat.le_trans hB87.size (hl94 g e)
    refine gv_sub [7, 24] (σ' := [(7, (bp b1)), (24, (.slice a91 (List.length r81) c92))]) (by kernel_rfl) ?_
    refine bindE h0 ?_; clear h0; intro r96 hr97 h0
    refine gv_call0 (by kernel_rfl) rfl (by kernel_rfl) enters57 (textstr_pieces_ok fuel a91 c92 r81 w88 (fun k => (fun k => blk a91 = some k) k) (fun k hk => (fun k (hk : blk a91 = some k) => ho93.lt k hk) k hk) ((ho93.rd (Y := fun k => blk a91 = some k) (fun _ h => h.elim) (fun g e => e)).wide (fun k hk => hk)) r96 hr97) ?_
    rintro v100 w98 ⟨hg99, a101, c102, X104, rfl, ho103, hx105⟩
    have hx106 : ∀ k, X104 k → k < w98.heap.size := fun k hk => (hx105 k hk).1
    have hB108 := bg hB87 hg89 nb
    have hx107 : ∀ k, X104 k → X0 k ∨ w0.heap.size ≤ k := fun k hk => (hx105 k hk).2.elim (fun h => (fun k (hk : blk a91 = some k) => Or.inr (hl95 k hk)) k h) (fun h => .inr (Nat.le_trans hB108.size h))
    refine gv_pureN 3 [6, 26, 27] [(6, (.slice a101 (List.length r96.1) c102)), (27, (.agg #[(.int .i64 r96.2.1), (.int .i64 r96.2.2)]))] (by kernel_rfl) ?_
    have hg113 := (grown_trans hg9 hg83)
    have hg114 := (grown_trans hg9 hg23)
    have hk115 := hb4.grown hg114 nb
    have lt116 := ltl ((ltb hk115) _ rfl) ((lowb hbe29) _ rfl)
    have hg117 := (grown_trans hg89 hg99)
    have hk118 := ((hb4.grown hg113 nb).grown hg32 (rowne (ng lt116))).grown hg117 nb
    refine gv_store0 24 0 (.agg #[(.int .i64 r96.2.1), (.int .i64 r96.2.2)]) #[(.int .i64 r96.2.1), (.int .i64 r96.2.2)] hk118 (by kernel_rfl) (by kernel_rfl) (by kernel_rfl) ?_
    intro w109 hg110 hb111 hz112
    refine gv_nil <| gv_cret ?_
    have e := sj h0; subst e
    refine gv_ret (gv_done [(.slice a101 (List.length r96.1) c102), (.agg #[(.int .i64 r96.2.1), (.int .i64 r96.2.2)])] rfl ⟨(by kernel_rfl), ⟨⟨b1, 0, none⟩, (by kernel_rfl), run_loadVar_row w109 b1 _ 24 _ _ _ hb111 Tryd.underlying24 rfl (by kernel_rfl)⟩, trivial⟩ ?_)
    have hB119 := bg hB108 hg99 nb
    have hlo120 : w0.heap.size ≤ b1 := lob hbe5 hB0.size
    have hB121 := bg hB119 hg110 (rowlo hlo120)
    have hk122 := (hk115.grown hg27 nb).grown hg32 (rowne (ng lt116))
    have ap123 : ¬ (fun k => blk a91 = some k) b1 := fun hx => nl ((show ∀ k, blk a91 = some k → w31.heap.size ≤ k from hl94) _ hx) ((ltb hk122) _ rfl)
    have hk124 := hk122.grown hg89 nb
    have ap125 : ¬ X104 b1 := fun h => ((hx105 _ h).2.elim (fun h => (ap123)  h) (fun h => nl h (hk124.lt)))
    have hk126 := ho103.grown hg110 hx106 (rowne ap125)
    have hx127 := ltx hx106 hg110.size
    exact ⟨grown_of_below hB121, a101, c102, X104, rfl, hk126, (fun k hk => ⟨hx127 k hk, hx107 k hk⟩)⟩
   ·replace h0 := ite_f hc80 h0
    refine gv_skip <| gv_seq <| gv_region <| gv_pureN 5 [28, 29, 30, 31, 32] [(28, (.string s_0)), (29, (.string sep_1)), (32, (.int .i64 (IntKind.i64.wrap ((if 4000 < most_2 then 4000 else most_2) + 1))))] (by kernel_rfl) ?_
    refine bindE h0 ?_; clear h0; intro r128 hr129 h0
    have hg130 := (grown_trans hg23 hg27)
    have hB131 := bg hB21 hg130 nb
    have hB132 := bg hB21 hg23 nb
    have hlo133 : w0.heap.size ≤ b25 := lob hbe29 hB132.size
    have hB134 := bg hB131 hg32 (rowlo hlo133)
    refine gv_call0 (by kernel_rfl) rfl (by kernel_rfl) enters81 (strings_SplitN_ok fuel s_0 sep_1 (IntKind.i64.wrap ((if 4000 < most_2 then 4000 else most_2) + 1)) w31 (fun k => X0 k ∨ X0 k ∨ X0 k) (fun k hk => (hk).elim (fun h => (fun k (hk : X0 k) => ltl (hX0 k hk) hB134.size) k h) (fun h => (h).elim (fun h => (fun k (hk : X0 k) => ltl (hX0 k hk) hB134.size) k h) (fun h => (fun k (hk : X0 k) => ltl (hX0 k hk) hB134.size) k h))) ((hG0.below hB134 hX0).wide (fun k hk => (.inl hk))) ((hG1.below hB134 hX0).wide (fun k hk => (.inr (.inl hk)))) ((hG2.below hB134 hX0).wide (fun k hk => (.inr (.inr hk)))) r128 hr129) ?_
    rintro v137 w135 ⟨hg136, a138, c139, rfl, ho140, hl141⟩
    have hl142 : ∀ g, blk a138 = some g → w0.heap.size ≤ g := fun g e => Nat.le_trans hB134.size (hl141 g e)
    refine gv_sub [7, 33] (σ' := [(7, (bp b1)), (33, (.slice a138 (List.length r128) c139))]) (by kernel_rfl) ?_
    refine bindE h0 ?_; clear h0; intro r143 hr144 h0
    refine gv_call0 (by kernel_rfl) rfl (by kernel_rfl) enters57 (textstr_pieces_ok fuel a138 c139 r128 w135 (fun k => (fun k => blk a138 = some k) k) (fun k hk => (fun k (hk : blk a138 = some k) => ho140.lt k hk) k hk) ((ho140.rd (Y := fun k => blk a138 = some k) (fun _ h => h.elim) (fun g e => e)).wide (fun k hk => hk)) r143 hr144) ?_
    rintro v147 w145 ⟨hg146, a148, c149, X151, rfl, ho150, hx152⟩
    have hx153 : ∀ k, X151 k → k < w145.heap.size := fun k hk => (hx152 k hk).1
    have hB155 := bg hB134 hg136 nb
    have hx154 : ∀ k, X151 k → X0 k ∨ w0.heap.size ≤ k := fun k hk => (hx152 k hk).2.elim (fun h => (fun k (hk : blk a138 = some k) => Or.inr (hl142 k hk)) k h) (fun h => .inr (Nat.le_trans hB155.size h))
    refine gv_pureN 3 [6, 35, 36] [(6, (.slice a148 (List.length r143.1) c149)), (36, (.agg #[(.int .i64 r143.2.1), (.int .i64 r143.2.2)]))] (by kernel_rfl) ?_
    have hg160 := (grown_trans hg9 hg130)
    have hg161 := (grown_trans hg9 hg23)
    have hk162 := hb4.grown hg161 nb
    have lt163 := ltl ((ltb hk162) _ rfl) ((lowb hbe29) _ rfl)
    have hg164 := (grown_trans hg136 hg146)
    have hk165 := ((hb4.grown hg160 nb).grown hg32 (rowne (ng lt163))).grown hg164 nb
    refine gv_store0 24 0 (.agg #[(.int .i64 r143.2.1), (.int .i64 r143.2.2)]) #[(.int .i64 r143.2.1), (.int .i64 r143.2.2)] hk165 (by kernel_rfl) (by kernel_rfl) (by kernel_rfl) ?_
    intro w156 hg157 hb158 hz159
    refine gv_nil <| gv_cret ?_
    have e := sj h0; subst e
    refine gv_ret (gv_done [(.slice a148 (List.length r143.1) c149), (.agg #[(.int .i64 r143.2.1), (.int .i64 r143.2.2)])] rfl ⟨(by kernel_rfl), ⟨⟨b1, 0, none⟩, (by kernel_rfl), run_loadVar_row w156 b1 _ 24 _ _ _ hb158 Tryd.underlying24 rfl (by kernel_rfl)⟩, trivial⟩ ?_)
    have hB166 := bg hB155 hg146 nb
    have hlo167 : w0.heap.size ≤ b1 := lob hbe5 hB0.size
    have hB168 := bg hB166 hg157 (rowlo hlo167)
    have hk169 := (hk162.grown hg27 nb).grown hg32 (rowne (ng lt163))
    have ap170 : ¬ (fun k => blk a138 = some k) b1 := fun hx => nl ((show ∀ k, blk a138 = some k → w31.heap.size ≤ k from hl141) _ hx) ((ltb hk169) _ rfl)
    have hk171 := hk169.grown hg136 nb
    have ap172 : ¬ X151 b1 := fun h => ((hx152 _ h).2.elim (fun h => (ap170)  h) (fun h => nl h (hk171.lt)))
    have hk173 := ho150.grown hg157 hx153 (rowne ap172)
    have hx174 := ltx hx153 hg157.size
    exact ⟨grown_of_below hB168, a148, c149, X151, rfl, hk173, (fun k hk => ⟨hx174 k hk, hx154 k hk⟩)⟩

theorem utf8_RuneLen_ok (fuel : Nat) (r_0 : Int) (w0 : World)  (r0 : Int) (h0 : utf8_RuneLen fuel r_0 = some r0) :
    Calls Tryd.prog 113 ([(.int .i32 r_0)] : List Value).toArray w0 (Ret fun v w' => w0.grownBy w' none ∧ v = tup [(.int .i64 r0)]) := by
 have hB0 : Below w0.heap.size w0 w0 := Below.refl _ _
 unfold utf8_RuneLen at h0
 refine calls_run Tryd.func113 rfl Tryd.ntmps113 (by kernel_rfl) ?_
 refine gv_sub [0] (σ' := [(0, (.int .i32 r_0))]) (by kernel_rfl) ?_
 refine gv_seq <| gv_region <| gv_pureN 1 [2] [] (by kernel_rfl) ?_
 refine gv_nil <| gv_seq <| gv_block <| gv_seq <| gv_region <| gv_pureN 3 [3, 4, 5] [(3, (.bool (decide (r_0 < 0))))] (by kernel_rfl) ?_
 refine gv_nil <| gv_cond (b := (decide (r_0 < 0))) (by kernel_rfl) (fun hc1 => ?_) (fun hc1 => ?_)
 ·replace h0 := ite_t hc1 h0
  refine gv_seq <| gv_region <| gv_pureN 1 [2] [(2, (.int .i64 (-1)))] (by kernel_rfl) ?_
  refine gv_nil <| gv_cret ?_
  have e := sj h0; subst e
  refine gv_ret (gv_done [(.int .i64 (-1))] rfl ⟨(by kernel_rfl), trivial⟩ ?_)
  exact ⟨grown_of_below hB0, rfl⟩
 ·replace h0 := ite_f hc1 h0
  refine gv_seq <| gv_region <| gv_pureN 3 [6, 7, 8] [(6, (.bool (decide (r_0 ≤ 127))))] (by kernel_rfl) ?_
  refine gv_nil <| gv_cond (b := (decide (r_0 ≤ 127))) (by kernel_rfl) (fun hc2 => ?_) (fun hc2 => ?_)
  ·replace h0 := ite_t hc2 h0
   refine gv_seq <| gv_region <| gv_pureN 1 [2] [(2, (.int .i64 1))] (by kernel_rfl) ?_
   refine gv_nil <| gv_cret ?_
   have e := sj h0; subst e
   refine gv_ret (gv_done [(.int .i64 1)] rfl ⟨(by kernel_rfl), trivial⟩ ?_)
   exact ⟨grown_of_below hB0, rfl⟩
  ·replace h0 := ite_f hc2 h0
   refine gv_seq <| gv_region <| gv_pureN 3 [9, 10, 11] [(9, (.bool (decide (r_0 ≤ 2047))))] (by kernel_rfl) ?_
   refine gv_nil <| gv_cond (b := (decide (r_0 ≤ 2047))) (by kernel_rfl) (fun hc3 => ?_) (fun hc3 => ?_)
   ·replace h0 := ite_t hc3 h0
    refine gv_seq <| gv_region <| gv_pureN 1 [2] [(2, (.int .i64 2))] (by kernel_rfl) ?_
    refine gv_nil <| gv_cret ?_
    have e := sj h0; subst e
    refine gv_ret (gv_done [(.int .i64 2)] rfl ⟨(by kernel_rfl), trivial⟩ ?_)
    exact ⟨grown_of_below hB0, rfl⟩
   ·replace h0 := ite_f hc3 h0
    refine gv_seq <| gv_region <| gv_cut_ops (J := fun a w4 => w0 = w4 ∧ a.defers = [] ∧ a.tmps.size = 25 ∧ Ok [(0, (.int .i32 r_0)), (12, (.bool ((decide (55296 ≤ r_0)) && (decide (r_0 ≤ 57343)))))] a.tmps) ?_ ?_
    ·skip
     refine gv_pureN 3 [13, 14, 15] [(15, (.bool (decide (55296 ≤ r_0))))] (by kernel_rfl) ?_
     refine gv_split (s := 15) (g := (decide (55296 ≤ r_0))) (by kernel_rfl) (fun hc5 => ?_) (fun hc5 => ?_)
     ·skip
      refine gv_pureN 4 [12, 16, 17, 18] [(12, (.bool (decide (r_0 ≤ 57343))))] (by kernel_rfl) ?_
      refine gv_nil <| gv_sub [0, 12] (σ' := [(0, (.int .i32 r_0)), (12, (.bool (decide (r_0 ≤ 57343))))]) (by kernel_rfl) ?_
      refine gv_goal fun a hd hs hok => ⟨rfl, hd, hs, ?_⟩
      obtain ⟨q0, q12, _⟩ := hok
      exact ⟨q0, (by rw [hc5]; exact q12), trivial⟩
     ·skip
      refine gv_pureN 4 [12, 16, 17, 18] [(12, (.bool false))] (by kernel_rfl) ?_
      refine gv_nil <| gv_sub [0, 12] (σ' := [(0, (.int .i32 r_0)), (12, (.bool false))]) (by kernel_rfl) ?_
      refine gv_goal fun a hd hs hok => ⟨rfl, hd, hs, ?_⟩
      obtain ⟨q0, q12, _⟩ := hok
      exact ⟨q0, (by rw [hc5]; exact q12), trivial⟩
    ·rintro a w4 ⟨e, hd, hs, hok⟩; subst e
     refine gv_in ?_ hd hs hok
     clear hd hs hok
     refine gv_cond (b := ((decide (55296 ≤ r_0)) && (decide (r_0 ≤ 57343)))) (by kernel_rfl) (fun hc6 => ?_) (fun hc6 => ?_)
     ·replace h0 := ite_t hc6 h0
      refine gv_seq <| gv_region <| gv_pureN 1 [2] [(2, (.int .i64 (-1)))] (by kernel_rfl) ?_
      refine gv_nil <| gv_cret ?_
      have e := sj h0; subst e
      refine gv_ret (gv_done [(.int .i64 (-1))] rfl ⟨(by kernel_rfl), trivial⟩ ?_)
      exact ⟨grown_of_below hB0, rfl⟩
     ·replace h0 := ite_f hc6 h0
      refine gv_seq <| gv_region <| gv_pureN 3 [19, 20, 21] [(19, (.bool (decide (r_0 ≤ 65535))))] (by kernel_rfl) ?_
      refine gv_nil <| gv_cond (b := (decide (r_0 ≤ 65535))) (by kernel_rfl) (fun hc7 => ?_) (fun hc7 => ?_)
      ·replace h0 := ite_t hc7 h0
       refine gv_seq <| gv_region <| gv_pureN 1 [2] [(2, (.int .i64 3))] (by kernel_rfl) ?_
       refine gv_nil <| gv_cret ?_
       have e := sj h0; subst e
       refine gv_ret (gv_done [(.int .i64 3)] rfl ⟨(by kernel_rfl), trivial⟩ ?_)
       exact ⟨grown_of_below hB0, rfl⟩
      ·replace h0 := ite_f hc7 h0
       refine gv_seq <| gv_region <| gv_pureN 3 [22, 23, 24] [(22, (.bool (decide (r_0 ≤ 1114111))))] (by kernel_rfl) ?_
       refine gv_nil <| gv_cond (b := (decide (r_0 ≤ 1114111))) (by kernel_rfl) (fun hc8 => ?_) (fun hc8 => ?_)
       ·replace h0 := ite_t hc8 h0
        refine gv_seq <| gv_region <| gv_pureN 1 [2] [(2, (.int .i64 4))] (by kernel_rfl) ?_
        refine gv_nil <| gv_cret ?_
        have e := sj h0; subst e
        refine gv_ret (gv_done [(.int .i64 4)] rfl ⟨(by kernel_rfl), trivial⟩ ?_)
        exact ⟨grown_of_below hB0, rfl⟩
       ·replace h0 := ite_f hc8 h0
        refine gv_skip <| gv_blk <| gv_seq <| gv_region <| gv_pureN 1 [2] [(2, (.int .i64 (-1)))] (by kernel_rfl) ?_
        refine gv_nil <| gv_cret ?_
        have e := sj h0; subst e
        refine gv_ret (gv_done [(.int .i64 (-1))] rfl ⟨(by kernel_rfl), trivial⟩ ?_)
        exact ⟨grown_of_below hB0, rfl⟩

theorem textstr_pairs_ok (fuel : Nat)  (w0 : World)  (r0 : (List (Int × Int × Int))) (h0 : textstr_pairs fuel  = some r0) :
    Calls Tryd.prog 117 ([] : List Value).toArray w0 (Ret fun v w' => w0.grownBy w' none ∧ ∃ (a0_0r : Option Addr) (c0_0r : Nat), v = tup [(.slice a0_0r (List.length r0) c0_0r)] ∧ Gv.Own (prE (iE .i32) (prE (iE .i32) (iE .i32))) 135 w' (fun _ => False) a0_0r c0_0r r0 ∧ (∀ g, blk a0_0r = some g → w0.heap.size ≤ g)) := by
 have hB0 : Below w0.heap.size w0 w0 := Below.refl _ _
 unfold textstr_pairs at h0
 refine calls_run Tryd.func117 rfl Tryd.ntmps117 (by kernel_rfl) ?_
 refine gv_sub [] (σ' := []) (by kernel_rfl) ?_
 refine gv_seq <| gv_region <| gv_pureN 1 [0] [] (by kernel_rfl) ?_
 refine gv_nil <| gv_seq <| gv_region <| gv_pureN 7 [1, 2, 3, 4, 5, 6, 7] [(1, (.agg #[(.int .i32 97), (.int .i32 122), (.int .i32 32)])), (2, (.agg #[(.int .i32 224), (.int .i32 246), (.int .i32 32)])), (3, (.agg #[(.int .i32 248), (.int .i32 254), (.int .i32 32)])), (4, (.agg #[(.int .i32 945), (.int .i32 961), (.int .i32 32)])), (5, (.agg #[(.int .i32 963), (.int .i32 969), (.int .i32 32)])), (6, (.agg #[(.int .i32 1072), (.int .i32 1103), (.int .i32 32)])), (7, (.agg #[(.int .i32 1104), (.int .i32 1119), (.int .i32 80)]))] (by kernel_rfl) ?_
 refine gv_new0 (fun b => .slice (some ⟨b, 0, none⟩) 7 7) #[(.int .i32 97), (.int .i32 122), (.int .i32 32), (.int .i32 224), (.int .i32 246), (.int .i32 32), (.int .i32 248), (.int .i32 254), (.int .i32 32), (.int .i32 945), (.int .i32 961), (.int .i32 32), (.int .i32 963), (.int .i32 969), (.int .i32 32), (.int .i32 1072), (.int .i32 1103), (.int .i32 32), (.int .i32 1104), (.int .i32 1119), (.int .i32 80)] 135 (by kernel_rfl) (by kernel_rfl) ?_
 intro b1 w2 hg3 hb4 hbe5 hz6
 have ho7 : Gv.Own (prE (iE .i32) (prE (iE .i32) (iE .i32))) 135 w2 (fun _ => False) (some ⟨b1, 0, none⟩) 7 ([(97, 122, 32), (224, 246, 32), (248, 254, 32), (945, 961, 32), (963, 969, 32), (1072, 1103, 32), (1104, 1119, 80)] : List (Int × Int × Int)) := Box.ownE hb4 ⟨[(.int .i32 97), (.int .i32 122), (.int .i32 32)], [(.int .i32 224), (.int .i32 246), (.int .i32 32), (.int .i32 248), (.int .i32 254), (.int .i32 32), (.int .i32 945), (.int .i32 961), (.int .i32 32), (.int .i32 963), (.int .i32 969), (.int .i32 32), (.int .i32 1072), (.int .i32 1103), (.int .i32 32), (.int .i32 1104), (.int .i32 1119), (.int .i32 80)], rfl, ⟨[(.int .i32 97)], [(.int .i32 122), (.int .i32 32)], rfl, rfl, ⟨[(.int .i32 122)], [(.int .i32 32)], rfl, rfl, rfl⟩⟩, ⟨[(.int .i32 224), (.int .i32 246), (.int .i32 32)], [(.int .i32 248), (.int .i32 254), (.int .i32 32), (.int .i32 945), (.int .i32 961), (.int .i32 32), (.int .i32 963), (.int .i32 969), (.int .i32 32), (.int .i32 1072), (.int .i32 1103), (.int .i32 32), (.int .i32 1104), (.int .i32 1119), (.int .i32 80)], rfl, ⟨[(.int .i32 224)], [(.int .i32 246), (.int .i32 32)], rfl, rfl, ⟨[(.int .i32 246)], [(.int .i32 32)], rfl, rfl, rfl⟩⟩, ⟨[(.int .i32 248), (.int .i32 254), (.int .i32 32)], [(.int .i32 945), (.int .i32 961), (.int .i32 32), (.int .i32 963), (.int .i32 969), (.int .i32 32), (.int .i32 1072), (.int .i32 1103), (.int .i32 32), (.int .i32 1104), (.int .i32 1119), (.int .i32 80)], rfl, ⟨[(.int .i32 248)], [(.int .i32 254), (.int .i32 32)], rfl, rfl, ⟨[(.int .i32 254)], [(.int .i32 32)], rfl, rfl, rfl⟩⟩, ⟨[(.int .i32 945), (.int .i32 961), (.int .i32 32)], [(.int .i32 963), (.int .i32 969), (.int .i32 32), (.int .i32 1072), (.int .i32 1103), (.int .i32 32), (.int .i32 1104), (.int .i32 1119), (.int .i32 80)], rfl, ⟨[(.int .i32 945)], [(.int .i32 961), (.int .i32 32)], rfl, rfl, ⟨[(.int .i32 961)], [(.int .i32 32)], rfl, rfl, rfl⟩⟩, ⟨[(.int .i32 963), (.int .i32 969), (.int .i32 32)], [(.int .i32 1072), (.int .i32 1103), (.int .i32 32), (.int .i32 1104), (.int .i32 1119), (.int .i32 80)], rfl, ⟨[(.int .i32 963)], [(.int .i32 969), (.int .i32 32)], rfl, rfl, ⟨[(.int .i32 969)], [(.int .i32 32)], rfl, rfl, rfl⟩⟩, ⟨[(.int .i32 1072), (.int .i32 1103), (.int .i32 32)], [(.int .i32 1104), (.int .i32 1119), (.int .i32 80)], rfl, ⟨[(.int .i32 1072)], [(.int .i32 1103), (.int .i32 32)], rfl, rfl, ⟨[(.int .i32 1103)], [(.int .i32 32)], rfl, rfl, rfl⟩⟩, ⟨[(.int .i32 1104), (.int .i32 1119), (.int .i32 80)], [], rfl, ⟨[(.int .i32 1104)], [(.int .i32 1119), (.int .i32 80)], rfl, rfl, ⟨[(.int .i32 1119)], [(.int .i32 80)], rfl, rfl, rfl⟩⟩, rfl⟩⟩⟩⟩⟩⟩⟩ (show 7 ≤ maxLen by decide) (fun h => h)
 have hl8 : ∀ g, blk (some ⟨b1, 0, none⟩) = some g → w0.heap.size ≤ g := loo hbe5 hB0.size
 refine gv_pureN 1 [0] [(0, (.slice (some ⟨b1, 0, none⟩) (List.length ([(97, 122, 32), (224, 246, 32), (248, 254, 32), (945, 961, 32), (963, 969, 32), (1072, 1103, 32), (1104, 1119, 80)] : List (Int × Int × Int))) 7))] (by kernel_rfl) ?_
 refine gv_nil <| gv_cret ?_
 have e := sj h0; subst e
 refine gv_ret (gv_done [(.slice (some ⟨b1, 0, none⟩) (List.length ([(97, 122, 32), (224, 246, 32), (248, 254, 32), (945, 961, 32), (963, 969, 32), (1072, 1103, 32), (1104, 1119, 80)] : List (Int × Int × Int))) 7)] rfl ⟨(by kernel_rfl), trivial⟩ ?_)
 have hB12 := bg hB0 hg3 nb
 exact ⟨grown_of_below hB12, (some ⟨b1, 0, none⟩), 7, rfl, ho7, hl8⟩

theorem textstr_shift_ok (fuel : Nat) (c_0 : Int) (w0 : World)  (r0 : (Int × Int)) (h0 : textstr_shift fuel c_0 = some r0) :
    Calls Tryd.prog 91 ([(.int .i32 c_0)] : List Value).toArray w0 (Ret fun v w' => w0.grownBy w' none ∧ v = tup [(.int .i32 r0.1), (.int .i32 r0.2)]) := by
 have hB0 : Below w0.heap.size w0 w0 := Below.refl _ _
 unfold textstr_shift at h0
 refine calls_run Tryd.func91 rfl Tryd.ntmps91 (by kernel_rfl) ?_
 refine gv_sub [0] (σ' := [(0, (.int .i32 c_0))]) (by kernel_rfl) ?_
 refine gv_seq <| gv_region <| gv_pureN 2 [2, 3] [] (by kernel_rfl) ?_
 refine gv_nil <| gv_seq <| gv_seq <| gv_region <| bindE h0 ?_; clear h0; intro r1 hr2 h0
 refine gv_call0 (by kernel_rfl) rfl (by kernel_rfl) enters117 (textstr_pairs_ok fuel  w0  r1 hr2) ?_
 rintro v5 w3 ⟨hg4, a6, c7, rfl, ho8, hl9⟩
 have hl10 : ∀ g, blk a6 = some g → w0.heap.size ≤ g := fun g e => Nat.le_trans hB0.size (hl9 g e)
 refine gv_pureN 2 [7, 8] [(7, (.int .i64 ((List.length r1 : Nat) : Int))), (8, (.int .i64 0))] (by kernel_rfl) ?_
 refine gv_nil <| bindE h0 ?_; clear h0; intro j11 h1 h0
 refine gv_cut_code (J := fun a w13 => ∃ s12 : Unit, j11 = .inl s12 ∧ Below w0.heap.size w0 w13 ∧ w3.heap.size ≤ w13.heap.size ∧ a.defers = [] ∧ a.tmps.size = 43 ∧ Ok [] a.tmps) ?_ ?_
 ·skip
  refine gv_block <| gv_loop (A := fun (s14 : Int) a w15 => Below w0.heap.size w0 w15 ∧ w3.heap.size ≤ w15.heap.size ∧ Gv.Own (prE (iE .i32) (prE (iE .i32) (iE .i32))) 135 w15 (fun _ => False) a6 c7 r1 ∧ a.defers = [] ∧ a.tmps.size = 43 ∧ Ok [(0, (.int .i32 c_0)), (6, (.slice a6 (List.length r1) c7)), (7, (.int .i64 ((List.length r1 : Nat) : Int))), (8, (.int .i64 s14))] a.tmps) h1 ?_ ?_
  ·intro a hd hs hok
   have hB16 := bg hB0 hg4 nb
   exact ⟨hB16, (Nat.le_refl _), ho8, hd, hs, ok_pick [0, 6, 7, 8] hok (by kernel_rfl)⟩
  ·rintro s14 r2 h2 hR2 a w15 ⟨hB17, hz18, hk19, hd, hs, hok⟩
   refine gv_in ?_ hd hs hok
   clear hd hs hok
   clear hl9 ho8 hg4 hr2
   refine gv_seq <| gv_region <| gv_pureN 1 [9] [(9, (.bool (decide (s14 < ((List.length r1 : Nat) : Int)))))] (by kernel_rfl) ?_
   refine gv_nil <| gv_seq <| gv_cond (b := (decide (s14 < ((List.length r1 : Nat) : Int)))) (by kernel_rfl) (fun hc20 => ?_) (fun hc20 => ?_)
   ·replace h2 := ite_t hc20 h2
    refine gv_skip <| gv_seq <| gv_block <| gv_seq <| gv_region <| bindE h2 ?_; clear h2; intro x21 hx22 h2
    refine gv_idxaddr (t := 133) (e := 135) (a := a6) (len := List.length r1) (cap := c7) (kk := .i64) (i := s14) (sz := 3) [] (fun e => by cases e) rfl rfl rfl (by kernel_rfl) (by kernel_rfl) Tryd.underlying133 (by kernel_rfl) ((hk19.rd (Y := fun k => blk a6 = some k) (fun _ h => h.elim) (fun g e => e)).has hx22) (idx_spec hx22).1 (idx_spec hx22).2.1 rfl ?_
    obtain ⟨_, ⟨_, _, rfl, rfl, ⟨_, _, rfl, rfl, rfl⟩⟩, hc23⟩ := hk19.cellsK hx22
    refine gv_loadAgg (t := 135) (A := (elemAddr a6 ((s14 : Int).toNat * 3))) #[(.int .i32 x21.1), (.int .i32 x21.2.1), (.int .i32 x21.2.2)] [] (fun e => by cases e) rfl rfl rfl (by kernel_rfl) (by kernel_rfl) (by kernel_rfl) (by kernel_rfl) (inw0 (hc23 w15 (fun _ _ => rfl))) rfl ?_
    refine gv_new0 (fun b => .pointer (some ⟨b, 0, none⟩)) #[(.int .i32 0), (.int .i32 0), (.int .i32 0)] 135 (by kernel_rfl) (by kernel_rfl) ?_
    intro b24 w25 hg26 hb27 hbe28 hz29
    refine gv_store0 135 0 (.agg #[(.int .i32 x21.1), (.int .i32 x21.2.1), (.int .i32 x21.2.2)]) #[(.int .i32 x21.1), (.int .i32 x21.2.1), (.int .i32 x21.2.2)] hb27 (by kernel_rfl) (by kernel_rfl) (by kernel_rfl) ?_
    intro w30 hg31 hb32 hz33
    refine gv_nil <| gv_seq <| gv_seq <| gv_region <| bindE h2 ?_; clear h2; intro j34 h3 h2
    refine gv_cut_ops (J := fun a w35 => Below w0.heap.size w0 w35 ∧ w30.heap.size ≤ w35.heap.size ∧ Box w35 b24 135 #[(.int .i32 x21.1), (.int .i32 x21.2.1), (.int .i32 x21.2.2)] ∧ Gv.Own (prE (iE .i32) (prE (iE .i32) (iE .i32))) 135 w35 (fun _ => False) a6 c7 r1 ∧ a.defers = [] ∧ a.tmps.size = 43 ∧ Ok [(0, (.int .i32 c_0)), (5, (bp b24)), (6, (.slice a6 (List.length r1) c7)), (7, (.int .i64 ((List.length r1 : Nat) : Int))), (8, (.int .i64 s14)), (21, (.bool j34))] a.tmps) ?_ ?_
    ·skip
     refine gv_pureN 2 [12, 13] [(12, (.int .i32 c_0)), (13, (bp b24))] (by kernel_rfl) ?_
     refine gv_load (t := 21) (A := ⟨b24, 0, none⟩) (.int .i32 x21.1) [] (fun e => by cases e) rfl rfl rfl (by kernel_rfl) (by kernel_rfl) (by kernel_rfl) (inw0 (hb32.cell 0 rfl)) rfl ?_
     refine gv_pureN 2 [15, 16] [(16, (.bool (decide (c_0 ≥ x21.1))))] (by kernel_rfl) ?_
     refine gv_split (s := 16) (g := (decide (c_0 ≥ x21.1))) (by kernel_rfl) (fun hc36 => ?_) (fun hc36 => ?_)
     ·skip
      replace h3 := ite_t hc36 h3
      refine gv_pureN 2 [17, 18] [(17, (.int .i32 c_0)), (18, (.pointer (some ⟨b24, 1, none⟩)))] (by kernel_rfl) ?_
      refine gv_load (t := 21) (A := ⟨b24, 1, none⟩) (.int .i32 x21.2.1) [] (fun e => by cases e) rfl rfl rfl (by kernel_rfl) (by kernel_rfl) (by kernel_rfl) (inw0 (hb32.cell 1 rfl)) rfl ?_
      refine gv_pureN 2 [20, 21] [(21, (.bool (decide (c_0 ≤ x21.2.1))))] (by kernel_rfl) ?_
      refine gv_nil ?_
      have e := sj h3; subst e
      refine gv_goal fun a hd hs hok => ?_
      have hB37 := bg hB17 hg26 nb
      have hlo38 : w0.heap.size ≤ b24 := lob hbe28 hB17.size
      have hB39 := bg hB37 hg31 (rowlo hlo38)
      have ap40 : ¬ (fun k => blk a6 = some k) b24 := fun hx => nl ((lowb hbe28) _ rfl) ((fun k (hk : blk a6 = some k) => hk19.lt k hk) _ hx)
      have hk41 := (hk19.grown hg26 (fun _ h => h.elim) nb).grown hg31 (fun _ h => h.elim) (rdnn (rowne ap40))
      exact ⟨hB39, (Nat.le_refl _), hb32, hk41, hd, hs, ok_pick [0, 5, 6, 7, 8, 21] hok (by kernel_rfl)⟩
     ·skip
      replace h3 := ite_f hc36 h3
      refine gv_pureN 5 [17, 18, 19, 20, 21] [(21, (.bool false))] (by kernel_rfl) ?_
      refine gv_nil ?_
      have e := sj h3; subst e
      refine gv_goal fun a hd hs hok => ?_
      have hB42 := bg hB17 hg26 nb
      have hlo43 : w0.heap.size ≤ b24 := lob hbe28 hB17.size
      have hB44 := bg hB42 hg31 (rowlo hlo43)
      have ap45 : ¬ (fun k => blk a6 = some k) b24 := fun hx => nl ((lowb hbe28) _ rfl) ((fun k (hk : blk a6 = some k) => hk19.lt k hk) _ hx)
      have hk46 := (hk19.grown hg26 (fun _ h => h.elim) nb).grown hg31 (fun _ h => h.elim) (rdnn (rowne ap45))
      exact ⟨hB44, (Nat.le_refl _), hb32, hk46, hd, hs, ok_pick [0, 5, 6, 7, 8, 21] hok (by kernel_rfl)⟩
    ·rintro a w35 ⟨hB47, hz48, hb49, hk50, hd, hs, hok⟩
     refine gv_in ?_ hd hs hok
     clear hd hs hok
     have hz51 := (nt (nt (nt hz18 hg26.size) hg31.size) hz48)
     clear hz48 hz33 hb32 hg31 hz29 hb27 hg26 hc23 hx22 hc20 hz18
     refine gv_cond (b := j34) (by kernel_rfl) (fun hc52 => ?_) (fun hc52 => ?_)
     ·replace h2 := ite_t hc52 h2
      refine gv_seq <| gv_region <| gv_pureN 1 [22] [(22, (.pointer (some ⟨b24, 2, none⟩)))] (by kernel_rfl) ?_
      refine gv_load (t := 21) (A := ⟨b24, 2, none⟩) (.int .i32 x21.2.2) [] (fun e => by cases e) rfl rfl rfl (by kernel_rfl) (by kernel_rfl) (by kernel_rfl) (inw0 (hb49.cell 2 rfl)) rfl ?_
      refine gv_pureN 2 [2, 3] [(2, (.int .i32 x21.2.2)), (3, (.int .i32 0))] (by kernel_rfl) ?_
      refine gv_nil <| gv_cret ?_
      have e := sj h2; subst e
      replace h1 := congrArg some (hR2 _ rfl)
      have e := sj h1; subst e
      replace h0 := cont_inr h0
      have e := sj h0; subst e
      refine gv_ret (gv_done [(.int .i32 x21.2.2), (.int .i32 0)] rfl ⟨(by kernel_rfl), (by kernel_rfl), trivial⟩ ?_)
      exact ⟨grown_of_below hB47, rfl⟩
     ·replace h2 := ite_f hc52 h2
      refine gv_skip <| gv_seq <| gv_region <| bindE h2 ?_; clear h2; intro j53 h3 h2
      refine gv_cut_ops (J := fun a w54 => Below w0.heap.size w0 w54 ∧ w35.heap.size ≤ w54.heap.size ∧ Box w54 b24 135 #[(.int .i32 x21.1), (.int .i32 x21.2.1), (.int .i32 x21.2.2)] ∧ Gv.Own (prE (iE .i32) (prE (iE .i32) (iE .i32))) 135 w54 (fun _ => False) a6 c7 r1 ∧ a.defers = [] ∧ a.tmps.size = 43 ∧ Ok [(0, (.int .i32 c_0)), (5, (bp b24)), (6, (.slice a6 (List.length r1) c7)), (7, (.int .i64 ((List.length r1 : Nat) : Int))), (8, (.int .i64 s14)), (39, (.bool j53))] a.tmps) ?_ ?_
      ·skip
       refine gv_pureN 2 [24, 25] [(24, (.int .i32 c_0)), (25, (.pointer (some ⟨b24, 2, none⟩)))] (by kernel_rfl) ?_
       refine gv_load (t := 21) (A := ⟨b24, 2, none⟩) (.int .i32 x21.2.2) [] (fun e => by cases e) rfl rfl rfl (by kernel_rfl) (by kernel_rfl) (by kernel_rfl) (inw0 (hb49.cell 2 rfl)) rfl ?_
       refine gv_pureN 2 [27, 28] [(27, (.int .i32 (IntKind.i32.wrap (c_0 + x21.2.2)))), (28, (bp b24))] (by kernel_rfl) ?_
       refine gv_load (t := 21) (A := ⟨b24, 0, none⟩) (.int .i32 x21.1) [] (fun e => by cases e) rfl rfl rfl (by kernel_rfl) (by kernel_rfl) (by kernel_rfl) (inw0 (hb49.cell 0 rfl)) rfl ?_
       refine gv_pureN 2 [30, 31] [(31, (.bool (decide ((IntKind.i32.wrap (c_0 + x21.2.2)) ≥ x21.1))))] (by kernel_rfl) ?_
       refine gv_split (s := 31) (g := (decide ((IntKind.i32.wrap (c_0 + x21.2.2)) ≥ x21.1))) (by kernel_rfl) (fun hc55 => ?_) (fun hc55 => ?_)
       ·skip
        replace h3 := ite_t hc55 h3
        refine gv_pureN 2 [32, 33] [(32, (.int .i32 c_0)), (33, (.pointer (some ⟨b24, 2, none⟩)))] (by kernel_rfl) ?_
        refine gv_load (t := 21) (A := ⟨b24, 2, none⟩) (.int .i32 x21.2.2) [] (fun e => by cases e) rfl rfl rfl (by kernel_rfl) (by kernel_rfl) (by kernel_rfl) (inw0 (hb49.cell 2 rfl)) rfl ?_
        refine gv_pureN 2 [35, 36] [(35, (.int .i32 (IntKind.i32.wrap (c_0 + x21.2.2)))), (36, (.pointer (some ⟨b24, 1, none⟩)))] (by kernel_rfl) ?_
        refine gv_load (t := 21) (A := ⟨b24, 1, none⟩) (.int .i32 x21.2.1) [] (fun e => by cases e) rfl rfl rfl (by kernel_rfl) (by kernel_rfl) (by kernel_rfl) (inw0 (hb49.cell 1 rfl)) rfl ?_
        refine gv_pureN 2 [38, 39] [(39, (.bool (decide ((IntKind.i32.wrap (c_0 + x21.2.2)) ≤ x21.2.1))))] (by kernel_rfl) ?_
        refine gv_nil ?_
        have e := sj h3; subst e
        refine gv_goal fun a hd hs hok => ?_
        exact ⟨hB47, (Nat.le_refl _), hb49, hk50, hd, hs, ok_pick [0, 5, 6, 7, 8, 39] hok (by kernel_rfl)⟩
       ·skip
        replace h3 := ite_f hc55 h3
        refine gv_pureN 8 [32, 33, 34, 35, 36, 37, 38, 39] [(39, (.bool false))] (by kernel_rfl) ?_
        refine gv_nil ?_
        have e := sj h3; subst e
        refine gv_goal fun a hd hs hok => ?_
        exact ⟨hB47, (Nat.le_refl _), hb49, hk50, hd, hs, ok_pick [0, 5, 6, 7, 8, 39] hok (by kernel_rfl)⟩
      ·rintro a w54 ⟨hB56, hz57, hb58, hk59, hd, hs, hok⟩
       refine gv_in ?_ hd hs hok
       clear hd hs hok
       have hz60 := (nt hz51 hz57)
       clear hz57 hc52 hz51 hk50 hb49 hB47
       refine gv_cond (b := j53) (by kernel_rfl) (fun hc61 => ?_) (fun hc61 => ?_)
       ·replace h2 := ite_t hc61 h2
        refine gv_seq <| gv_drawA (by kernel_rfl) ?_
        intro w62 hg63
        refine gv_pre [0, 2] (bA 4 [0, 2]) 2 (by kernel_rfl) (by kernel_rfl) ?_
        refine gv_pureN 2 [2, 40] [(2, (.int .i32 0)), (40, (.pointer (some ⟨b24, 2, none⟩)))] (by kernel_rfl) ?_
        refine gv_nil <| gv_goA ?_
        refine gv_stage (Cls w62 []) [0, 1, 2] [(1, some true)] (bA 4 [0, 1, 2]) 1 (by kernel_rfl) (by kernel_rfl) (Cls.refl _ _) ?_
        have hC64 := Cls.refl w62 []
        have hk65 := hb58.grown hg63 nb
        refine gv_load (t := 21) (A := ⟨b24, 2, none⟩) (.int .i32 x21.2.2) [] (fun e => by cases e) rfl rfl rfl (by kernel_rfl) (by kernel_rfl) (by kernel_rfl) (inw1 fun w' hC' => ((hC'.box hk65 nm_nil).cell 2 rfl)) rfl ?_
        refine gv_nil <| gv_goA ?_
        refine gv_pre [3] (bA 4 [0, 1, 2, 3]) 0 (by kernel_rfl) (by kernel_rfl) ?_
        refine gv_pureN 1 [3] [(3, (.int .i32 x21.2.2))] (by kernel_rfl) ?_
        refine gv_nil <| gv_goA ?_
        refine gv_stageE (by kernel_rfl) ?_
        refine gv_cret ?_
        have e := sj h2; subst e
        replace h1 := congrArg some (hR2 _ rfl)
        have e := sj h1; subst e
        replace h0 := cont_inr h0
        have e := sj h0; subst e
        refine gv_ret (gv_done [(.int .i32 0), (.int .i32 x21.2.2)] rfl ⟨(by kernel_rfl), (by kernel_rfl), trivial⟩ ?_)
        have hB66 := bg hB56 hg63 nb
        exact ⟨grown_of_below hB66, rfl⟩
       ·replace h2 := ite_f hc61 h2
        refine gv_skip <| gv_blk <| gv_region <| gv_pureN 2 [8, 42] [(8, (.int .i64 (IntKind.i64.wrap (s14 + 1))))] (by kernel_rfl) ?_
        refine gv_nil ?_
        have e := sj h2; subst e
        refine gv_goal fun a hd hs hok => ?_
        have hz67 := hz60
        exact ⟨(IntKind.i64.wrap (s14 + 1)), rfl, hB56, hz67, hk59, hd, hs, ok_pick [0, 6, 7, 8] hok (by kernel_rfl)⟩
   ·replace h2 := ite_f hc20 h2
    refine gv_cexit <| gv_exit rfl ?_
    have e := sj h2; subst e
    replace h1 := congrArg some (hR2 _ rfl)
    have e := sj h1; subst e
    refine gv_goal fun a hd hs hok => ?_
    have hz68 := hz18
    exact ⟨(), rfl, hB17, hz68, hd, hs, ok_pick [] hok (by kernel_rfl)⟩
 ·rintro a w13 ⟨s12, e, hB69, hz70, hd, hs, hok⟩
  subst e
  refine gv_in ?_ hd hs hok
  clear hd hs hok
  replace h0 := cont_inl h0
  clear hz70 hl10 hl9 ho8 hg4 hr2
  refine gv_seq <| gv_region <| gv_pureN 2 [2, 3] [(2, (.int .i32 0)), (3, (.int .i32 0))] (by kernel_rfl) ?_
  refine gv_nil <| gv_cret ?_
  have e := sj h0; subst e
  refine gv_ret (gv_done [(.int .i32 0), (.int .i32 0)] rfl ⟨(by kernel_rfl), (by kernel_rfl), trivial⟩ ?_)
  exact ⟨grown_of_below hB69, rfl⟩

theorem textstr_lower_ok (fuel : Nat) (c_0 : Int) (w0 : World)  (r0 : Int) (h0 : textstr_lower fuel c_0 = some r0) :
    Calls Tryd.prog 64 ([(.int .i32 c_0)] : List Value).toArray w0 (Ret fun v w' => w0.grownBy w' none ∧ v = tup [(.int .i32 r0)]) := by
 have hB0 : Below w0.heap.size w0 w0 := Below.refl _ _
 unfold textstr_lower at h0
 refine calls_run Tryd.func64 rfl Tryd.ntmps64 (by kernel_rfl) ?_
 refine gv_sub [0] (σ' := [(0, (.int .i32 c_0))]) (by kernel_rfl) ?_
 refine gv_seq <| gv_region <| gv_pureN 1 [2] [] (by kernel_rfl) ?_
 refine gv_nil <| gv_seq <| gv_region <| gv_pureN 1 [6] [(6, (.int .i32 c_0))] (by kernel_rfl) ?_
 refine bindE h0 ?_; clear h0; intro r1 hr2 h0
 refine gv_call0 (by kernel_rfl) rfl (by kernel_rfl) enters91 (textstr_shift_ok fuel c_0 w0  r1 hr2) ?_
 rintro v5 w3 ⟨hg4, rfl⟩
 refine gv_pureN 5 [3, 4, 5, 8, 9] [(4, (.int .i32 r1.2))] (by kernel_rfl) ?_
 refine gv_nil <| gv_seq <| gv_region <| gv_pureN 4 [2, 10, 11, 12] [(2, (.int .i32 (IntKind.i32.wrap (c_0 + r1.2))))] (by kernel_rfl) ?_
 refine gv_nil <| gv_cret ?_
 have e := sj h0; subst e
 refine gv_ret (gv_done [(.int .i32 (IntKind.i32.wrap (c_0 + r1.2)))] rfl ⟨(by kernel_rfl), trivial⟩ ?_)
 have hB6 := bg hB0 hg4 nb
 exact ⟨grown_of_below hB6, rfl⟩

theorem textstr_upper_ok (fuel : Nat) (c_0 : Int) (w0 : World)  (r0 : Int) (h0 : textstr_upper fuel c_0 = some r0) :
    Calls Tryd.prog 63 ([(.int .i32 c_0)] : List Value).toArray w0 (Ret fun v w' => w0.grownBy w' none ∧ v = tup [(.int .i32 r0)]) := by
 have hB0 : Below w0.heap.size w0 w0 := Below.refl _ _
 unfold textstr_upper at h0
 refine calls_run Tryd.func63 rfl Tryd.ntmps63 (by kernel_rfl) ?_
 refine gv_sub [0] (σ' := [(0, (.int .i32 c_0))]) (by kernel_rfl) ?_
 refine gv_seq <| gv_region <| gv_pureN 1 [2] [] (by kernel_rfl) ?_
 refine gv_nil <| gv_seq <| gv_region <| gv_pureN 1 [6] [(6, (.int .i32 c_0))] (by kernel_rfl) ?_
 refine bindE h0 ?_; clear h0; intro r1 hr2 h0
 refine gv_call0 (by kernel_rfl) rfl (by kernel_rfl) enters91 (textstr_shift_ok fuel c_0 w0  r1 hr2) ?_
 rintro v5 w3 ⟨hg4, rfl⟩
 refine gv_pureN 5 [3, 4, 5, 8, 9] [(3, (.int .i32 r1.1))] (by kernel_rfl) ?_
 refine gv_nil <| gv_seq <| gv_region <| gv_pureN 4 [2, 10, 11, 12] [(2, (.int .i32 (IntKind.i32.wrap (c_0 - r1.1))))] (by kernel_rfl) ?_
 refine gv_nil <| gv_cret ?_
 have e := sj h0; subst e
 refine gv_ret (gv_done [(.int .i32 (IntKind.i32.wrap (c_0 - r1.1)))] rfl ⟨(by kernel_rfl), trivial⟩ ?_)
 have hB6 := bg hB0 hg4 nb
 exact ⟨grown_of_below hB6, rfl⟩

theorem textstr_class_ok (fuel : Nat) (c_0 : Int) (w0 : World)  (r0 : Int) (h0 : textstr_class fuel c_0 = some r0) :
    Calls Tryd.prog 66 ([(.int .i32 c_0)] : List Value).toArray w0 (Ret fun v w' => w0.grownBy w' none ∧ v = tup [(.int .i64 r0)]) := by
 have hB0 : Below w0.heap.size w0 w0 := Below.refl _ _
 unfold textstr_class at h0
 refine calls_run Tryd.func66 rfl Tryd.ntmps66 (by kernel_rfl) ?_
 refine gv_sub [0] (σ' := [(0, (.int .i32 c_0))]) (by kernel_rfl) ?_
 refine gv_seq <| gv_region <| gv_pureN 1 [2] [] (by kernel_rfl) ?_
 refine gv_nil <| gv_seq <| gv_region <| gv_pureN 1 [6] [(6, (.int .i32 c_0))] (by kernel_rfl) ?_
 refine bindE h0 ?_; clear h0; intro r1 hr2 h0
 refine gv_call0 (by kernel_rfl) rfl (by kernel_rfl) enters91 (textstr_shift_ok fuel c_0 w0  r1 hr2) ?_
 rintro v5 w3 ⟨hg4, rfl⟩
 refine gv_pureN 5 [3, 4, 5, 8, 9] [(3, (.int .i32 r1.1)), (4, (.int .i32 r1.2))] (by kernel_rfl) ?_
 refine gv_nil <| gv_seq <| gv_block <| gv_seq <| gv_region <| gv_pureN 3 [10, 11, 12] [(10, (.bool (decide (r1.1 > 0))))] (by kernel_rfl) ?_
 refine gv_nil <| gv_cond (b := (decide (r1.1 > 0))) (by kernel_rfl) (fun hc6 => ?_) (fun hc6 => ?_)
 ·replace h0 := ite_t hc6 h0
  refine gv_seq <| gv_region <| gv_pureN 1 [2] [(2, (.int .i64 2))] (by kernel_rfl) ?_
  refine gv_nil <| gv_cret ?_
  have e := sj h0; subst e
  refine gv_ret (gv_done [(.int .i64 2)] rfl ⟨(by kernel_rfl), trivial⟩ ?_)
  have hB7 := bg hB0 hg4 nb
  exact ⟨grown_of_below hB7, rfl⟩
 ·replace h0 := ite_f hc6 h0
  refine gv_seq <| gv_region <| gv_pureN 3 [13, 14, 15] [(13, (.bool (decide (r1.2 > 0))))] (by kernel_rfl) ?_
  refine gv_nil <| gv_cond (b := (decide (r1.2 > 0))) (by kernel_rfl) (fun hc8 => ?_) (fun hc8 => ?_)
  ·replace h0 := ite_t hc8 h0
   refine gv_seq <| gv_region <| gv_pureN 1 [2] [(2, (.int .i64 1))] (by kernel_rfl) ?_
   refine gv_nil <| gv_cret ?_
   have e := sj h0; subst e
   refine gv_ret (gv_done [(.int .i64 1)] rfl ⟨(by kernel_rfl), trivial⟩ ?_)
   have hB9 := bg hB0 hg4 nb
   exact ⟨grown_of_below hB9, rfl⟩
  ·replace h0 := ite_f hc8 h0
   refine gv_seq <| gv_region <| gv_cut_ops (J := fun a w10 => w3 = w10 ∧ a.defers = [] ∧ a.tmps.size = 26 ∧ Ok [(0, (.int .i32 c_0)), (16, (.bool ((decide (c_0 ≥ 48)) && (decide (c_0 ≤ 57)))))] a.tmps) ?_ ?_
   ·skip
    refine gv_pureN 3 [17, 18, 19] [(19, (.bool (decide (c_0 ≥ 48))))] (by kernel_rfl) ?_
    refine gv_split (s := 19) (g := (decide (c_0 ≥ 48))) (by kernel_rfl) (fun hc11 => ?_) (fun hc11 => ?_)
    ·skip
     refine gv_pureN 4 [16, 20, 21, 22] [(16, (.bool (decide (c_0 ≤ 57))))] (by kernel_rfl) ?_
     refine gv_nil <| gv_sub [0, 16] (σ' := [(0, (.int .i32 c_0)), (16, (.bool (decide (c_0 ≤ 57))))]) (by kernel_rfl) ?_
     refine gv_goal fun a hd hs hok => ⟨rfl, hd, hs, ?_⟩
     obtain ⟨q0, q16, _⟩ := hok
     exact ⟨q0, (by rw [hc11]; exact q16), trivial⟩
    ·skip
     refine gv_pureN 4 [16, 20, 21, 22] [(16, (.bool false))] (by kernel_rfl) ?_
     refine gv_nil <| gv_sub [0, 16] (σ' := [(0, (.int .i32 c_0)), (16, (.bool false))]) (by kernel_rfl) ?_
     refine gv_goal fun a hd hs hok => ⟨rfl, hd, hs, ?_⟩
     obtain ⟨q0, q16, _⟩ := hok
     exact ⟨q0, (by rw [hc11]; exact q16), trivial⟩
   ·rintro a w10 ⟨e, hd, hs, hok⟩; subst e
    refine gv_in ?_ hd hs hok
    clear hd hs hok
    refine gv_cond (b := ((decide (c_0 ≥ 48)) && (decide (c_0 ≤ 57)))) (by kernel_rfl) (fun hc12 => ?_) (fun hc12 => ?_)
    ·replace h0 := ite_t hc12 h0
     refine gv_seq <| gv_region <| gv_pureN 1 [2] [(2, (.int .i64 4))] (by kernel_rfl) ?_
     refine gv_nil <| gv_cret ?_
     have e := sj h0; subst e
     refine gv_ret (gv_done [(.int .i64 4)] rfl ⟨(by kernel_rfl), trivial⟩ ?_)
     have hB13 := bg hB0 hg4 nb
     exact ⟨grown_of_below hB13, rfl⟩
    ·replace h0 := ite_f hc12 h0
     refine gv_seq <| gv_region <| gv_pureN 1 [24] [(24, (.int .i32 c_0))] (by kernel_rfl) ?_
     refine bindE h0 ?_; clear h0; intro r14 hr15 h0
     refine gv_call0 (by kernel_rfl) rfl (by kernel_rfl) enters60 (textstr_blank_ok fuel c_0 w3  r14 hr15) ?_
     rintro v18 w16 ⟨hg17, rfl⟩
     refine gv_pureN 1 [23] [(23, (.bool r14))] (by kernel_rfl) ?_
     refine gv_nil <| gv_cond (b := r14) (by kernel_rfl) (fun hc19 => ?_) (fun hc19 => ?_)
     ·replace h0 := ite_t hc19 h0
      refine gv_seq <| gv_region <| gv_pureN 1 [2] [(2, (.int .i64 8))] (by kernel_rfl) ?_
      refine gv_nil <| gv_cret ?_
      have e := sj h0; subst e
      refine gv_ret (gv_done [(.int .i64 8)] rfl ⟨(by kernel_rfl), trivial⟩ ?_)
      have hg20 := (grown_trans hg4 hg17)
      have hB21 := bg hB0 hg20 nb
      exact ⟨grown_of_below hB21, rfl⟩
     ·replace h0 := ite_f hc19 h0
      refine gv_skip <| gv_blk <| gv_seq <| gv_region <| gv_pureN 1 [2] [(2, (.int .i64 16))] (by kernel_rfl) ?_
      refine gv_nil <| gv_cret ?_
      have e := sj h0; subst e
      refine gv_ret (gv_done [(.int .i64 16)] rfl ⟨(by kernel_rfl), trivial⟩ ?_)
      have hg22 := (grown_trans hg4 hg17)
      have hB23 := bg hB0 hg22 nb
      exact ⟨grown_of_below hB23, rfl⟩

theorem textstr_ToTitle_1_ok (fuel : Nat) (c_0 : Int) (pb1 : Nat) (cap0_1 : Bool) (w0 : World) (hp1 : Box w0 pb1 4 #[(.bool cap0_1)]) (r0 : (Int × Bool)) (h0 : textstr_ToTitle_1 fuel c_0 cap0_1 = some r0) :
    Calls Tryd.prog 65 ([(.int .i32 c_0), (bp pb1)] : List Value).toArray w0 (Ret fun v w' => w0.grownBy w' (some pb1) ∧ v = tup [(.int .i32 r0.1)] ∧ Box w' pb1 4 #[(.bool r0.2)]) := by
 have hB0 : w0.grownBy w0 (some pb1) := grown_refl _ _
 unfold textstr_ToTitle_1 at h0
 refine calls_run Tryd.func65 rfl Tryd.ntmps65 (by kernel_rfl) ?_
 refine gv_sub [0, 1] (σ' := [(0, (.int .i32 c_0)), (1, (bp pb1))]) (by kernel_rfl) ?_
 have hpl1 := hp1.lt
 refine gv_seq <| gv_region <| gv_pureN 1 [3] [] (by kernel_rfl) ?_
 refine gv_nil <| gv_seq <| gv_region <| gv_pureN 1 [5] [(5, (.int .i32 c_0))] (by kernel_rfl) ?_
 refine bindE h0 ?_; clear h0; intro r1 hr2 h0
 refine gv_call0 (by kernel_rfl) rfl (by kernel_rfl) enters64 (textstr_lower_ok fuel c_0 w0  r1 hr2) ?_
 rintro v5 w3 ⟨hg4, rfl⟩
 refine gv_pureN 1 [4] [(4, (.int .i32 r1))] (by kernel_rfl) ?_
 refine gv_nil <| gv_seq <| gv_seq <| gv_region ?_
 have hk6 := hp1.grown hg4 nb
 refine gv_load (t := 4) (A := ⟨pb1, 0, none⟩) (.bool cap0_1) [] (fun e => by cases e) rfl rfl rfl (by kernel_rfl) (by kernel_rfl) (by kernel_rfl) (inw0 (hk6.cell 0 rfl)) rfl ?_
 refine gv_pureN 1 [8] [(8, (.bool (!cap0_1)))] (by kernel_rfl) ?_
 refine gv_nil <| bindE h0 ?_; clear h0; intro j7 h1 h0
 refine gv_cut_code (J := fun a w8 => w0.grownBy w8 (some pb1) ∧ w3.heap.size ≤ w8.heap.size ∧ Box w8 pb1 4 #[(.bool cap0_1)] ∧ a.defers = [] ∧ a.tmps.size = 16 ∧ Ok [(0, (.int .i32 c_0)), (1, (bp pb1)), (4, (.int .i32 j7))] a.tmps) ?_ ?_
 ·skip
  refine gv_cond (b := (!cap0_1)) (by kernel_rfl) (fun hc9 => ?_) (fun hc9 => ?_)
  ·replace h1 := ite_t hc9 h1
   refine gv_region <| gv_pureN 1 [9] [(9, (.int .i32 c_0))] (by kernel_rfl) ?_
   refine bindE h1 ?_; clear h1; intro r10 hr11 h1
   refine gv_call0 (by kernel_rfl) rfl (by kernel_rfl) enters63 (textstr_upper_ok fuel c_0 w3  r10 hr11) ?_
   rintro v14 w12 ⟨hg13, rfl⟩
   refine gv_pureN 1 [4] [(4, (.int .i32 r10))] (by kernel_rfl) ?_
   refine gv_nil ?_
   have e := sj h1; subst e
   refine gv_goal fun a hd hs hok => ?_
   have hg15 := (grown_trans hg4 hg13)
   have hB16 := grown_step hB0 hg15 nb
   have hz17 := hg13.size
   have hk18 := hk6.grown hg13 nb
   exact ⟨hB16, hz17, hk18, hd, hs, ok_pick [0, 1, 4] hok (by kernel_rfl)⟩
  ·replace h1 := ite_f hc9 h1
   refine gv_skip ?_
   have e := sj h1; subst e
   refine gv_goal fun a hd hs hok => ?_
   have hB19 := grown_step hB0 hg4 nb
   exact ⟨hB19, (Nat.le_refl _), hk6, hd, hs, ok_pick [0, 1, 4] hok (by kernel_rfl)⟩
 ·rintro a w8 ⟨hB20, hz21, hb22, hd, hs, hok⟩
  refine gv_in ?_ hd hs hok
  clear hd hs hok
  clear hz21 hp1 hk6 hg4 hr2
  refine gv_seq <| gv_region <| gv_pureN 1 [11] [(11, (.int .i32 c_0))] (by kernel_rfl) ?_
  refine bindE h0 ?_; clear h0; intro r23 hr24 h0
  refine gv_call0 (by kernel_rfl) rfl (by kernel_rfl) enters66 (textstr_class_ok fuel c_0 w8  r23 hr24) ?_
  rintro v27 w25 ⟨hg26, rfl⟩
  refine gv_pureN 2 [13, 14] [(14, (.bool ((bwAnd .i64 r23 3) != 0)))] (by kernel_rfl) ?_
  have hk32 := hb22.grown hg26 nb
  refine gv_store0 4 0 (.bool ((bwAnd .i64 r23 3) != 0)) #[(.bool ((bwAnd .i64 r23 3) != 0))] hk32 (by kernel_rfl) (by kernel_rfl) (by kernel_rfl) ?_
  intro w28 hg29 hb30 hz31
  refine gv_nil <| gv_seq <| gv_region <| gv_pureN 2 [3, 15] [(3, (.int .i32 j7))] (by kernel_rfl) ?_
  refine gv_nil <| gv_cret ?_
  have e := sj h0; subst e
  refine gv_ret (gv_done [(.int .i32 j7)] rfl ⟨(by kernel_rfl), trivial⟩ ?_)
  have hB33 := grown_step hB20 hg26 nb
  have hB34 := grown_step hB33 hg29 rowpp
  exact ⟨hB34, rfl, hb30⟩

theorem strings_Map_ToTitle_1_ok (fuel : Nat) (pb0c0 : Nat) (mapping_0c0 : Bool) (s_1 : ByteArray) (w0 : World) (X0 : Nat → Prop) (hX0 : ∀ k, X0 k → k < w0.heap.size ∧ k ≠ pb0c0) (hp0c0 : Box w0 pb0c0 4 #[(.bool mapping_0c0)]) (hG1 : Rd bE w0 X0 (some ⟨1, 0, none⟩) 256 utf8First) (hG2 : Rd (prE (iE .u8) (iE .u8)) w0 X0 (some ⟨2, 0, none⟩) 16 utf8Acc) (r0 : (ByteArray × Bool)) (h0 : strings_Map_ToTitle_1 fuel mapping_0c0 s_1 = some r0) :
    Calls Tryd.prog 90 ([(.func (.func 65) #[] #[(bp pb0c0)]), (.string s_1)] : List Value).toArray w0 (Ret fun v w' => w0.grownBy w' (some pb0c0) ∧ v = tup [(.string r0.1)] ∧ Box w' pb0c0 4 #[(.bool r0.2)]) := by
 have hB0 : w0.grownBy w0 (some pb0c0) := grown_refl _ _
 unfold strings_Map_ToTitle_1 at h0
 refine calls_run Tryd.func90 rfl Tryd.ntmps90 (by kernel_rfl) ?_
 refine gv_sub [0, 1] (σ' := [(0, (.func (.func 65) #[] #[(bp pb0c0)])), (1, (.string s_1))]) (by kernel_rfl) ?_
 have hpl0c0 := hp0c0.lt
 refine gv_seq <| gv_region <| gv_pureN 1 [4] [] (by kernel_rfl) ?_
 refine gv_nil <| gv_seq <| gv_region <| gv_new0 (fun b => .pointer (some ⟨b, 0, none⟩)) #[.pointer none, (.slice none 0 0)] 114 (by kernel_rfl) (by kernel_rfl) ?_
 intro b1 w2 hg3 hb4 hbe5 hz6
 refine gv_nil <| gv_seq <| gv_seq <| gv_region <| gv_pureN 1 [13] [(13, (.string s_1))] (by kernel_rfl) ?_
 refine gv_range (t := 9) (s := s_1) (by kernel_rfl) (by kernel_rfl) Tryd.underlying9 ?_
 intro b7 w8 hg9 hb10 hbe11 hz12
 refine gv_nil <| bindE h0 ?_; clear h0; intro j13 h1 h0
 refine gv_cut_code (J := fun a w14 => w0.grownBy w14 (some pb0c0) ∧ w8.heap.size ≤ w14.heap.size ∧ Box w14 pb0c0 4 #[(.bool j13.2.1)] ∧ Bld 114 5 w14 b1 j13.2.2 ∧ a.defers = [] ∧ a.tmps.size = 85 ∧ Ok [(0, (.func (.func 65) #[] #[(bp pb0c0)])), (1, (.string j13.1)), (5, (bp b1))] a.tmps) ?_ ?_
 ·skip
  refine gv_block <| gv_loop (A := fun (s15 : (ByteArray × Bool × (Option (List UInt8)) × Nat)) a w16 => w0.grownBy w16 (some pb0c0) ∧ w8.heap.size ≤ w16.heap.size ∧ Box w16 pb0c0 4 #[(.bool s15.2.1)] ∧ Bld 114 5 w16 b1 s15.2.2.1 ∧ At w16 b7 (.stringIter s_1 s15.2.2.2) ∧ a.defers = [] ∧ a.tmps.size = 85 ∧ Ok [(0, (.func (.func 65) #[] #[(bp pb0c0)])), (1, (.string s15.1)), (5, (bp b1)), (14, (bp b7))] a.tmps) h1 ?_ ?_
  ·intro a hd hs hok
   have hg17 := (grown_trans hg3 hg9)
   have hB18 := grown_step hB0 hg17 nb
   have hk19 := hp0c0.grown hg17 nb
   have hk20 := (bld_new (e := 5) hb4).grown hg9 nb
   exact ⟨hB18, (Nat.le_refl _), hk19, hk20, hb10, hd, hs, ok_pick [0, 1, 5, 14] hok (by kernel_rfl)⟩
  ·rintro s15 r2 h2 hR2 a w16 ⟨hB21, hz22, hb23, hb24, hb25, hd, hs, hok⟩
   refine gv_in ?_ hd hs hok
   clear hd hs hok
   clear hz12 hb10 hg9 hz6
   refine gv_seq <| gv_region <| gv_next (b := b7) (s := s_1) (pos := s15.2.2.2) (ty := 0) (by kernel_rfl) (by kernel_rfl) hb25 (fun hc26 => ?_) (fun hc26 => ?_)
   ·skip
    replace h2 := ite_t hc26 h2
    intro w27 hg28 hb29 hz30
    refine gv_pureN 1 [16] [(16, (.bool true))] (by kernel_rfl) ?_
    refine gv_nil <| gv_seq <| gv_cond (b := true) (by kernel_rfl) (fun hc => ?_) (fun hc => ?_)
    rotate_left; · cases hc
    clear hc
    refine gv_skip <| gv_block <| gv_seq <| gv_region <| gv_pureN 4 [6, 7, 17, 18] [(6, (.int .i64 ((s15.2.2.2 : Nat) : Int))), (7, (.int .i32 (runeI s_1 s15.2.2.2)))] (by kernel_rfl) ?_
    refine gv_nil <| gv_seq <| gv_region <| gv_pureN 2 [19, 20] [(19, (.func (.func 65) #[] #[(bp pb0c0)])), (20, (.int .i32 (runeI s_1 s15.2.2.2)))] (by kernel_rfl) ?_
    refine bindE h2 ?_; clear h2; intro r31 hr32 h2
    have hk33 := hp0c0.grown hg3 nb
    have ap34 : ¬ (· = pb0c0) b7 := fun hx => nl ((lowb hbe11) _ rfl) ((ltb hk33) _ hx)
    have hk35 := hb23.grown hg28 (rowne ap34)
    refine gv_call (f := 65) (vs := [(.int .i32 (runeI s_1 s15.2.2.2))]) (cap := [(bp pb0c0)]) _ (by decide) rfl rfl rfl (by kernel_rfl) (by kernel_rfl) enters65 (textstr_ToTitle_1_ok fuel (runeI s_1 s15.2.2.2) pb0c0 s15.2.1 w27 hk35 r31 hr32) ?_
    rintro v38 w36 ⟨hg37, rfl, hb39⟩
    refine ⟨(fun e => by cases e), ?_⟩
    refine gv_pureN 1 [8] [(8, (.int .i32 r31.1))] (by kernel_rfl) ?_
    refine gv_nil <| gv_seq <| gv_seq <| gv_region <| gv_cut_ops (J := fun a w40 => w36 = w40 ∧ a.defers = [] ∧ a.tmps.size = 85 ∧ Ok [(0, (.func (.func 65) #[] #[(bp pb0c0)])), (1, (.string s15.1)), (5, (bp b1)), (6, (.int .i64 ((s15.2.2.2 : Nat) : Int))), (7, (.int .i32 (runeI s_1 s15.2.2.2))), (8, (.int .i32 r31.1)), (14, (bp b7)), (28, (.bool ((r31.1 == (runeI s_1 s15.2.2.2)) && ((runeI s_1 s15.2.2.2) != 65533))))] a.tmps) ?_ ?_
    ·skip
     refine gv_pureN 4 [22, 23, 24, 25] [(25, (.bool (r31.1 == (runeI s_1 s15.2.2.2))))] (by kernel_rfl) ?_
     refine gv_split (s := 25) (g := (r31.1 == (runeI s_1 s15.2.2.2))) (by kernel_rfl) (fun hc41 => ?_) (fun hc41 => ?_)
     ·skip
      refine gv_pureN 3 [26, 27, 28] [(28, (.bool ((runeI s_1 s15.2.2.2) != 65533)))] (by kernel_rfl) ?_
      refine gv_nil <| gv_sub [0, 1, 5, 6, 7, 8, 14, 28] (σ' := [(0, (.func (.func 65) #[] #[(bp pb0c0)])), (1, (.string s15.1)), (5, (bp b1)), (6, (.int .i64 ((s15.2.2.2 : Nat) : Int))), (7, (.int .i32 (runeI s_1 s15.2.2.2))), (8, (.int .i32 r31.1)), (14, (bp b7)), (28, (.bool ((runeI s_1 s15.2.2.2) != 65533)))]) (by kernel_rfl) ?_
      refine gv_goal fun a hd hs hok => ⟨rfl, hd, hs, ?_⟩
      obtain ⟨q0, q1, q5, q6, q7, q8, q14, q28, _⟩ := hok
      exact ⟨q0, q1, q5, q6, q7, q8, q14, (by rw [hc41]; exact q28), trivial⟩
     ·skip
      refine gv_pureN 3 [26, 27, 28] [(28, (.bool false))] (by kernel_rfl) ?_
      refine gv_nil <| gv_sub [0, 1, 5, 6, 7, 8, 14, 28] (σ' := [(0, (.func (.func 65) #[] #[(bp pb0c0)])), (1, (.string s15.1)), (5, (bp b1)), (6, (.int .i64 ((s15.2.2.2 : Nat) : Int))), (7, (.int .i32 (runeI s_1 s15.2.2.2))), (8, (.int .i32 r31.1)), (14, (bp b7)), (28, (.bool false))]) (by kernel_rfl) ?_
      refine gv_goal fun a hd hs hok => ⟨rfl, hd, hs, ?_⟩
      obtain ⟨q0, q1, q5, q6, q7, q8, q14, q28, _⟩ := hok
      exact ⟨q0, q1, q5, q6, q7, q8, q14, (by rw [hc41]; exact q28), trivial⟩
    ·rintro a w40 ⟨e, hd, hs, hok⟩; subst e
     refine gv_in ?_ hd hs hok
     clear hd hs hok
     refine gv_cond (b := ((r31.1 == (runeI s_1 s15.2.2.2)) && ((runeI s_1 s15.2.2.2) != 65533))) (by kernel_rfl) (fun hc42 => ?_) (fun hc42 => ?_)
     ·replace h2 := ite_t hc42 h2
      refine gv_cexit <| gv_exit rfl ?_
      have e := sj h2; subst e
      refine gv_goal fun a hd hs hok => ?_
      have hB43 := grown_step hB0 hg3 nb
      have hlo44 : w0.heap.size ≤ b7 := lob hbe11 hB43.size
      have hB45 := grown_step hB21 hg28 (rowppr hlo44)
      have hB46 := grown_step hB45 hg37 rowpp
      have hz47 := (nt (nt hz22 hg28.size) hg37.size)
      have lt48 := ltl ((ltBld (bld_new (e := 5) hb4)) _ rfl) ((lowb hbe11) _ rfl)
      have hlo49 : w0.heap.size ≤ b1 := lob hbe5 hB0.size
      have hk50 := (hb24.grown hg28 (bld_at hb25 (ng lt48))).grown hg37 (bld_low (ltl hpl0c0 hlo49))
      have ap51 : ¬ (· = b7) pb0c0 := fun hx => nl ((lowb hbe11) _ hx) ((ltb hk33) _ rfl)
      have hk52 := hb29.grown hg37 (rowne ap51)
      exact ⟨(s15.1, r31.2, s15.2.2.1, (s15.2.2.2 + runeN s_1 s15.2.2.2)), rfl, hB46, hz47, hb39, hk50, hk52, hd, hs, ok_pick [0, 1, 5, 14] hok (by kernel_rfl)⟩
     ·replace h2 := ite_f hc42 h2
      refine gv_skip <| gv_seq <| gv_region <| gv_pureN 1 [9] [] (by kernel_rfl) ?_
      refine gv_nil <| gv_seq <| gv_seq <| gv_region <| gv_pureN 2 [29, 30] [(30, (.bool ((runeI s_1 s15.2.2.2) == 65533)))] (by kernel_rfl) ?_
      refine gv_nil <| bindE h2 ?_; clear h2; intro j53 h3 h2
      refine gv_cut_code (J := fun a w55 => ∃ s54 : Int, j53 = .inl s54 ∧ w0.grownBy w55 (some pb0c0) ∧ w36.heap.size ≤ w55.heap.size ∧ Box w55 pb0c0 4 #[(.bool r31.2)] ∧ Bld 114 5 w55 b1 s15.2.2.1 ∧ a.defers = [] ∧ a.tmps.size = 85 ∧ Ok [(0, (.func (.func 65) #[] #[(bp pb0c0)])), (1, (.string s15.1)), (5, (bp b1)), (6, (.int .i64 ((s15.2.2.2 : Nat) : Int))), (8, (.int .i32 r31.1)), (9, (.int .i64 s54))] a.tmps) ?_ ?_
      ·skip
       refine gv_cond (b := ((runeI s_1 s15.2.2.2) == 65533)) (by kernel_rfl) (fun hc56 => ?_) (fun hc56 => ?_)
       ·replace h3 := ite_t hc56 h3
        refine gv_seq <| gv_region <| gv_pureN 2 [32, 33] [(32, (.string s15.1)), (33, (.int .i64 ((s15.2.2.2 : Nat) : Int)))] (by kernel_rfl) ?_
        refine bindE h3 ?_; clear h3; intro x57 hx58 h3
        refine gv_ssub (t := 9) (s := s15.1) (lo := (some (.int .i64 ((s15.2.2.2 : Nat) : Int)))) (hi := none) ((s15.2.2.2 : Nat) : Int) ((ByteArray.size s15.1 : Nat) : Int) x57 [] (fun e => by cases e) rfl rfl rfl (by kernel_rfl) (by kernel_rfl) Tryd.underlying9 (.inr ⟨_, rfl⟩) (.inl ⟨rfl, rfl⟩) hx58 rfl ?_
        refine bindE h3 ?_; clear h3; intro r59 hr60 h3
        have hB61 := grown_step hB0 hg3 nb
        have hlo62 : w0.heap.size ≤ b7 := lob hbe11 hB61.size
        have hB63 := grown_step hB21 hg28 (rowppr hlo62)
        have hB64 := grown_step hB63 hg37 rowpp
        refine gv_call0 (by kernel_rfl) rfl (by kernel_rfl) enters102 (utf8_DecodeRuneInString_ok fuel x57 w36 (fun k => X0 k ∨ X0 k) (fun k hk => (hk).elim (fun h => (fun k (hk : X0 k) => ltl (hX0 k hk).1 hB64.size) k h) (fun h => (fun k (hk : X0 k) => ltl (hX0 k hk).1 hB64.size) k h)) ((hG1.grown hB64 (fun k hk => (hX0 k hk).1) (fun g e hk => by cases e; exact (hX0 _ hk).2 rfl)).wide (fun k hk => (.inl hk))) ((hG2.grown hB64 (fun k hk => (hX0 k hk).1) (fun g e hk => by cases e; exact (hX0 _ hk).2 rfl)).wide (fun k hk => (.inr hk))) r59 hr60) ?_
        rintro v67 w65 ⟨hg66, rfl⟩
        refine gv_pureN 5 [7, 9, 31, 36, 37] [(7, (.int .i32 r59.1)), (9, (.int .i64 r59.2))] (by kernel_rfl) ?_
        refine gv_nil <| gv_seq <| gv_region <| gv_cut_ops (J := fun a w68 => w65 = w68 ∧ a.defers = [] ∧ a.tmps.size = 85 ∧ Ok [(0, (.func (.func 65) #[] #[(bp pb0c0)])), (1, (.string s15.1)), (5, (bp b1)), (6, (.int .i64 ((s15.2.2.2 : Nat) : Int))), (8, (.int .i32 r31.1)), (9, (.int .i64 r59.2)), (14, (bp b7)), (44, (.bool ((r59.2 != 1) && (r31.1 == r59.1))))] a.tmps) ?_ ?_
        ·skip
         refine gv_pureN 3 [38, 39, 40] [(40, (.bool (r59.2 != 1)))] (by kernel_rfl) ?_
         refine gv_split (s := 40) (g := (r59.2 != 1)) (by kernel_rfl) (fun hc69 => ?_) (fun hc69 => ?_)
         ·skip
          refine gv_pureN 4 [41, 42, 43, 44] [(44, (.bool (r31.1 == r59.1)))] (by kernel_rfl) ?_
          refine gv_sub [0, 1, 5, 6, 8, 9, 14, 44] (σ' := [(0, (.func (.func 65) #[] #[(bp pb0c0)])), (1, (.string s15.1)), (5, (bp b1)), (6, (.int .i64 ((s15.2.2.2 : Nat) : Int))), (8, (.int .i32 r31.1)), (9, (.int .i64 r59.2)), (14, (bp b7)), (44, (.bool (r31.1 == r59.1)))]) (by kernel_rfl) ?_
          refine gv_nil <| gv_sub [0, 1, 5, 6, 8, 9, 14, 44] (σ' := [(0, (.func (.func 65) #[] #[(bp pb0c0)])), (1, (.string s15.1)), (5, (bp b1)), (6, (.int .i64 ((s15.2.2.2 : Nat) : Int))), (8, (.int .i32 r31.1)), (9, (.int .i64 r59.2)), (14, (bp b7)), (44, (.bool (r31.1 == r59.1)))]) (by kernel_rfl) ?_
          refine gv_goal fun a hd hs hok => ⟨rfl, hd, hs, ?_⟩
          obtain ⟨q0, q1, q5, q6, q8, q9, q14, q44, _⟩ := hok
          exact ⟨q0, q1, q5, q6, q8, q9, q14, (by rw [hc69]; exact q44), trivial⟩
         ·skip
          refine gv_pureN 4 [41, 42, 43, 44] [(44, (.bool false))] (by kernel_rfl) ?_
          refine gv_sub [0, 1, 5, 6, 8, 9, 14, 44] (σ' := [(0, (.func (.func 65) #[] #[(bp pb0c0)])), (1, (.string s15.1)), (5, (bp b1)), (6, (.int .i64 ((s15.2.2.2 : Nat) : Int))), (8, (.int .i32 r31.1)), (9, (.int .i64 r59.2)), (14, (bp b7)), (44, (.bool false))]) (by kernel_rfl) ?_
          refine gv_nil <| gv_sub [0, 1, 5, 6, 8, 9, 14, 44] (σ' := [(0, (.func (.func 65) #[] #[(bp pb0c0)])), (1, (.string s15.1)), (5, (bp b1)), (6, (.int .i64 ((s15.2.2.2 : Nat) : Int))), (8, (.int .i32 r31.1)), (9, (.int .i64 r59.2)), (14, (bp b7)), (44, (.bool false))]) (by kernel_rfl) ?_
          refine gv_goal fun a hd hs hok => ⟨rfl, hd, hs, ?_⟩
          obtain ⟨q0, q1, q5, q6, q8, q9, q14, q44, _⟩ := hok
          exact ⟨q0, q1, q5, q6, q8, q9, q14, (by rw [hc69]; exact q44), trivial⟩
        ·rintro a w68 ⟨e, hd, hs, hok⟩; subst e
         refine gv_in ?_ hd hs hok
         clear hd hs hok
         refine gv_cond (b := ((r59.2 != 1) && (r31.1 == r59.1))) (by kernel_rfl) (fun hc70 => ?_) (fun hc70 => ?_)
         ·replace h3 := ite_t hc70 h3
          refine gv_cexit <| gv_exit rfl ?_
          have e := sj h3; subst e
          replace h2 := cont_inr h2
          have e := sj h2; subst e
          refine gv_goal fun a hd hs hok => ?_
          have hB71 := grown_step hB64 hg66 nb
          have hz72 := (nt (nt (nt hz22 hg28.size) hg37.size) hg66.size)
          have hk73 := hb39.grown hg66 nb
          have lt74 := ltl ((ltBld (bld_new (e := 5) hb4)) _ rfl) ((lowb hbe11) _ rfl)
          have hlo75 : w0.heap.size ≤ b1 := lob hbe5 hB0.size
          have hk76 := ((hb24.grown hg28 (bld_at hb25 (ng lt74))).grown hg37 (bld_low (ltl hpl0c0 hlo75))).grown hg66 nb
          have ap77 : ¬ (· = b7) pb0c0 := fun hx => nl ((lowb hbe11) _ hx) ((ltb hk33) _ rfl)
          have hk78 := (hb29.grown hg37 (rowne ap77)).grown hg66 nb
          exact ⟨(s15.1, r31.2, s15.2.2.1, (s15.2.2.2 + runeN s_1 s15.2.2.2)), rfl, hB71, hz72, hk73, hk76, hk78, hd, hs, ok_pick [0, 1, 5, 14] hok (by kernel_rfl)⟩
         ·replace h3 := ite_f hc70 h3
          refine gv_skip ?_
          have e := sj h3; subst e
          refine gv_goal fun a hd hs hok => ?_
          have hB79 := grown_step hB64 hg66 nb
          have hz80 := hg66.size
          have hk81 := hb39.grown hg66 nb
          have lt82 := ltl ((ltBld (bld_new (e := 5) hb4)) _ rfl) ((lowb hbe11) _ rfl)
          have hlo83 : w0.heap.size ≤ b1 := lob hbe5 hB0.size
          have hk84 := ((hb24.grown hg28 (bld_at hb25 (ng lt82))).grown hg37 (bld_low (ltl hpl0c0 hlo83))).grown hg66 nb
          exact ⟨r59.2, rfl, hB79, hz80, hk81, hk84, hd, hs, ok_pick [0, 1, 5, 6, 8, 9] hok (by kernel_rfl)⟩
       ·replace h3 := ite_f hc56 h3
        refine gv_region <| gv_pureN 1 [45] [(45, (.int .i32 (runeI s_1 s15.2.2.2)))] (by kernel_rfl) ?_
        refine bindE h3 ?_; clear h3; intro r85 hr86 h3
        refine gv_call0 (by kernel_rfl) rfl (by kernel_rfl) enters113 (utf8_RuneLen_ok fuel (runeI s_1 s15.2.2.2) w36  r85 hr86) ?_
        rintro v89 w87 ⟨hg88, rfl⟩
        refine gv_pureN 1 [9] [(9, (.int .i64 r85))] (by kernel_rfl) ?_
        refine gv_nil ?_
        have e := sj h3; subst e
        refine gv_goal fun a hd hs hok => ?_
        have hB90 := grown_step hB0 hg3 nb
        have hlo91 : w0.heap.size ≤ b7 := lob hbe11 hB90.size
        have hB92 := grown_step hB21 hg28 (rowppr hlo91)
        have hB93 := grown_step hB92 hg37 rowpp
        have hB94 := grown_step hB93 hg88 nb
        have hz95 := hg88.size
        have hk96 := hb39.grown hg88 nb
        have lt97 := ltl ((ltBld (bld_new (e := 5) hb4)) _ rfl) ((lowb hbe11) _ rfl)
        have hlo98 : w0.heap.size ≤ b1 := lob hbe5 hB0.size
        have hk99 := ((hb24.grown hg28 (bld_at hb25 (ng lt97))).grown hg37 (bld_low (ltl hpl0c0 hlo98))).grown hg88 nb
        exact ⟨r85, rfl, hB94, hz95, hk96, hk99, hd, hs, ok_pick [0, 1, 5, 6, 8, 9] hok (by kernel_rfl)⟩
      ·rintro a w55 ⟨s54, e, hB100, hz101, hb102, hb103, hd, hs, hok⟩
       subst e
       refine gv_in ?_ hd hs hok
       clear hd hs hok
       replace h2 := cont_inl h2
       have hz104 := (nt (nt (nt hz22 hg28.size) hg37.size) hz101)
       clear hz101 hc42 hb39 hg37 hk35 ap34 hk33 hr32 hz30 hb29 hg28 hc26 hb25 hb24 hb23 hz22 hB21 hbe11 hb4 hg3
       refine gv_seq <| gv_region <| gv_pureN 3 [47, 48, 49] [(49, (.int .i64 (IntKind.i64.wrap (((ByteArray.size s15.1 : Nat) : Int) + 4))))] (by kernel_rfl) ?_
       refine bindE h2 ?_; clear h2; intro y105 hy106 h2
       refine gv_call0 (by kernel_rfl) rfl (by kernel_rfl) enters99 (builder_Grow hb103 hy106) ?_
       rintro v111 w107 ⟨rfl, hs108, hb110⟩
       have hlo113 : w0.heap.size ≤ b1 := lob hbe5 hB0.size
       have hB112 := grown_belowB hB100 hs108 hlo113
       have hk114 := hb102.belowB hs108 (ltl hpl0c0 hlo113)
       refine gv_nil <| gv_seq <| gv_region <| gv_pureN 2 [51, 52] [(51, (.string s15.1)), (52, (.int .i64 ((s15.2.2.2 : Nat) : Int)))] (by kernel_rfl) ?_
       refine bindE h2 ?_; clear h2; intro x115 hx116 h2
       refine gv_ssub (t := 9) (s := s15.1) (lo := none) (hi := (some (.int .i64 ((s15.2.2.2 : Nat) : Int)))) 0 ((s15.2.2.2 : Nat) : Int) x115 [] (fun e => by cases e) rfl rfl rfl (by kernel_rfl) (by kernel_rfl) Tryd.underlying9 (.inl ⟨rfl, rfl⟩) (.inr ⟨_, rfl⟩) hx116 rfl ?_
       refine bindE h2 ?_; clear h2; intro y117 hy118 h2
       refine gv_call0 (by kernel_rfl) rfl (by kernel_rfl) enters100 (builder_WriteString hb110 hy118) ?_
       rintro v123 w119 ⟨rfl, hs120, ho121, hb122⟩
       have hB124 := grown_belowB hB112 hs120 hlo113
       have hk125 := hk114.belowB hs120 (ltl hpl0c0 hlo113)
       have hz126 := (nt (nt hz104 hs108.size) hs120.size)
       clear ho121 hx116 hk114 hB112 hb110 hz104 hb103 hb102 hB100
       refine gv_nil <| gv_seq <| gv_seq <| gv_region <| gv_pureN 2 [55, 56] [(56, (.bool (decide (r31.1 ≥ 0))))] (by kernel_rfl) ?_
       refine gv_nil <| bindE h2 ?_; clear h2; intro j127 h3 h2
       refine gv_cut_code (J := fun a w128 => w0.grownBy w128 (some pb0c0) ∧ w119.heap.size ≤ w128.heap.size ∧ Box w128 pb0c0 4 #[(.bool r31.2)] ∧ Bld 114 5 w128 b1 j127 ∧ a.defers = [] ∧ a.tmps.size = 85 ∧ Ok [(0, (.func (.func 65) #[] #[(bp pb0c0)])), (1, (.string s15.1)), (5, (bp b1)), (6, (.int .i64 ((s15.2.2.2 : Nat) : Int))), (9, (.int .i64 s54))] a.tmps) ?_ ?_
       ·skip
        refine gv_cond (b := (decide (r31.1 ≥ 0))) (by kernel_rfl) (fun hc129 => ?_) (fun hc129 => ?_)
        ·replace h3 := ite_t hc129 h3
         refine gv_region <| gv_pureN 1 [57] [(57, (.int .i32 r31.1))] (by kernel_rfl) ?_
         refine bindE h3 ?_; clear h3; intro y130 hy131 h3
         refine gv_call0 (by kernel_rfl) rfl (by kernel_rfl) enters114 (builder_WriteRune hb122 hy131) ?_
         rintro v136 w132 ⟨rfl, hs133, ho134, hb135⟩
         have hB137 := grown_belowB hB124 hs133 hlo113
         have hk138 := hk125.belowB hs133 (ltl hpl0c0 hlo113)
         refine gv_nil ?_
         have e := sj h3; subst e
         refine gv_goal fun a hd hs hok => ?_
         have hz139 := hs133.size
         exact ⟨hB137, hz139, hk138, hb135, hd, hs, ok_pick [0, 1, 5, 6, 9] hok (by kernel_rfl)⟩
        ·replace h3 := ite_f hc129 h3
         refine gv_skip ?_
         have e := sj h3; subst e
         refine gv_goal fun a hd hs hok => ?_
         exact ⟨hB124, (Nat.le_refl _), hk125, hb122, hd, hs, ok_pick [0, 1, 5, 6, 9] hok (by kernel_rfl)⟩
       ·rintro a w128 ⟨hB140, hz141, hb142, hb143, hd, hs, hok⟩
        refine gv_in ?_ hd hs hok
        clear hd hs hok
        have hz144 := (nt hz126 hz141)
        clear hz141 hz126 hk125 hB124 hb122
        refine gv_seq <| gv_region <| gv_pureN 4 [59, 60, 61, 62] [(59, (.string s15.1)), (62, (.int .i64 (IntKind.i64.wrap (((s15.2.2.2 : Nat) : Int) + s54))))] (by kernel_rfl) ?_
        refine bindE h2 ?_; clear h2; intro x145 hx146 h2
        refine gv_ssub (t := 9) (s := s15.1) (lo := (some (.int .i64 (IntKind.i64.wrap (((s15.2.2.2 : Nat) : Int) + s54))))) (hi := none) (IntKind.i64.wrap (((s15.2.2.2 : Nat) : Int) + s54)) ((ByteArray.size s15.1 : Nat) : Int) x145 [] (fun e => by cases e) rfl rfl rfl (by kernel_rfl) (by kernel_rfl) Tryd.underlying9 (.inr ⟨_, rfl⟩) (.inl ⟨rfl, rfl⟩) hx146 rfl ?_
        refine gv_pureN 1 [1] [(1, (.string x145))] (by kernel_rfl) ?_
        refine gv_nil <| gv_cexit <| gv_exit rfl ?_
        have e := sj h2; subst e
        replace h1 := congrArg some (hR2 _ rfl)
        have e := sj h1; subst e
        refine gv_goal fun a hd hs hok => ?_
        have hz147 := hz144
        exact ⟨hB140, hz147, hb142, hb143, hd, hs, ok_pick [0, 1, 5] hok (by kernel_rfl)⟩
   ·skip
    replace h2 := ite_f hc26 h2
    refine gv_pureN 1 [16] [(16, (.bool false))] (by kernel_rfl) ?_
    refine gv_nil <| gv_seq <| gv_cond (b := false) (by kernel_rfl) (fun hc => ?_) (fun hc => ?_)
    ·cases hc
    clear hc
    refine gv_cexit <| gv_exit rfl ?_
    have e := sj h2; subst e
    replace h1 := congrArg some (hR2 _ rfl)
    have e := sj h1; subst e
    refine gv_goal fun a hd hs hok => ?_
    have hz148 := hz22
    exact ⟨hB21, hz148, hb23, hb24, hd, hs, ok_pick [0, 1, 5] hok (by kernel_rfl)⟩
 ·rintro a w14 ⟨hB149, hz150, hb151, hb152, hd, hs, hok⟩
  refine gv_in ?_ hd hs hok
  clear hd hs hok
  clear hz150 hz12 hbe11 hb10 hg9 hz6 hb4 hg3
  refine gv_seq <| gv_seq <| gv_region <| gv_call0 (by kernel_rfl) rfl (by kernel_rfl) enters115 (builder_Cap hb152) ?_
  rintro v159 w155 ⟨c160, rfl, hc161, rfl⟩
  refine gv_pureN 1 [65] [(65, (.bool ((c160 : Int) == 0)))] (by kernel_rfl) ?_
  refine gv_nil <| gv_name (s := 65) (v := (.bool ((c160 : Int) == 0))) (v' := (.bool (Option.isNone j13.2.2))) (by kernel_rfl) (congrArg Value.bool hc161) ?_
  refine gv_sub [0, 1, 5, 65] (σ' := [(0, (.func (.func 65) #[] #[(bp pb0c0)])), (1, (.string j13.1)), (5, (bp b1)), (65, (.bool (Option.isNone j13.2.2)))]) (by kernel_rfl) ?_
  refine gv_cond (b := (Option.isNone j13.2.2)) (by kernel_rfl) (fun hc162 => ?_) (fun hc162 => ?_)
  ·replace h0 := ite_t hc162 h0
   refine gv_seq <| gv_region <| gv_pureN 2 [4, 66] [(4, (.string j13.1))] (by kernel_rfl) ?_
   refine gv_nil <| gv_cret ?_
   have e := sj h0; subst e
   refine gv_ret (gv_done [(.string j13.1)] rfl ⟨(by kernel_rfl), trivial⟩ ?_)
   exact ⟨hB149, rfl, hb151⟩
  ·replace h0 := ite_f hc162 h0
   refine gv_skip <| gv_seq <| gv_seq <| gv_region <| gv_pureN 1 [67] [(67, (.string j13.1))] (by kernel_rfl) ?_
   refine gv_range (t := 9) (s := j13.1) (by kernel_rfl) (by kernel_rfl) Tryd.underlying9 ?_
   intro b163 w164 hg165 hb166 hbe167 hz168
   refine gv_nil <| bindE h0 ?_; clear h0; intro j169 h1 h0
   refine gv_cut_code (J := fun a w170 => w0.grownBy w170 (some pb0c0) ∧ w164.heap.size ≤ w170.heap.size ∧ Box w170 pb0c0 4 #[(.bool j169.1)] ∧ Bld 114 5 w170 b1 j169.2 ∧ a.defers = [] ∧ a.tmps.size = 85 ∧ Ok [(5, (bp b1))] a.tmps) ?_ ?_
   ·skip
    refine gv_block <| gv_loop (A := fun (s171 : (Bool × (Option (List UInt8)) × Nat)) a w172 => w0.grownBy w172 (some pb0c0) ∧ w164.heap.size ≤ w172.heap.size ∧ Box w172 pb0c0 4 #[(.bool s171.1)] ∧ Bld 114 5 w172 b1 s171.2.1 ∧ At w172 b163 (.stringIter j13.1 s171.2.2) ∧ a.defers = [] ∧ a.tmps.size = 85 ∧ Ok [(0, (.func (.func 65) #[] #[(bp pb0c0)])), (5, (bp b1)), (68, (bp b163))] a.tmps) h1 ?_ ?_
    ·intro a hd hs hok
     have hB173 := grown_step hB149 hg165 nb
     have hk174 := hb151.grown hg165 nb
     have hk175 := hb152.grown hg165 nb
     exact ⟨hB173, (Nat.le_refl _), hk174, hk175, hb166, hd, hs, ok_pick [0, 5, 68] hok (by kernel_rfl)⟩
    ·rintro s171 r2 h2 hR2 a w172 ⟨hB176, hz177, hb178, hb179, hb180, hd, hs, hok⟩
     refine gv_in ?_ hd hs hok
     clear hd hs hok
     clear hz168 hb166 hg165 hc162
     refine gv_seq <| gv_region <| gv_next (b := b163) (s := j13.1) (pos := s171.2.2) (ty := 0) (by kernel_rfl) (by kernel_rfl) hb180 (fun hc181 => ?_) (fun hc181 => ?_)
     ·skip
      replace h2 := ite_t hc181 h2
      intro w182 hg183 hb184 hz185
      refine gv_pureN 1 [70] [(70, (.bool true))] (by kernel_rfl) ?_
      refine gv_nil <| gv_seq <| gv_cond (b := true) (by kernel_rfl) (fun hc => ?_) (fun hc => ?_)
      rotate_left; · cases hc
      clear hc
      refine gv_skip <| gv_block <| gv_seq <| gv_region <| gv_pureN 2 [11, 71] [(11, (.int .i32 (runeI j13.1 s171.2.2)))] (by kernel_rfl) ?_
      refine gv_nil <| gv_seq <| gv_region <| gv_pureN 2 [72, 73] [(72, (.func (.func 65) #[] #[(bp pb0c0)])), (73, (.int .i32 (runeI j13.1 s171.2.2)))] (by kernel_rfl) ?_
      refine bindE h2 ?_; clear h2; intro r186 hr187 h2
      have ap188 : ¬ (· = pb0c0) b163 := fun hx => nl ((lowb hbe167) _ rfl) ((ltb hb151) _ hx)
      have hk189 := hb178.grown hg183 (rowne ap188)
      refine gv_call (f := 65) (vs := [(.int .i32 (runeI j13.1 s171.2.2))]) (cap := [(bp pb0c0)]) _ (by decide) rfl rfl rfl (by kernel_rfl) (by kernel_rfl) enters65 (textstr_ToTitle_1_ok fuel (runeI j13.1 s171.2.2) pb0c0 s171.1 w182 hk189 r186 hr187) ?_
      rintro v192 w190 ⟨hg191, rfl, hb193⟩
      refine ⟨(fun e => by cases e), ?_⟩
      refine gv_pureN 1 [12] [(12, (.int .i32 r186.1))] (by kernel_rfl) ?_
      refine gv_nil <| gv_seq <| gv_region <| gv_pureN 2 [75, 76] [(76, (.bool (decide (r186.1 ≥ 0))))] (by kernel_rfl) ?_
      refine gv_nil <| bindE h2 ?_; clear h2; intro j194 h3 h2
      refine gv_cut_code (J := fun a w195 => w0.grownBy w195 (some pb0c0) ∧ w190.heap.size ≤ w195.heap.size ∧ Box w195 pb0c0 4 #[(.bool r186.2)] ∧ Bld 114 5 w195 b1 j194 ∧ At w195 b163 (.stringIter j13.1 (s171.2.2 + runeN j13.1 s171.2.2)) ∧ a.defers = [] ∧ a.tmps.size = 85 ∧ Ok [(0, (.func (.func 65) #[] #[(bp pb0c0)])), (5, (bp b1)), (68, (bp b163))] a.tmps) ?_ ?_
      ·skip
       refine gv_cond (b := (decide (r186.1 ≥ 0))) (by kernel_rfl) (fun hc196 => ?_) (fun hc196 => ?_)
       ·replace h3 := ite_t hc196 h3
        refine gv_seq <| gv_region <| gv_pureN 2 [77, 78] [(78, (.bool (decide (r186.1 < 128))))] (by kernel_rfl) ?_
        refine gv_nil <| gv_cond (b := (decide (r186.1 < 128))) (by kernel_rfl) (fun hc197 => ?_) (fun hc197 => ?_)
        ·replace h3 := ite_t hc197 h3
         refine gv_region <| gv_pureN 2 [79, 80] [(80, (.int .u8 (IntKind.u8.wrap (r186.1))))] (by kernel_rfl) ?_
         refine bindE h3 ?_; clear h3; intro y198 hy199 h3
         have lt205 := ltl ((ltBld hb152) _ rfl) ((lowb hbe167) _ rfl)
         have hlo206 : w0.heap.size ≤ b1 := lob hbe5 hB0.size
         have hk207 := (hb179.grown hg183 (bld_at hb180 (ng lt205))).grown hg191 (bld_low (ltl hpl0c0 hlo206))
         refine gv_call0 (by kernel_rfl) rfl (by kernel_rfl) enters116 (builder_WriteByte hk207 hy199) ?_
         rintro v204 w200 ⟨rfl, hs201, ho202, hb203⟩
         have hlo209 : w0.heap.size ≤ b163 := lob hbe167 hB149.size
         have hB210 := grown_step hB176 hg183 (rowppr hlo209)
         have hB211 := grown_step hB210 hg191 rowpp
         have hB208 := grown_belowB hB211 hs201 hlo206
         have hk212 := hb193.belowB hs201 (ltl hpl0c0 hlo206)
         have ap214 : ¬ (· = b163) pb0c0 := fun hx => nl ((lowb hbe167) _ hx) ((ltb hb151) _ rfl)
         have hk215 := hb184.grown hg191 (rowne ap214)
         have hk213 := hk215.others ho202 (ng lt205)
         refine gv_nil ?_
         have e := sj h3; subst e
         refine gv_goal fun a hd hs hok => ?_
         have hz216 := hs201.size
         exact ⟨hB208, hz216, hk212, hb203, hk213, hd, hs, ok_pick [0, 5, 68] hok (by kernel_rfl)⟩
        ·replace h3 := ite_f hc197 h3
         refine gv_region <| gv_pureN 1 [82] [(82, (.int .i32 r186.1))] (by kernel_rfl) ?_
         refine bindE h3 ?_; clear h3; intro y217 hy218 h3
         have lt224 := ltl ((ltBld hb152) _ rfl) ((lowb hbe167) _ rfl)
         have hlo225 : w0.heap.size ≤ b1 := lob hbe5 hB0.size
         have hk226 := (hb179.grown hg183 (bld_at hb180 (ng lt224))).grown hg191 (bld_low (ltl hpl0c0 hlo225))
         refine gv_call0 (by kernel_rfl) rfl (by kernel_rfl) enters114 (builder_WriteRune hk226 hy218) ?_
         rintro v223 w219 ⟨rfl, hs220, ho221, hb222⟩
         have hlo228 : w0.heap.size ≤ b163 := lob hbe167 hB149.size
         have hB229 := grown_step hB176 hg183 (rowppr hlo228)
         have hB230 := grown_step hB229 hg191 rowpp
         have hB227 := grown_belowB hB230 hs220 hlo225
         have hk231 := hb193.belowB hs220 (ltl hpl0c0 hlo225)
         have ap233 : ¬ (· = b163) pb0c0 := fun hx => nl ((lowb hbe167) _ hx) ((ltb hb151) _ rfl)
         have hk234 := hb184.grown hg191 (rowne ap233)
         have hk232 := hk234.others ho221 (ng lt224)
         refine gv_nil ?_
         have e := sj h3; subst e
         refine gv_goal fun a hd hs hok => ?_
         have hz235 := hs220.size
         exact ⟨hB227, hz235, hk231, hb222, hk232, hd, hs, ok_pick [0, 5, 68] hok (by kernel_rfl)⟩
       ·replace h3 := ite_f hc196 h3
        refine gv_skip ?_
        have e := sj h3; subst e
        refine gv_goal fun a hd hs hok => ?_
        have hlo236 : w0.heap.size ≤ b163 := lob hbe167 hB149.size
        have hB237 := grown_step hB176 hg183 (rowppr hlo236)
        have hB238 := grown_step hB237 hg191 rowpp
        have lt239 := ltl ((ltBld hb152) _ rfl) ((lowb hbe167) _ rfl)
        have hlo240 : w0.heap.size ≤ b1 := lob hbe5 hB0.size
        have hk241 := (hb179.grown hg183 (bld_at hb180 (ng lt239))).grown hg191 (bld_low (ltl hpl0c0 hlo240))
        have ap242 : ¬ (· = b163) pb0c0 := fun hx => nl ((lowb hbe167) _ hx) ((ltb hb151) _ rfl)
        have hk243 := hb184.grown hg191 (rowne ap242)
        exact ⟨hB238, (Nat.le_refl _), hb193, hk241, hk243, hd, hs, ok_pick [0, 5, 68] hok (by kernel_rfl)⟩
      ·rintro a w195 ⟨hB244, hz245, hb246, hb247, hb248, hd, hs, hok⟩
       refine gv_in ?_ hd hs hok
       clear hd hs hok
       have hz249 := (nt (nt (nt hz177 hg183.size) hg191.size) hz245)
       clear hz245 hb193 hg191 hk189 hr187 hz185 hb184 hg183 hc181 hb180 hb179 hb178 hz177 hB176
       refine gv_blk ?_
       have e := sj h2; subst e
       refine gv_goal fun a hd hs hok => ?_
       have hz250 := hz249
       exact ⟨(r186.2, j194, (s171.2.2 + runeN j13.1 s171.2.2)), rfl, hB244, hz250, hb246, hb247, hb248, hd, hs, ok_pick [0, 5, 68] hok (by kernel_rfl)⟩
     ·skip
      replace h2 := ite_f hc181 h2
      refine gv_pureN 1 [70] [(70, (.bool false))] (by kernel_rfl) ?_
      refine gv_nil <| gv_seq <| gv_cond (b := false) (by kernel_rfl) (fun hc => ?_) (fun hc => ?_)
      ·cases hc
      clear hc
      refine gv_cexit <| gv_exit rfl ?_
      have e := sj h2; subst e
      replace h1 := congrArg some (hR2 _ rfl)
      have e := sj h1; subst e
      refine gv_goal fun a hd hs hok => ?_
      have hz251 := hz177
      exact ⟨hB176, hz251, hb178, hb179, hd, hs, ok_pick [5] hok (by kernel_rfl)⟩
   ·rintro a w170 ⟨hB252, hz253, hb254, hb255, hd, hs, hok⟩
    refine gv_in ?_ hd hs hok
    clear hd hs hok
    clear hz253 hz168 hbe167 hb166 hg165 hc162 hb152 hb151 hB149
    refine gv_seq <| gv_region <| bindE h0 ?_; clear h0; intro y256 hy257 h0
    refine gv_call0 (by kernel_rfl) rfl (by kernel_rfl) enters101 (builder_String hb255 hy257) ?_
    rintro v262 w258 ⟨rfl, hs259, ho260⟩
    have hlo264 : w0.heap.size ≤ b1 := lob hbe5 hB0.size
    have hB263 := grown_belowB hB252 hs259 hlo264
    have hk265 := hb254.belowB hs259 (ltl hpl0c0 hlo264)
    refine gv_pureN 1 [4] [(4, (.string y256))] (by kernel_rfl) ?_
    refine gv_nil <| gv_cret ?_
    have e := sj h0; subst e
    refine gv_ret (gv_done [(.string y256)] rfl ⟨(by kernel_rfl), trivial⟩ ?_)
    exact ⟨hB263, rfl, hk265⟩

theorem textstr_change_ToTitle_1_ok (fuel : Nat) (s_0 : ByteArray) (pb1c0 : Nat) (f_1c0 : Bool) (w0 : World) (X0 : Nat → Prop) (hX0 : ∀ k, X0 k → k < w0.heap.size ∧ k ≠ pb1c0) (hp1c0 : Box w0 pb1c0 4 #[(.bool f_1c0)]) (hG1 : Rd bE w0 X0 (some ⟨1, 0, none⟩) 256 utf8First) (hG2 : Rd (prE (iE .u8) (iE .u8)) w0 X0 (some ⟨2, 0, none⟩) 16 utf8Acc) (r0 : (ByteArray × (Int × Int) × Bool)) (h0 : textstr_change_ToTitle_1 fuel s_0 f_1c0 = some r0) :
    Calls Tryd.prog 62 ([(.string s_0), (.func (.func 65) #[] #[(bp pb1c0)])] : List Value).toArray w0 (Ret fun v w' => w0.grownBy w' (some pb1c0) ∧ v = tup [(.string r0.1), (.agg #[(.int .i64 r0.2.1.1), (.int .i64 r0.2.1.2)])] ∧ Box w' pb1c0 4 #[(.bool r0.2.2)]) := by
 have hB0 : w0.grownBy w0 (some pb1c0) := grown_refl _ _
 unfold textstr_change_ToTitle_1 at h0
 refine calls_run Tryd.func62 rfl Tryd.ntmps62 (by kernel_rfl) ?_
 refine gv_sub [0, 1] (σ' := [(0, (.string s_0)), (1, (.func (.func 65) #[] #[(bp pb1c0)]))]) (by kernel_rfl) ?_
 have hpl1c0 := hp1c0.lt
 refine gv_seq <| gv_region <| gv_pureN 1 [4] [] (by kernel_rfl) ?_
 refine gv_new0 (fun b => .pointer (some ⟨b, 0, none⟩)) #[(.int .i64 0), (.int .i64 0)] 24 (by kernel_rfl) (by kernel_rfl) ?_
 intro b1 w2 hg3 hb4 hbe5 hz6
 refine gv_nil <| gv_seq <| gv_seq <| gv_region <| gv_pureN 1 [7] [(7, (.string s_0))] (by kernel_rfl) ?_
 refine gv_new0 (fun b => .slice (some ⟨b, 0, none⟩) 1 1) #[(.string s_0)] 9 (by kernel_rfl) (by kernel_rfl) ?_
 intro b7 w8 hg9 hb10 hbe11 hz12
 have ho13 : Gv.Own sE 9 w8 (fun _ => False) (some ⟨b7, 0, none⟩) 1 ([s_0] : List ByteArray) := Box.ownE hb10 ⟨[(.string s_0)], [], rfl, rfl, rfl⟩ (show 1 ≤ maxLen by decide) (fun h => h)
 have hB18 := grown_step hB0 hg3 nb
 have hl14 : ∀ g, blk (some ⟨b7, 0, none⟩) = some g → w0.heap.size ≤ g := loo hbe11 hB18.size
 refine bindE h0 ?_; clear h0; intro r19 hr20 h0
 have hB21 := grown_step hB18 hg9 nb
 refine gv_call0 (by kernel_rfl) rfl (by kernel_rfl) enters58 (textstr_check_ok fuel (some ⟨b7, 0, none⟩) 1 ([s_0] : List ByteArray) w8 (fun k => (fun k => blk (some ⟨b7, 0, none⟩) = some k) k ∨ X0 k ∨ X0 k) (fun k hk => (hk).elim (fun h => (fun k (hk : blk (some ⟨b7, 0, none⟩) = some k) => ho13.lt k hk) k h) (fun h => (h).elim (fun h => (fun k (hk : X0 k) => ltl (hX0 k hk).1 hB21.size) k h) (fun h => (fun k (hk : X0 k) => ltl (hX0 k hk).1 hB21.size) k h))) ((ho13.rd (Y := fun k => blk (some ⟨b7, 0, none⟩) = some k) (fun _ h => h.elim) (fun g e => e)).wide (fun k hk => (.inl hk))) ((hG1.grown hB21 (fun k hk => (hX0 k hk).1) (fun g e hk => by cases e; exact (hX0 _ hk).2 rfl)).wide (fun k hk => (.inr (.inl hk)))) ((hG2.grown hB21 (fun k hk => (hX0 k hk).1) (fun g e hk => by cases e; exact (hX0 _ hk).2 rfl)).wide (fun k hk => (.inr (.inr hk)))) r19 hr20) ?_
 rintro v24 w22 ⟨hg23, rfl⟩
 refine gv_new0 (fun b => .pointer (some ⟨b, 0, none⟩)) #[(.int .i64 0), (.int .i64 0)] 24 (by kernel_rfl) (by kernel_rfl) ?_
 intro b25 w26 hg27 hb28 hbe29 hz30
 refine gv_store0 24 0 (.agg #[(.int .i64 r19.1), (.int .i64 r19.2)]) #[(.int .i64 r19.1), (.int .i64 r19.2)] hb28 (by kernel_rfl) (by kernel_rfl) (by kernel_rfl) ?_
 intro w31 hg32 hb33 hz34
 refine gv_nil <| gv_seq <| gv_region <| gv_pureN 1 [10] [(10, (bp b25))] (by kernel_rfl) ?_
 refine gv_load (t := 3) (A := ⟨b25, 0, none⟩) (.int .i64 r19.1) [] (fun e => by cases e) rfl rfl rfl (by kernel_rfl) (by kernel_rfl) (by kernel_rfl) (inw0 (hb33.cell 0 rfl)) rfl ?_
 refine gv_pureN 1 [12] [(12, (.bool (r19.1 != 0)))] (by kernel_rfl) ?_
 refine gv_nil <| gv_cond (b := (r19.1 != 0)) (by kernel_rfl) (fun hc35 => ?_) (fun hc35 => ?_)
 ·replace h0 := ite_t hc35 h0
  refine gv_seq <| gv_drawA (by kernel_rfl) ?_
  intro w36 hg37
  refine gv_pre [1] (bA 3 [1]) 2 (by kernel_rfl) (by kernel_rfl) ?_
  refine gv_pureN 1 [4] [(4, (.string (strOf [])))] (by kernel_rfl) ?_
  refine gv_nil <| gv_goA ?_
  refine gv_stage (Cls w36 []) [0, 1] [(0, some true)] (bA 3 [0, 1]) 1 (by kernel_rfl) (by kernel_rfl) (Cls.refl _ _) ?_
  have hC38 := Cls.refl w36 []
  have hk39 := hb33.grown hg37 nb
  refine gv_loadBox (t := 24) (b := b25) (t' := 24) (fr := (0, 0)) #[(.int .i64 r19.1), (.int .i64 r19.2)] [] (fun e => by cases e) rfl rfl rfl (by kernel_rfl) (by kernel_rfl) (by kernel_rfl) (by kernel_rfl) (inw1 fun w' hC' => (hC'.box hk39 nm_nil)) rfl ?_
  refine gv_nil <| gv_goA ?_
  refine gv_stage (fun _ => True) [0, 1, 2] [(2, some false)] (bA 3 [0, 1, 2]) 0 (by kernel_rfl) (by kernel_rfl) trivial ?_
  have hg44 := (grown_trans (grown_trans hg9 hg23) hg27)
  have hg45 := (grown_trans hg9 hg23)
  have hk46 := hb4.grown hg45 nb
  have lt47 := ltl ((ltb hk46) _ rfl) ((lowb hbe29) _ rfl)
  have hk48 := ((hb4.grown hg44 nb).grown hg32 (rowne (ng lt47))).grown hg37 nb
  refine gv_store (t := 24) (b := b1) (off := 0) (v := (.agg #[(.int .i64 r19.1), (.int .i64 r19.2)])) (t' := 24) (cs := #[(.int .i64 0), (.int .i64 0)]) #[(.int .i64 r19.1), (.int .i64 r19.2)] (by decide) rfl rfl (by kernel_rfl) (by kernel_rfl) (by kernel_rfl) (by intro u hu; simp [Value.cells] at hu; rcases hu with rfl | rfl <;> rfl) (show 0 + 2 ≤ 2 by decide) (by rfl) hk48 ?_
  intro w40 hg41 hb42 hz43
  refine ⟨(fun _ => trivial), ?_⟩
  refine gv_nil <| gv_goA ?_
  refine gv_stageE (by kernel_rfl) ?_
  refine gv_cret ?_
  have e := sj h0; subst e
  refine gv_ret (gv_done [(.string (strOf [])), (.agg #[(.int .i64 r19.1), (.int .i64 r19.2)])] rfl ⟨(by kernel_rfl), ⟨⟨b1, 0, none⟩, (by kernel_rfl), run_loadVar_row w40 b1 _ 24 _ _ _ hb42 Tryd.underlying24 rfl (by kernel_rfl)⟩, trivial⟩ ?_)
  have hg49 := (grown_trans hg23 hg27)
  have hB50 := grown_step hB21 hg49 nb
  have hB51 := grown_step hB21 hg23 nb
  have hlo52 : w0.heap.size ≤ b25 := lob hbe29 hB51.size
  have hB53 := grown_step hB50 hg32 (rowppr hlo52)
  have hB54 := grown_step hB53 hg37 nb
  have hlo55 : w0.heap.size ≤ b1 := lob hbe5 hB0.size
  have hB56 := grown_step hB54 hg41 (rowppr hlo55)
  have hg57 := (grown_trans hg3 hg44)
  have hg58 := (grown_trans hg3 hg45)
  have hk59 := hp1c0.grown hg58 nb
  have ap60 : ¬ (· = pb1c0) b25 := fun hx => nl ((lowb hbe29) _ rfl) ((ltb hk59) _ hx)
  have ap61 : ¬ (· = pb1c0) b1 := fun hx => nl ((lowb hbe5) _ rfl) ((ltb hp1c0) _ hx)
  have hk62 := (((hp1c0.grown hg57 nb).grown hg32 (rowne ap60)).grown hg37 nb).grown hg41 (rowne ap61)
  exact ⟨hB56, rfl, hk62⟩
 ·replace h0 := ite_f hc35 h0
  refine gv_skip <| gv_seq <| gv_region <| gv_pureN 2 [14, 15] [(14, (.func (.func 65) #[] #[(bp pb1c0)])), (15, (.string s_0))] (by kernel_rfl) ?_
  refine bindE h0 ?_; clear h0; intro r63 hr64 h0
  have hg65 := (grown_trans hg23 hg27)
  have hB66 := grown_step hB21 hg65 nb
  have hB67 := grown_step hB21 hg23 nb
  have hlo68 : w0.heap.size ≤ b25 := lob hbe29 hB67.size
  have hB69 := grown_step hB66 hg32 (rowppr hlo68)
  have hg70 := (grown_trans (grown_trans hg3 hg9) hg65)
  have hg71 := (grown_trans (grown_trans hg3 hg9) hg23)
  have hk72 := hp1c0.grown hg71 nb
  have ap73 : ¬ (· = pb1c0) b25 := fun hx => nl ((lowb hbe29) _ rfl) ((ltb hk72) _ hx)
  have hk74 := (hp1c0.grown hg70 nb).grown hg32 (rowne ap73)
  refine gv_call0 (by kernel_rfl) rfl (by kernel_rfl) enters90 (strings_Map_ToTitle_1_ok fuel pb1c0 f_1c0 s_0 w31 (fun k => X0 k ∨ X0 k) (fun k hk => ⟨(hk).elim (fun h => (fun k (hk : X0 k) => ltl (hX0 k hk).1 hB69.size) k h) (fun h => (fun k (hk : X0 k) => ltl (hX0 k hk).1 hB69.size) k h), fun e => (hk).elim (fun h => (fun (hx : X0 pb1c0) => (hX0 _ hx).2 rfl) (e ▸ h)) (fun h => (fun (hx : X0 pb1c0) => (hX0 _ hx).2 rfl) (e ▸ h))⟩) hk74 ((hG1.grown hB69 (fun k hk => (hX0 k hk).1) (fun g e hk => by cases e; exact (hX0 _ hk).2 rfl)).wide (fun k hk => (.inl hk))) ((hG2.grown hB69 (fun k hk => (hX0 k hk).1) (fun g e hk => by cases e; exact (hX0 _ hk).2 rfl)).wide (fun k hk => (.inr hk))) r63 hr64) ?_
  rintro v77 w75 ⟨hg76, rfl, hb78⟩
  clear hk74 ap73 hk72 hg71 hg70 hlo68 hB67 hB66 hg65 hr64 hc35 hz34 hb33 hz30 hb28 hB21 hr20 hl14 hB18 ho13 hz12 hbe11 hb10 hz6 hg3
  refine gv_pureN 2 [4, 17] [(4, (.string r63.1)), (17, (.agg #[(.int .i64 0), (.int .i64 0)]))] (by kernel_rfl) ?_
  have hg83 := (grown_trans (grown_trans hg9 hg23) hg27)
  have hg84 := (grown_trans hg9 hg23)
  have hk85 := hb4.grown hg84 nb
  have lt86 := ltl ((ltb hk85) _ rfl) ((lowb hbe29) _ rfl)
  have ap87 : ¬ (· = b1) pb1c0 := fun hx => nl ((lowb hbe5) _ hx) ((ltb hp1c0) _ rfl)
  have hk88 := ((hb4.grown hg83 nb).grown hg32 (rowne (ng lt86))).grown hg76 (rowne ap87)
  refine gv_store0 24 0 (.agg #[(.int .i64 0), (.int .i64 0)]) #[(.int .i64 0), (.int .i64 0)] hk88 (by kernel_rfl) (by kernel_rfl) (by kernel_rfl) ?_
  intro w79 hg80 hb81 hz82
  refine gv_nil <| gv_cret ?_
  have e := sj h0; subst e
  refine gv_ret (gv_done [(.string r63.1), (.agg #[(.int .i64 0), (.int .i64 0)])] rfl ⟨(by kernel_rfl), ⟨⟨b1, 0, none⟩, (by kernel_rfl), run_loadVar_row w79 b1 _ 24 _ _ _ hb81 Tryd.underlying24 rfl (by kernel_rfl)⟩, trivial⟩ ?_)
  have hB89 := grown_step hB69 hg76 rowpp
  have hlo90 : w0.heap.size ≤ b1 := lob hbe5 hB0.size
  have hB91 := grown_step hB89 hg80 (rowppr hlo90)
  have ap92 : ¬ (· = pb1c0) b1 := fun hx => nl ((lowb hbe5) _ rfl) ((ltb hp1c0) _ hx)
  have hk93 := hb78.grown hg80 (rowne ap92)
  exact ⟨hB91, rfl, hk93⟩

theorem textstr_ToTitle_ok (fuel : Nat) (s_0 : ByteArray) (w0 : World) (X0 : Nat → Prop) (hX0 : ∀ k, X0 k → k < w0.heap.size) (hG1 : Rd bE w0 X0 (some ⟨1, 0, none⟩) 256 utf8First) (hG2 : Rd (prE (iE .u8) (iE .u8)) w0 X0 (some ⟨2, 0, none⟩) 16 utf8Acc) (r0 : (ByteArray × (Int × Int))) (h0 : textstr_ToTitle fuel s_0 = some r0) :
    Calls Tryd.prog 21 ([(.string s_0)] : List Value).toArray w0 (Ret fun v w' => w0.grownBy w' none ∧ v = tup [(.string r0.1), (.agg #[(.int .i64 r0.2.1), (.int .i64 r0.2.2)])]) := by
 have hB0 : Below w0.heap.size w0 w0 := Below.refl _ _
 unfold textstr_ToTitle at h0
 refine calls_run Tryd.func21 rfl Tryd.ntmps21 (by kernel_rfl) ?_
 refine gv_sub [0] (σ' := [(0, (.string s_0))]) (by kernel_rfl) ?_
 refine gv_seq <| gv_region <| gv_pureN 1 [2] [] (by kernel_rfl) ?_
 refine gv_new0 (fun b => .pointer (some ⟨b, 0, none⟩)) #[(.int .i64 0), (.int .i64 0)] 24 (by kernel_rfl) (by kernel_rfl) ?_
 intro b1 w2 hg3 hb4 hbe5 hz6
 refine gv_nil <| gv_seq <| gv_region <| gv_new0 (fun b => .pointer (some ⟨b, 0, none⟩)) #[(.bool false)] 4 (by kernel_rfl) (by kernel_rfl) ?_
 intro b7 w8 hg9 hb10 hbe11 hz12
 refine gv_store0 4 0 (.bool false) #[(.bool false)] hb10 (by kernel_rfl) (by kernel_rfl) (by kernel_rfl) ?_
 intro w13 hg14 hb15 hz16
 refine gv_nil <| gv_seq <| gv_region <| gv_pureN 2 [5, 6] [(5, (.string s_0)), (6, (.func (.func 65) #[] #[(bp b7)]))] (by kernel_rfl) ?_
 refine bindE h0 ?_; clear h0; intro r17 hr18 h0
 have hg19 := (grown_trans hg3 hg9)
 have hB20 := bg hB0 hg19 nb
 have hB21 := bg hB0 hg3 nb
 have hlo22 : w0.heap.size ≤ b7 := lob hbe11 hB21.size
 have hB23 := bg hB20 hg14 (rowlo hlo22)
 refine gv_call0 (by kernel_rfl) rfl (by kernel_rfl) enters62 (textstr_change_ToTitle_1_ok fuel s_0 b7 false w13 (fun k => X0 k ∨ X0 k) (fun k hk => ⟨(hk).elim (fun h => (fun k (hk : X0 k) => ltl (hX0 k hk) hB23.size) k h) (fun h => (fun k (hk : X0 k) => ltl (hX0 k hk) hB23.size) k h), fun e => (hk).elim (fun h => (fun (hx : X0 b7) => nl hlo22 (hX0 _ hx)) (e ▸ h)) (fun h => (fun (hx : X0 b7) => nl hlo22 (hX0 _ hx)) (e ▸ h))⟩) hb15 ((hG1.below hB23 hX0).wide (fun k hk => (.inl hk))) ((hG2.below hB23 hX0).wide (fun k hk => (.inr hk))) r17 hr18) ?_
 rintro v26 w24 ⟨hg25, rfl, hb27⟩
 refine gv_pureN 3 [2, 8, 9] [(2, (.string r17.1)), (9, (.agg #[(.int .i64 r17.2.1.1), (.int .i64 r17.2.1.2)]))] (by kernel_rfl) ?_
 have lt32 := ltl ((ltb hb4) _ rfl) ((lowb hbe11) _ rfl)
 have hk33 := ((hb4.grown hg9 nb).grown hg14 (rowne (ng lt32))).grown hg25 (rowne (ng lt32))
 refine gv_store0 24 0 (.agg #[(.int .i64 r17.2.1.1), (.int .i64 r17.2.1.2)]) #[(.int .i64 r17.2.1.1), (.int .i64 r17.2.1.2)] hk33 (by kernel_rfl) (by kernel_rfl) (by kernel_rfl) ?_
 intro w28 hg29 hb30 hz31
 refine gv_nil <| gv_cret ?_
 have e := sj h0; subst e
 refine gv_ret (gv_done [(.string r17.1), (.agg #[(.int .i64 r17.2.1.1), (.int .i64 r17.2.1.2)])] rfl ⟨(by kernel_rfl), ⟨⟨b1, 0, none⟩, (by kernel_rfl), run_loadVar_row w28 b1 _ 24 _ _ _ hb30 Tryd.underlying24 rfl (by kernel_rfl)⟩, trivial⟩ ?_)
 have hB34 := bg hB23 hg25 (rowlo hlo22)
 have hlo35 : w0.heap.size ≤ b1 := lob hbe5 hB0.size
 have hB36 := bg hB34 hg29 (rowlo hlo35)
 exact ⟨grown_of_below hB36, rfl⟩

end Go.Proofs.YtkmcegicngjhbaaDoor
