import Derived.Test.YtkmcegicngjhbaaDoorP1
set_option linter.all false
set_option maxHeartbeats 4000000
set_option maxRecDepth 100000
/- Own work, printed by a program of mine: the walk of each function: a call returns what the plain function says. -/
namespace Go.Proofs.YtkmcegicngjhbaaDoor
open Go.Gv Go.Gv.D Go.RowKit
theorem enters15 : Go.Gv.Enters Tryd.prog 15 := ⟨Tryd.f15, Tryd.func15, by kernel_rfl, by kernel_rfl⟩
theorem enters23 : Go.Gv.Enters Tryd.prog 23 := ⟨Tryd.f23, Tryd.func23, by kernel_rfl, by kernel_rfl⟩
theorem enters24 : Go.Gv.Enters Tryd.prog 24 := ⟨Tryd.f24, Tryd.func24, by kernel_rfl, by kernel_rfl⟩
theorem enters29 : Go.Gv.Enters Tryd.prog 29 := ⟨Tryd.f29, Tryd.func29, by kernel_rfl, by kernel_rfl⟩
theorem enters31 : Go.Gv.Enters Tryd.prog 31 := ⟨Tryd.f31, Tryd.func31, by kernel_rfl, by kernel_rfl⟩
theorem enters37 : Go.Gv.Enters Tryd.prog 37 := ⟨Tryd.f37, Tryd.func37, by kernel_rfl, by kernel_rfl⟩
theorem enters38 : Go.Gv.Enters Tryd.prog 38 := ⟨Tryd.f38, Tryd.func38, by kernel_rfl, by kernel_rfl⟩
theorem enters39 : Go.Gv.Enters Tryd.prog 39 := ⟨Tryd.f39, Tryd.func39, by kernel_rfl, by kernel_rfl⟩
theorem enters40 : Go.Gv.Enters Tryd.prog 40 := ⟨Tryd.f40, Tryd.func40, by kernel_rfl, by kernel_rfl⟩
theorem enters67 : Go.Gv.Enters Tryd.prog 67 := ⟨Tryd.f67, Tryd.func67, by kernel_rfl, by kernel_rfl⟩
theorem enters70 : Go.Gv.Enters Tryd.prog 70 := ⟨Tryd.f70, Tryd.func70, by kernel_rfl, by kernel_rfl⟩
theorem enters71 : Go.Gv.Enters Tryd.prog 71 := ⟨Tryd.f71, Tryd.func71, by kernel_rfl, by kernel_rfl⟩
theorem enters72 : Go.Gv.Enters Tryd.prog 72 := ⟨Tryd.f72, Tryd.func72, by kernel_rfl, by kernel_rfl⟩
theorem enters74 : Go.Gv.Enters Tryd.prog 74 := ⟨Tryd.f74, Tryd.func74, by kernel_rfl, by kernel_rfl⟩
theorem enters75 : Go.Gv.Enters Tryd.prog 75 := ⟨Tryd.f75, Tryd.func75, by kernel_rfl, by kernel_rfl⟩
theorem enters92 : Go.Gv.Enters Tryd.prog 92 := ⟨Tryd.f92, Tryd.func92, by kernel_rfl, by kernel_rfl⟩
theorem enters97 : Go.Gv.Enters Tryd.prog 97 := ⟨Tryd.f97, Tryd.func97, by kernel_rfl, by kernel_rfl⟩
theorem info3 : InfoOk Tryd.prog 3 1 := infoOk (z := (.int .i64 0)) (bytes := 8) (by kernel_rfl) (by kernel_rfl) (by kernel_rfl) (by kernel_rfl)
theorem eqs24eql (a0 : Int) (a1 : Int) (b0 : Int) (b1 : Int) (x y : Operand) (w : World) : (do eqGuard .eql 24 x y (.agg #[.int .i64 a0, .int .i64 a1]) (.agg #[.int .i64 b0, .int .i64 b1]); binOp .eql 24 (.agg #[.int .i64 a0, .int .i64 a1]) (.agg #[.int .i64 b0, .int .i64 b1]) : Sem Value).run Tryd.prog w = .ok (.bool ((a0 == b0) && (a1 == b1))) w := by
  have h1 : Tryd.prog.eqGuardType Tryd.prog.depth 24 = false := by kernel_rfl
  have h2 : Tryd.prog.stoodInHeld 24 = false := by kernel_rfl
  have h3 : Tryd.prog.underlying 24 = some (.struct (Tryd.prog.fieldsOf 24)) := by kernel_rfl
  have h4 := Tryd.underlying24
  rw [Sem.run_bind, run_eqGuard_agg w .eql 24 x y _ _ h1, Result.andThen_ok, run_eql_struct, run_equalIn_struct w 9999 24 _ _ h3 h2]
  by_cases g0 : a0 = b0 <;> by_cases g1 : a1 = b1 <;> simp [Program.fieldsOf, h4, Op.eqFields, part, isAgg, run_underlying Tryd.underlying3, run_equalIn_int _ _ _ _ _ _ _ Tryd.underlying3, g0, g1]
theorem eqs24neq (a0 : Int) (a1 : Int) (b0 : Int) (b1 : Int) (x y : Operand) (w : World) : (do eqGuard .neq 24 x y (.agg #[.int .i64 a0, .int .i64 a1]) (.agg #[.int .i64 b0, .int .i64 b1]); binOp .neq 24 (.agg #[.int .i64 a0, .int .i64 a1]) (.agg #[.int .i64 b0, .int .i64 b1]) : Sem Value).run Tryd.prog w = .ok (.bool (!((a0 == b0) && (a1 == b1)))) w := by
  have h1 : Tryd.prog.eqGuardType Tryd.prog.depth 24 = false := by kernel_rfl
  have h2 : Tryd.prog.stoodInHeld 24 = false := by kernel_rfl
  have h3 : Tryd.prog.underlying 24 = some (.struct (Tryd.prog.fieldsOf 24)) := by kernel_rfl
  have h4 := Tryd.underlying24
  rw [Sem.run_bind, run_eqGuard_agg w .neq 24 x y _ _ h1, Result.andThen_ok, run_neq_struct, run_equalIn_struct w 9999 24 _ _ h3 h2]
  by_cases g0 : a0 = b0 <;> by_cases g1 : a1 = b1 <;> simp [Program.fieldsOf, h4, Op.eqFields, part, isAgg, run_underlying Tryd.underlying3, run_equalIn_int _ _ _ _ _ _ _ Tryd.underlying3, g0, g1]

theorem strings_CountA_ok (fuel : Nat) (s_0 : ByteArray) (substr_1 : ByteArray) (w0 : World) (X0 : Nat → Prop) (hX0 : ∀ k, X0 k → k < w0.heap.size) {gmx : Int} (hG0 : Rd (iE .i64) w0 X0 (some ⟨0, 0, none⟩) 1 [gmx]) (r0 : Int) (h0 : strings_CountA fuel s_0 substr_1 = some r0) :
    Calls Tryd.prog 74 ([(.string s_0), (.string substr_1)] : List Value).toArray w0 (Ret fun v w' => w0.grownBy w' none ∧ v = tup [(.int .i64 r0)]) := by
  have hB0 : Below w0.heap.size w0 w0 := Below.refl _ _
  unfold strings_CountA at h0
  by_cases hz : (((ByteArray.size substr_1 : Nat) : Int) == 0) = true
  · replace h0 := ite_t hz h0
    refine calls_run Tryd.func74 rfl Tryd.ntmps74 (by kernel_rfl) ?_
    refine gv_sub [0, 1] (σ' := [(0, (.string s_0)), (1, (.string substr_1))]) (by kernel_rfl) ?_
    refine gv_seq <| gv_region <| gv_pureN 1 [4] [] (by kernel_rfl) ?_
    refine gv_nil <| gv_seq <| gv_seq <| gv_region <| gv_pureN 3 [7, 8, 9] [(9, (.bool (((ByteArray.size substr_1 : Nat) : Int) == 0)))] (by kernel_rfl) ?_
    refine gv_nil <| gv_cond (b := (((ByteArray.size substr_1 : Nat) : Int) == 0)) (by kernel_rfl) (fun hc1 => ?_) (fun hc1 => ?_)
    · refine gv_seq <| gv_region <| gv_pureN 1 [10] [(10, (.string s_0))] (by kernel_rfl) ?_
      refine bindE h0 ?_; clear h0; intro r2 hr3 h0
      refine gv_call0 (by kernel_rfl) rfl (by kernel_rfl) enters73 (utf8_RuneCountInString_ok fuel s_0 w0  r2 hr3) ?_
      rintro v6 w4 ⟨hg5, rfl⟩
      refine gv_pureN 2 [4, 12] [(4, (.int .i64 (IntKind.i64.wrap (r2 + 1))))] (by kernel_rfl) ?_
      refine gv_nil <| gv_cret ?_
      have e := sj h0; subst e
      refine gv_ret (gv_done [(.int .i64 (IntKind.i64.wrap (r2 + 1)))] rfl ⟨(by kernel_rfl), trivial⟩ ?_)
      have hB7 := bg hB0 hg5 nb
      exact ⟨grown_of_below hB7, rfl⟩
    · rw [hz] at hc1; cases hc1
  · have hz : (((ByteArray.size substr_1 : Nat) : Int) == 0) = false := by cases h : (((ByteArray.size substr_1 : Nat) : Int) == 0) <;> first | rfl | exact absurd h hz
    exact strings_Count_ok fuel s_0 substr_1 w0 X0 hX0 hG0 r0 (ite_f hz h0)

theorem ref4_behind_ok (fuel : Nat) (pa0_0 : Option Addr) (pc0_0 : Nat) (s_0 : (List UInt8)) (i_1 : Int) (w0 : World) (X0 : Nat → Prop) (hX0 : ∀ k, X0 k → k < w0.heap.size) (hpa0_0 : Rd bE w0 X0 pa0_0 pc0_0 s_0) (r0 : Int) (h0 : ref4_behind fuel s_0 i_1 = some r0) :
    Calls Tryd.prog 92 ([(.slice pa0_0 (List.length s_0) pc0_0), (.int .i64 i_1)] : List Value).toArray w0 (Ret fun v w' => w0.grownBy w' none ∧ v = tup [(.int .i64 r0)]) := by
 have hB0 : Below w0.heap.size w0 w0 := Below.refl _ _
 unfold ref4_behind at h0
 refine calls_run Tryd.func92 rfl Tryd.ntmps92 (by kernel_rfl) ?_
 refine gv_sub [0, 1] (σ' := [(0, (.slice pa0_0 (List.length s_0) pc0_0)), (1, (.int .i64 i_1))]) (by kernel_rfl) ?_
 refine gv_seq <| gv_region <| gv_pureN 1 [4] [] (by kernel_rfl) ?_
 refine gv_nil <| gv_seq <| gv_seq <| gv_region <| bindE h0 ?_; clear h0; intro j1 h1 h0
 refine gv_cut_ops (J := fun a w2 => Below w0.heap.size w0 w2 ∧ w0.heap.size ≤ w2.heap.size ∧ a.defers = [] ∧ a.tmps.size = 29 ∧ Ok [(0, (.slice pa0_0 (List.length s_0) pc0_0)), (1, (.int .i64 i_1)), (22, (.bool j1))] a.tmps) ?_ ?_
 ·skip
  refine gv_pureN 5 [5, 6, 7, 8, 9] [(9, (.bool (decide (i_1 < ((List.length s_0 : Nat) : Int)))))] (by kernel_rfl) ?_
  refine gv_split (s := 9) (g := (decide (i_1 < ((List.length s_0 : Nat) : Int)))) (by kernel_rfl) (fun hc3 => ?_) (fun hc3 => ?_)
  ·skip
   replace h1 := ite_t hc3 h1
   refine gv_pureN 2 [10, 11] [(10, (.slice pa0_0 (List.length s_0) pc0_0)), (11, (.int .i64 i_1))] (by kernel_rfl) ?_
   refine bindE h1 ?_; clear h1; intro x4 hx5 h1
   refine gv_idxaddr (t := 82) (e := 5) (a := pa0_0) (len := List.length s_0) (cap := pc0_0) (kk := .i64) (i := i_1) (sz := 1) [] (fun e => by cases e) rfl rfl rfl (by kernel_rfl) (by kernel_rfl) Tryd.underlying82 (by kernel_rfl) ((hpa0_0.below hB0 hX0).has hx5) (idx_spec hx5).1 (idx_spec hx5).2.1 rfl ?_
   refine gv_load (t := 5) (A := (elemAddr pa0_0 ((i_1 : Int).toNat * 1))) (.int .u8 ((x4).toNat : Int)) [] (fun e => by cases e) rfl rfl rfl (by kernel_rfl) (by kernel_rfl) (by kernel_rfl) (inw0 ((hpa0_0.below hB0 hX0).cell hx5)) rfl ?_
   refine gv_pureN 3 [14, 15, 16] [(16, (.bool (decide (((x4).toNat : Int) ≥ 128))))] (by kernel_rfl) ?_
   refine gv_split (s := 16) (g := (decide (((x4).toNat : Int) ≥ 128))) (by kernel_rfl) (fun hc6 => ?_) (fun hc6 => ?_)
   ·skip
    replace h1 := ite_t hc6 h1
    refine gv_pureN 2 [17, 18] [(17, (.slice pa0_0 (List.length s_0) pc0_0)), (18, (.int .i64 i_1))] (by kernel_rfl) ?_
    refine bindE h1 ?_; clear h1; intro x7 hx8 h1
    refine gv_idxaddr (t := 82) (e := 5) (a := pa0_0) (len := List.length s_0) (cap := pc0_0) (kk := .i64) (i := i_1) (sz := 1) [] (fun e => by cases e) rfl rfl rfl (by kernel_rfl) (by kernel_rfl) Tryd.underlying82 (by kernel_rfl) ((hpa0_0.below hB0 hX0).has hx8) (idx_spec hx8).1 (idx_spec hx8).2.1 rfl ?_
    refine gv_load (t := 5) (A := (elemAddr pa0_0 ((i_1 : Int).toNat * 1))) (.int .u8 ((x7).toNat : Int)) [] (fun e => by cases e) rfl rfl rfl (by kernel_rfl) (by kernel_rfl) (by kernel_rfl) (inw0 ((hpa0_0.below hB0 hX0).cell hx8)) rfl ?_
    refine gv_pureN 2 [21, 22] [(22, (.bool (decide (((x7).toNat : Int) < 192))))] (by kernel_rfl) ?_
    refine gv_nil ?_
    have e := sj h1; subst e
    refine gv_goal fun a hd hs hok => ?_
    exact ⟨hB0, (Nat.le_refl _), hd, hs, ok_pick [0, 1, 22] hok (by kernel_rfl)⟩
   ·skip
    replace h1 := ite_f hc6 h1
    refine gv_pureN 6 [17, 18, 19, 20, 21, 22] [(22, (.bool false))] (by kernel_rfl) ?_
    refine gv_nil ?_
    have e := sj h1; subst e
    refine gv_goal fun a hd hs hok => ?_
    exact ⟨hB0, (Nat.le_refl _), hd, hs, ok_pick [0, 1, 22] hok (by kernel_rfl)⟩
  ·skip
   replace h1 := ite_f hc3 h1
   refine gv_pureN 13 [10, 11, 12, 13, 14, 15, 16, 17, 18, 19, 20, 21, 22] [(22, (.bool false))] (by kernel_rfl) ?_
   refine gv_nil ?_
   have e := sj h1; subst e
   refine gv_goal fun a hd hs hok => ?_
   exact ⟨hB0, (Nat.le_refl _), hd, hs, ok_pick [0, 1, 22] hok (by kernel_rfl)⟩
 ·rintro a w2 ⟨hB9, hz10, hd, hs, hok⟩
  refine gv_in ?_ hd hs hok
  clear hd hs hok
  refine gv_cond (b := j1) (by kernel_rfl) (fun hc11 => ?_) (fun hc11 => ?_)
  ·replace h0 := ite_t hc11 h0
   refine gv_seq <| gv_region <| gv_pureN 2 [23, 24] [(23, (.slice pa0_0 (List.length s_0) pc0_0)), (24, (.int .i64 i_1))] (by kernel_rfl) ?_
   refine bindE h0 ?_; clear h0; intro x12 hx13 h0
   refine gv_idxaddr (t := 82) (e := 5) (a := pa0_0) (len := List.length s_0) (cap := pc0_0) (kk := .i64) (i := i_1) (sz := 1) [] (fun e => by cases e) rfl rfl rfl (by kernel_rfl) (by kernel_rfl) Tryd.underlying82 (by kernel_rfl) ((hpa0_0.below hB9 hX0).has hx13) (idx_spec hx13).1 (idx_spec hx13).2.1 rfl ?_
   refine gv_load (t := 5) (A := (elemAddr pa0_0 ((i_1 : Int).toNat * 1))) (.int .u8 ((x12).toNat : Int)) [] (fun e => by cases e) rfl rfl rfl (by kernel_rfl) (by kernel_rfl) (by kernel_rfl) (inw0 ((hpa0_0.below hB9 hX0).cell hx13)) rfl ?_
   refine gv_pureN 3 [4, 27, 28] [(4, (.int .i64 (IntKind.i64.wrap ((IntKind.i64.wrap (((x12).toNat : Int))) - 128))))] (by kernel_rfl) ?_
   refine bindE h0 ?_; clear h0; intro n14 hn15 h0
   refine gv_name (s := 4) (v := (.int .i64 (IntKind.i64.wrap ((IntKind.i64.wrap (((x12).toNat : Int))) - 128)))) (v' := (.int .i64 n14)) (by kernel_rfl) (congrArg (Value.int .i64) (sj hn15)) ?_
   refine gv_nil <| gv_cret ?_
   have e := sj h0; subst e
   refine gv_ret (gv_done [(.int .i64 n14)] rfl ⟨(by kernel_rfl), trivial⟩ ?_)
   exact ⟨grown_of_below hB9, rfl⟩
  ·replace h0 := ite_f hc11 h0
   refine gv_skip <| gv_seq <| gv_region <| gv_pureN 1 [4] [(4, (.int .i64 (-1)))] (by kernel_rfl) ?_
   refine gv_nil <| gv_cret ?_
   have e := sj h0; subst e
   refine gv_ret (gv_done [(.int .i64 (-1))] rfl ⟨(by kernel_rfl), trivial⟩ ?_)
   exact ⟨grown_of_below hB9, rfl⟩

theorem ref4_unit_ok (fuel : Nat) (pa0_0 : Option Addr) (pc0_0 : Nat) (s_0 : (List UInt8)) (at_1 : Int) (w0 : World) (X0 : Nat → Prop) (hX0 : ∀ k, X0 k → k < w0.heap.size) (hpa0_0 : Rd bE w0 X0 pa0_0 pc0_0 s_0) (r0 : (Int × Int)) (h0 : ref4_unit fuel s_0 at_1 = some r0) :
    Calls Tryd.prog 67 ([(.slice pa0_0 (List.length s_0) pc0_0), (.int .i64 at_1)] : List Value).toArray w0 (Ret fun v w' => w0.grownBy w' none ∧ v = tup [(.int .i64 r0.1), (.int .i64 r0.2)]) := by
 have hB0 : Below w0.heap.size w0 w0 := Below.refl _ _
 unfold ref4_unit at h0
 refine calls_run Tryd.func67 rfl Tryd.ntmps67 (by kernel_rfl) ?_
 refine gv_sub [0, 1] (σ' := [(0, (.slice pa0_0 (List.length s_0) pc0_0)), (1, (.int .i64 at_1))]) (by kernel_rfl) ?_
 refine gv_seq <| gv_region <| gv_pureN 2 [4, 5] [] (by kernel_rfl) ?_
 refine gv_nil <| gv_seq <| gv_drawA (by kernel_rfl) ?_
 intro w1 hg2
 refine gv_pre [0, 1, 2, 5, 6, 7, 9, 10, 11, 13, 14, 15] (bA 21 [0, 1, 2, 5, 6, 7, 9, 10, 11, 13, 14, 15]) 9 (by kernel_rfl) (by kernel_rfl) ?_
 refine gv_pureN 2 [12, 13] [(12, (.slice pa0_0 (List.length s_0) pc0_0)), (13, (.int .i64 at_1))] (by kernel_rfl) ?_
 refine bindE h0 ?_; clear h0; intro x3 hx4 h0
 have hB5 := bg hB0 hg2 nb
 refine gv_idxaddr (t := 82) (e := 5) (a := pa0_0) (len := List.length s_0) (cap := pc0_0) (kk := .i64) (i := at_1) (sz := 1) [] (fun e => by cases e) rfl rfl rfl (by kernel_rfl) (by kernel_rfl) Tryd.underlying82 (by kernel_rfl) ((hpa0_0.below hB5 hX0).has hx4) (idx_spec hx4).1 (idx_spec hx4).2.1 rfl ?_
 refine gv_pureN 9 [17, 18, 19, 21, 22, 23, 25, 26, 27] [(17, (.slice pa0_0 (List.length s_0) pc0_0)), (19, (.int .i64 (IntKind.i64.wrap (at_1 + 1)))), (21, (.slice pa0_0 (List.length s_0) pc0_0)), (23, (.int .i64 (IntKind.i64.wrap (at_1 + 2)))), (25, (.slice pa0_0 (List.length s_0) pc0_0)), (27, (.int .i64 (IntKind.i64.wrap (at_1 + 3))))] (by kernel_rfl) ?_
 refine gv_nil <| gv_goA ?_
 refine gv_stage (Cls w1 []) [0, 1, 2, 3, 4, 5, 6, 7, 8, 9, 10, 11, 12, 13, 14, 15, 16] [(3, some true), (4, some true), (8, some false), (12, some false), (16, some false)] (bA 21 [0, 1, 2, 3, 4, 5, 6, 7, 8, 9, 10, 11, 12, 13, 14, 15, 16]) 4 (by kernel_rfl) (by kernel_rfl) (Cls.refl _ _) ?_
 have hC6 := Cls.refl w1 []
 refine gv_load (t := 5) (A := (elemAddr pa0_0 ((at_1 : Int).toNat * 1))) (.int .u8 ((x3).toNat : Int)) [] (fun e => by cases e) rfl rfl rfl (by kernel_rfl) (by kernel_rfl) (by kernel_rfl) (inw1 fun w' hC' => ((hC'.rd (hpa0_0.below hB5 hX0) (fun k (hk : X0 k) => ltl (hX0 k hk) hB5.size) nmx_nil).cell hx4)) rfl ?_
 refine gv_pureN 1 [16] [(16, (.int .i64 (IntKind.i64.wrap (((x3).toNat : Int)))))] (by kernel_rfl) ?_
 refine bindE h0 ?_; clear h0; intro r7 hr8 h0
 refine gv_call (f := 92) (vs := [(.slice pa0_0 (List.length s_0) pc0_0), (.int .i64 (IntKind.i64.wrap (at_1 + 1)))]) (cap := []) _ (by decide) rfl rfl rfl (by kernel_rfl) (by kernel_rfl) enters92 (ref4_behind_ok fuel pa0_0 pc0_0 s_0 (IntKind.i64.wrap (at_1 + 1)) w1 (fun k => X0 k) (fun k hk => (fun k (hk : X0 k) => ltl (hX0 k hk) hB5.size) k hk) ((hpa0_0.below hB5 hX0).wide (fun k hk => hk)) r7 hr8) ?_
 rintro v11 w9 ⟨hg10, rfl⟩
 refine ⟨(fun _ => hC6.grown hg10 nb), ?_⟩
 refine bindE h0 ?_; clear h0; intro r12 hr13 h0
 have hB14 := bg hB5 hg10 nb
 refine gv_call (f := 92) (vs := [(.slice pa0_0 (List.length s_0) pc0_0), (.int .i64 (IntKind.i64.wrap (at_1 + 2)))]) (cap := []) _ (by decide) rfl rfl rfl (by kernel_rfl) (by kernel_rfl) enters92 (ref4_behind_ok fuel pa0_0 pc0_0 s_0 (IntKind.i64.wrap (at_1 + 2)) w9 (fun k => X0 k) (fun k hk => (fun k (hk : X0 k) => ltl (hX0 k hk) hB14.size) k hk) ((hpa0_0.below hB14 hX0).wide (fun k hk => hk)) r12 hr13) ?_
 rintro v17 w15 ⟨hg16, rfl⟩
 have hC18 := hC6.grown hg10 nb
 refine ⟨(fun _ => hC18.grown hg16 nb), ?_⟩
 refine bindE h0 ?_; clear h0; intro r19 hr20 h0
 have hB21 := bg hB14 hg16 nb
 refine gv_call (f := 92) (vs := [(.slice pa0_0 (List.length s_0) pc0_0), (.int .i64 (IntKind.i64.wrap (at_1 + 3)))]) (cap := []) _ (by decide) rfl rfl rfl (by kernel_rfl) (by kernel_rfl) enters92 (ref4_behind_ok fuel pa0_0 pc0_0 s_0 (IntKind.i64.wrap (at_1 + 3)) w15 (fun k => X0 k) (fun k hk => (fun k (hk : X0 k) => ltl (hX0 k hk) hB21.size) k hk) ((hpa0_0.below hB21 hX0).wide (fun k hk => hk)) r19 hr20) ?_
 rintro v24 w22 ⟨hg23, rfl⟩
 have hC25 := hC18.grown hg16 nb
 refine ⟨(fun _ => hC25.grown hg23 nb), ?_⟩
 refine gv_nil <| gv_goA ?_
 refine gv_pre [17, 18, 19, 20] (bA 21 [0, 1, 2, 3, 4, 5, 6, 7, 8, 9, 10, 11, 12, 13, 14, 15, 16, 17, 18, 19, 20]) 0 (by kernel_rfl) (by kernel_rfl) ?_
 refine gv_pureN 4 [6, 7, 8, 9] [(6, (.int .i64 (IntKind.i64.wrap (((x3).toNat : Int))))), (7, (.int .i64 r7)), (8, (.int .i64 r12)), (9, (.int .i64 r19))] (by kernel_rfl) ?_
 refine gv_nil <| gv_goA ?_
 refine gv_stageE (by kernel_rfl) ?_
 refine gv_seq <| gv_block <| gv_seq <| gv_region <| gv_pureN 3 [29, 30, 31] [(29, (.bool (decide ((IntKind.i64.wrap (((x3).toNat : Int))) < 128))))] (by kernel_rfl) ?_
 refine bindE h0 ?_; clear h0; intro n26 hn27 h0
 refine gv_name (s := 29) (v := (.bool (decide ((IntKind.i64.wrap (((x3).toNat : Int))) < 128)))) (v' := (.bool n26)) (by kernel_rfl) (congrArg (Value.bool) (sj hn27)) ?_
 refine gv_nil <| gv_cond (b := n26) (by kernel_rfl) (fun hc28 => ?_) (fun hc28 => ?_)
 ·replace h0 := ite_t hc28 h0
  refine gv_seq <| gv_region <| gv_pureN 3 [4, 5, 32] [(4, (.int .i64 (IntKind.i64.wrap (((x3).toNat : Int))))), (5, (.int .i64 1))] (by kernel_rfl) ?_
  refine gv_nil <| gv_cret ?_
  have e := sj h0; subst e
  refine gv_ret (gv_done [(.int .i64 (IntKind.i64.wrap (((x3).toNat : Int)))), (.int .i64 1)] rfl ⟨(by kernel_rfl), (by kernel_rfl), trivial⟩ ?_)
  have hB29 := bg hB21 hg23 nb
  exact ⟨grown_of_below hB29, rfl⟩
 ·replace h0 := ite_f hc28 h0
  refine gv_seq <| gv_region <| gv_cut_ops (J := fun a w30 => w22 = w30 ∧ a.defers = [] ∧ a.tmps.size = 120 ∧ Ok [(6, (.int .i64 (IntKind.i64.wrap (((x3).toNat : Int))))), (7, (.int .i64 r7)), (8, (.int .i64 r12)), (9, (.int .i64 r19)), (33, (.bool ((decide ((IntKind.i64.wrap (((x3).toNat : Int))) ≥ 194)) && ((decide ((IntKind.i64.wrap (((x3).toNat : Int))) < 224)) && (decide (r7 ≥ 0))))))] a.tmps) ?_ ?_
  ·skip
   refine gv_pureN 3 [34, 35, 36] [(36, (.bool (decide ((IntKind.i64.wrap (((x3).toNat : Int))) ≥ 194))))] (by kernel_rfl) ?_
   refine gv_split (s := 36) (g := (decide ((IntKind.i64.wrap (((x3).toNat : Int))) ≥ 194))) (by kernel_rfl) (fun hc31 => ?_) (fun hc31 => ?_)
   ·skip
    refine gv_pureN 4 [37, 38, 39, 40] [(40, (.bool (decide ((IntKind.i64.wrap (((x3).toNat : Int))) < 224))))] (by kernel_rfl) ?_
    refine gv_split (s := 40) (g := (decide ((IntKind.i64.wrap (((x3).toNat : Int))) < 224))) (by kernel_rfl) (fun hc32 => ?_) (fun hc32 => ?_)
    ·skip
     refine gv_pureN 4 [33, 41, 42, 43] [(33, (.bool (decide (r7 ≥ 0))))] (by kernel_rfl) ?_
     refine gv_sub [6, 7, 8, 9, 33] (σ' := [(6, (.int .i64 (IntKind.i64.wrap (((x3).toNat : Int))))), (7, (.int .i64 r7)), (8, (.int .i64 r12)), (9, (.int .i64 r19)), (33, (.bool (decide (r7 ≥ 0))))]) (by kernel_rfl) ?_
     refine gv_nil <| gv_sub [6, 7, 8, 9, 33] (σ' := [(6, (.int .i64 (IntKind.i64.wrap (((x3).toNat : Int))))), (7, (.int .i64 r7)), (8, (.int .i64 r12)), (9, (.int .i64 r19)), (33, (.bool (decide (r7 ≥ 0))))]) (by kernel_rfl) ?_
     refine gv_goal fun a hd hs hok => ⟨rfl, hd, hs, ?_⟩
     obtain ⟨q6, q7, q8, q9, q33, _⟩ := hok
     exact ⟨q6, q7, q8, q9, (by rw [hc31, hc32]; exact q33), trivial⟩
    ·skip
     refine gv_pureN 4 [33, 41, 42, 43] [(33, (.bool false))] (by kernel_rfl) ?_
     refine gv_sub [6, 7, 8, 9, 33] (σ' := [(6, (.int .i64 (IntKind.i64.wrap (((x3).toNat : Int))))), (7, (.int .i64 r7)), (8, (.int .i64 r12)), (9, (.int .i64 r19)), (33, (.bool false))]) (by kernel_rfl) ?_
     refine gv_nil <| gv_sub [6, 7, 8, 9, 33] (σ' := [(6, (.int .i64 (IntKind.i64.wrap (((x3).toNat : Int))))), (7, (.int .i64 r7)), (8, (.int .i64 r12)), (9, (.int .i64 r19)), (33, (.bool false))]) (by kernel_rfl) ?_
     refine gv_goal fun a hd hs hok => ⟨rfl, hd, hs, ?_⟩
     obtain ⟨q6, q7, q8, q9, q33, _⟩ := hok
     exact ⟨q6, q7, q8, q9, (by rw [hc31, hc32]; exact q33), trivial⟩
   ·skip
    refine gv_pureN 8 [33, 37, 38, 39, 40, 41, 42, 43] [(33, (.bool false))] (by kernel_rfl) ?_
    refine gv_nil <| gv_sub [6, 7, 8, 9, 33] (σ' := [(6, (.int .i64 (IntKind.i64.wrap (((x3).toNat : Int))))), (7, (.int .i64 r7)), (8, (.int .i64 r12)), (9, (.int .i64 r19)), (33, (.bool false))]) (by kernel_rfl) ?_
    refine gv_goal fun a hd hs hok => ⟨rfl, hd, hs, ?_⟩
    obtain ⟨q6, q7, q8, q9, q33, _⟩ := hok
    exact ⟨q6, q7, q8, q9, (by rw [hc31]; exact q33), trivial⟩
  ·rintro a w30 ⟨e, hd, hs, hok⟩; subst e
   refine gv_in ?_ hd hs hok
   clear hd hs hok
   refine gv_cond (b := ((decide ((IntKind.i64.wrap (((x3).toNat : Int))) ≥ 194)) && ((decide ((IntKind.i64.wrap (((x3).toNat : Int))) < 224)) && (decide (r7 ≥ 0))))) (by kernel_rfl) (fun hc33 => ?_) (fun hc33 => ?_)
   ·replace h0 := ite_t hc33 h0
    refine gv_seq <| gv_region <| gv_pureN 7 [4, 5, 44, 45, 46, 47, 48] [(4, (.int .i64 (IntKind.i64.wrap ((IntKind.i64.wrap ((IntKind.i64.wrap ((IntKind.i64.wrap (((x3).toNat : Int))) - 192)) * 64)) + r7)))), (5, (.int .i64 2))] (by kernel_rfl) ?_
    refine bindE h0 ?_; clear h0; intro n34 hn35 h0
    refine gv_name (s := 4) (v := (.int .i64 (IntKind.i64.wrap ((IntKind.i64.wrap ((IntKind.i64.wrap ((IntKind.i64.wrap (((x3).toNat : Int))) - 192)) * 64)) + r7)))) (v' := (.int .i64 n34)) (by kernel_rfl) (congrArg (Value.int .i64) (sj hn35)) ?_
    refine gv_nil <| gv_cret ?_
    have e := sj h0; subst e
    refine gv_ret (gv_done [(.int .i64 n34), (.int .i64 2)] rfl ⟨(by kernel_rfl), (by kernel_rfl), trivial⟩ ?_)
    have hB36 := bg hB21 hg23 nb
    exact ⟨grown_of_below hB36, rfl⟩
   ·replace h0 := ite_f hc33 h0
    refine gv_seq <| gv_region <| gv_cut_ops (J := fun a w37 => w22 = w37 ∧ a.defers = [] ∧ a.tmps.size = 120 ∧ Ok [(6, (.int .i64 (IntKind.i64.wrap (((x3).toNat : Int))))), (7, (.int .i64 r7)), (8, (.int .i64 r12)), (9, (.int .i64 r19)), (49, (.bool ((decide ((IntKind.i64.wrap (((x3).toNat : Int))) ≥ 224)) && ((decide ((IntKind.i64.wrap (((x3).toNat : Int))) < 240)) && ((decide (r7 ≥ 0)) && (decide (r12 ≥ 0)))))))] a.tmps) ?_ ?_
    ·skip
     refine gv_pureN 3 [50, 51, 52] [(52, (.bool (decide ((IntKind.i64.wrap (((x3).toNat : Int))) ≥ 224))))] (by kernel_rfl) ?_
     refine gv_split (s := 52) (g := (decide ((IntKind.i64.wrap (((x3).toNat : Int))) ≥ 224))) (by kernel_rfl) (fun hc38 => ?_) (fun hc38 => ?_)
     ·skip
      refine gv_pureN 4 [53, 54, 55, 56] [(56, (.bool (decide ((IntKind.i64.wrap (((x3).toNat : Int))) < 240))))] (by kernel_rfl) ?_
      refine gv_split (s := 56) (g := (decide ((IntKind.i64.wrap (((x3).toNat : Int))) < 240))) (by kernel_rfl) (fun hc39 => ?_) (fun hc39 => ?_)
      ·skip
       refine gv_pureN 4 [57, 58, 59, 60] [(60, (.bool (decide (r7 ≥ 0))))] (by kernel_rfl) ?_
       refine gv_sub [6, 7, 8, 9, 60] (σ' := [(6, (.int .i64 (IntKind.i64.wrap (((x3).toNat : Int))))), (7, (.int .i64 r7)), (8, (.int .i64 r12)), (9, (.int .i64 r19)), (60, (.bool (decide (r7 ≥ 0))))]) (by kernel_rfl) ?_
       refine gv_split (s := 60) (g := (decide (r7 ≥ 0))) (by kernel_rfl) (fun hc40 => ?_) (fun hc40 => ?_)
       ·skip
        refine gv_pureN 4 [49, 61, 62, 63] [(49, (.bool (decide (r12 ≥ 0))))] (by kernel_rfl) ?_
        refine gv_nil <| gv_sub [6, 7, 8, 9, 49] (σ' := [(6, (.int .i64 (IntKind.i64.wrap (((x3).toNat : Int))))), (7, (.int .i64 r7)), (8, (.int .i64 r12)), (9, (.int .i64 r19)), (49, (.bool (decide (r12 ≥ 0))))]) (by kernel_rfl) ?_
        refine gv_goal fun a hd hs hok => ⟨rfl, hd, hs, ?_⟩
        obtain ⟨q6, q7, q8, q9, q49, _⟩ := hok
        exact ⟨q6, q7, q8, q9, (by rw [hc38, hc39, hc40]; exact q49), trivial⟩
       ·skip
        refine gv_pureN 4 [49, 61, 62, 63] [(49, (.bool false))] (by kernel_rfl) ?_
        refine gv_nil <| gv_sub [6, 7, 8, 9, 49] (σ' := [(6, (.int .i64 (IntKind.i64.wrap (((x3).toNat : Int))))), (7, (.int .i64 r7)), (8, (.int .i64 r12)), (9, (.int .i64 r19)), (49, (.bool false))]) (by kernel_rfl) ?_
        refine gv_goal fun a hd hs hok => ⟨rfl, hd, hs, ?_⟩
        obtain ⟨q6, q7, q8, q9, q49, _⟩ := hok
        exact ⟨q6, q7, q8, q9, (by rw [hc38, hc39, hc40]; exact q49), trivial⟩
      ·skip
       refine gv_pureN 8 [49, 57, 58, 59, 60, 61, 62, 63] [(49, (.bool false))] (by kernel_rfl) ?_
       refine gv_sub [6, 7, 8, 9, 49] (σ' := [(6, (.int .i64 (IntKind.i64.wrap (((x3).toNat : Int))))), (7, (.int .i64 r7)), (8, (.int .i64 r12)), (9, (.int .i64 r19)), (49, (.bool false))]) (by kernel_rfl) ?_
       refine gv_nil <| gv_sub [6, 7, 8, 9, 49] (σ' := [(6, (.int .i64 (IntKind.i64.wrap (((x3).toNat : Int))))), (7, (.int .i64 r7)), (8, (.int .i64 r12)), (9, (.int .i64 r19)), (49, (.bool false))]) (by kernel_rfl) ?_
       refine gv_goal fun a hd hs hok => ⟨rfl, hd, hs, ?_⟩
       obtain ⟨q6, q7, q8, q9, q49, _⟩ := hok
       exact ⟨q6, q7, q8, q9, (by rw [hc38, hc39]; exact q49), trivial⟩
     ·skip
      refine gv_pureN 12 [49, 53, 54, 55, 56, 57, 58, 59, 60, 61, 62, 63] [(49, (.bool false))] (by kernel_rfl) ?_
      refine gv_nil <| gv_sub [6, 7, 8, 9, 49] (σ' := [(6, (.int .i64 (IntKind.i64.wrap (((x3).toNat : Int))))), (7, (.int .i64 r7)), (8, (.int .i64 r12)), (9, (.int .i64 r19)), (49, (.bool false))]) (by kernel_rfl) ?_
      refine gv_goal fun a hd hs hok => ⟨rfl, hd, hs, ?_⟩
      obtain ⟨q6, q7, q8, q9, q49, _⟩ := hok
      exact ⟨q6, q7, q8, q9, (by rw [hc38]; exact q49), trivial⟩
    ·rintro a w37 ⟨e, hd, hs, hok⟩; subst e
     refine gv_in ?_ hd hs hok
     clear hd hs hok
     refine bindE h0 ?_; clear h0; intro j41 h1 h0
     refine gv_cut_code (J := fun a w43 => ∃ s42 : Unit, j41 = .inl s42 ∧ Below w0.heap.size w0 w43 ∧ w22.heap.size ≤ w43.heap.size ∧ a.defers = [] ∧ a.tmps.size = 120 ∧ Ok [] a.tmps) ?_ ?_
     ·skip
      refine gv_cond (b := ((decide ((IntKind.i64.wrap (((x3).toNat : Int))) ≥ 224)) && ((decide ((IntKind.i64.wrap (((x3).toNat : Int))) < 240)) && ((decide (r7 ≥ 0)) && (decide (r12 ≥ 0)))))) (by kernel_rfl) (fun hc44 => ?_) (fun hc44 => ?_)
      ·replace h1 := ite_t hc44 h1
       refine gv_seq <| gv_region <| gv_pureN 9 [10, 64, 65, 66, 67, 68, 69, 70, 71] [(10, (.int .i64 (IntKind.i64.wrap ((IntKind.i64.wrap ((IntKind.i64.wrap ((IntKind.i64.wrap ((IntKind.i64.wrap (((x3).toNat : Int))) - 224)) * 4096)) + (IntKind.i64.wrap (r7 * 64)))) + r12))))] (by kernel_rfl) ?_
       refine bindE h1 ?_; clear h1; intro n45 hn46 h1
       refine gv_name (s := 10) (v := (.int .i64 (IntKind.i64.wrap ((IntKind.i64.wrap ((IntKind.i64.wrap ((IntKind.i64.wrap ((IntKind.i64.wrap (((x3).toNat : Int))) - 224)) * 4096)) + (IntKind.i64.wrap (r7 * 64)))) + r12)))) (v' := (.int .i64 n45)) (by kernel_rfl) (congrArg (Value.int .i64) (sj hn46)) ?_
       refine gv_nil <| gv_seq <| gv_region <| gv_cut_ops (J := fun a w47 => w22 = w47 ∧ a.defers = [] ∧ a.tmps.size = 120 ∧ Ok [(10, (.int .i64 n45)), (81, (.bool ((decide (n45 ≥ 2048)) && ((decide (n45 < 55296)) || (decide (n45 > 57343))))))] a.tmps) ?_ ?_
       ·skip
        refine gv_pureN 3 [72, 73, 74] [(74, (.bool (decide (n45 ≥ 2048))))] (by kernel_rfl) ?_
        refine gv_split (s := 74) (g := (decide (n45 ≥ 2048))) (by kernel_rfl) (fun hc48 => ?_) (fun hc48 => ?_)
        ·skip
         refine gv_pureN 3 [75, 76, 77] [(77, (.bool (decide (n45 < 55296))))] (by kernel_rfl) ?_
         refine gv_sub [10, 74, 77] (σ' := [(10, (.int .i64 n45)), (74, (.bool true)), (77, (.bool (decide (n45 < 55296))))]) (by kernel_rfl) ?_
         refine gv_split (s := 77) (g := (decide (n45 < 55296))) (by kernel_rfl) (fun hc49 => ?_) (fun hc49 => ?_)
         ·skip
          refine gv_pureN 4 [78, 79, 80, 81] [(81, (.bool true))] (by kernel_rfl) ?_
          refine gv_nil <| gv_sub [10, 81] (σ' := [(10, (.int .i64 n45)), (81, (.bool true))]) (by kernel_rfl) ?_
          refine gv_goal fun a hd hs hok => ⟨rfl, hd, hs, ?_⟩
          obtain ⟨q10, q81, _⟩ := hok
          exact ⟨q10, (by rw [hc48, hc49]; exact q81), trivial⟩
         ·skip
          refine gv_pureN 4 [78, 79, 80, 81] [(81, (.bool (decide (n45 > 57343))))] (by kernel_rfl) ?_
          refine gv_nil <| gv_sub [10, 81] (σ' := [(10, (.int .i64 n45)), (81, (.bool (decide (n45 > 57343))))]) (by kernel_rfl) ?_
          refine gv_goal fun a hd hs hok => ⟨rfl, hd, hs, ?_⟩
          obtain ⟨q10, q81, _⟩ := hok
          exact ⟨q10, (by rw [hc48, hc49]; exact q81), trivial⟩
        ·skip
         refine gv_pureN 7 [75, 76, 77, 78, 79, 80, 81] [(81, (.bool false))] (by kernel_rfl) ?_
         refine gv_sub [10, 81] (σ' := [(10, (.int .i64 n45)), (81, (.bool false))]) (by kernel_rfl) ?_
         refine gv_nil <| gv_sub [10, 81] (σ' := [(10, (.int .i64 n45)), (81, (.bool false))]) (by kernel_rfl) ?_
         refine gv_goal fun a hd hs hok => ⟨rfl, hd, hs, ?_⟩
         obtain ⟨q10, q81, _⟩ := hok
         exact ⟨q10, (by rw [hc48]; exact q81), trivial⟩
       ·rintro a w47 ⟨e, hd, hs, hok⟩; subst e
        refine gv_in ?_ hd hs hok
        clear hd hs hok
        refine gv_cond (b := ((decide (n45 ≥ 2048)) && ((decide (n45 < 55296)) || (decide (n45 > 57343))))) (by kernel_rfl) (fun hc50 => ?_) (fun hc50 => ?_)
        ·replace h1 := ite_t hc50 h1
         refine gv_seq <| gv_region <| gv_pureN 3 [4, 5, 82] [(4, (.int .i64 n45)), (5, (.int .i64 3))] (by kernel_rfl) ?_
         refine gv_nil <| gv_cret ?_
         have e := sj h1; subst e
         replace h0 := cont_inr h0
         have e := sj h0; subst e
         refine gv_ret (gv_done [(.int .i64 n45), (.int .i64 3)] rfl ⟨(by kernel_rfl), (by kernel_rfl), trivial⟩ ?_)
         have hB51 := bg hB21 hg23 nb
         exact ⟨grown_of_below hB51, rfl⟩
        ·replace h1 := ite_f hc50 h1
         refine gv_skip ?_
         have e := sj h1; subst e
         refine gv_goal fun a hd hs hok => ?_
         have hB52 := bg hB21 hg23 nb
         exact ⟨(), rfl, hB52, (Nat.le_refl _), hd, hs, ok_pick [] hok (by kernel_rfl)⟩
      ·replace h1 := ite_f hc44 h1
       refine gv_seq <| gv_region <| gv_cut_ops (J := fun a w53 => w22 = w53 ∧ a.defers = [] ∧ a.tmps.size = 120 ∧ Ok [(6, (.int .i64 (IntKind.i64.wrap (((x3).toNat : Int))))), (7, (.int .i64 r7)), (8, (.int .i64 r12)), (9, (.int .i64 r19)), (83, (.bool ((decide ((IntKind.i64.wrap (((x3).toNat : Int))) ≥ 240)) && ((decide ((IntKind.i64.wrap (((x3).toNat : Int))) < 245)) && ((decide (r7 ≥ 0)) && ((decide (r12 ≥ 0)) && (decide (r19 ≥ 0))))))))] a.tmps) ?_ ?_
       ·skip
        refine gv_pureN 3 [84, 85, 86] [(86, (.bool (decide ((IntKind.i64.wrap (((x3).toNat : Int))) ≥ 240))))] (by kernel_rfl) ?_
        refine gv_split (s := 86) (g := (decide ((IntKind.i64.wrap (((x3).toNat : Int))) ≥ 240))) (by kernel_rfl) (fun hc54 => ?_) (fun hc54 => ?_)
        ·skip
         refine gv_pureN 4 [87, 88, 89, 90] [(90, (.bool (decide ((IntKind.i64.wrap (((x3).toNat : Int))) < 245))))] (by kernel_rfl) ?_
         refine gv_split (s := 90) (g := (decide ((IntKind.i64.wrap (((x3).toNat : Int))) < 245))) (by kernel_rfl) (fun hc55 => ?_) (fun hc55 => ?_)
         ·skip
          refine gv_pureN 4 [91, 92, 93, 94] [(94, (.bool (decide (r7 ≥ 0))))] (by kernel_rfl) ?_
          refine gv_sub [6, 7, 8, 9, 94] (σ' := [(6, (.int .i64 (IntKind.i64.wrap (((x3).toNat : Int))))), (7, (.int .i64 r7)), (8, (.int .i64 r12)), (9, (.int .i64 r19)), (94, (.bool (decide (r7 ≥ 0))))]) (by kernel_rfl) ?_
          refine gv_split (s := 94) (g := (decide (r7 ≥ 0))) (by kernel_rfl) (fun hc56 => ?_) (fun hc56 => ?_)
          ·skip
           refine gv_pureN 4 [95, 96, 97, 98] [(98, (.bool (decide (r12 ≥ 0))))] (by kernel_rfl) ?_
           refine gv_split (s := 98) (g := (decide (r12 ≥ 0))) (by kernel_rfl) (fun hc57 => ?_) (fun hc57 => ?_)
           ·skip
            refine gv_pureN 4 [83, 99, 100, 101] [(83, (.bool (decide (r19 ≥ 0))))] (by kernel_rfl) ?_
            refine gv_nil <| gv_sub [6, 7, 8, 9, 83] (σ' := [(6, (.int .i64 (IntKind.i64.wrap (((x3).toNat : Int))))), (7, (.int .i64 r7)), (8, (.int .i64 r12)), (9, (.int .i64 r19)), (83, (.bool (decide (r19 ≥ 0))))]) (by kernel_rfl) ?_
            refine gv_goal fun a hd hs hok => ⟨rfl, hd, hs, ?_⟩
            obtain ⟨q6, q7, q8, q9, q83, _⟩ := hok
            exact ⟨q6, q7, q8, q9, (by rw [hc54, hc55, hc56, hc57]; exact q83), trivial⟩
           ·skip
            refine gv_pureN 4 [83, 99, 100, 101] [(83, (.bool false))] (by kernel_rfl) ?_
            refine gv_nil <| gv_sub [6, 7, 8, 9, 83] (σ' := [(6, (.int .i64 (IntKind.i64.wrap (((x3).toNat : Int))))), (7, (.int .i64 r7)), (8, (.int .i64 r12)), (9, (.int .i64 r19)), (83, (.bool false))]) (by kernel_rfl) ?_
            refine gv_goal fun a hd hs hok => ⟨rfl, hd, hs, ?_⟩
            obtain ⟨q6, q7, q8, q9, q83, _⟩ := hok
            exact ⟨q6, q7, q8, q9, (by rw [hc54, hc55, hc56, hc57]; exact q83), trivial⟩
          ·skip
           refine gv_pureN 8 [83, 95, 96, 97, 98, 99, 100, 101] [(83, (.bool false))] (by kernel_rfl) ?_
           refine gv_nil <| gv_sub [6, 7, 8, 9, 83] (σ' := [(6, (.int .i64 (IntKind.i64.wrap (((x3).toNat : Int))))), (7, (.int .i64 r7)), (8, (.int .i64 r12)), (9, (.int .i64 r19)), (83, (.bool false))]) (by kernel_rfl) ?_
           refine gv_goal fun a hd hs hok => ⟨rfl, hd, hs, ?_⟩
           obtain ⟨q6, q7, q8, q9, q83, _⟩ := hok
           exact ⟨q6, q7, q8, q9, (by rw [hc54, hc55, hc56]; exact q83), trivial⟩
         ·skip
          refine gv_pureN 12 [83, 91, 92, 93, 94, 95, 96, 97, 98, 99, 100, 101] [(83, (.bool false))] (by kernel_rfl) ?_
          refine gv_sub [6, 7, 8, 9, 83] (σ' := [(6, (.int .i64 (IntKind.i64.wrap (((x3).toNat : Int))))), (7, (.int .i64 r7)), (8, (.int .i64 r12)), (9, (.int .i64 r19)), (83, (.bool false))]) (by kernel_rfl) ?_
          refine gv_nil <| gv_sub [6, 7, 8, 9, 83] (σ' := [(6, (.int .i64 (IntKind.i64.wrap (((x3).toNat : Int))))), (7, (.int .i64 r7)), (8, (.int .i64 r12)), (9, (.int .i64 r19)), (83, (.bool false))]) (by kernel_rfl) ?_
          refine gv_goal fun a hd hs hok => ⟨rfl, hd, hs, ?_⟩
          obtain ⟨q6, q7, q8, q9, q83, _⟩ := hok
          exact ⟨q6, q7, q8, q9, (by rw [hc54, hc55]; exact q83), trivial⟩
        ·skip
         refine gv_pureN 16 [83, 87, 88, 89, 90, 91, 92, 93, 94, 95, 96, 97, 98, 99, 100, 101] [(83, (.bool false))] (by kernel_rfl) ?_
         refine gv_nil <| gv_sub [6, 7, 8, 9, 83] (σ' := [(6, (.int .i64 (IntKind.i64.wrap (((x3).toNat : Int))))), (7, (.int .i64 r7)), (8, (.int .i64 r12)), (9, (.int .i64 r19)), (83, (.bool false))]) (by kernel_rfl) ?_
         refine gv_goal fun a hd hs hok => ⟨rfl, hd, hs, ?_⟩
         obtain ⟨q6, q7, q8, q9, q83, _⟩ := hok
         exact ⟨q6, q7, q8, q9, (by rw [hc54]; exact q83), trivial⟩
       ·rintro a w53 ⟨e, hd, hs, hok⟩; subst e
        refine gv_in ?_ hd hs hok
        clear hd hs hok
        refine gv_cond (b := ((decide ((IntKind.i64.wrap (((x3).toNat : Int))) ≥ 240)) && ((decide ((IntKind.i64.wrap (((x3).toNat : Int))) < 245)) && ((decide (r7 ≥ 0)) && ((decide (r12 ≥ 0)) && (decide (r19 ≥ 0))))))) (by kernel_rfl) (fun hc58 => ?_) (fun hc58 => ?_)
        ·replace h1 := ite_t hc58 h1
         refine gv_seq <| gv_region <| gv_pureN 12 [11, 102, 103, 104, 105, 106, 107, 108, 109, 110, 111, 112] [(11, (.int .i64 (IntKind.i64.wrap ((IntKind.i64.wrap ((IntKind.i64.wrap ((IntKind.i64.wrap ((IntKind.i64.wrap ((IntKind.i64.wrap (((x3).toNat : Int))) - 240)) * 262144)) + (IntKind.i64.wrap (r7 * 4096)))) + (IntKind.i64.wrap (r12 * 64)))) + r19))))] (by kernel_rfl) ?_
         refine bindE h1 ?_; clear h1; intro n59 hn60 h1
         refine gv_name (s := 11) (v := (.int .i64 (IntKind.i64.wrap ((IntKind.i64.wrap ((IntKind.i64.wrap ((IntKind.i64.wrap ((IntKind.i64.wrap ((IntKind.i64.wrap (((x3).toNat : Int))) - 240)) * 262144)) + (IntKind.i64.wrap (r7 * 4096)))) + (IntKind.i64.wrap (r12 * 64)))) + r19)))) (v' := (.int .i64 n59)) (by kernel_rfl) (congrArg (Value.int .i64) (sj hn60)) ?_
         refine gv_nil <| gv_seq <| gv_region <| gv_cut_ops (J := fun a w61 => w22 = w61 ∧ a.defers = [] ∧ a.tmps.size = 120 ∧ Ok [(11, (.int .i64 n59)), (118, (.bool ((decide (n59 ≥ 65536)) && (decide (n59 ≤ 1114111)))))] a.tmps) ?_ ?_
         ·skip
          refine gv_pureN 3 [113, 114, 115] [(115, (.bool (decide (n59 ≥ 65536))))] (by kernel_rfl) ?_
          refine gv_split (s := 115) (g := (decide (n59 ≥ 65536))) (by kernel_rfl) (fun hc62 => ?_) (fun hc62 => ?_)
          ·skip
           refine gv_pureN 3 [116, 117, 118] [(118, (.bool (decide (n59 ≤ 1114111))))] (by kernel_rfl) ?_
           refine gv_sub [11, 118] (σ' := [(11, (.int .i64 n59)), (118, (.bool (decide (n59 ≤ 1114111))))]) (by kernel_rfl) ?_
           refine gv_nil <| gv_sub [11, 118] (σ' := [(11, (.int .i64 n59)), (118, (.bool (decide (n59 ≤ 1114111))))]) (by kernel_rfl) ?_
           refine gv_goal fun a hd hs hok => ⟨rfl, hd, hs, ?_⟩
           obtain ⟨q11, q118, _⟩ := hok
           exact ⟨q11, (by rw [hc62]; exact q118), trivial⟩
          ·skip
           refine gv_pureN 3 [116, 117, 118] [(118, (.bool false))] (by kernel_rfl) ?_
           refine gv_sub [11, 118] (σ' := [(11, (.int .i64 n59)), (118, (.bool false))]) (by kernel_rfl) ?_
           refine gv_nil <| gv_sub [11, 118] (σ' := [(11, (.int .i64 n59)), (118, (.bool false))]) (by kernel_rfl) ?_
           refine gv_goal fun a hd hs hok => ⟨rfl, hd, hs, ?_⟩
           obtain ⟨q11, q118, _⟩ := hok
           exact ⟨q11, (by rw [hc62]; exact q118), trivial⟩
         ·rintro a w61 ⟨e, hd, hs, hok⟩; subst e
          refine gv_in ?_ hd hs hok
          clear hd hs hok
          refine gv_cond (b := ((decide (n59 ≥ 65536)) && (decide (n59 ≤ 1114111)))) (by kernel_rfl) (fun hc63 => ?_) (fun hc63 => ?_)
          ·replace h1 := ite_t hc63 h1
           refine gv_seq <| gv_region <| gv_pureN 3 [4, 5, 119] [(4, (.int .i64 n59)), (5, (.int .i64 4))] (by kernel_rfl) ?_
           refine gv_nil <| gv_cret ?_
           have e := sj h1; subst e
           replace h0 := cont_inr h0
           have e := sj h0; subst e
           refine gv_ret (gv_done [(.int .i64 n59), (.int .i64 4)] rfl ⟨(by kernel_rfl), (by kernel_rfl), trivial⟩ ?_)
           have hB64 := bg hB21 hg23 nb
           exact ⟨grown_of_below hB64, rfl⟩
          ·replace h1 := ite_f hc63 h1
           refine gv_skip ?_
           have e := sj h1; subst e
           refine gv_goal fun a hd hs hok => ?_
           have hB65 := bg hB21 hg23 nb
           exact ⟨(), rfl, hB65, (Nat.le_refl _), hd, hs, ok_pick [] hok (by kernel_rfl)⟩
        ·replace h1 := ite_f hc58 h1
         refine gv_skip ?_
         have e := sj h1; subst e
         refine gv_goal fun a hd hs hok => ?_
         have hB66 := bg hB21 hg23 nb
         exact ⟨(), rfl, hB66, (Nat.le_refl _), hd, hs, ok_pick [] hok (by kernel_rfl)⟩
     ·rintro a w43 ⟨s42, e, hB67, hz68, hd, hs, hok⟩
      subst e
      refine gv_in ?_ hd hs hok
      clear hd hs hok
      replace h0 := cont_inl h0
      clear hc33 hc28 hn27 hC25 hg23 hB21 hr20 hC18 hg16 hB14 hr13 hg10 hr8 hC6 hB5 hx4 hg2
      refine gv_blk <| gv_seq <| gv_region <| gv_pureN 2 [4, 5] [(4, (.int .i64 0)), (5, (.int .i64 0))] (by kernel_rfl) ?_
      refine gv_nil <| gv_cret ?_
      have e := sj h0; subst e
      refine gv_ret (gv_done [(.int .i64 0), (.int .i64 0)] rfl ⟨(by kernel_rfl), (by kernel_rfl), trivial⟩ ?_)
      exact ⟨grown_of_below hB67, rfl⟩

theorem ref4_Points_ok (fuel : Nat) (s_0 : ByteArray) (w0 : World)  (r0 : ((List Int) × Bool)) (h0 : ref4_Points fuel s_0 = some r0) :
    Calls Tryd.prog 24 ([(.string s_0)] : List Value).toArray w0 (Ret fun v w' => w0.grownBy w' none ∧ ∃ (a0_0r : Option Addr) (c0_0r : Nat), v = tup [(.slice a0_0r (List.length r0.1) c0_0r), (.bool r0.2)] ∧ Gv.Own (iE .i64) 3 w' (fun _ => False) a0_0r c0_0r r0.1 ∧ (∀ g, blk a0_0r = some g → w0.heap.size ≤ g)) := by
 have hB0 : Below w0.heap.size w0 w0 := Below.refl _ _
 unfold ref4_Points at h0
 refine calls_run Tryd.func24 rfl Tryd.ntmps24 (by kernel_rfl) ?_
 refine gv_sub [0] (σ' := [(0, (.string s_0))]) (by kernel_rfl) ?_
 refine gv_seq <| gv_region <| gv_pureN 2 [2, 3] [] (by kernel_rfl) ?_
 refine gv_nil <| gv_seq <| gv_region <| gv_pureN 1 [4] [(4, (.slice none (List.length ([] : List Int)) 0))] (by kernel_rfl) ?_
 refine gv_nil <| gv_seq <| gv_seq <| gv_region <| gv_pureN 1 [5] [(5, (.int .i64 0))] (by kernel_rfl) ?_
 refine gv_nil <| bindE h0 ?_; clear h0; intro j1 h1 h0
 refine gv_cut_code (J := fun a w3 => ∃ s2 : (List Int), j1 = .inl s2 ∧ ∃ (a4_0j : Option Addr) (c4_0j : Nat), Below w0.heap.size w0 w3 ∧ w0.heap.size ≤ w3.heap.size ∧ Gv.Own (iE .i64) 3 w3 (fun _ => False) a4_0j c4_0j s2 ∧ (∀ g, blk a4_0j = some g → w0.heap.size ≤ g) ∧ a.defers = [] ∧ a.tmps.size = 29 ∧ Ok [(4, (.slice a4_0j (List.length s2) c4_0j))] a.tmps) ?_ ?_
 ·skip
  refine gv_block <| gv_loop (A := fun (s4 : ((List Int) × Int)) a w5 => ∃ (a4_0j : Option Addr) (c4_0j : Nat), Below w0.heap.size w0 w5 ∧ w0.heap.size ≤ w5.heap.size ∧ Gv.Own (iE .i64) 3 w5 (fun _ => False) a4_0j c4_0j s4.1 ∧ (∀ g, blk a4_0j = some g → w0.heap.size ≤ g) ∧ a.defers = [] ∧ a.tmps.size = 29 ∧ Ok [(0, (.string s_0)), (4, (.slice a4_0j (List.length s4.1) c4_0j)), (5, (.int .i64 s4.2))] a.tmps) h1 ?_ ?_
  ·intro a hd hs hok
   exact ⟨none, 0, hB0, (Nat.le_refl _), (Gv.Own.nil (iE .i64) 3 w0 (fun _ => False)), (fun _ h => by cases h), hd, hs, ok_pick [0, 4, 5] hok (by kernel_rfl)⟩
  ·rintro s4 r2 h2 hR2 a w5 ⟨a8, c9, hB6, hz7, ho10, hl11, hd, hs, hok⟩
   refine gv_in ?_ hd hs hok
   clear hd hs hok
   refine gv_seq <| gv_seq <| gv_region <| gv_pureN 4 [8, 9, 10, 11] [(11, (.bool (decide (s4.2 < ((ByteArray.size s_0 : Nat) : Int)))))] (by kernel_rfl) ?_
   refine gv_nil <| gv_cond (b := (decide (s4.2 < ((ByteArray.size s_0 : Nat) : Int)))) (by kernel_rfl) (fun hc12 => ?_) (fun hc12 => ?_)
   ·replace h2 := ite_t hc12 h2
    refine gv_skip <| gv_block <| gv_seq <| gv_region <| gv_pureN 1 [13] [(13, (.string s_0))] (by kernel_rfl) ?_
    refine gv_s2b (src := 9) (dst := 82) (e := 5) (s := s_0) (by decide) rfl rfl (by kernel_rfl) (by kernel_rfl) Tryd.underlying9 Tryd.underlying82 Tryd.underlying5 ?_
    rintro a13 c14 w15 hg16 hr17 hz19
    refine ⟨(fun e => by cases e), ?_⟩
    have hx20 : ∀ k, k = w5.heap.size → k < w15.heap.size := lts hz19
    have hx21 : ∀ k, k = w5.heap.size → (fun _ => False) k ∨ w0.heap.size ≤ k := fun k hk => .inr (lowe hB6.size k hk)
    refine gv_pureN 1 [15] [(15, (.int .i64 s4.2))] (by kernel_rfl) ?_
    refine bindE h2 ?_; clear h2; intro r22 hr23 h2
    refine gv_call0 (by kernel_rfl) rfl (by kernel_rfl) enters67 (ref4_unit_ok fuel a13 c14 (bytesOf s_0) s4.2 w15 (fun k => (· = w5.heap.size) k) (fun k hk => hx20 k hk) (hr17.wide (fun k hk => hk)) r22 hr23) ?_
    rintro v26 w24 ⟨hg25, rfl⟩
    refine gv_pureN 5 [6, 7, 12, 17, 18] [(6, (.int .i64 r22.1)), (7, (.int .i64 r22.2))] (by kernel_rfl) ?_
    refine gv_nil <| gv_seq <| gv_seq <| gv_region <| gv_pureN 2 [19, 20] [(20, (.bool (r22.2 == 0)))] (by kernel_rfl) ?_
    refine gv_nil <| gv_cond (b := (r22.2 == 0)) (by kernel_rfl) (fun hc27 => ?_) (fun hc27 => ?_)
    ·replace h2 := ite_t hc27 h2
     refine gv_seq <| gv_region <| gv_pureN 2 [2, 3] [(2, (.slice none (List.length ([] : List Int)) 0)), (3, (.bool false))] (by kernel_rfl) ?_
     refine gv_nil <| gv_cret ?_
     have e := sj h2; subst e
     replace h1 := congrArg some (hR2 _ rfl)
     have e := sj h1; subst e
     replace h0 := cont_inr h0
     have e := sj h0; subst e
     refine gv_ret (gv_done [(.slice none (List.length ([] : List Int)) 0), (.bool false)] rfl ⟨(by kernel_rfl), (by kernel_rfl), trivial⟩ ?_)
     have hg28 := (grown_trans hg16 hg25)
     have hB29 := bg hB6 hg28 nb
     exact ⟨grown_of_below hB29, none, 0, rfl, (Gv.Own.nil (iE .i64) 3 w24 (fun _ => False)), (fun _ h => by cases h)⟩
    ·replace h2 := ite_f hc27 h2
     refine gv_skip <| gv_seq <| gv_region <| gv_pureN 2 [21, 22] [(21, (.slice a8 (List.length s4.1) c9)), (22, (.int .i64 r22.1))] (by kernel_rfl) ?_
     refine gv_new0 (fun b => .slice (some ⟨b, 0, none⟩) 1 1) #[(.int .i64 r22.1)] 3 (by kernel_rfl) (by kernel_rfl) ?_
     intro b30 w31 hg32 hb33 hbe34 hz35
     have ho36 : Gv.Own (iE .i64) 3 w31 (fun _ => False) (some ⟨b30, 0, none⟩) 1 ([r22.1] : List Int) := Box.ownE hb33 ⟨[(.int .i64 r22.1)], [], rfl, rfl, rfl⟩ (show 1 ≤ maxLen by decide) (fun h => h)
     have hg41 := (grown_trans hg16 hg25)
     have hB42 := bg hB6 hg41 nb
     have hl37 : ∀ g, blk (some ⟨b30, 0, none⟩) = some g → w0.heap.size ≤ g := loo hbe34 hB42.size
     refine bindE h2 ?_; clear h2; intro l43 hx44 h2
     have hg51 := (grown_trans hg41 hg32)
     have hk52 := ho10.grown hg51 (fun _ h => h.elim) nb
     refine gv_append (iE .i64) (t := 38) (ty := 38) (e := 3) (a := a8) (ax := (some ⟨b30, 0, none⟩)) (cap := c9) (cx := 1) (xs := s4.1) (ys := ([r22.1] : List Int)) l43 (X := (fun _ => False)) (Y := (fun k => blk (some ⟨b30, 0, none⟩) = some k)) (by decide) rfl rfl (by kernel_rfl) (by kernel_rfl) Tryd.underlying38 info3 hk52 (ho36.rd (Y := fun k => blk (some ⟨b30, 0, none⟩) = some k) (fun _ h => h.elim) (fun g e => e)) hx44 (.inr fun _ _ _ _ _ h => h) (fun _ h => h.elim) ?_
     intro a45 c46 w47 hg48 ho49 hk50
     refine ⟨(fun e => by cases e), ?_⟩
     have hB54 := bg hB42 hg32 nb
     have hl53 : ∀ g, blk a45 = some g → w0.heap.size ≤ g := blk_step hk50 hl11 hB54.size
     have ap56 : ∀ g, blk a8 = some g → ¬ (· = w5.heap.size) g := fun g e hx => nl ((lowe (Nat.le_refl w5.heap.size)) _ hx) ((fun k (hk : blk a8 = some k) => ho10.lt k hk) g e)
     have hg57 := (grown_trans hg25 hg32)
     have hx58 := ltx hx20 hg57.size
     have ap55 : ∀ g, blk a45 = some g → ¬ (· = w5.heap.size) g := blk_neX hk50 ap56 hx58
     have hk60 := ho10.grown hg41 (fun _ h => h.elim) nb
     have ap61 : ∀ g, blk a8 = some g → ¬ (fun k => blk (some ⟨b30, 0, none⟩) = some k) g := fun g e hx => nl ((lowo hbe34) _ hx) ((fun k (hk : blk a8 = some k) => hk60.lt k hk) g e)
     have ap59 : ∀ g, blk a45 = some g → ¬ (fun k => blk (some ⟨b30, 0, none⟩) = some k) g := blk_neX hk50 ap61 (fun k (hk : blk (some ⟨b30, 0, none⟩) = some k) => ho36.lt k hk)
     have ap63 : ∀ g, blk (some ⟨b30, 0, none⟩) = some g → ¬ (fun k => blk a8 = some k) g := fun g e hx => nl ((lowo hbe34) g e) ((fun k (hk : blk a8 = some k) => hk60.lt k hk) _ hx)
     have ap62 : ∀ g, blk (some ⟨b30, 0, none⟩) = some g → ¬ (fun k => blk a45 = some k) g := fun g e h => blk_rev hk50 (fun h => ((ap63) g e) h) (ho36.lt g e) h
     refine gv_pureN 1 [4] [(4, (.slice a45 (List.length l43) c46))] (by kernel_rfl) ?_
     refine gv_nil <| gv_region <| gv_pureN 4 [5, 25, 26, 27] [(5, (.int .i64 (IntKind.i64.wrap (s4.2 + r22.2))))] (by kernel_rfl) ?_
     refine gv_nil <| gv_blk ?_
     have e := sj h2; subst e
     refine gv_goal fun a hd hs hok => ?_
     have hB64 := bg hB54 hg48 hl11
     have hz65 := (nt (nt (nt (nt hz7 hg16.size) hg25.size) hg32.size) hg48.size)
     exact ⟨(l43, (IntKind.i64.wrap (s4.2 + r22.2))), rfl, a45, c46, hB64, hz65, ho49, hl53, hd, hs, ok_pick [0, 4, 5] hok (by kernel_rfl)⟩
   ·replace h2 := ite_f hc12 h2
    refine gv_cexit <| gv_exit rfl ?_
    have e := sj h2; subst e
    replace h1 := congrArg some (hR2 _ rfl)
    have e := sj h1; subst e
    refine gv_goal fun a hd hs hok => ?_
    have hz66 := hz7
    exact ⟨s4.1, rfl, a8, c9, hB6, hz66, ho10, hl11, hd, hs, ok_pick [4] hok (by kernel_rfl)⟩
 ·rintro a w3 ⟨s2, e, a69, c70, hB67, hz68, ho71, hl72, hd, hs, hok⟩
  subst e
  refine gv_in ?_ hd hs hok
  clear hd hs hok
  replace h0 := cont_inl h0
  refine gv_seq <| gv_region <| gv_pureN 3 [2, 3, 28] [(2, (.slice a69 (List.length s2) c70)), (3, (.bool true))] (by kernel_rfl) ?_
  refine gv_nil <| gv_cret ?_
  have e := sj h0; subst e
  refine gv_ret (gv_done [(.slice a69 (List.length s2) c70), (.bool true)] rfl ⟨(by kernel_rfl), (by kernel_rfl), trivial⟩ ?_)
  exact ⟨grown_of_below hB67, a69, c70, rfl, ho71, hl72⟩

theorem ref4_TextOk_ok (fuel : Nat) (s_0 : ByteArray) (w0 : World)  (r0 : Bool) (h0 : ref4_TextOk fuel s_0 = some r0) :
    Calls Tryd.prog 31 ([(.string s_0)] : List Value).toArray w0 (Ret fun v w' => w0.grownBy w' none ∧ v = tup [(.bool r0)]) := by
 have hB0 : Below w0.heap.size w0 w0 := Below.refl _ _
 unfold ref4_TextOk at h0
 refine calls_run Tryd.func31 rfl Tryd.ntmps31 (by kernel_rfl) ?_
 refine gv_sub [0] (σ' := [(0, (.string s_0))]) (by kernel_rfl) ?_
 refine gv_seq <| gv_region <| gv_pureN 1 [2] [] (by kernel_rfl) ?_
 refine gv_nil <| gv_seq <| gv_region <| gv_pureN 1 [6] [(6, (.string s_0))] (by kernel_rfl) ?_
 refine bindE h0 ?_; clear h0; intro r1 hr2 h0
 refine gv_call0 (by kernel_rfl) rfl (by kernel_rfl) enters24 (ref4_Points_ok fuel s_0 w0  r1 hr2) ?_
 rintro v5 w3 ⟨hg4, a6, c7, rfl, ho8, hl9⟩
 have hl10 : ∀ g, blk a6 = some g → w0.heap.size ≤ g := fun g e => Nat.le_trans hB0.size (hl9 g e)
 refine gv_pureN 5 [3, 4, 5, 8, 9] [(4, (.bool r1.2))] (by kernel_rfl) ?_
 refine gv_nil <| gv_seq <| gv_region <| gv_cut_ops (J := fun a w11 => w3 = w11 ∧ a.defers = [] ∧ a.tmps.size = 16 ∧ Ok [(2, (.bool (r1.2 && (decide (((ByteArray.size s_0 : Nat) : Int) ≤ 4000)))))] a.tmps) ?_ ?_
 ·skip
  refine gv_pureN 2 [10, 11] [(11, (.bool r1.2))] (by kernel_rfl) ?_
  refine gv_split (s := 11) (g := r1.2) (by kernel_rfl) (fun hc12 => ?_) (fun hc12 => ?_)
  ·skip
   refine gv_pureN 5 [2, 12, 13, 14, 15] [(2, (.bool (decide (((ByteArray.size s_0 : Nat) : Int) ≤ 4000))))] (by kernel_rfl) ?_
   refine gv_nil <| gv_sub [2] (σ' := [(2, (.bool (decide (((ByteArray.size s_0 : Nat) : Int) ≤ 4000))))]) (by kernel_rfl) ?_
   refine gv_goal fun a hd hs hok => ⟨rfl, hd, hs, ?_⟩
   obtain ⟨q2, _⟩ := hok
   exact ⟨(by rw [hc12]; exact q2), trivial⟩
  ·skip
   refine gv_pureN 5 [2, 12, 13, 14, 15] [(2, (.bool false))] (by kernel_rfl) ?_
   refine gv_nil <| gv_sub [2] (σ' := [(2, (.bool false))]) (by kernel_rfl) ?_
   refine gv_goal fun a hd hs hok => ⟨rfl, hd, hs, ?_⟩
   obtain ⟨q2, _⟩ := hok
   exact ⟨(by rw [hc12]; exact q2), trivial⟩
 ·rintro a w11 ⟨e, hd, hs, hok⟩; subst e
  refine gv_in ?_ hd hs hok
  clear hd hs hok
  refine gv_cret ?_
  have e := sj h0; subst e
  refine gv_ret (gv_done [(.bool (r1.2 && (decide (((ByteArray.size s_0 : Nat) : Int) ≤ 4000))))] rfl ⟨(by kernel_rfl), trivial⟩ ?_)
  have hB13 := bg hB0 hg4 nb
  exact ⟨grown_of_below hB13, rfl⟩

theorem ref4_At_ok (fuel : Nat) (code_0 : Int) (index_1 : Int) (w0 : World)  (r0 : (Int × Int)) (h0 : ref4_At fuel code_0 index_1 = some r0) :
    Calls Tryd.prog 29 ([(.int .i64 code_0), (.int .i64 index_1)] : List Value).toArray w0 (Ret fun v w' => w0.grownBy w' none ∧ v = tup [(.agg #[(.int .i64 r0.1), (.int .i64 r0.2)])]) := by
 have hB0 : Below w0.heap.size w0 w0 := Below.refl _ _
 unfold ref4_At at h0
 refine calls_run Tryd.func29 rfl Tryd.ntmps29 (by kernel_rfl) ?_
 refine gv_sub [0, 1] (σ' := [(0, (.int .i64 code_0)), (1, (.int .i64 index_1))]) (by kernel_rfl) ?_
 refine gv_seq <| gv_region <| gv_new0 (fun b => .pointer (some ⟨b, 0, none⟩)) #[(.int .i64 0), (.int .i64 0)] 24 (by kernel_rfl) (by kernel_rfl) ?_
 intro b1 w2 hg3 hb4 hbe5 hz6
 refine gv_nil <| gv_seq <| gv_region <| gv_pureN 3 [5, 6, 7] [(7, (.agg #[(.int .i64 code_0), (.int .i64 index_1)]))] (by kernel_rfl) ?_
 refine gv_store0 24 0 (.agg #[(.int .i64 code_0), (.int .i64 index_1)]) #[(.int .i64 code_0), (.int .i64 index_1)] hb4 (by kernel_rfl) (by kernel_rfl) (by kernel_rfl) ?_
 intro w7 hg8 hb9 hz10
 refine gv_nil <| gv_cret ?_
 have e := sj h0; subst e
 refine gv_ret (gv_done [(.agg #[(.int .i64 code_0), (.int .i64 index_1)])] rfl ⟨⟨⟨b1, 0, none⟩, (by kernel_rfl), run_loadVar_row w7 b1 _ 24 _ _ _ hb9 Tryd.underlying24 rfl (by kernel_rfl)⟩, trivial⟩ ?_)
 have hB11 := bg hB0 hg3 nb
 have hlo12 : w0.heap.size ≤ b1 := lob hbe5 hB0.size
 have hB13 := bg hB11 hg8 (rowlo hlo12)
 exact ⟨grown_of_below hB13, rfl⟩

theorem ref4_TextFaults_ok (fuel : Nat) (pa0_0 : Option Addr) (pc0_0 : Nat) (l_0 : (List ByteArray)) (w0 : World) (X0 : Nat → Prop) (hX0 : ∀ k, X0 k → k < w0.heap.size) (hpa0_0 : Rd sE w0 X0 pa0_0 pc0_0 l_0) (r0 : (Int × Int)) (h0 : ref4_TextFaults fuel l_0 = some r0) :
    Calls Tryd.prog 23 ([(.slice pa0_0 (List.length l_0) pc0_0)] : List Value).toArray w0 (Ret fun v w' => w0.grownBy w' none ∧ v = tup [(.agg #[(.int .i64 r0.1), (.int .i64 r0.2)])]) := by
 have hB0 : Below w0.heap.size w0 w0 := Below.refl _ _
 unfold ref4_TextFaults at h0
 refine calls_run Tryd.func23 rfl Tryd.ntmps23 (by kernel_rfl) ?_
 refine gv_sub [0] (σ' := [(0, (.slice pa0_0 (List.length l_0) pc0_0))]) (by kernel_rfl) ?_
 refine gv_seq <| gv_region <| gv_new0 (fun b => .pointer (some ⟨b, 0, none⟩)) #[(.int .i64 0), (.int .i64 0)] 24 (by kernel_rfl) (by kernel_rfl) ?_
 intro b1 w2 hg3 hb4 hbe5 hz6
 refine gv_nil <| gv_seq <| gv_seq <| gv_region <| gv_pureN 1 [3] [(3, (.int .i64 0))] (by kernel_rfl) ?_
 refine gv_nil <| bindE h0 ?_; clear h0; intro j7 h1 h0
 refine gv_cut_code (J := fun a w9 => ∃ s8 : (Int × Int), j7 = .inl s8 ∧ Below w0.heap.size w0 w9 ∧ w2.heap.size ≤ w9.heap.size ∧ Box w9 b1 24 #[(.int .i64 s8.1), (.int .i64 s8.2)] ∧ a.defers = [] ∧ a.tmps.size = 20 ∧ Ok [(2, (bp b1))] a.tmps) ?_ ?_
 ·skip
  refine gv_block <| gv_loop (A := fun (s10 : (Int × (Int × Int))) a w11 => Below w0.heap.size w0 w11 ∧ w2.heap.size ≤ w11.heap.size ∧ Box w11 b1 24 #[(.int .i64 s10.2.1), (.int .i64 s10.2.2)] ∧ a.defers = [] ∧ a.tmps.size = 20 ∧ Ok [(0, (.slice pa0_0 (List.length l_0) pc0_0)), (2, (bp b1)), (3, (.int .i64 s10.1))] a.tmps) h1 ?_ ?_
  ·intro a hd hs hok
   have hB12 := bg hB0 hg3 nb
   exact ⟨hB12, (Nat.le_refl _), hb4, hd, hs, ok_pick [0, 2, 3] hok (by kernel_rfl)⟩
  ·rintro s10 r2 h2 hR2 a w11 ⟨hB13, hz14, hb15, hd, hs, hok⟩
   refine gv_in ?_ hd hs hok
   clear hd hs hok
   refine gv_seq <| gv_seq <| gv_region <| gv_pureN 4 [4, 5, 6, 7] [(7, (.bool (decide (s10.1 < ((List.length l_0 : Nat) : Int)))))] (by kernel_rfl) ?_
   refine gv_nil <| gv_cond (b := (decide (s10.1 < ((List.length l_0 : Nat) : Int)))) (by kernel_rfl) (fun hc16 => ?_) (fun hc16 => ?_)
   ·replace h2 := ite_t hc16 h2
    refine gv_skip <| gv_seq <| gv_block <| gv_seq <| gv_region <| gv_pureN 2 [10, 11] [(10, (.slice pa0_0 (List.length l_0) pc0_0)), (11, (.int .i64 s10.1))] (by kernel_rfl) ?_
    refine bindE h2 ?_; clear h2; intro x17 hx18 h2
    refine gv_idxaddr (t := 22) (e := 9) (a := pa0_0) (len := List.length l_0) (cap := pc0_0) (kk := .i64) (i := s10.1) (sz := 1) [] (fun e => by cases e) rfl rfl rfl (by kernel_rfl) (by kernel_rfl) Tryd.underlying22 (by kernel_rfl) ((hpa0_0.below hB13 hX0).has hx18) (idx_spec hx18).1 (idx_spec hx18).2.1 rfl ?_
    refine gv_load (t := 9) (A := (elemAddr pa0_0 ((s10.1 : Int).toNat * 1))) (.string x17) [] (fun e => by cases e) rfl rfl rfl (by kernel_rfl) (by kernel_rfl) (by kernel_rfl) (inw0 ((hpa0_0.below hB13 hX0).cell hx18)) rfl ?_
    refine bindE h2 ?_; clear h2; intro r19 hr20 h2
    refine gv_call0 (by kernel_rfl) rfl (by kernel_rfl) enters31 (ref4_TextOk_ok fuel x17 w11  r19 hr20) ?_
    rintro v23 w21 ⟨hg22, rfl⟩
    refine gv_pureN 1 [15] [(15, (.bool (!r19)))] (by kernel_rfl) ?_
    refine gv_nil <| gv_cond (b := (!r19)) (by kernel_rfl) (fun hc24 => ?_) (fun hc24 => ?_)
    ·replace h2 := ite_t hc24 h2
     refine gv_seq <| gv_region <| gv_pureN 2 [16, 17] [(17, (.int .i64 (IntKind.i64.wrap ((-1) - s10.1))))] (by kernel_rfl) ?_
     refine bindE h2 ?_; clear h2; intro r25 hr26 h2
     refine gv_call0 (by kernel_rfl) rfl (by kernel_rfl) enters29 (ref4_At_ok fuel 6 (IntKind.i64.wrap ((-1) - s10.1)) w21  r25 hr26) ?_
     rintro v29 w27 ⟨hg28, rfl⟩
     have hg34 := (grown_trans hg22 hg28)
     have hk35 := hb15.grown hg34 nb
     refine gv_store0 24 0 (.agg #[(.int .i64 r25.1), (.int .i64 r25.2)]) #[(.int .i64 r25.1), (.int .i64 r25.2)] hk35 (by kernel_rfl) (by kernel_rfl) (by kernel_rfl) ?_
     intro w30 hg31 hb32 hz33
     refine gv_nil <| gv_cret ?_
     have e := sj h2; subst e
     replace h1 := congrArg some (hR2 _ rfl)
     have e := sj h1; subst e
     replace h0 := cont_inr h0
     have e := sj h0; subst e
     refine gv_ret (gv_done [(.agg #[(.int .i64 r25.1), (.int .i64 r25.2)])] rfl ⟨⟨⟨b1, 0, none⟩, (by kernel_rfl), run_loadVar_row w30 b1 _ 24 _ _ _ hb32 Tryd.underlying24 rfl (by kernel_rfl)⟩, trivial⟩ ?_)
     have hB36 := bg hB13 hg34 nb
     have hlo37 : w0.heap.size ≤ b1 := lob hbe5 hB0.size
     have hB38 := bg hB36 hg31 (rowlo hlo37)
     exact ⟨grown_of_below hB38, rfl⟩
    ·replace h2 := ite_f hc24 h2
     refine gv_skip <| gv_blk <| gv_region <| gv_pureN 3 [3, 8, 9] [(3, (.int .i64 (IntKind.i64.wrap (s10.1 + 1))))] (by kernel_rfl) ?_
     refine gv_nil ?_
     have e := sj h2; subst e
     refine gv_goal fun a hd hs hok => ?_
     have hB39 := bg hB13 hg22 nb
     have hz40 := (nt hz14 hg22.size)
     have hk41 := hb15.grown hg22 nb
     exact ⟨((IntKind.i64.wrap (s10.1 + 1)), (s10.2.1, s10.2.2)), rfl, hB39, hz40, hk41, hd, hs, ok_pick [0, 2, 3] hok (by kernel_rfl)⟩
   ·replace h2 := ite_f hc16 h2
    refine gv_cexit <| gv_exit rfl ?_
    have e := sj h2; subst e
    replace h1 := congrArg some (hR2 _ rfl)
    have e := sj h1; subst e
    refine gv_goal fun a hd hs hok => ?_
    have hz42 := hz14
    exact ⟨(s10.2.1, s10.2.2), rfl, hB13, hz42, hb15, hd, hs, ok_pick [2] hok (by kernel_rfl)⟩
 ·rintro a w9 ⟨s8, e, hB43, hz44, hb45, hd, hs, hok⟩
  subst e
  refine gv_in ?_ hd hs hok
  clear hd hs hok
  replace h0 := cont_inl h0
  clear hz44 hz6 hb4 hg3
  refine gv_seq <| gv_region <| gv_pureN 1 [19] [(19, (.agg #[(.int .i64 0), (.int .i64 0)]))] (by kernel_rfl) ?_
  refine gv_store0 24 0 (.agg #[(.int .i64 0), (.int .i64 0)]) #[(.int .i64 0), (.int .i64 0)] hb45 (by kernel_rfl) (by kernel_rfl) (by kernel_rfl) ?_
  intro w46 hg47 hb48 hz49
  refine gv_nil <| gv_cret ?_
  have e := sj h0; subst e
  refine gv_ret (gv_done [(.agg #[(.int .i64 0), (.int .i64 0)])] rfl ⟨⟨⟨b1, 0, none⟩, (by kernel_rfl), run_loadVar_row w46 b1 _ 24 _ _ _ hb48 Tryd.underlying24 rfl (by kernel_rfl)⟩, trivial⟩ ?_)
  have hlo50 : w0.heap.size ≤ b1 := lob hbe5 hB0.size
  have hB51 := bg hB43 hg47 (rowlo hlo50)
  exact ⟨grown_of_below hB51, rfl⟩

theorem textstr_window_ok (fuel : Nat) (s_0 : ByteArray) (from_1 : Int) (to_2 : Int) (w0 : World)  (r0 : (ByteArray × (Int × Int))) (h0 : textstr_window fuel s_0 from_1 to_2 = some r0) :
    Calls Tryd.prog 70 ([(.string s_0), (.int .i64 from_1), (.int .i64 to_2)] : List Value).toArray w0 (Ret fun v w' => w0.grownBy w' none ∧ v = tup [(.string r0.1), (.agg #[(.int .i64 r0.2.1), (.int .i64 r0.2.2)])]) := by
 have hB0 : Below w0.heap.size w0 w0 := Below.refl _ _
 unfold textstr_window at h0
 refine calls_run Tryd.func70 rfl Tryd.ntmps70 (by kernel_rfl) ?_
 refine gv_sub [0, 1, 2] (σ' := [(0, (.string s_0)), (1, (.int .i64 from_1)), (2, (.int .i64 to_2))]) (by kernel_rfl) ?_
 refine gv_seq <| gv_region <| gv_pureN 1 [6] [] (by kernel_rfl) ?_
 refine gv_new0 (fun b => .pointer (some ⟨b, 0, none⟩)) #[(.int .i64 0), (.int .i64 0)] 24 (by kernel_rfl) (by kernel_rfl) ?_
 intro b1 w2 hg3 hb4 hbe5 hz6
 refine gv_nil <| gv_seq <| gv_region <| gv_pureN 1 [9] [(9, (.string s_0))] (by kernel_rfl) ?_
 refine bindE h0 ?_; clear h0; intro l14 hx15 h0
 refine gv_s2r (src := 9) (dst := 72) (e := 21) (s := s_0) (by decide) rfl rfl (by kernel_rfl) (by kernel_rfl) Tryd.underlying9 Tryd.underlying72 Tryd.underlying21 hx15 ?_
 rintro a7 c8 w9 hg10 hr11 hz13
 refine ⟨(fun e => by cases e), ?_⟩
 have hx16 : ∀ k, k = w2.heap.size → k < w9.heap.size := lts hz13
 have hB18 := bg hB0 hg3 nb
 have hx17 : ∀ k, k = w2.heap.size → (fun _ => False) k ∨ w0.heap.size ≤ k := fun k hk => .inr (lowe hB18.size k hk)
 refine gv_pureN 1 [8] [(8, (.slice a7 (List.length l14) c8))] (by kernel_rfl) ?_
 refine gv_nil <| gv_seq <| gv_block <| gv_seq <| gv_region <| gv_cut_ops (J := fun a w19 => w9 = w19 ∧ a.defers = [] ∧ a.tmps.size = 38 ∧ Ok [(1, (.int .i64 from_1)), (2, (.int .i64 to_2)), (7, (bp b1)), (8, (.slice a7 (List.length l14) c8)), (11, (.bool ((decide (from_1 < 0)) || (decide (from_1 > ((List.length l14 : Nat) : Int))))))] a.tmps) ?_ ?_
 ·skip
  refine gv_pureN 3 [12, 13, 14] [(14, (.bool (decide (from_1 < 0))))] (by kernel_rfl) ?_
  refine gv_split (s := 14) (g := (decide (from_1 < 0))) (by kernel_rfl) (fun hc20 => ?_) (fun hc20 => ?_)
  ·skip
   refine gv_pureN 6 [11, 15, 16, 17, 18, 19] [(11, (.bool true))] (by kernel_rfl) ?_
   refine gv_nil <| gv_sub [1, 2, 7, 8, 11] (σ' := [(1, (.int .i64 from_1)), (2, (.int .i64 to_2)), (7, (bp b1)), (8, (.slice a7 (List.length l14) c8)), (11, (.bool true))]) (by kernel_rfl) ?_
   refine gv_goal fun a hd hs hok => ⟨rfl, hd, hs, ?_⟩
   obtain ⟨q1, q2, q7, q8, q11, _⟩ := hok
   exact ⟨q1, q2, q7, q8, (by rw [hc20]; exact q11), trivial⟩
  ·skip
   refine gv_pureN 6 [11, 15, 16, 17, 18, 19] [(11, (.bool (decide (from_1 > ((List.length l14 : Nat) : Int)))))] (by kernel_rfl) ?_
   refine gv_nil <| gv_sub [1, 2, 7, 8, 11] (σ' := [(1, (.int .i64 from_1)), (2, (.int .i64 to_2)), (7, (bp b1)), (8, (.slice a7 (List.length l14) c8)), (11, (.bool (decide (from_1 > ((List.length l14 : Nat) : Int)))))]) (by kernel_rfl) ?_
   refine gv_goal fun a hd hs hok => ⟨rfl, hd, hs, ?_⟩
   obtain ⟨q1, q2, q7, q8, q11, _⟩ := hok
   exact ⟨q1, q2, q7, q8, (by rw [hc20]; exact q11), trivial⟩
 ·rintro a w19 ⟨e, hd, hs, hok⟩; subst e
  refine gv_in ?_ hd hs hok
  clear hd hs hok
  refine gv_cond (b := ((decide (from_1 < 0)) || (decide (from_1 > ((List.length l14 : Nat) : Int))))) (by kernel_rfl) (fun hc21 => ?_) (fun hc21 => ?_)
  ·replace h0 := ite_t hc21 h0
   refine gv_seq <| gv_region <| bindE h0 ?_; clear h0; intro r22 hr23 h0
   refine gv_call0 (by kernel_rfl) rfl (by kernel_rfl) enters56 (textstr_at_ok fuel 4 (-3) w9  r22 hr23) ?_
   rintro v26 w24 ⟨hg25, rfl⟩
   refine gv_pureN 1 [6] [(6, (.string (strOf [])))] (by kernel_rfl) ?_
   have hg31 := (grown_trans hg10 hg25)
   have hk32 := hb4.grown hg31 nb
   refine gv_store0 24 0 (.agg #[(.int .i64 r22.1), (.int .i64 r22.2)]) #[(.int .i64 r22.1), (.int .i64 r22.2)] hk32 (by kernel_rfl) (by kernel_rfl) (by kernel_rfl) ?_
   intro w27 hg28 hb29 hz30
   refine gv_nil <| gv_cret ?_
   have e := sj h0; subst e
   refine gv_ret (gv_done [(.string (strOf [])), (.agg #[(.int .i64 r22.1), (.int .i64 r22.2)])] rfl ⟨(by kernel_rfl), ⟨⟨b1, 0, none⟩, (by kernel_rfl), run_loadVar_row w27 b1 _ 24 _ _ _ hb29 Tryd.underlying24 rfl (by kernel_rfl)⟩, trivial⟩ ?_)
   have hB33 := bg hB18 hg31 nb
   have hlo34 : w0.heap.size ≤ b1 := lob hbe5 hB0.size
   have hB35 := bg hB33 hg28 (rowlo hlo34)
   exact ⟨grown_of_below hB35, rfl⟩
  ·replace h0 := ite_f hc21 h0
   refine gv_seq <| gv_region <| gv_cut_ops (J := fun a w36 => w9 = w36 ∧ a.defers = [] ∧ a.tmps.size = 38 ∧ Ok [(1, (.int .i64 from_1)), (2, (.int .i64 to_2)), (7, (bp b1)), (8, (.slice a7 (List.length l14) c8)), (21, (.bool ((decide (to_2 < from_1)) || (decide (to_2 > ((List.length l14 : Nat) : Int))))))] a.tmps) ?_ ?_
   ·skip
    refine gv_pureN 4 [22, 23, 24, 25] [(25, (.bool (decide (to_2 < from_1))))] (by kernel_rfl) ?_
    refine gv_split (s := 25) (g := (decide (to_2 < from_1))) (by kernel_rfl) (fun hc37 => ?_) (fun hc37 => ?_)
    ·skip
     refine gv_pureN 6 [21, 26, 27, 28, 29, 30] [(21, (.bool true))] (by kernel_rfl) ?_
     refine gv_nil <| gv_sub [1, 2, 7, 8, 21] (σ' := [(1, (.int .i64 from_1)), (2, (.int .i64 to_2)), (7, (bp b1)), (8, (.slice a7 (List.length l14) c8)), (21, (.bool true))]) (by kernel_rfl) ?_
     refine gv_goal fun a hd hs hok => ⟨rfl, hd, hs, ?_⟩
     obtain ⟨q1, q2, q7, q8, q21, _⟩ := hok
     exact ⟨q1, q2, q7, q8, (by rw [hc37]; exact q21), trivial⟩
    ·skip
     refine gv_pureN 6 [21, 26, 27, 28, 29, 30] [(21, (.bool (decide (to_2 > ((List.length l14 : Nat) : Int)))))] (by kernel_rfl) ?_
     refine gv_nil <| gv_sub [1, 2, 7, 8, 21] (σ' := [(1, (.int .i64 from_1)), (2, (.int .i64 to_2)), (7, (bp b1)), (8, (.slice a7 (List.length l14) c8)), (21, (.bool (decide (to_2 > ((List.length l14 : Nat) : Int)))))]) (by kernel_rfl) ?_
     refine gv_goal fun a hd hs hok => ⟨rfl, hd, hs, ?_⟩
     obtain ⟨q1, q2, q7, q8, q21, _⟩ := hok
     exact ⟨q1, q2, q7, q8, (by rw [hc37]; exact q21), trivial⟩
   ·rintro a w36 ⟨e, hd, hs, hok⟩; subst e
    refine gv_in ?_ hd hs hok
    clear hd hs hok
    refine gv_cond (b := ((decide (to_2 < from_1)) || (decide (to_2 > ((List.length l14 : Nat) : Int))))) (by kernel_rfl) (fun hc38 => ?_) (fun hc38 => ?_)
    ·replace h0 := ite_t hc38 h0
     refine gv_seq <| gv_region <| bindE h0 ?_; clear h0; intro r39 hr40 h0
     refine gv_call0 (by kernel_rfl) rfl (by kernel_rfl) enters56 (textstr_at_ok fuel 4 (-4) w9  r39 hr40) ?_
     rintro v43 w41 ⟨hg42, rfl⟩
     refine gv_pureN 1 [6] [(6, (.string (strOf [])))] (by kernel_rfl) ?_
     have hg48 := (grown_trans hg10 hg42)
     have hk49 := hb4.grown hg48 nb
     refine gv_store0 24 0 (.agg #[(.int .i64 r39.1), (.int .i64 r39.2)]) #[(.int .i64 r39.1), (.int .i64 r39.2)] hk49 (by kernel_rfl) (by kernel_rfl) (by kernel_rfl) ?_
     intro w44 hg45 hb46 hz47
     refine gv_nil <| gv_cret ?_
     have e := sj h0; subst e
     refine gv_ret (gv_done [(.string (strOf [])), (.agg #[(.int .i64 r39.1), (.int .i64 r39.2)])] rfl ⟨(by kernel_rfl), ⟨⟨b1, 0, none⟩, (by kernel_rfl), run_loadVar_row w44 b1 _ 24 _ _ _ hb46 Tryd.underlying24 rfl (by kernel_rfl)⟩, trivial⟩ ?_)
     have hB50 := bg hB18 hg48 nb
     have hlo51 : w0.heap.size ≤ b1 := lob hbe5 hB0.size
     have hB52 := bg hB50 hg45 (rowlo hlo51)
     exact ⟨grown_of_below hB52, rfl⟩
    ·replace h0 := ite_f hc38 h0
     refine gv_skip <| gv_blk <| gv_seq <| gv_region <| gv_pureN 3 [32, 33, 34] [(32, (.slice a7 (List.length l14) c8)), (33, (.int .i64 from_1)), (34, (.int .i64 to_2))] (by kernel_rfl) ?_
     refine bindE h0 ?_; clear h0; intro x53 hx54 h0
     refine gv_ssl2 (iE .i32) (t := 72) (e := 21) (xs := l14) (a := a7) (cap := c8) (lo := (some (.int .i64 from_1))) (hi := (some (.int .i64 to_2))) from_1 to_2 x53 (fun e => by cases e) rfl rfl rfl (by kernel_rfl) (by kernel_rfl) Tryd.underlying72 (by kernel_rfl) (.inr ⟨_, rfl⟩) (.inr ⟨_, rfl⟩) hx54 hr11.1 ?_
     intro a55 c56 hsub57
     have hr58 := hsub57 _ _ hr11
     refine gv_r2s (src := 72) (dst := 9) (e := 21) (xs := x53) (a := a55) (cap := c56) (X := (· = w2.heap.size)) [] (fun e => by cases e) rfl rfl rfl (by kernel_rfl) (by kernel_rfl) Tryd.underlying72 Tryd.underlying21 Tryd.underlying9 (inw0 hr58) rfl ?_
     refine gv_pureN 2 [6, 37] [(6, (.string (strR x53))), (37, (.agg #[(.int .i64 0), (.int .i64 0)]))] (by kernel_rfl) ?_
     have hk63 := hb4.grown hg10 nb
     refine gv_store0 24 0 (.agg #[(.int .i64 0), (.int .i64 0)]) #[(.int .i64 0), (.int .i64 0)] hk63 (by kernel_rfl) (by kernel_rfl) (by kernel_rfl) ?_
     intro w59 hg60 hb61 hz62
     refine gv_nil <| gv_cret ?_
     have e := sj h0; subst e
     refine gv_ret (gv_done [(.string (strR x53)), (.agg #[(.int .i64 0), (.int .i64 0)])] rfl ⟨(by kernel_rfl), ⟨⟨b1, 0, none⟩, (by kernel_rfl), run_loadVar_row w59 b1 _ 24 _ _ _ hb61 Tryd.underlying24 rfl (by kernel_rfl)⟩, trivial⟩ ?_)
     have hB64 := bg hB18 hg10 nb
     have hlo65 : w0.heap.size ≤ b1 := lob hbe5 hB0.size
     have hB66 := bg hB64 hg60 (rowlo hlo65)
     exact ⟨grown_of_below hB66, rfl⟩

theorem textstr_Find_ok (fuel : Nat) (s_0 : ByteArray) (sub_1 : ByteArray) (from_2 : Int) (to_3 : Int) (last_4 : Bool) (w0 : World) (X0 : Nat → Prop) (hX0 : ∀ k, X0 k → k < w0.heap.size) {gmx : Int} (hG0 : Rd (iE .i64) w0 X0 (some ⟨0, 0, none⟩) 1 [gmx]) (hG1 : Rd bE w0 X0 (some ⟨1, 0, none⟩) 256 utf8First) (hG2 : Rd (prE (iE .u8) (iE .u8)) w0 X0 (some ⟨2, 0, none⟩) 16 utf8Acc) (r0 : (Int × (Int × Int))) (h0 : textstr_Find fuel s_0 sub_1 from_2 to_3 last_4 = some r0) :
    Calls Tryd.prog 37 ([(.string s_0), (.string sub_1), (.int .i64 from_2), (.int .i64 to_3), (.bool last_4)] : List Value).toArray w0 (Ret fun v w' => w0.grownBy w' none ∧ v = tup [(.int .i64 r0.1), (.agg #[(.int .i64 r0.2.1), (.int .i64 r0.2.2)])]) := by
 have hB0 : Below w0.heap.size w0 w0 := Below.refl _ _
 unfold textstr_Find at h0
 refine calls_run Tryd.func37 rfl Tryd.ntmps37 (by kernel_rfl) ?_
 refine gv_sub [0, 1, 2, 3, 4] (σ' := [(0, (.string s_0)), (1, (.string sub_1)), (2, (.int .i64 from_2)), (3, (.int .i64 to_3)), (4, (.bool last_4))]) (by kernel_rfl) ?_
 refine gv_seq <| gv_region <| gv_pureN 1 [10] [] (by kernel_rfl) ?_
 refine gv_new0 (fun b => .pointer (some ⟨b, 0, none⟩)) #[(.int .i64 0), (.int .i64 0)] 24 (by kernel_rfl) (by kernel_rfl) ?_
 intro b1 w2 hg3 hb4 hbe5 hz6
 refine gv_nil <| gv_seq <| gv_seq <| gv_region <| gv_pureN 2 [16, 17] [(16, (.string s_0)), (17, (.string sub_1))] (by kernel_rfl) ?_
 refine gv_new0 (fun b => .slice (some ⟨b, 0, none⟩) 2 2) #[(.string s_0), (.string sub_1)] 9 (by kernel_rfl) (by kernel_rfl) ?_
 intro b7 w8 hg9 hb10 hbe11 hz12
 have ho13 : Gv.Own sE 9 w8 (fun _ => False) (some ⟨b7, 0, none⟩) 2 ([s_0, sub_1] : List ByteArray) := Box.ownE hb10 ⟨[(.string s_0)], [(.string sub_1)], rfl, rfl, ⟨[(.string sub_1)], [], rfl, rfl, rfl⟩⟩ (show 2 ≤ maxLen by decide) (fun h => h)
 have hB18 := bg hB0 hg3 nb
 have hl14 : ∀ g, blk (some ⟨b7, 0, none⟩) = some g → w0.heap.size ≤ g := loo hbe11 hB18.size
 refine bindE h0 ?_; clear h0; intro r19 hr20 h0
 have hB21 := bg hB18 hg9 nb
 refine gv_call0 (by kernel_rfl) rfl (by kernel_rfl) enters58 (textstr_check_ok fuel (some ⟨b7, 0, none⟩) 2 ([s_0, sub_1] : List ByteArray) w8 (fun k => (fun k => blk (some ⟨b7, 0, none⟩) = some k) k ∨ X0 k ∨ X0 k) (fun k hk => (hk).elim (fun h => (fun k (hk : blk (some ⟨b7, 0, none⟩) = some k) => ho13.lt k hk) k h) (fun h => (h).elim (fun h => (fun k (hk : X0 k) => ltl (hX0 k hk) hB21.size) k h) (fun h => (fun k (hk : X0 k) => ltl (hX0 k hk) hB21.size) k h))) ((ho13.rd (Y := fun k => blk (some ⟨b7, 0, none⟩) = some k) (fun _ h => h.elim) (fun g e => e)).wide (fun k hk => (.inl hk))) ((hG1.below hB21 hX0).wide (fun k hk => (.inr (.inl hk)))) ((hG2.below hB21 hX0).wide (fun k hk => (.inr (.inr hk)))) r19 hr20) ?_
 rintro v24 w22 ⟨hg23, rfl⟩
 refine gv_new0 (fun b => .pointer (some ⟨b, 0, none⟩)) #[(.int .i64 0), (.int .i64 0)] 24 (by kernel_rfl) (by kernel_rfl) ?_
 intro b25 w26 hg27 hb28 hbe29 hz30
 refine gv_store0 24 0 (.agg #[(.int .i64 r19.1), (.int .i64 r19.2)]) #[(.int .i64 r19.1), (.int .i64 r19.2)] hb28 (by kernel_rfl) (by kernel_rfl) (by kernel_rfl) ?_
 intro w31 hg32 hb33 hz34
 refine gv_nil <| gv_seq <| gv_region <| gv_pureN 1 [20] [(20, (bp b25))] (by kernel_rfl) ?_
 refine gv_load (t := 3) (A := ⟨b25, 0, none⟩) (.int .i64 r19.1) [] (fun e => by cases e) rfl rfl rfl (by kernel_rfl) (by kernel_rfl) (by kernel_rfl) (inw0 (hb33.cell 0 rfl)) rfl ?_
 refine gv_pureN 1 [22] [(22, (.bool (r19.1 != 0)))] (by kernel_rfl) ?_
 refine gv_nil <| gv_cond (b := (r19.1 != 0)) (by kernel_rfl) (fun hc35 => ?_) (fun hc35 => ?_)
 ·replace h0 := ite_t hc35 h0
  refine gv_seq <| gv_drawA (by kernel_rfl) ?_
  intro w36 hg37
  refine gv_pre [1] (bA 3 [1]) 2 (by kernel_rfl) (by kernel_rfl) ?_
  refine gv_pureN 1 [10] [(10, (.int .i64 0))] (by kernel_rfl) ?_
  refine gv_nil <| gv_goA ?_
  refine gv_stage (Cls w36 []) [0, 1] [(0, some true)] (bA 3 [0, 1]) 1 (by kernel_rfl) (by kernel_rfl) (Cls.refl _ _) ?_
  have hC38 := Cls.refl w36 []
  have hk39 := hb33.grown hg37 nb
  refine gv_loadBox (t := 24) (b := b25) (t' := 24) (fr := (0, 0)) #[(.int .i64 r19.1), (.int .i64 r19.2)] [] (fun e => by cases e) rfl rfl rfl (by kernel_rfl) (by kernel_rfl) (by kernel_rfl) (by kernel_rfl) (inw1 fun w' hC' => (hC'.box hk39 nm_nil)) rfl ?_
  refine gv_nil <| gv_goA ?_
  refine gv_stage (fun _ => True) [0, 1, 2] [(2, some false)] (bA 3 [0, 1, 2]) 0 (by kernel_rfl) (by kernel_rfl) trivial ?_
  have hg44 := (grown_trans (grown_trans hg9 hg23) hg27)
  have hg45 := (grown_trans hg9 hg23)
  have hk46 := hb4.grown hg45 nb
  have lt47 := ltl ((ltb hk46) _ rfl) ((lowb hbe29) _ rfl)
  have hk48 := ((hb4.grown hg44 nb).grown hg32 (rowne (ng lt47))).grown hg37 nb
  refine gv_store (t := 24) (b := b1) (off := 0) (v := (.agg #[(.int .i64 r19.1), (.int .i64 r19.2)])) (t' := 24) (cs := #[(.int .i64 0), (.int .i64 0)]) #[(.int .i64 r19.1), (.int .i64 r19.2)] (by decide) rfl rfl (by kernel_rfl) (by kernel_rfl) (by kernel_rfl) (by intro u hu; simp [Value.cells] at hu; rcases hu with rfl | rfl <;> rfl) (show 0 + 2 ≤ 2 by decide) (by rfl) hk48 ?_
  intro w40 hg41 hb42 hz43
  refine ⟨(fun _ => trivial), ?_⟩
  refine gv_nil <| gv_goA ?_
  refine gv_stageE (by kernel_rfl) ?_
  refine gv_cret ?_
  have e := sj h0; subst e
  refine gv_ret (gv_done [(.int .i64 0), (.agg #[(.int .i64 r19.1), (.int .i64 r19.2)])] rfl ⟨(by kernel_rfl), ⟨⟨b1, 0, none⟩, (by kernel_rfl), run_loadVar_row w40 b1 _ 24 _ _ _ hb42 Tryd.underlying24 rfl (by kernel_rfl)⟩, trivial⟩ ?_)
  have hg49 := (grown_trans hg23 hg27)
  have hB50 := bg hB21 hg49 nb
  have hB51 := bg hB21 hg23 nb
  have hlo52 : w0.heap.size ≤ b25 := lob hbe29 hB51.size
  have hB53 := bg hB50 hg32 (rowlo hlo52)
  have hB54 := bg hB53 hg37 nb
  have hlo55 : w0.heap.size ≤ b1 := lob hbe5 hB0.size
  have hB56 := bg hB54 hg41 (rowlo hlo55)
  exact ⟨grown_of_below hB56, rfl⟩
 ·replace h0 := ite_f hc35 h0
  refine gv_skip <| gv_seq <| gv_region <| gv_pureN 3 [25, 26, 27] [(25, (.string s_0)), (26, (.int .i64 from_2)), (27, (.int .i64 to_3))] (by kernel_rfl) ?_
  refine bindE h0 ?_; clear h0; intro r57 hr58 h0
  refine gv_call0 (by kernel_rfl) rfl (by kernel_rfl) enters70 (textstr_window_ok fuel s_0 from_2 to_3 w31  r57 hr58) ?_
  rintro v61 w59 ⟨hg60, rfl⟩
  clear hr58 hc35 hz34 hb33 hz30 hb28 hr20 hl14 hB18 ho13 hz12 hbe11 hb10 hz6 hg3
  refine gv_pureN 3 [24, 29, 30] [(29, (.string r57.1)), (30, (.agg #[(.int .i64 r57.2.1), (.int .i64 r57.2.2)]))] (by kernel_rfl) ?_
  refine gv_new0 (fun b => .pointer (some ⟨b, 0, none⟩)) #[(.int .i64 0), (.int .i64 0)] 24 (by kernel_rfl) (by kernel_rfl) ?_
  intro b62 w63 hg64 hb65 hbe66 hz67
  refine gv_pureN 1 [13] [(13, (.string r57.1))] (by kernel_rfl) ?_
  refine gv_sub [1, 2, 4, 11, 13, 14, 30] (σ' := [(1, (.string sub_1)), (2, (.int .i64 from_2)), (4, (.bool last_4)), (11, (bp b1)), (13, (.string r57.1)), (14, (bp b62)), (30, (.agg #[(.int .i64 r57.2.1), (.int .i64 r57.2.2)]))]) (by kernel_rfl) ?_
  refine gv_store0 24 0 (.agg #[(.int .i64 r57.2.1), (.int .i64 r57.2.2)]) #[(.int .i64 r57.2.1), (.int .i64 r57.2.2)] hb65 (by kernel_rfl) (by kernel_rfl) (by kernel_rfl) ?_
  intro w68 hg69 hb70 hz71
  refine gv_nil <| gv_seq <| gv_seq <| gv_region <| gv_pureN 1 [31] [(31, (bp b62))] (by kernel_rfl) ?_
  refine gv_load (t := 3) (A := ⟨b62, 0, none⟩) (.int .i64 r57.2.1) [] (fun e => by cases e) rfl rfl rfl (by kernel_rfl) (by kernel_rfl) (by kernel_rfl) (inw0 (hb70.cell 0 rfl)) rfl ?_
  refine gv_pureN 1 [33] [(33, (.bool (r57.2.1 != 0)))] (by kernel_rfl) ?_
  refine gv_nil <| gv_cond (b := (r57.2.1 != 0)) (by kernel_rfl) (fun hc72 => ?_) (fun hc72 => ?_)
  ·replace h0 := ite_t hc72 h0
   refine gv_seq <| gv_drawA (by kernel_rfl) ?_
   intro w73 hg74
   refine gv_pre [1] (bA 3 [1]) 2 (by kernel_rfl) (by kernel_rfl) ?_
   refine gv_pureN 1 [10] [(10, (.int .i64 0))] (by kernel_rfl) ?_
   refine gv_nil <| gv_goA ?_
   refine gv_stage (Cls w73 []) [0, 1] [(0, some true)] (bA 3 [0, 1]) 1 (by kernel_rfl) (by kernel_rfl) (Cls.refl _ _) ?_
   have hC75 := Cls.refl w73 []
   have hk76 := hb70.grown hg74 nb
   refine gv_loadBox (t := 24) (b := b62) (t' := 24) (fr := (0, 0)) #[(.int .i64 r57.2.1), (.int .i64 r57.2.2)] [] (fun e => by cases e) rfl rfl rfl (by kernel_rfl) (by kernel_rfl) (by kernel_rfl) (by kernel_rfl) (inw1 fun w' hC' => (hC'.box hk76 nm_nil)) rfl ?_
   refine gv_nil <| gv_goA ?_
   refine gv_stage (fun _ => True) [0, 1, 2] [(2, some false)] (bA 3 [0, 1, 2]) 0 (by kernel_rfl) (by kernel_rfl) trivial ?_
   have hg81 := (grown_trans (grown_trans hg9 hg23) hg27)
   have hg82 := (grown_trans hg9 hg23)
   have hk83 := hb4.grown hg82 nb
   have lt84 := ltl ((ltb hk83) _ rfl) ((lowb hbe29) _ rfl)
   have hg85 := (grown_trans hg60 hg64)
   have hk86 := ((hk83.grown hg27 nb).grown hg32 (rowne (ng lt84))).grown hg60 nb
   have lt87 := ltl ((ltb hk86) _ rfl) ((lowb hbe66) _ rfl)
   have hk88 := ((((hb4.grown hg81 nb).grown hg32 (rowne (ng lt84))).grown hg85 nb).grown hg69 (rowne (ng lt87))).grown hg74 nb
   refine gv_store (t := 24) (b := b1) (off := 0) (v := (.agg #[(.int .i64 r57.2.1), (.int .i64 r57.2.2)])) (t' := 24) (cs := #[(.int .i64 0), (.int .i64 0)]) #[(.int .i64 r57.2.1), (.int .i64 r57.2.2)] (by decide) rfl rfl (by kernel_rfl) (by kernel_rfl) (by kernel_rfl) (by intro u hu; simp [Value.cells] at hu; rcases hu with rfl | rfl <;> rfl) (show 0 + 2 ≤ 2 by decide) (by rfl) hk88 ?_
   intro w77 hg78 hb79 hz80
   refine ⟨(fun _ => trivial), ?_⟩
   refine gv_nil <| gv_goA ?_
   refine gv_stageE (by kernel_rfl) ?_
   refine gv_cret ?_
   have e := sj h0; subst e
   refine gv_ret (gv_done [(.int .i64 0), (.agg #[(.int .i64 r57.2.1), (.int .i64 r57.2.2)])] rfl ⟨(by kernel_rfl), ⟨⟨b1, 0, none⟩, (by kernel_rfl), run_loadVar_row w77 b1 _ 24 _ _ _ hb79 Tryd.underlying24 rfl (by kernel_rfl)⟩, trivial⟩ ?_)
   have hg89 := (grown_trans hg23 hg27)
   have hB90 := bg hB21 hg89 nb
   have hB91 := bg hB21 hg23 nb
   have hlo92 : w0.heap.size ≤ b25 := lob hbe29 hB91.size
   have hB93 := bg hB90 hg32 (rowlo hlo92)
   have hB94 := bg hB93 hg85 nb
   have hB95 := bg hB91 hg27 nb
   have hB96 := bg hB95 hg32 (rowlo hlo92)
   have hB97 := bg hB96 hg60 nb
   have hlo98 : w0.heap.size ≤ b62 := lob hbe66 hB97.size
   have hB99 := bg hB94 hg69 (rowlo hlo98)
   have hB100 := bg hB99 hg74 nb
   have hlo101 : w0.heap.size ≤ b1 := lob hbe5 hB0.size
   have hB102 := bg hB100 hg78 (rowlo hlo101)
   exact ⟨grown_of_below hB102, rfl⟩
  ·replace h0 := ite_f hc72 h0
   refine gv_skip <| gv_seq <| gv_region <| gv_pureN 2 [35, 36] [(35, (.string r57.1)), (36, (.string sub_1))] (by kernel_rfl) ?_
   refine bindE h0 ?_; clear h0; intro r103 hr104 h0
   have hg105 := (grown_trans hg23 hg27)
   have hB106 := bg hB21 hg105 nb
   have hB107 := bg hB21 hg23 nb
   have hlo108 : w0.heap.size ≤ b25 := lob hbe29 hB107.size
   have hB109 := bg hB106 hg32 (rowlo hlo108)
   have hg110 := (grown_trans hg60 hg64)
   have hB111 := bg hB109 hg110 nb
   have hB112 := bg hB107 hg27 nb
   have hB113 := bg hB112 hg32 (rowlo hlo108)
   have hB114 := bg hB113 hg60 nb
   have hlo115 : w0.heap.size ≤ b62 := lob hbe66 hB114.size
   have hB116 := bg hB111 hg69 (rowlo hlo115)
   refine gv_call0 (by kernel_rfl) rfl (by kernel_rfl) enters71 (strings_Index_ok fuel r57.1 sub_1 w68 (fun k => X0 k) (fun k hk => (fun k (hk : X0 k) => ltl (hX0 k hk) hB116.size) k hk) ((hG0.below hB116 hX0).wide (fun k hk => hk)) r103 hr104) ?_
   rintro v119 w117 ⟨hg118, rfl⟩
   refine gv_pureN 1 [15] [(15, (.int .i64 r103))] (by kernel_rfl) ?_
   refine gv_nil <| gv_seq <| gv_seq <| gv_region <| gv_pureN 1 [38] [(38, (.bool last_4))] (by kernel_rfl) ?_
   refine gv_nil <| bindE h0 ?_; clear h0; intro j120 h1 h0
   refine gv_cut_code (J := fun a w121 => Below w0.heap.size w0 w121 ∧ w117.heap.size ≤ w121.heap.size ∧ Box w121 b1 24 #[(.int .i64 0), (.int .i64 0)] ∧ a.defers = [] ∧ a.tmps.size = 52 ∧ Ok [(2, (.int .i64 from_2)), (11, (bp b1)), (13, (.string r57.1)), (15, (.int .i64 j120))] a.tmps) ?_ ?_
   ·skip
    refine gv_cond (b := last_4) (by kernel_rfl) (fun hc122 => ?_) (fun hc122 => ?_)
    ·replace h1 := ite_t hc122 h1
     refine gv_region <| gv_pureN 2 [39, 40] [(39, (.string r57.1)), (40, (.string sub_1))] (by kernel_rfl) ?_
     refine bindE h1 ?_; clear h1; intro r123 hr124 h1
     refine gv_call0 (by kernel_rfl) rfl (by kernel_rfl) enters72 (strings_LastIndex_ok fuel r57.1 sub_1 w117  r123 hr124) ?_
     rintro v127 w125 ⟨hg126, rfl⟩
     refine gv_pureN 1 [15] [(15, (.int .i64 r123))] (by kernel_rfl) ?_
     refine gv_nil ?_
     have e := sj h1; subst e
     refine gv_goal fun a hd hs hok => ?_
     have hg128 := (grown_trans hg118 hg126)
     have hB129 := bg hB116 hg128 nb
     have hz130 := hg126.size
     have hg131 := (grown_trans hg9 hg105)
     have hg132 := (grown_trans hg9 hg23)
     have hk133 := hb4.grown hg132 nb
     have lt134 := ltl ((ltb hk133) _ rfl) ((lowb hbe29) _ rfl)
     have hk135 := ((hk133.grown hg27 nb).grown hg32 (rowne (ng lt134))).grown hg60 nb
     have lt136 := ltl ((ltb hk135) _ rfl) ((lowb hbe66) _ rfl)
     have hk137 := ((((hb4.grown hg131 nb).grown hg32 (rowne (ng lt134))).grown hg110 nb).grown hg69 (rowne (ng lt136))).grown hg128 nb
     exact ⟨hB129, hz130, hk137, hd, hs, ok_pick [2, 11, 13, 15] hok (by kernel_rfl)⟩
    ·replace h1 := ite_f hc122 h1
     refine gv_skip ?_
     have e := sj h1; subst e
     refine gv_goal fun a hd hs hok => ?_
     have hB138 := bg hB116 hg118 nb
     have hg139 := (grown_trans hg9 hg105)
     have hg140 := (grown_trans hg9 hg23)
     have hk141 := hb4.grown hg140 nb
     have lt142 := ltl ((ltb hk141) _ rfl) ((lowb hbe29) _ rfl)
     have hk143 := ((hk141.grown hg27 nb).grown hg32 (rowne (ng lt142))).grown hg60 nb
     have lt144 := ltl ((ltb hk143) _ rfl) ((lowb hbe66) _ rfl)
     have hk145 := ((((hb4.grown hg139 nb).grown hg32 (rowne (ng lt142))).grown hg110 nb).grown hg69 (rowne (ng lt144))).grown hg118 nb
     exact ⟨hB138, (Nat.le_refl _), hk145, hd, hs, ok_pick [2, 11, 13, 15] hok (by kernel_rfl)⟩
   ·rintro a w121 ⟨hB146, hz147, hb148, hd, hs, hok⟩
    refine gv_in ?_ hd hs hok
    clear hd hs hok
    clear hz147 hg118 hB116 hlo115 hB114 hB113 hB112 hB111 hg110 hB109 hlo108 hB107 hB106 hg105 hr104 hc72 hz71 hb70 hg69 hz67 hbe66 hb65 hg64 hg60 hg32 hbe29 hg27 hg23 hB21 hg9 hb4
    refine gv_seq <| gv_seq <| gv_region <| gv_pureN 2 [42, 43] [(43, (.bool (decide (j120 < 0))))] (by kernel_rfl) ?_
    refine gv_nil <| gv_cond (b := (decide (j120 < 0))) (by kernel_rfl) (fun hc149 => ?_) (fun hc149 => ?_)
    ·replace h0 := ite_t hc149 h0
     refine gv_seq <| gv_region <| gv_pureN 2 [10, 44] [(10, (.int .i64 (-1))), (44, (.agg #[(.int .i64 0), (.int .i64 0)]))] (by kernel_rfl) ?_
     refine gv_store0 24 0 (.agg #[(.int .i64 0), (.int .i64 0)]) #[(.int .i64 0), (.int .i64 0)] hb148 (by kernel_rfl) (by kernel_rfl) (by kernel_rfl) ?_
     intro w150 hg151 hb152 hz153
     refine gv_nil <| gv_cret ?_
     have e := sj h0; subst e
     refine gv_ret (gv_done [(.int .i64 (-1)), (.agg #[(.int .i64 0), (.int .i64 0)])] rfl ⟨(by kernel_rfl), ⟨⟨b1, 0, none⟩, (by kernel_rfl), run_loadVar_row w150 b1 _ 24 _ _ _ hb152 Tryd.underlying24 rfl (by kernel_rfl)⟩, trivial⟩ ?_)
     have hlo154 : w0.heap.size ≤ b1 := lob hbe5 hB0.size
     have hB155 := bg hB146 hg151 (rowlo hlo154)
     exact ⟨grown_of_below hB155, rfl⟩
    ·replace h0 := ite_f hc149 h0
     refine gv_skip <| gv_seq <| gv_region <| gv_pureN 3 [45, 46, 47] [(45, (.int .i64 from_2)), (46, (.string r57.1)), (47, (.int .i64 j120))] (by kernel_rfl) ?_
     refine bindE h0 ?_; clear h0; intro x156 hx157 h0
     refine gv_ssub (t := 9) (s := r57.1) (lo := none) (hi := (some (.int .i64 j120))) 0 j120 x156 [] (fun e => by cases e) rfl rfl rfl (by kernel_rfl) (by kernel_rfl) Tryd.underlying9 (.inl ⟨rfl, rfl⟩) (.inr ⟨_, rfl⟩) hx157 rfl ?_
     refine bindE h0 ?_; clear h0; intro r158 hr159 h0
     refine gv_call0 (by kernel_rfl) rfl (by kernel_rfl) enters73 (utf8_RuneCountInString_ok fuel x156 w121  r158 hr159) ?_
     rintro v162 w160 ⟨hg161, rfl⟩
     refine gv_pureN 3 [10, 50, 51] [(10, (.int .i64 (IntKind.i64.wrap (from_2 + r158)))), (51, (.agg #[(.int .i64 0), (.int .i64 0)]))] (by kernel_rfl) ?_
     have hk167 := hb148.grown hg161 nb
     refine gv_store0 24 0 (.agg #[(.int .i64 0), (.int .i64 0)]) #[(.int .i64 0), (.int .i64 0)] hk167 (by kernel_rfl) (by kernel_rfl) (by kernel_rfl) ?_
     intro w163 hg164 hb165 hz166
     refine gv_nil <| gv_cret ?_
     have e := sj h0; subst e
     refine gv_ret (gv_done [(.int .i64 (IntKind.i64.wrap (from_2 + r158))), (.agg #[(.int .i64 0), (.int .i64 0)])] rfl ⟨(by kernel_rfl), ⟨⟨b1, 0, none⟩, (by kernel_rfl), run_loadVar_row w163 b1 _ 24 _ _ _ hb165 Tryd.underlying24 rfl (by kernel_rfl)⟩, trivial⟩ ?_)
     have hB168 := bg hB146 hg161 nb
     have hlo169 : w0.heap.size ≤ b1 := lob hbe5 hB0.size
     have hB170 := bg hB168 hg164 (rowlo hlo169)
     exact ⟨grown_of_below hB170, rfl⟩

theorem textstr_Count_ok (fuel : Nat) (s_0 : ByteArray) (sub_1 : ByteArray) (w0 : World) (X0 : Nat → Prop) (hX0 : ∀ k, X0 k → k < w0.heap.size) {gmx : Int} (hG0 : Rd (iE .i64) w0 X0 (some ⟨0, 0, none⟩) 1 [gmx]) (hG1 : Rd bE w0 X0 (some ⟨1, 0, none⟩) 256 utf8First) (hG2 : Rd (prE (iE .u8) (iE .u8)) w0 X0 (some ⟨2, 0, none⟩) 16 utf8Acc) (r0 : (Int × (Int × Int))) (h0 : textstr_Count fuel s_0 sub_1 = some r0) :
    Calls Tryd.prog 38 ([(.string s_0), (.string sub_1)] : List Value).toArray w0 (Ret fun v w' => w0.grownBy w' none ∧ v = tup [(.int .i64 r0.1), (.agg #[(.int .i64 r0.2.1), (.int .i64 r0.2.2)])]) := by
 have hB0 : Below w0.heap.size w0 w0 := Below.refl _ _
 unfold textstr_Count at h0
 refine calls_run Tryd.func38 rfl Tryd.ntmps38 (by kernel_rfl) ?_
 refine gv_sub [0, 1] (σ' := [(0, (.string s_0)), (1, (.string sub_1))]) (by kernel_rfl) ?_
 refine gv_seq <| gv_region <| gv_pureN 1 [4] [] (by kernel_rfl) ?_
 refine gv_new0 (fun b => .pointer (some ⟨b, 0, none⟩)) #[(.int .i64 0), (.int .i64 0)] 24 (by kernel_rfl) (by kernel_rfl) ?_
 intro b1 w2 hg3 hb4 hbe5 hz6
 refine gv_nil <| gv_seq <| gv_seq <| gv_region <| gv_pureN 2 [7, 8] [(7, (.string s_0)), (8, (.string sub_1))] (by kernel_rfl) ?_
 refine gv_new0 (fun b => .slice (some ⟨b, 0, none⟩) 2 2) #[(.string s_0), (.string sub_1)] 9 (by kernel_rfl) (by kernel_rfl) ?_
 intro b7 w8 hg9 hb10 hbe11 hz12
 have ho13 : Gv.Own sE 9 w8 (fun _ => False) (some ⟨b7, 0, none⟩) 2 ([s_0, sub_1] : List ByteArray) := Box.ownE hb10 ⟨[(.string s_0)], [(.string sub_1)], rfl, rfl, ⟨[(.string sub_1)], [], rfl, rfl, rfl⟩⟩ (show 2 ≤ maxLen by decide) (fun h => h)
 have hB18 := bg hB0 hg3 nb
 have hl14 : ∀ g, blk (some ⟨b7, 0, none⟩) = some g → w0.heap.size ≤ g := loo hbe11 hB18.size
 refine bindE h0 ?_; clear h0; intro r19 hr20 h0
 have hB21 := bg hB18 hg9 nb
 refine gv_call0 (by kernel_rfl) rfl (by kernel_rfl) enters58 (textstr_check_ok fuel (some ⟨b7, 0, none⟩) 2 ([s_0, sub_1] : List ByteArray) w8 (fun k => (fun k => blk (some ⟨b7, 0, none⟩) = some k) k ∨ X0 k ∨ X0 k) (fun k hk => (hk).elim (fun h => (fun k (hk : blk (some ⟨b7, 0, none⟩) = some k) => ho13.lt k hk) k h) (fun h => (h).elim (fun h => (fun k (hk : X0 k) => ltl (hX0 k hk) hB21.size) k h) (fun h => (fun k (hk : X0 k) => ltl (hX0 k hk) hB21.size) k h))) ((ho13.rd (Y := fun k => blk (some ⟨b7, 0, none⟩) = some k) (fun _ h => h.elim) (fun g e => e)).wide (fun k hk => (.inl hk))) ((hG1.below hB21 hX0).wide (fun k hk => (.inr (.inl hk)))) ((hG2.below hB21 hX0).wide (fun k hk => (.inr (.inr hk)))) r19 hr20) ?_
 rintro v24 w22 ⟨hg23, rfl⟩
 refine gv_new0 (fun b => .pointer (some ⟨b, 0, none⟩)) #[(.int .i64 0), (.int .i64 0)] 24 (by kernel_rfl) (by kernel_rfl) ?_
 intro b25 w26 hg27 hb28 hbe29 hz30
 refine gv_store0 24 0 (.agg #[(.int .i64 r19.1), (.int .i64 r19.2)]) #[(.int .i64 r19.1), (.int .i64 r19.2)] hb28 (by kernel_rfl) (by kernel_rfl) (by kernel_rfl) ?_
 intro w31 hg32 hb33 hz34
 refine gv_nil <| gv_seq <| gv_region <| gv_pureN 1 [11] [(11, (bp b25))] (by kernel_rfl) ?_
 refine gv_load (t := 3) (A := ⟨b25, 0, none⟩) (.int .i64 r19.1) [] (fun e => by cases e) rfl rfl rfl (by kernel_rfl) (by kernel_rfl) (by kernel_rfl) (inw0 (hb33.cell 0 rfl)) rfl ?_
 refine gv_pureN 1 [13] [(13, (.bool (r19.1 != 0)))] (by kernel_rfl) ?_
 refine gv_nil <| gv_cond (b := (r19.1 != 0)) (by kernel_rfl) (fun hc35 => ?_) (fun hc35 => ?_)
 ·replace h0 := ite_t hc35 h0
  refine gv_seq <| gv_drawA (by kernel_rfl) ?_
  intro w36 hg37
  refine gv_pre [1] (bA 3 [1]) 2 (by kernel_rfl) (by kernel_rfl) ?_
  refine gv_pureN 1 [4] [(4, (.int .i64 0))] (by kernel_rfl) ?_
  refine gv_nil <| gv_goA ?_
  refine gv_stage (Cls w36 []) [0, 1] [(0, some true)] (bA 3 [0, 1]) 1 (by kernel_rfl) (by kernel_rfl) (Cls.refl _ _) ?_
  have hC38 := Cls.refl w36 []
  have hk39 := hb33.grown hg37 nb
  refine gv_loadBox (t := 24) (b := b25) (t' := 24) (fr := (0, 0)) #[(.int .i64 r19.1), (.int .i64 r19.2)] [] (fun e => by cases e) rfl rfl rfl (by kernel_rfl) (by kernel_rfl) (by kernel_rfl) (by kernel_rfl) (inw1 fun w' hC' => (hC'.box hk39 nm_nil)) rfl ?_
  refine gv_nil <| gv_goA ?_
  refine gv_stage (fun _ => True) [0, 1, 2] [(2, some false)] (bA 3 [0, 1, 2]) 0 (by kernel_rfl) (by kernel_rfl) trivial ?_
  have hg44 := (grown_trans (grown_trans hg9 hg23) hg27)
  have hg45 := (grown_trans hg9 hg23)
  have hk46 := hb4.grown hg45 nb
  have lt47 := ltl ((ltb hk46) _ rfl) ((lowb hbe29) _ rfl)
  have hk48 := ((hb4.grown hg44 nb).grown hg32 (rowne (ng lt47))).grown hg37 nb
  refine gv_store (t := 24) (b := b1) (off := 0) (v := (.agg #[(.int .i64 r19.1), (.int .i64 r19.2)])) (t' := 24) (cs := #[(.int .i64 0), (.int .i64 0)]) #[(.int .i64 r19.1), (.int .i64 r19.2)] (by decide) rfl rfl (by kernel_rfl) (by kernel_rfl) (by kernel_rfl) (by intro u hu; simp [Value.cells] at hu; rcases hu with rfl | rfl <;> rfl) (show 0 + 2 ≤ 2 by decide) (by rfl) hk48 ?_
  intro w40 hg41 hb42 hz43
  refine ⟨(fun _ => trivial), ?_⟩
  refine gv_nil <| gv_goA ?_
  refine gv_stageE (by kernel_rfl) ?_
  refine gv_cret ?_
  have e := sj h0; subst e
  refine gv_ret (gv_done [(.int .i64 0), (.agg #[(.int .i64 r19.1), (.int .i64 r19.2)])] rfl ⟨(by kernel_rfl), ⟨⟨b1, 0, none⟩, (by kernel_rfl), run_loadVar_row w40 b1 _ 24 _ _ _ hb42 Tryd.underlying24 rfl (by kernel_rfl)⟩, trivial⟩ ?_)
  have hg49 := (grown_trans hg23 hg27)
  have hB50 := bg hB21 hg49 nb
  have hB51 := bg hB21 hg23 nb
  have hlo52 : w0.heap.size ≤ b25 := lob hbe29 hB51.size
  have hB53 := bg hB50 hg32 (rowlo hlo52)
  have hB54 := bg hB53 hg37 nb
  have hlo55 : w0.heap.size ≤ b1 := lob hbe5 hB0.size
  have hB56 := bg hB54 hg41 (rowlo hlo55)
  exact ⟨grown_of_below hB56, rfl⟩
 ·replace h0 := ite_f hc35 h0
  refine gv_skip <| gv_seq <| gv_region <| gv_pureN 2 [15, 16] [(15, (.string s_0)), (16, (.string sub_1))] (by kernel_rfl) ?_
  refine bindE h0 ?_; clear h0; intro r57 hr58 h0
  have hg59 := (grown_trans hg23 hg27)
  have hB60 := bg hB21 hg59 nb
  have hB61 := bg hB21 hg23 nb
  have hlo62 : w0.heap.size ≤ b25 := lob hbe29 hB61.size
  have hB63 := bg hB60 hg32 (rowlo hlo62)
  refine gv_call0 (by kernel_rfl) rfl (by kernel_rfl) enters74 (strings_CountA_ok fuel s_0 sub_1 w31 (fun k => X0 k) (fun k hk => (fun k (hk : X0 k) => ltl (hX0 k hk) hB63.size) k hk) ((hG0.below hB63 hX0).wide (fun k hk => hk)) r57 hr58) ?_
  rintro v66 w64 ⟨hg65, rfl⟩
  clear hlo62 hB61 hB60 hg59 hr58 hc35 hz34 hb33 hz30 hb28 hB21 hr20 hl14 hB18 ho13 hz12 hbe11 hb10 hz6 hg3
  refine gv_pureN 2 [4, 18] [(4, (.int .i64 r57)), (18, (.agg #[(.int .i64 0), (.int .i64 0)]))] (by kernel_rfl) ?_
  have hg71 := (grown_trans (grown_trans hg9 hg23) hg27)
  have hg72 := (grown_trans hg9 hg23)
  have hk73 := hb4.grown hg72 nb
  have lt74 := ltl ((ltb hk73) _ rfl) ((lowb hbe29) _ rfl)
  have hk75 := ((hb4.grown hg71 nb).grown hg32 (rowne (ng lt74))).grown hg65 nb
  refine gv_store0 24 0 (.agg #[(.int .i64 0), (.int .i64 0)]) #[(.int .i64 0), (.int .i64 0)] hk75 (by kernel_rfl) (by kernel_rfl) (by kernel_rfl) ?_
  intro w67 hg68 hb69 hz70
  refine gv_nil <| gv_cret ?_
  have e := sj h0; subst e
  refine gv_ret (gv_done [(.int .i64 r57), (.agg #[(.int .i64 0), (.int .i64 0)])] rfl ⟨(by kernel_rfl), ⟨⟨b1, 0, none⟩, (by kernel_rfl), run_loadVar_row w67 b1 _ 24 _ _ _ hb69 Tryd.underlying24 rfl (by kernel_rfl)⟩, trivial⟩ ?_)
  have hB76 := bg hB63 hg65 nb
  have hlo77 : w0.heap.size ≤ b1 := lob hbe5 hB0.size
  have hB78 := bg hB76 hg68 (rowlo hlo77)
  exact ⟨grown_of_below hB78, rfl⟩

theorem ref4_Numbers_ok (fuel : Nat) (pa0_0 : Option Addr) (pc0_0 : Nat) (a_0 : (List Int)) (pa1_0 : Option Addr) (pc1_0 : Nat) (b_1 : (List Int)) (w0 : World) (X0 : Nat → Prop) (hX0 : ∀ k, X0 k → k < w0.heap.size) (hpa0_0 : Rd (iE .i64) w0 X0 pa0_0 pc0_0 a_0) (hpa1_0 : Rd (iE .i64) w0 X0 pa1_0 pc1_0 b_1) (r0 : Bool) (h0 : ref4_Numbers fuel a_0 b_1 = some r0) :
    Calls Tryd.prog 97 ([(.slice pa0_0 (List.length a_0) pc0_0), (.slice pa1_0 (List.length b_1) pc1_0)] : List Value).toArray w0 (Ret fun v w' => w0.grownBy w' none ∧ v = tup [(.bool r0)]) := by
 have hB0 : Below w0.heap.size w0 w0 := Below.refl _ _
 unfold ref4_Numbers at h0
 refine calls_run Tryd.func97 rfl Tryd.ntmps97 (by kernel_rfl) ?_
 refine gv_sub [0, 1] (σ' := [(0, (.slice pa0_0 (List.length a_0) pc0_0)), (1, (.slice pa1_0 (List.length b_1) pc1_0))]) (by kernel_rfl) ?_
 refine gv_seq <| gv_region <| gv_pureN 1 [4] [] (by kernel_rfl) ?_
 refine gv_nil <| gv_seq <| gv_seq <| gv_region <| gv_pureN 5 [6, 7, 8, 9, 10] [(10, (.bool (((List.length a_0 : Nat) : Int) != ((List.length b_1 : Nat) : Int))))] (by kernel_rfl) ?_
 refine gv_nil <| gv_cond (b := (((List.length a_0 : Nat) : Int) != ((List.length b_1 : Nat) : Int))) (by kernel_rfl) (fun hc1 => ?_) (fun hc1 => ?_)
 ·replace h0 := ite_t hc1 h0
  refine gv_seq <| gv_region <| gv_pureN 1 [4] [(4, (.bool false))] (by kernel_rfl) ?_
  refine gv_nil <| gv_cret ?_
  have e := sj h0; subst e
  refine gv_ret (gv_done [(.bool false)] rfl ⟨(by kernel_rfl), trivial⟩ ?_)
  exact ⟨grown_of_below hB0, rfl⟩
 ·replace h0 := ite_f hc1 h0
  refine gv_skip <| gv_seq <| gv_seq <| gv_region <| gv_pureN 1 [5] [(5, (.int .i64 0))] (by kernel_rfl) ?_
  refine gv_nil <| bindE h0 ?_; clear h0; intro j2 h1 h0
  refine gv_cut_code (J := fun a w4 => ∃ s3 : Unit, j2 = .inl s3 ∧ Below w0.heap.size w0 w4 ∧ w0.heap.size ≤ w4.heap.size ∧ a.defers = [] ∧ a.tmps.size = 26 ∧ Ok [] a.tmps) ?_ ?_
  ·skip
   refine gv_block <| gv_loop (A := fun (s5 : Int) a w6 => Below w0.heap.size w0 w6 ∧ w0.heap.size ≤ w6.heap.size ∧ a.defers = [] ∧ a.tmps.size = 26 ∧ Ok [(0, (.slice pa0_0 (List.length a_0) pc0_0)), (1, (.slice pa1_0 (List.length b_1) pc1_0)), (5, (.int .i64 s5))] a.tmps) h1 ?_ ?_
   ·intro a hd hs hok
    exact ⟨hB0, (Nat.le_refl _), hd, hs, ok_pick [0, 1, 5] hok (by kernel_rfl)⟩
   ·rintro s5 r2 h2 hR2 a w6 ⟨hB7, hz8, hd, hs, hok⟩
    refine gv_in ?_ hd hs hok
    clear hd hs hok
    refine gv_seq <| gv_seq <| gv_region <| gv_pureN 4 [11, 12, 13, 14] [(14, (.bool (decide (s5 < ((List.length a_0 : Nat) : Int)))))] (by kernel_rfl) ?_
    refine gv_nil <| gv_cond (b := (decide (s5 < ((List.length a_0 : Nat) : Int)))) (by kernel_rfl) (fun hc9 => ?_) (fun hc9 => ?_)
    ·replace h2 := ite_t hc9 h2
     refine gv_skip <| gv_seq <| gv_block <| gv_seq <| gv_drawA (by kernel_rfl) ?_
     intro w10 hg11
     refine gv_pre [0, 1, 2, 4, 5, 6] (bA 9 [0, 1, 2, 4, 5, 6]) 3 (by kernel_rfl) (by kernel_rfl) ?_
     refine gv_pureN 2 [17, 18] [(17, (.slice pa0_0 (List.length a_0) pc0_0)), (18, (.int .i64 s5))] (by kernel_rfl) ?_
     refine bindE h2 ?_; clear h2; intro x12 hx13 h2
     have hB14 := bg hB7 hg11 nb
     refine gv_idxaddr (t := 38) (e := 3) (a := pa0_0) (len := List.length a_0) (cap := pc0_0) (kk := .i64) (i := s5) (sz := 1) [] (fun e => by cases e) rfl rfl rfl (by kernel_rfl) (by kernel_rfl) Tryd.underlying38 (by kernel_rfl) ((hpa0_0.below hB14 hX0).has hx13) (idx_spec hx13).1 (idx_spec hx13).2.1 rfl ?_
     refine gv_pureN 2 [21, 22] [(21, (.slice pa1_0 (List.length b_1) pc1_0)), (22, (.int .i64 s5))] (by kernel_rfl) ?_
     refine bindE h2 ?_; clear h2; intro x15 hx16 h2
     refine gv_idxaddr (t := 38) (e := 3) (a := pa1_0) (len := List.length b_1) (cap := pc1_0) (kk := .i64) (i := s5) (sz := 1) [] (fun e => by cases e) rfl rfl rfl (by kernel_rfl) (by kernel_rfl) Tryd.underlying38 (by kernel_rfl) ((hpa1_0.below hB14 hX0).has hx16) (idx_spec hx16).1 (idx_spec hx16).2.1 rfl ?_
     refine gv_nil <| gv_goA ?_
     refine gv_stage (Cls w10 []) [0, 1, 2, 3, 4, 5, 6, 7] [(3, some true), (7, some true)] (bA 9 [0, 1, 2, 3, 4, 5, 6, 7]) 1 (by kernel_rfl) (by kernel_rfl) (Cls.refl _ _) ?_
     have hC17 := Cls.refl w10 []
     refine gv_load (t := 3) (A := (elemAddr pa0_0 ((s5 : Int).toNat * 1))) (.int .i64 x12) [] (fun e => by cases e) rfl rfl rfl (by kernel_rfl) (by kernel_rfl) (by kernel_rfl) (inw1 fun w' hC' => ((hC'.rd (hpa0_0.below hB14 hX0) (fun k (hk : X0 k) => ltl (hX0 k hk) hB14.size) nmx_nil).cell hx13)) rfl ?_
     refine gv_load (t := 3) (A := (elemAddr pa1_0 ((s5 : Int).toNat * 1))) (.int .i64 x15) [] (fun e => by cases e) rfl rfl rfl (by kernel_rfl) (by kernel_rfl) (by kernel_rfl) (inw1 fun w' hC' => ((hC'.rd (hpa1_0.below hB14 hX0) (fun k (hk : X0 k) => ltl (hX0 k hk) hB14.size) nmx_nil).cell hx16)) rfl ?_
     refine gv_nil <| gv_goA ?_
     refine gv_pre [8] (bA 9 [0, 1, 2, 3, 4, 5, 6, 7, 8]) 0 (by kernel_rfl) (by kernel_rfl) ?_
     refine gv_pureN 1 [25] [(25, (.bool (x12 != x15)))] (by kernel_rfl) ?_
     refine gv_nil <| gv_goA ?_
     refine gv_stageE (by kernel_rfl) ?_
     refine gv_cond (b := (x12 != x15)) (by kernel_rfl) (fun hc18 => ?_) (fun hc18 => ?_)
     ·replace h2 := ite_t hc18 h2
      refine gv_seq <| gv_region <| gv_pureN 1 [4] [(4, (.bool false))] (by kernel_rfl) ?_
      refine gv_nil <| gv_cret ?_
      have e := sj h2; subst e
      replace h1 := congrArg some (hR2 _ rfl)
      have e := sj h1; subst e
      replace h0 := cont_inr h0
      have e := sj h0; subst e
      refine gv_ret (gv_done [(.bool false)] rfl ⟨(by kernel_rfl), trivial⟩ ?_)
      exact ⟨grown_of_below hB14, rfl⟩
     ·replace h2 := ite_f hc18 h2
      refine gv_skip <| gv_blk <| gv_region <| gv_pureN 3 [5, 15, 16] [(5, (.int .i64 (IntKind.i64.wrap (s5 + 1))))] (by kernel_rfl) ?_
      refine gv_nil ?_
      have e := sj h2; subst e
      refine gv_goal fun a hd hs hok => ?_
      have hz19 := (nt hz8 hg11.size)
      exact ⟨(IntKind.i64.wrap (s5 + 1)), rfl, hB14, hz19, hd, hs, ok_pick [0, 1, 5] hok (by kernel_rfl)⟩
    ·replace h2 := ite_f hc9 h2
     refine gv_cexit <| gv_exit rfl ?_
     have e := sj h2; subst e
     replace h1 := congrArg some (hR2 _ rfl)
     have e := sj h1; subst e
     refine gv_goal fun a hd hs hok => ?_
     have hz20 := hz8
     exact ⟨(), rfl, hB7, hz20, hd, hs, ok_pick [] hok (by kernel_rfl)⟩
  ·rintro a w4 ⟨s3, e, hB21, hz22, hd, hs, hok⟩
   subst e
   refine gv_in ?_ hd hs hok
   clear hd hs hok
   replace h0 := cont_inl h0
   refine gv_seq <| gv_region <| gv_pureN 1 [4] [(4, (.bool true))] (by kernel_rfl) ?_
   refine gv_nil <| gv_cret ?_
   have e := sj h0; subst e
   refine gv_ret (gv_done [(.bool true)] rfl ⟨(by kernel_rfl), trivial⟩ ?_)
   exact ⟨grown_of_below hB21, rfl⟩

theorem ref4_here_ok (fuel : Nat) (pa0_0 : Option Addr) (pc0_0 : Nat) (l_0 : (List Int)) (pa1_0 : Option Addr) (pc1_0 : Nat) (sub_1 : (List Int)) (at_2 : Int) (w0 : World) (X0 : Nat → Prop) (hX0 : ∀ k, X0 k → k < w0.heap.size) (hpa0_0 : Rd (iE .i64) w0 X0 pa0_0 pc0_0 l_0) (hpa1_0 : Rd (iE .i64) w0 X0 pa1_0 pc1_0 sub_1) (r0 : Bool) (h0 : ref4_here fuel l_0 sub_1 at_2 = some r0) :
    Calls Tryd.prog 75 ([(.slice pa0_0 (List.length l_0) pc0_0), (.slice pa1_0 (List.length sub_1) pc1_0), (.int .i64 at_2)] : List Value).toArray w0 (Ret fun v w' => w0.grownBy w' none ∧ v = tup [(.bool r0)]) := by
 have hB0 : Below w0.heap.size w0 w0 := Below.refl _ _
 unfold ref4_here at h0
 refine calls_run Tryd.func75 rfl Tryd.ntmps75 (by kernel_rfl) ?_
 refine gv_sub [0, 1, 2] (σ' := [(0, (.slice pa0_0 (List.length l_0) pc0_0)), (1, (.slice pa1_0 (List.length sub_1) pc1_0)), (2, (.int .i64 at_2))]) (by kernel_rfl) ?_
 refine gv_seq <| gv_region <| gv_pureN 1 [6] [] (by kernel_rfl) ?_
 refine gv_nil <| gv_seq <| gv_region <| bindE h0 ?_; clear h0; intro j1 h1 h0
 refine gv_cut_ops (J := fun a w2 => Below w0.heap.size w0 w2 ∧ w0.heap.size ≤ w2.heap.size ∧ a.defers = [] ∧ a.tmps.size = 29 ∧ Ok [(6, (.bool j1))] a.tmps) ?_ ?_
 ·skip
  refine gv_pureN 3 [7, 8, 9] [(9, (.bool (decide (at_2 ≥ 0))))] (by kernel_rfl) ?_
  refine gv_split (s := 9) (g := (decide (at_2 ≥ 0))) (by kernel_rfl) (fun hc3 => ?_) (fun hc3 => ?_)
  ·skip
   replace h1 := ite_t hc3 h1
   refine gv_pureN 9 [10, 11, 12, 13, 14, 15, 16, 17, 18] [(18, (.bool (decide ((IntKind.i64.wrap (at_2 + ((List.length sub_1 : Nat) : Int))) ≤ ((List.length l_0 : Nat) : Int)))))] (by kernel_rfl) ?_
   refine gv_split (s := 18) (g := (decide ((IntKind.i64.wrap (at_2 + ((List.length sub_1 : Nat) : Int))) ≤ ((List.length l_0 : Nat) : Int)))) (by kernel_rfl) (fun hc4 => ?_) (fun hc4 => ?_)
   ·skip
    replace h1 := ite_t hc4 h1
    refine gv_pureN 6 [19, 20, 21, 22, 23, 24] [(19, (.slice pa0_0 (List.length l_0) pc0_0)), (20, (.int .i64 at_2)), (24, (.int .i64 (IntKind.i64.wrap (at_2 + ((List.length sub_1 : Nat) : Int)))))] (by kernel_rfl) ?_
    refine bindE h1 ?_; clear h1; intro x5 hx6 h1
    refine gv_ssl2 (iE .i64) (t := 38) (e := 3) (xs := l_0) (a := pa0_0) (cap := pc0_0) (lo := (some (.int .i64 at_2))) (hi := (some (.int .i64 (IntKind.i64.wrap (at_2 + ((List.length sub_1 : Nat) : Int)))))) at_2 (IntKind.i64.wrap (at_2 + ((List.length sub_1 : Nat) : Int))) x5 (fun e => by cases e) rfl rfl rfl (by kernel_rfl) (by kernel_rfl) Tryd.underlying38 (by kernel_rfl) (.inr ⟨_, rfl⟩) (.inr ⟨_, rfl⟩) hx6 (hpa0_0.below hB0 hX0).1 ?_
    intro a7 c8 hsub9
    have hp10 := hsub9 _ _ hpa0_0
    refine gv_pureN 1 [26] [(26, (.slice pa1_0 (List.length sub_1) pc1_0))] (by kernel_rfl) ?_
    refine bindE h1 ?_; clear h1; intro r11 hr12 h1
    refine gv_call0 (by kernel_rfl) rfl (by kernel_rfl) enters97 (ref4_Numbers_ok fuel a7 c8 x5 pa1_0 pc1_0 sub_1 w0 (fun k => X0 k ∨ X0 k) (fun k hk => (hk).elim (fun h => (fun k (hk : X0 k) => ltl (hX0 k hk) hB0.size) k h) (fun h => (fun k (hk : X0 k) => ltl (hX0 k hk) hB0.size) k h)) ((hp10.below hB0 hX0).wide (fun k hk => (.inl hk))) ((hpa1_0.below hB0 hX0).wide (fun k hk => (.inr hk))) r11 hr12) ?_
    rintro v15 w13 ⟨hg14, rfl⟩
    refine gv_pureN 2 [6, 28] [(6, (.bool r11))] (by kernel_rfl) ?_
    refine gv_nil ?_
    have e := sj h1; subst e
    refine gv_goal fun a hd hs hok => ?_
    have hB16 := bg hB0 hg14 nb
    have hz17 := hg14.size
    exact ⟨hB16, hz17, hd, hs, ok_pick [6] hok (by kernel_rfl)⟩
   ·skip
    replace h1 := ite_f hc4 h1
    refine gv_pureN 11 [6, 19, 20, 21, 22, 23, 24, 25, 26, 27, 28] [(6, (.bool false))] (by kernel_rfl) ?_
    refine gv_nil ?_
    have e := sj h1; subst e
    refine gv_goal fun a hd hs hok => ?_
    exact ⟨hB0, (Nat.le_refl _), hd, hs, ok_pick [6] hok (by kernel_rfl)⟩
  ·skip
   replace h1 := ite_f hc3 h1
   refine gv_pureN 20 [6, 10, 11, 12, 13, 14, 15, 16, 17, 18, 19, 20, 21, 22, 23, 24, 25, 26, 27, 28] [(6, (.bool false))] (by kernel_rfl) ?_
   refine gv_nil ?_
   have e := sj h1; subst e
   refine gv_goal fun a hd hs hok => ?_
   exact ⟨hB0, (Nat.le_refl _), hd, hs, ok_pick [6] hok (by kernel_rfl)⟩
 ·rintro a w2 ⟨hB18, hz19, hd, hs, hok⟩
  refine gv_in ?_ hd hs hok
  clear hd hs hok
  refine gv_cret ?_
  have e := sj h0; subst e
  refine gv_ret (gv_done [(.bool j1)] rfl ⟨(by kernel_rfl), trivial⟩ ?_)
  exact ⟨grown_of_below hB18, rfl⟩

theorem ref4_Places_ok (fuel : Nat) (pa0_0 : Option Addr) (pc0_0 : Nat) (l_0 : (List Int)) (pa1_0 : Option Addr) (pc1_0 : Nat) (sub_1 : (List Int)) (w0 : World) (X0 : Nat → Prop) (hX0 : ∀ k, X0 k → k < w0.heap.size) (hpa0_0 : Rd (iE .i64) w0 X0 pa0_0 pc0_0 l_0) (hpa1_0 : Rd (iE .i64) w0 X0 pa1_0 pc1_0 sub_1) (r0 : (List Int)) (h0 : ref4_Places fuel l_0 sub_1 = some r0) :
    Calls Tryd.prog 39 ([(.slice pa0_0 (List.length l_0) pc0_0), (.slice pa1_0 (List.length sub_1) pc1_0)] : List Value).toArray w0 (Ret fun v w' => w0.grownBy w' none ∧ ∃ (a0_0r : Option Addr) (c0_0r : Nat), v = tup [(.slice a0_0r (List.length r0) c0_0r)] ∧ Gv.Own (iE .i64) 3 w' (fun _ => False) a0_0r c0_0r r0 ∧ (∀ g, blk a0_0r = some g → w0.heap.size ≤ g)) := by
 have hB0 : Below w0.heap.size w0 w0 := Below.refl _ _
 unfold ref4_Places at h0
 refine calls_run Tryd.func39 rfl Tryd.ntmps39 (by kernel_rfl) ?_
 refine gv_sub [0, 1] (σ' := [(0, (.slice pa0_0 (List.length l_0) pc0_0)), (1, (.slice pa1_0 (List.length sub_1) pc1_0))]) (by kernel_rfl) ?_
 refine gv_seq <| gv_region <| gv_pureN 1 [4] [] (by kernel_rfl) ?_
 refine gv_nil <| gv_seq <| gv_region <| gv_pureN 1 [5] [(5, (.slice none (List.length ([] : List Int)) 0))] (by kernel_rfl) ?_
 refine gv_nil <| gv_seq <| gv_seq <| gv_region <| gv_pureN 1 [6] [(6, (.int .i64 0))] (by kernel_rfl) ?_
 refine gv_nil <| bindE h0 ?_; clear h0; intro j1 h1 h0
 refine gv_cut_code (J := fun a w2 => ∃ (a5_0j : Option Addr) (c5_0j : Nat), Below w0.heap.size w0 w2 ∧ w0.heap.size ≤ w2.heap.size ∧ Gv.Own (iE .i64) 3 w2 (fun _ => False) a5_0j c5_0j j1 ∧ (∀ g, blk a5_0j = some g → w0.heap.size ≤ g) ∧ a.defers = [] ∧ a.tmps.size = 35 ∧ Ok [(5, (.slice a5_0j (List.length j1) c5_0j))] a.tmps) ?_ ?_
 ·skip
  refine gv_block <| gv_loop (A := fun (s3 : ((List Int) × Int)) a w4 => ∃ (a5_0j : Option Addr) (c5_0j : Nat), Below w0.heap.size w0 w4 ∧ w0.heap.size ≤ w4.heap.size ∧ Gv.Own (iE .i64) 3 w4 (fun _ => False) a5_0j c5_0j s3.1 ∧ (∀ g, blk a5_0j = some g → w0.heap.size ≤ g) ∧ a.defers = [] ∧ a.tmps.size = 35 ∧ Ok [(0, (.slice pa0_0 (List.length l_0) pc0_0)), (1, (.slice pa1_0 (List.length sub_1) pc1_0)), (5, (.slice a5_0j (List.length s3.1) c5_0j)), (6, (.int .i64 s3.2))] a.tmps) h1 ?_ ?_
  ·intro a hd hs hok
   exact ⟨none, 0, hB0, (Nat.le_refl _), (Gv.Own.nil (iE .i64) 3 w0 (fun _ => False)), (fun _ h => by cases h), hd, hs, ok_pick [0, 1, 5, 6] hok (by kernel_rfl)⟩
  ·rintro s3 r2 h2 hR2 a w4 ⟨a7, c8, hB5, hz6, ho9, hl10, hd, hs, hok⟩
   refine gv_in ?_ hd hs hok
   clear hd hs hok
   refine gv_seq <| gv_seq <| gv_region <| gv_pureN 7 [7, 8, 9, 10, 11, 12, 13] [(13, (.bool (decide ((IntKind.i64.wrap (s3.2 + ((List.length sub_1 : Nat) : Int))) ≤ ((List.length l_0 : Nat) : Int)))))] (by kernel_rfl) ?_
   refine gv_nil <| gv_cond (b := (decide ((IntKind.i64.wrap (s3.2 + ((List.length sub_1 : Nat) : Int))) ≤ ((List.length l_0 : Nat) : Int)))) (by kernel_rfl) (fun hc11 => ?_) (fun hc11 => ?_)
   ·replace h2 := ite_t hc11 h2
    refine gv_skip <| gv_block <| gv_seq <| gv_seq <| gv_region <| gv_pureN 3 [14, 15, 16] [(14, (.slice pa0_0 (List.length l_0) pc0_0)), (15, (.slice pa1_0 (List.length sub_1) pc1_0)), (16, (.int .i64 s3.2))] (by kernel_rfl) ?_
    refine bindE h2 ?_; clear h2; intro r12 hr13 h2
    refine gv_call0 (by kernel_rfl) rfl (by kernel_rfl) enters75 (ref4_here_ok fuel pa0_0 pc0_0 l_0 pa1_0 pc1_0 sub_1 s3.2 w4 (fun k => X0 k ∨ X0 k) (fun k hk => (hk).elim (fun h => (fun k (hk : X0 k) => ltl (hX0 k hk) hB5.size) k h) (fun h => (fun k (hk : X0 k) => ltl (hX0 k hk) hB5.size) k h)) ((hpa0_0.below hB5 hX0).wide (fun k hk => (.inl hk))) ((hpa1_0.below hB5 hX0).wide (fun k hk => (.inr hk))) r12 hr13) ?_
    rintro v16 w14 ⟨hg15, rfl⟩
    refine gv_pureN 1 [18] [(18, (.bool (!r12)))] (by kernel_rfl) ?_
    refine gv_nil <| gv_cond (b := (!r12)) (by kernel_rfl) (fun hc17 => ?_) (fun hc17 => ?_)
    ·replace h2 := ite_t hc17 h2
     refine gv_seq <| gv_region <| gv_pureN 3 [6, 19, 20] [(6, (.int .i64 (IntKind.i64.wrap (s3.2 + 1))))] (by kernel_rfl) ?_
     refine gv_nil <| gv_cexit <| gv_exit rfl ?_
     have e := sj h2; subst e
     refine gv_goal fun a hd hs hok => ?_
     have hB18 := bg hB5 hg15 nb
     have hz19 := (nt hz6 hg15.size)
     have hk20 := ho9.grown hg15 (fun _ h => h.elim) nb
     exact ⟨(s3.1, (IntKind.i64.wrap (s3.2 + 1))), rfl, a7, c8, hB18, hz19, hk20, hl10, hd, hs, ok_pick [0, 1, 5, 6] hok (by kernel_rfl)⟩
    ·replace h2 := ite_f hc17 h2
     refine gv_skip <| gv_seq <| gv_region <| gv_pureN 2 [21, 22] [(21, (.slice a7 (List.length s3.1) c8)), (22, (.int .i64 s3.2))] (by kernel_rfl) ?_
     refine gv_new0 (fun b => .slice (some ⟨b, 0, none⟩) 1 1) #[(.int .i64 s3.2)] 3 (by kernel_rfl) (by kernel_rfl) ?_
     intro b21 w22 hg23 hb24 hbe25 hz26
     have ho27 : Gv.Own (iE .i64) 3 w22 (fun _ => False) (some ⟨b21, 0, none⟩) 1 ([s3.2] : List Int) := Box.ownE hb24 ⟨[(.int .i64 s3.2)], [], rfl, rfl, rfl⟩ (show 1 ≤ maxLen by decide) (fun h => h)
     have hB32 := bg hB5 hg15 nb
     have hl28 : ∀ g, blk (some ⟨b21, 0, none⟩) = some g → w0.heap.size ≤ g := loo hbe25 hB32.size
     refine bindE h2 ?_; clear h2; intro l33 hx34 h2
     have hg41 := (grown_trans hg15 hg23)
     have hk42 := ho9.grown hg41 (fun _ h => h.elim) nb
     refine gv_append (iE .i64) (t := 38) (ty := 38) (e := 3) (a := a7) (ax := (some ⟨b21, 0, none⟩)) (cap := c8) (cx := 1) (xs := s3.1) (ys := ([s3.2] : List Int)) l33 (X := (fun _ => False)) (Y := (fun k => blk (some ⟨b21, 0, none⟩) = some k)) (by decide) rfl rfl (by kernel_rfl) (by kernel_rfl) Tryd.underlying38 info3 hk42 (ho27.rd (Y := fun k => blk (some ⟨b21, 0, none⟩) = some k) (fun _ h => h.elim) (fun g e => e)) hx34 (.inr fun _ _ _ _ _ h => h) (fun _ h => h.elim) ?_
     intro a35 c36 w37 hg38 ho39 hk40
     refine ⟨(fun e => by cases e), ?_⟩
     have hB44 := bg hB32 hg23 nb
     have hl43 : ∀ g, blk a35 = some g → w0.heap.size ≤ g := blk_step hk40 hl10 hB44.size
     have hk46 := ho9.grown hg15 (fun _ h => h.elim) nb
     have ap47 : ∀ g, blk a7 = some g → ¬ (fun k => blk (some ⟨b21, 0, none⟩) = some k) g := fun g e hx => nl ((lowo hbe25) _ hx) ((fun k (hk : blk a7 = some k) => hk46.lt k hk) g e)
     have ap45 : ∀ g, blk a35 = some g → ¬ (fun k => blk (some ⟨b21, 0, none⟩) = some k) g := blk_neX hk40 ap47 (fun k (hk : blk (some ⟨b21, 0, none⟩) = some k) => ho27.lt k hk)
     have ap49 : ∀ g, blk (some ⟨b21, 0, none⟩) = some g → ¬ (fun k => blk a7 = some k) g := fun g e hx => nl ((lowo hbe25) g e) ((fun k (hk : blk a7 = some k) => hk46.lt k hk) _ hx)
     have ap48 : ∀ g, blk (some ⟨b21, 0, none⟩) = some g → ¬ (fun k => blk a35 = some k) g := fun g e h => blk_rev hk40 (fun h => ((ap49) g e) h) (ho27.lt g e) h
     refine gv_pureN 1 [5] [(5, (.slice a35 (List.length l33) c36))] (by kernel_rfl) ?_
     refine gv_nil <| gv_seq <| gv_region <| gv_pureN 5 [6, 25, 26, 27, 28] [(6, (.int .i64 (IntKind.i64.wrap (s3.2 + ((List.length sub_1 : Nat) : Int)))))] (by kernel_rfl) ?_
     refine bindE h2 ?_; clear h2; intro n50 hn51 h2
     refine gv_name (s := 6) (v := (.int .i64 (IntKind.i64.wrap (s3.2 + ((List.length sub_1 : Nat) : Int))))) (v' := (.int .i64 n50)) (by kernel_rfl) (congrArg (Value.int .i64) (sj hn51)) ?_
     refine gv_nil <| gv_seq <| gv_region <| gv_pureN 3 [29, 30, 31] [(31, (.bool (((List.length sub_1 : Nat) : Int) == 0)))] (by kernel_rfl) ?_
     refine gv_nil <| bindE h2 ?_; clear h2; intro j52 h3 h2
     refine gv_cut_code (J := fun a w53 => Below w0.heap.size w0 w53 ∧ w37.heap.size ≤ w53.heap.size ∧ Gv.Own (iE .i64) 3 w53 (fun _ => False) a35 c36 l33 ∧ a.defers = [] ∧ a.tmps.size = 35 ∧ Ok [(0, (.slice pa0_0 (List.length l_0) pc0_0)), (1, (.slice pa1_0 (List.length sub_1) pc1_0)), (5, (.slice a35 (List.length l33) c36)), (6, (.int .i64 j52))] a.tmps) ?_ ?_
     ·skip
      refine gv_cond (b := (((List.length sub_1 : Nat) : Int) == 0)) (by kernel_rfl) (fun hc54 => ?_) (fun hc54 => ?_)
      ·replace h3 := ite_t hc54 h3
       refine gv_region <| gv_pureN 3 [6, 32, 33] [(6, (.int .i64 (IntKind.i64.wrap (n50 + 1))))] (by kernel_rfl) ?_
       refine gv_nil ?_
       have e := sj h3; subst e
       refine gv_goal fun a hd hs hok => ?_
       have hB55 := bg hB44 hg38 hl10
       exact ⟨hB55, (Nat.le_refl _), ho39, hd, hs, ok_pick [0, 1, 5, 6] hok (by kernel_rfl)⟩
      ·replace h3 := ite_f hc54 h3
       refine gv_skip ?_
       have e := sj h3; subst e
       refine gv_goal fun a hd hs hok => ?_
       have hB56 := bg hB44 hg38 hl10
       exact ⟨hB56, (Nat.le_refl _), ho39, hd, hs, ok_pick [0, 1, 5, 6] hok (by kernel_rfl)⟩
     ·rintro a w53 ⟨hB57, hz58, hk59, hd, hs, hok⟩
      refine gv_in ?_ hd hs hok
      clear hd hs hok
      have hz60 := (nt (nt (nt (nt hz6 hg15.size) hg23.size) hg38.size) hz58)
      clear hz58 hn51 ap48 ap49 ap45 ap47 hk46 hB44 hk40 ho39 hg38 hk42 hg41 hx34 hl28 hB32 ho27 hz26 hbe25 hb24 hg23 hc17 hg15 hr13 hc11 hl10 ho9 hz6 hB5
      refine gv_blk ?_
      have e := sj h2; subst e
      refine gv_goal fun a hd hs hok => ?_
      have hz61 := hz60
      exact ⟨(l33, j52), rfl, a35, c36, hB57, hz61, hk59, hl43, hd, hs, ok_pick [0, 1, 5, 6] hok (by kernel_rfl)⟩
   ·replace h2 := ite_f hc11 h2
    refine gv_cexit <| gv_exit rfl ?_
    have e := sj h2; subst e
    replace h1 := congrArg some (hR2 _ rfl)
    have e := sj h1; subst e
    refine gv_goal fun a hd hs hok => ?_
    have hz62 := hz6
    exact ⟨a7, c8, hB5, hz62, ho9, hl10, hd, hs, ok_pick [5] hok (by kernel_rfl)⟩
 ·rintro a w2 ⟨a65, c66, hB63, hz64, ho67, hl68, hd, hs, hok⟩
  refine gv_in ?_ hd hs hok
  clear hd hs hok
  refine gv_seq <| gv_region <| gv_pureN 2 [4, 34] [(4, (.slice a65 (List.length j1) c66))] (by kernel_rfl) ?_
  refine gv_nil <| gv_cret ?_
  have e := sj h0; subst e
  refine gv_ret (gv_done [(.slice a65 (List.length j1) c66)] rfl ⟨(by kernel_rfl), trivial⟩ ?_)
  exact ⟨grown_of_below hB63, a65, c66, rfl, ho67, hl68⟩

theorem ref4_Occurs_ok (fuel : Nat) (pa0_0 : Option Addr) (pc0_0 : Nat) (l_0 : (List Int)) (pa1_0 : Option Addr) (pc1_0 : Nat) (sub_1 : (List Int)) (from_2 : Int) (to_3 : Int) (last_4 : Bool) (w0 : World) (X0 : Nat → Prop) (hX0 : ∀ k, X0 k → k < w0.heap.size) (hpa0_0 : Rd (iE .i64) w0 X0 pa0_0 pc0_0 l_0) (hpa1_0 : Rd (iE .i64) w0 X0 pa1_0 pc1_0 sub_1) (r0 : Int) (h0 : ref4_Occurs fuel l_0 sub_1 from_2 to_3 last_4 = some r0) :
    Calls Tryd.prog 40 ([(.slice pa0_0 (List.length l_0) pc0_0), (.slice pa1_0 (List.length sub_1) pc1_0), (.int .i64 from_2), (.int .i64 to_3), (.bool last_4)] : List Value).toArray w0 (Ret fun v w' => w0.grownBy w' none ∧ v = tup [(.int .i64 r0)]) := by
 have hB0 : Below w0.heap.size w0 w0 := Below.refl _ _
 unfold ref4_Occurs at h0
 refine calls_run Tryd.func40 rfl Tryd.ntmps40 (by kernel_rfl) ?_
 refine gv_sub [0, 1, 2, 3, 4] (σ' := [(0, (.slice pa0_0 (List.length l_0) pc0_0)), (1, (.slice pa1_0 (List.length sub_1) pc1_0)), (2, (.int .i64 from_2)), (3, (.int .i64 to_3)), (4, (.bool last_4))]) (by kernel_rfl) ?_
 refine gv_seq <| gv_region <| gv_pureN 1 [10] [] (by kernel_rfl) ?_
 refine gv_nil <| gv_seq <| gv_region <| gv_pureN 1 [11] [(11, (.int .i64 (-1)))] (by kernel_rfl) ?_
 refine gv_nil <| gv_seq <| gv_seq <| gv_region <| gv_pureN 2 [12, 13] [(12, (.int .i64 from_2))] (by kernel_rfl) ?_
 refine gv_nil <| bindE h0 ?_; clear h0; intro j1 h1 h0
 refine gv_cut_code (J := fun a w2 => Below w0.heap.size w0 w2 ∧ w0.heap.size ≤ w2.heap.size ∧ a.defers = [] ∧ a.tmps.size = 35 ∧ Ok [(11, (.int .i64 j1))] a.tmps) ?_ ?_
 ·skip
  refine gv_block <| gv_loop (A := fun (s3 : (Int × Int)) a w4 => Below w0.heap.size w0 w4 ∧ w0.heap.size ≤ w4.heap.size ∧ a.defers = [] ∧ a.tmps.size = 35 ∧ Ok [(0, (.slice pa0_0 (List.length l_0) pc0_0)), (1, (.slice pa1_0 (List.length sub_1) pc1_0)), (3, (.int .i64 to_3)), (4, (.bool last_4)), (11, (.int .i64 s3.1)), (12, (.int .i64 s3.2))] a.tmps) h1 ?_ ?_
  ·intro a hd hs hok
   exact ⟨hB0, (Nat.le_refl _), hd, hs, ok_pick [0, 1, 3, 4, 11, 12] hok (by kernel_rfl)⟩
  ·rintro s3 r2 h2 hR2 a w4 ⟨hB5, hz6, hd, hs, hok⟩
   refine gv_in ?_ hd hs hok
   clear hd hs hok
   refine gv_seq <| gv_seq <| gv_region <| gv_pureN 6 [14, 15, 16, 17, 18, 19] [(19, (.bool (decide ((IntKind.i64.wrap (s3.2 + ((List.length sub_1 : Nat) : Int))) ≤ to_3))))] (by kernel_rfl) ?_
   refine gv_nil <| gv_cond (b := (decide ((IntKind.i64.wrap (s3.2 + ((List.length sub_1 : Nat) : Int))) ≤ to_3))) (by kernel_rfl) (fun hc7 => ?_) (fun hc7 => ?_)
   ·replace h2 := ite_t hc7 h2
    refine gv_skip <| gv_seq <| gv_block <| gv_seq <| gv_region <| bindE h2 ?_; clear h2; intro j8 h3 h2
    refine gv_cut_ops (J := fun a w9 => Below w0.heap.size w0 w9 ∧ w4.heap.size ≤ w9.heap.size ∧ a.defers = [] ∧ a.tmps.size = 35 ∧ Ok [(0, (.slice pa0_0 (List.length l_0) pc0_0)), (1, (.slice pa1_0 (List.length sub_1) pc1_0)), (3, (.int .i64 to_3)), (4, (.bool last_4)), (11, (.int .i64 s3.1)), (12, (.int .i64 s3.2)), (32, (.bool j8))] a.tmps) ?_ ?_
    ·skip
     refine gv_pureN 3 [22, 23, 24] [(22, (.slice pa0_0 (List.length l_0) pc0_0)), (23, (.slice pa1_0 (List.length sub_1) pc1_0)), (24, (.int .i64 s3.2))] (by kernel_rfl) ?_
     refine bindE h3 ?_; clear h3; intro r10 hr11 h3
     refine gv_call0 (by kernel_rfl) rfl (by kernel_rfl) enters75 (ref4_here_ok fuel pa0_0 pc0_0 l_0 pa1_0 pc1_0 sub_1 s3.2 w4 (fun k => X0 k ∨ X0 k) (fun k hk => (hk).elim (fun h => (fun k (hk : X0 k) => ltl (hX0 k hk) hB5.size) k h) (fun h => (fun k (hk : X0 k) => ltl (hX0 k hk) hB5.size) k h)) ((hpa0_0.below hB5 hX0).wide (fun k hk => (.inl hk))) ((hpa1_0.below hB5 hX0).wide (fun k hk => (.inr hk))) r10 hr11) ?_
     rintro v14 w12 ⟨hg13, rfl⟩
     refine gv_pureN 1 [26] [(26, (.bool r10))] (by kernel_rfl) ?_
     refine gv_split (s := 26) (g := r10) (by kernel_rfl) (fun hc15 => ?_) (fun hc15 => ?_)
     ·skip
      replace h3 := ite_t hc15 h3
      refine gv_pureN 3 [27, 28, 29] [(29, (.bool (decide (s3.1 < 0))))] (by kernel_rfl) ?_
      refine gv_split (s := 29) (g := (decide (s3.1 < 0))) (by kernel_rfl) (fun hc16 => ?_) (fun hc16 => ?_)
      ·skip
       replace h3 := ite_t hc16 h3
       refine gv_pureN 3 [30, 31, 32] [(32, (.bool true))] (by kernel_rfl) ?_
       refine gv_nil ?_
       have e := sj h3; subst e
       refine gv_goal fun a hd hs hok => ?_
       have hB17 := bg hB5 hg13 nb
       have hz18 := hg13.size
       exact ⟨hB17, hz18, hd, hs, ok_pick [0, 1, 3, 4, 11, 12, 32] hok (by kernel_rfl)⟩
      ·skip
       replace h3 := ite_f hc16 h3
       refine gv_pureN 3 [30, 31, 32] [(32, (.bool last_4))] (by kernel_rfl) ?_
       refine gv_nil ?_
       have e := sj h3; subst e
       refine gv_goal fun a hd hs hok => ?_
       have hB19 := bg hB5 hg13 nb
       have hz20 := hg13.size
       exact ⟨hB19, hz20, hd, hs, ok_pick [0, 1, 3, 4, 11, 12, 32] hok (by kernel_rfl)⟩
     ·skip
      replace h3 := ite_f hc15 h3
      refine gv_pureN 6 [27, 28, 29, 30, 31, 32] [(32, (.bool false))] (by kernel_rfl) ?_
      refine gv_nil ?_
      have e := sj h3; subst e
      refine gv_goal fun a hd hs hok => ?_
      have hB21 := bg hB5 hg13 nb
      have hz22 := hg13.size
      exact ⟨hB21, hz22, hd, hs, ok_pick [0, 1, 3, 4, 11, 12, 32] hok (by kernel_rfl)⟩
    ·rintro a w9 ⟨hB23, hz24, hd, hs, hok⟩
     refine gv_in ?_ hd hs hok
     clear hd hs hok
     have hz25 := (nt hz6 hz24)
     clear hz24 hc7 hz6 hB5
     refine bindE h2 ?_; clear h2; intro j26 h3 h2
     refine gv_cut_code (J := fun a w27 => Below w0.heap.size w0 w27 ∧ w9.heap.size ≤ w27.heap.size ∧ a.defers = [] ∧ a.tmps.size = 35 ∧ Ok [(0, (.slice pa0_0 (List.length l_0) pc0_0)), (1, (.slice pa1_0 (List.length sub_1) pc1_0)), (3, (.int .i64 to_3)), (4, (.bool last_4)), (11, (.int .i64 j26)), (12, (.int .i64 s3.2))] a.tmps) ?_ ?_
     ·skip
      refine gv_cond (b := j8) (by kernel_rfl) (fun hc28 => ?_) (fun hc28 => ?_)
      ·replace h3 := ite_t hc28 h3
       refine gv_region <| gv_pureN 2 [11, 33] [(11, (.int .i64 s3.2))] (by kernel_rfl) ?_
       refine gv_nil ?_
       have e := sj h3; subst e
       refine gv_goal fun a hd hs hok => ?_
       exact ⟨hB23, (Nat.le_refl _), hd, hs, ok_pick [0, 1, 3, 4, 11, 12] hok (by kernel_rfl)⟩
      ·replace h3 := ite_f hc28 h3
       refine gv_skip ?_
       have e := sj h3; subst e
       refine gv_goal fun a hd hs hok => ?_
       exact ⟨hB23, (Nat.le_refl _), hd, hs, ok_pick [0, 1, 3, 4, 11, 12] hok (by kernel_rfl)⟩
     ·rintro a w27 ⟨hB29, hz30, hd, hs, hok⟩
      refine gv_in ?_ hd hs hok
      clear hd hs hok
      have hz31 := (nt hz25 hz30)
      refine gv_blk <| gv_region <| gv_pureN 3 [12, 20, 21] [(12, (.int .i64 (IntKind.i64.wrap (s3.2 + 1))))] (by kernel_rfl) ?_
      refine gv_nil ?_
      have e := sj h2; subst e
      refine gv_goal fun a hd hs hok => ?_
      have hz32 := hz31
      exact ⟨(j26, (IntKind.i64.wrap (s3.2 + 1))), rfl, hB29, hz32, hd, hs, ok_pick [0, 1, 3, 4, 11, 12] hok (by kernel_rfl)⟩
   ·replace h2 := ite_f hc7 h2
    refine gv_cexit <| gv_exit rfl ?_
    have e := sj h2; subst e
    replace h1 := congrArg some (hR2 _ rfl)
    have e := sj h1; subst e
    refine gv_goal fun a hd hs hok => ?_
    have hz33 := hz6
    exact ⟨hB5, hz33, hd, hs, ok_pick [11] hok (by kernel_rfl)⟩
 ·rintro a w2 ⟨hB34, hz35, hd, hs, hok⟩
  refine gv_in ?_ hd hs hok
  clear hd hs hok
  refine gv_seq <| gv_region <| gv_pureN 2 [10, 34] [(10, (.int .i64 j1))] (by kernel_rfl) ?_
  refine gv_nil <| gv_cret ?_
  have e := sj h0; subst e
  refine gv_ret (gv_done [(.int .i64 j1)] rfl ⟨(by kernel_rfl), trivial⟩ ?_)
  exact ⟨grown_of_below hB34, rfl⟩

theorem law4_TextstrFinds_ok (fuel : Nat) (s_0 : ByteArray) (sub_1 : ByteArray) (from_2 : Int) (to_3 : Int) (last_4 : Bool) (w0 : World) (X0 : Nat → Prop) (hX0 : ∀ k, X0 k → k < w0.heap.size) {gmx : Int} (hG0 : Rd (iE .i64) w0 X0 (some ⟨0, 0, none⟩) 1 [gmx]) (hG1 : Rd bE w0 X0 (some ⟨1, 0, none⟩) 256 utf8First) (hG2 : Rd (prE (iE .u8) (iE .u8)) w0 X0 (some ⟨2, 0, none⟩) 16 utf8Acc) (r0 : Bool) (h0 : law4_TextstrFinds fuel s_0 sub_1 from_2 to_3 last_4 = some r0) :
    Calls Tryd.prog 8 ([(.string s_0), (.string sub_1), (.int .i64 from_2), (.int .i64 to_3), (.bool last_4)] : List Value).toArray w0 (Ret fun v w' => w0.grownBy w' none ∧ v = tup [(.bool r0)]) := by
 have hB0 : Below w0.heap.size w0 w0 := Below.refl _ _
 unfold law4_TextstrFinds at h0
 refine calls_run Tryd.func8 rfl Tryd.ntmps8 (by kernel_rfl) ?_
 refine gv_sub [0, 1, 2, 3, 4] (σ' := [(0, (.string s_0)), (1, (.string sub_1)), (2, (.int .i64 from_2)), (3, (.int .i64 to_3)), (4, (.bool last_4))]) (by kernel_rfl) ?_
 refine gv_seq <| gv_region <| gv_pureN 1 [10] [] (by kernel_rfl) ?_
 refine gv_nil <| gv_seq <| gv_region <| gv_pureN 5 [21, 22, 23, 24, 25] [(21, (.string s_0)), (22, (.string sub_1)), (23, (.int .i64 from_2)), (24, (.int .i64 to_3)), (25, (.bool last_4))] (by kernel_rfl) ?_
 refine bindE h0 ?_; clear h0; intro r1 hr2 h0
 refine gv_call0 (by kernel_rfl) rfl (by kernel_rfl) enters37 (textstr_Find_ok fuel s_0 sub_1 from_2 to_3 last_4 w0 (fun k => X0 k ∨ X0 k ∨ X0 k) (fun k hk => (hk).elim (fun h => (fun k (hk : X0 k) => ltl (hX0 k hk) hB0.size) k h) (fun h => (h).elim (fun h => (fun k (hk : X0 k) => ltl (hX0 k hk) hB0.size) k h) (fun h => (fun k (hk : X0 k) => ltl (hX0 k hk) hB0.size) k h))) ((hG0.below hB0 hX0).wide (fun k hk => (.inl hk))) ((hG1.below hB0 hX0).wide (fun k hk => (.inr (.inl hk)))) ((hG2.below hB0 hX0).wide (fun k hk => (.inr (.inr hk)))) r1 hr2) ?_
 rintro v5 w3 ⟨hg4, rfl⟩
 refine gv_pureN 3 [20, 27, 28] [(27, (.int .i64 r1.1)), (28, (.agg #[(.int .i64 r1.2.1), (.int .i64 r1.2.2)]))] (by kernel_rfl) ?_
 refine gv_new0 (fun b => .pointer (some ⟨b, 0, none⟩)) #[(.int .i64 0), (.int .i64 0)] 24 (by kernel_rfl) (by kernel_rfl) ?_
 intro b6 w7 hg8 hb9 hbe10 hz11
 refine gv_pureN 1 [11] [(11, (.int .i64 r1.1))] (by kernel_rfl) ?_
 refine gv_store0 24 0 (.agg #[(.int .i64 r1.2.1), (.int .i64 r1.2.2)]) #[(.int .i64 r1.2.1), (.int .i64 r1.2.2)] hb9 (by kernel_rfl) (by kernel_rfl) (by kernel_rfl) ?_
 intro w12 hg13 hb14 hz15
 refine gv_nil <| gv_seq <| gv_region <| gv_pureN 2 [30, 31] [(30, (.string s_0)), (31, (.string sub_1))] (by kernel_rfl) ?_
 refine bindE h0 ?_; clear h0; intro r16 hr17 h0
 have hg18 := (grown_trans hg4 hg8)
 have hB19 := bg hB0 hg18 nb
 have hB20 := bg hB0 hg4 nb
 have hlo21 : w0.heap.size ≤ b6 := lob hbe10 hB20.size
 have hB22 := bg hB19 hg13 (rowlo hlo21)
 refine gv_call0 (by kernel_rfl) rfl (by kernel_rfl) enters38 (textstr_Count_ok fuel s_0 sub_1 w12 (fun k => X0 k ∨ X0 k ∨ X0 k) (fun k hk => (hk).elim (fun h => (fun k (hk : X0 k) => ltl (hX0 k hk) hB22.size) k h) (fun h => (h).elim (fun h => (fun k (hk : X0 k) => ltl (hX0 k hk) hB22.size) k h) (fun h => (fun k (hk : X0 k) => ltl (hX0 k hk) hB22.size) k h))) ((hG0.below hB22 hX0).wide (fun k hk => (.inl hk))) ((hG1.below hB22 hX0).wide (fun k hk => (.inr (.inl hk)))) ((hG2.below hB22 hX0).wide (fun k hk => (.inr (.inr hk)))) r16 hr17) ?_
 rintro v25 w23 ⟨hg24, rfl⟩
 refine gv_pureN 3 [29, 33, 34] [(33, (.int .i64 r16.1)), (34, (.agg #[(.int .i64 r16.2.1), (.int .i64 r16.2.2)]))] (by kernel_rfl) ?_
 refine gv_new0 (fun b => .pointer (some ⟨b, 0, none⟩)) #[(.int .i64 0), (.int .i64 0)] 24 (by kernel_rfl) (by kernel_rfl) ?_
 intro b26 w27 hg28 hb29 hbe30 hz31
 refine gv_pureN 1 [13] [(13, (.int .i64 r16.1))] (by kernel_rfl) ?_
 refine gv_store0 24 0 (.agg #[(.int .i64 r16.2.1), (.int .i64 r16.2.2)]) #[(.int .i64 r16.2.1), (.int .i64 r16.2.2)] hb29 (by kernel_rfl) (by kernel_rfl) (by kernel_rfl) ?_
 intro w32 hg33 hb34 hz35
 refine gv_nil <| gv_seq <| gv_region <| gv_pureN 2 [35, 36] [(35, (.string s_0)), (36, (.string sub_1))] (by kernel_rfl) ?_
 refine gv_sub [0, 1, 2, 3, 4, 11, 12, 13, 14, 35, 36] (σ' := [(0, (.string s_0)), (1, (.string sub_1)), (2, (.int .i64 from_2)), (3, (.int .i64 to_3)), (4, (.bool last_4)), (11, (.int .i64 r1.1)), (12, (bp b6)), (13, (.int .i64 r16.1)), (14, (bp b26)), (35, (.string s_0)), (36, (.string sub_1))]) (by kernel_rfl) ?_
 refine gv_new0 (fun b => .slice (some ⟨b, 0, none⟩) 2 2) #[(.string s_0), (.string sub_1)] 9 (by kernel_rfl) (by kernel_rfl) ?_
 intro b36 w37 hg38 hb39 hbe40 hz41
 have ho42 : Gv.Own sE 9 w37 (fun _ => False) (some ⟨b36, 0, none⟩) 2 ([s_0, sub_1] : List ByteArray) := Box.ownE hb39 ⟨[(.string s_0)], [(.string sub_1)], rfl, rfl, ⟨[(.string sub_1)], [], rfl, rfl, rfl⟩⟩ (show 2 ≤ maxLen by decide) (fun h => h)
 have hg47 := (grown_trans hg24 hg28)
 have hB48 := bg hB22 hg47 nb
 have hB49 := bg hB22 hg24 nb
 have hlo50 : w0.heap.size ≤ b26 := lob hbe30 hB49.size
 have hB51 := bg hB48 hg33 (rowlo hlo50)
 have hl43 : ∀ g, blk (some ⟨b36, 0, none⟩) = some g → w0.heap.size ≤ g := loo hbe40 hB51.size
 refine bindE h0 ?_; clear h0; intro r52 hr53 h0
 refine gv_call0 (by kernel_rfl) rfl (by kernel_rfl) enters23 (ref4_TextFaults_ok fuel (some ⟨b36, 0, none⟩) 2 ([s_0, sub_1] : List ByteArray) w37 (fun k => (fun k => blk (some ⟨b36, 0, none⟩) = some k) k) (fun k hk => (fun k (hk : blk (some ⟨b36, 0, none⟩) = some k) => ho42.lt k hk) k hk) ((ho42.rd (Y := fun k => blk (some ⟨b36, 0, none⟩) = some k) (fun _ h => h.elim) (fun g e => e)).wide (fun k hk => hk)) r52 hr53) ?_
 rintro v56 w54 ⟨hg55, rfl⟩
 clear hr53 hl43 hB49 hB48 hg47 ho42 hz41 hbe40 hb39 hz35 hz31 hb29 hB22 hB20 hB19 hg18 hr17 hz15 hg13 hz11 hbe10 hb9 hg8 hg4 hr2
 refine gv_new0 (fun b => .pointer (some ⟨b, 0, none⟩)) #[(.int .i64 0), (.int .i64 0)] 24 (by kernel_rfl) (by kernel_rfl) ?_
 intro b57 w58 hg59 hb60 hbe61 hz62
 refine gv_store0 24 0 (.agg #[(.int .i64 r52.1), (.int .i64 r52.2)]) #[(.int .i64 r52.1), (.int .i64 r52.2)] hb60 (by kernel_rfl) (by kernel_rfl) (by kernel_rfl) ?_
 intro w63 hg64 hb65 hz66
 refine gv_nil <| gv_seq <| gv_seq <| gv_region <| bindE h0 ?_; clear h0; intro j67 h1 h0
 refine gv_cut_ops (J := fun a w68 => Below w0.heap.size w0 w68 ∧ w63.heap.size ≤ w68.heap.size ∧ Box w68 b6 24 #[(.int .i64 r1.2.1), (.int .i64 r1.2.2)] ∧ Box w68 b57 24 #[(.int .i64 r52.1), (.int .i64 r52.2)] ∧ a.defers = [] ∧ a.tmps.size = 122 ∧ Ok [(0, (.string s_0)), (1, (.string sub_1)), (2, (.int .i64 from_2)), (3, (.int .i64 to_3)), (4, (.bool last_4)), (11, (.int .i64 r1.1)), (12, (bp b6)), (13, (.int .i64 r16.1)), (15, (bp b57)), (45, (.bool j67))] a.tmps) ?_ ?_
 ·skip
  refine bindE h1 ?_; clear h1; intro r69 hr70 h1
  have hg71 := (grown_trans (grown_trans hg38 hg55) hg59)
  have hB72 := bg hB51 hg71 nb
  have hg73 := (grown_trans hg38 hg55)
  have hB74 := bg hB51 hg73 nb
  have hlo75 : w0.heap.size ≤ b57 := lob hbe61 hB74.size
  have hB76 := bg hB72 hg64 (rowlo hlo75)
  refine gv_call0 (by kernel_rfl) rfl (by kernel_rfl) enters15 (law4_letters_ok fuel  w63 (fun k => X0 k ∨ X0 k ∨ X0 k) (fun k hk => (hk).elim (fun h => (fun k (hk : X0 k) => ltl (hX0 k hk) hB76.size) k h) (fun h => (h).elim (fun h => (fun k (hk : X0 k) => ltl (hX0 k hk) hB76.size) k h) (fun h => (fun k (hk : X0 k) => ltl (hX0 k hk) hB76.size) k h))) ((hG0.below hB76 hX0).wide (fun k hk => (.inl hk))) ((hG1.below hB76 hX0).wide (fun k hk => (.inr (.inl hk)))) ((hG2.below hB76 hX0).wide (fun k hk => (.inr (.inr hk)))) r69 hr70) ?_
  rintro v79 w77 ⟨hg78, rfl⟩
  refine gv_pureN 2 [40, 41] [(41, (.bool (!r69)))] (by kernel_rfl) ?_
  refine gv_split (s := 41) (g := (!r69)) (by kernel_rfl) (fun hc80 => ?_) (fun hc80 => ?_)
  ·skip
   replace h1 := ite_t hc80 h1
   refine gv_pureN 4 [42, 43, 44, 45] [(45, (.bool true))] (by kernel_rfl) ?_
   refine gv_nil ?_
   have e := sj h1; subst e
   refine gv_goal fun a hd hs hok => ?_
   have hB81 := bg hB76 hg78 nb
   have hz82 := hg78.size
   have hg83 := (grown_trans hg24 hg28)
   have hk84 := hb14.grown hg24 nb
   have lt85 := ltl ((ltb hk84) _ rfl) ((lowb hbe30) _ rfl)
   have hk86 := hb34.grown hg73 nb
   have lt87 := ltl ((ltb hk86) _ rfl) ((lowb hbe61) _ rfl)
   have lt88 := ltt lt85 lt87
   have hk89 := ((((hb14.grown hg83 nb).grown hg33 (rowne (ng lt85))).grown hg71 nb).grown hg64 (rowne (ng lt88))).grown hg78 nb
   have hk90 := hb65.grown hg78 nb
   exact ⟨hB81, hz82, hk89, hk90, hd, hs, ok_pick [0, 1, 2, 3, 4, 11, 12, 13, 15, 45] hok (by kernel_rfl)⟩
  ·skip
   replace h1 := ite_f hc80 h1
   have hk91 := hb34.grown hg73 nb
   have lt92 := ltl ((ltb hk91) _ rfl) ((lowb hbe61) _ rfl)
   have hk93 := ((hb34.grown hg71 nb).grown hg64 (rowne (ng lt92))).grown hg78 nb
   refine gv_loadBox (t := 24) (b := b26) (t' := 24) (fr := (0, 0)) #[(.int .i64 r16.2.1), (.int .i64 r16.2.2)] [] (fun e => by cases e) rfl rfl rfl (by kernel_rfl) (by kernel_rfl) (by kernel_rfl) (by kernel_rfl) (inw0 hk93) rfl ?_
   have hk94 := hb65.grown hg78 nb
   refine gv_loadBox (t := 24) (b := b57) (t' := 24) (fr := (0, 0)) #[(.int .i64 r52.1), (.int .i64 r52.2)] [] (fun e => by cases e) rfl rfl rfl (by kernel_rfl) (by kernel_rfl) (by kernel_rfl) (by kernel_rfl) (inw0 hk94) rfl ?_
   refine gv_eqs (t := 24) (op := .neq) (x := (.tmp 42)) (y := (.tmp 43)) (xs := #[(.int .i64 r16.2.1), (.int .i64 r16.2.2)]) (ys := #[(.int .i64 r52.1), (.int .i64 r52.2)]) (!((r16.2.1 == r52.1) && (r16.2.2 == r52.2))) [] (fun e => by cases e) rfl rfl rfl (by kernel_rfl) (by kernel_rfl) (fun w' => eqs24neq r16.2.1 r16.2.2 r52.1 r52.2 _ _ w') rfl ?_
   refine gv_pureN 1 [45] [(45, (.bool (!((r16.2.1 == r52.1) && (r16.2.2 == r52.2)))))] (by kernel_rfl) ?_
   refine gv_nil ?_
   have e := sj h1; subst e
   refine gv_goal fun a hd hs hok => ?_
   have hB95 := bg hB76 hg78 nb
   have hz96 := hg78.size
   have hg97 := (grown_trans hg24 hg28)
   have hk98 := hb14.grown hg24 nb
   have lt99 := ltl ((ltb hk98) _ rfl) ((lowb hbe30) _ rfl)
   have lt100 := ltt lt99 lt92
   have hk101 := ((((hb14.grown hg97 nb).grown hg33 (rowne (ng lt99))).grown hg71 nb).grown hg64 (rowne (ng lt100))).grown hg78 nb
   exact ⟨hB95, hz96, hk101, hk94, hd, hs, ok_pick [0, 1, 2, 3, 4, 11, 12, 13, 15, 45] hok (by kernel_rfl)⟩
 ·rintro a w68 ⟨hB102, hz103, hb104, hb105, hd, hs, hok⟩
  refine gv_in ?_ hd hs hok
  clear hd hs hok
  clear hz103 hz66 hb65 hg64 hz62 hb60 hg59 hlo50 hg33 hg28
  refine gv_cond (b := j67) (by kernel_rfl) (fun hc106 => ?_) (fun hc106 => ?_)
  ·replace h0 := ite_t hc106 h0
   refine gv_seq <| gv_region <| gv_pureN 1 [10] [(10, (.bool false))] (by kernel_rfl) ?_
   refine gv_nil <| gv_cret ?_
   have e := sj h0; subst e
   refine gv_ret (gv_done [(.bool false)] rfl ⟨(by kernel_rfl), trivial⟩ ?_)
   exact ⟨grown_of_below hB102, rfl⟩
  ·replace h0 := ite_f hc106 h0
   refine gv_skip <| gv_seq <| gv_seq <| gv_region <| gv_pureN 1 [46] [(46, (bp b57))] (by kernel_rfl) ?_
   refine gv_load (t := 3) (A := ⟨b57, 0, none⟩) (.int .i64 r52.1) [] (fun e => by cases e) rfl rfl rfl (by kernel_rfl) (by kernel_rfl) (by kernel_rfl) (inw0 (hb105.cell 0 rfl)) rfl ?_
   refine gv_pureN 1 [48] [(48, (.bool (r52.1 != 0)))] (by kernel_rfl) ?_
   refine gv_nil <| gv_cond (b := (r52.1 != 0)) (by kernel_rfl) (fun hc107 => ?_) (fun hc107 => ?_)
   ·replace h0 := ite_t hc107 h0
    refine gv_seq <| gv_region <| bindE h0 ?_; clear h0; intro j108 h1 h0
    refine gv_cut_ops (J := fun a w109 => Below w0.heap.size w0 w109 ∧ w68.heap.size ≤ w109.heap.size ∧ a.defers = [] ∧ a.tmps.size = 122 ∧ Ok [(10, (.bool j108))] a.tmps) ?_ ?_
    ·skip
     refine gv_loadBox (t := 24) (b := b6) (t' := 24) (fr := (0, 0)) #[(.int .i64 r1.2.1), (.int .i64 r1.2.2)] [] (fun e => by cases e) rfl rfl rfl (by kernel_rfl) (by kernel_rfl) (by kernel_rfl) (by kernel_rfl) (inw0 hb104) rfl ?_
     refine gv_loadBox (t := 24) (b := b57) (t' := 24) (fr := (0, 0)) #[(.int .i64 r52.1), (.int .i64 r52.2)] [] (fun e => by cases e) rfl rfl rfl (by kernel_rfl) (by kernel_rfl) (by kernel_rfl) (by kernel_rfl) (inw0 hb105) rfl ?_
     refine gv_eqs (t := 24) (op := .eql) (x := (.tmp 49)) (y := (.tmp 50)) (xs := #[(.int .i64 r1.2.1), (.int .i64 r1.2.2)]) (ys := #[(.int .i64 r52.1), (.int .i64 r52.2)]) ((r1.2.1 == r52.1) && (r1.2.2 == r52.2)) [] (fun e => by cases e) rfl rfl rfl (by kernel_rfl) (by kernel_rfl) (fun w' => eqs24eql r1.2.1 r1.2.2 r52.1 r52.2 _ _ w') rfl ?_
     refine gv_pureN 1 [52] [(52, (.bool ((r1.2.1 == r52.1) && (r1.2.2 == r52.2))))] (by kernel_rfl) ?_
     refine gv_split (s := 52) (g := ((r1.2.1 == r52.1) && (r1.2.2 == r52.2))) (by kernel_rfl) (fun hc110 => ?_) (fun hc110 => ?_)
     ·skip
      replace h1 := ite_t hc110 h1
      refine gv_pureN 4 [53, 54, 55, 56] [(56, (.bool (r1.1 == 0)))] (by kernel_rfl) ?_
      refine gv_split (s := 56) (g := (r1.1 == 0)) (by kernel_rfl) (fun hc111 => ?_) (fun hc111 => ?_)
      ·skip
       replace h1 := ite_t hc111 h1
       refine gv_pureN 4 [10, 57, 58, 59] [(10, (.bool (r16.1 == 0)))] (by kernel_rfl) ?_
       refine gv_nil ?_
       have e := sj h1; subst e
       refine gv_goal fun a hd hs hok => ?_
       exact ⟨hB102, (Nat.le_refl _), hd, hs, ok_pick [10] hok (by kernel_rfl)⟩
      ·skip
       replace h1 := ite_f hc111 h1
       refine gv_pureN 4 [10, 57, 58, 59] [(10, (.bool false))] (by kernel_rfl) ?_
       refine gv_nil ?_
       have e := sj h1; subst e
       refine gv_goal fun a hd hs hok => ?_
       exact ⟨hB102, (Nat.le_refl _), hd, hs, ok_pick [10] hok (by kernel_rfl)⟩
     ·skip
      replace h1 := ite_f hc110 h1
      refine gv_pureN 8 [10, 53, 54, 55, 56, 57, 58, 59] [(10, (.bool false))] (by kernel_rfl) ?_
      refine gv_nil ?_
      have e := sj h1; subst e
      refine gv_goal fun a hd hs hok => ?_
      exact ⟨hB102, (Nat.le_refl _), hd, hs, ok_pick [10] hok (by kernel_rfl)⟩
    ·rintro a w109 ⟨hB112, hz113, hd, hs, hok⟩
     refine gv_in ?_ hd hs hok
     clear hd hs hok
     clear hz113 hc107 hc106 hb105 hb104 hB102 hbe61 hg55 hB51 hg38 hb34 hbe30 hg24 hlo21 hb14
     refine gv_cret ?_
     have e := sj h0; subst e
     refine gv_ret (gv_done [(.bool j108)] rfl ⟨(by kernel_rfl), trivial⟩ ?_)
     exact ⟨grown_of_below hB112, rfl⟩
   ·replace h0 := ite_f hc107 h0
    refine gv_skip <| gv_seq <| gv_region <| gv_pureN 1 [61] [(61, (.string s_0))] (by kernel_rfl) ?_
    refine bindE h0 ?_; clear h0; intro r114 hr115 h0
    refine gv_call0 (by kernel_rfl) rfl (by kernel_rfl) enters24 (ref4_Points_ok fuel s_0 w68  r114 hr115) ?_
    rintro v118 w116 ⟨hg117, a119, c120, rfl, ho121, hl122⟩
    have hl123 : ∀ g, blk a119 = some g → w0.heap.size ≤ g := fun g e => Nat.le_trans hB102.size (hl122 g e)
    refine gv_pureN 5 [16, 17, 60, 63, 64] [(16, (.slice a119 (List.length r114.1) c120))] (by kernel_rfl) ?_
    refine gv_nil <| gv_seq <| gv_region <| gv_pureN 1 [66] [(66, (.string sub_1))] (by kernel_rfl) ?_
    refine bindE h0 ?_; clear h0; intro r124 hr125 h0
    refine gv_call0 (by kernel_rfl) rfl (by kernel_rfl) enters24 (ref4_Points_ok fuel sub_1 w116  r124 hr125) ?_
    rintro v128 w126 ⟨hg127, a129, c130, rfl, ho131, hl132⟩
    have hB134 := bg hB102 hg117 nb
    have hl133 : ∀ g, blk a129 = some g → w0.heap.size ≤ g := fun g e => Nat.le_trans hB134.size (hl132 g e)
    refine gv_pureN 5 [18, 19, 65, 68, 69] [(18, (.slice a129 (List.length r124.1) c130))] (by kernel_rfl) ?_
    refine gv_nil <| gv_seq <| gv_seq <| gv_region <| gv_pureN 3 [70, 71, 72] [(70, (.int .i64 r16.1)), (71, (.slice a119 (List.length r114.1) c120)), (72, (.slice a129 (List.length r124.1) c130))] (by kernel_rfl) ?_
    refine bindE h0 ?_; clear h0; intro r135 hr136 h0
    have hk137 := ho121.grown hg127 (fun _ h => h.elim) nb
    refine gv_call0 (by kernel_rfl) rfl (by kernel_rfl) enters39 (ref4_Places_ok fuel a119 c120 r114.1 a129 c130 r124.1 w126 (fun k => (fun k => blk a119 = some k) k ∨ (fun k => blk a129 = some k) k) (fun k hk => (hk).elim (fun h => (fun k (hk : blk a119 = some k) => hk137.lt k hk) k h) (fun h => (fun k (hk : blk a129 = some k) => ho131.lt k hk) k h)) ((hk137.rd (Y := fun k => blk a119 = some k) (fun _ h => h.elim) (fun g e => e)).wide (fun k hk => (.inl hk))) ((ho131.rd (Y := fun k => blk a129 = some k) (fun _ h => h.elim) (fun g e => e)).wide (fun k hk => (.inr hk))) r135 hr136) ?_
    rintro v140 w138 ⟨hg139, a141, c142, rfl, ho143, hl144⟩
    have hB146 := bg hB134 hg127 nb
    have hl145 : ∀ g, blk a141 = some g → w0.heap.size ≤ g := fun g e => Nat.le_trans hB146.size (hl144 g e)
    refine gv_pureN 2 [74, 75] [(75, (.bool (r16.1 != ((List.length r135 : Nat) : Int))))] (by kernel_rfl) ?_
    refine gv_nil <| gv_cond (b := (r16.1 != ((List.length r135 : Nat) : Int))) (by kernel_rfl) (fun hc147 => ?_) (fun hc147 => ?_)
    ·replace h0 := ite_t hc147 h0
     refine gv_seq <| gv_region <| gv_pureN 1 [10] [(10, (.bool false))] (by kernel_rfl) ?_
     refine gv_nil <| gv_cret ?_
     have e := sj h0; subst e
     refine gv_ret (gv_done [(.bool false)] rfl ⟨(by kernel_rfl), trivial⟩ ?_)
     have hB148 := bg hB146 hg139 nb
     exact ⟨grown_of_below hB148, rfl⟩
    ·replace h0 := ite_f hc147 h0
     refine gv_skip <| gv_seq <| gv_block <| gv_seq <| gv_region <| gv_cut_ops (J := fun a w149 => w138 = w149 ∧ a.defers = [] ∧ a.tmps.size = 122 ∧ Ok [(2, (.int .i64 from_2)), (3, (.int .i64 to_3)), (4, (.bool last_4)), (11, (.int .i64 r1.1)), (12, (bp b6)), (16, (.slice a119 (List.length r114.1) c120)), (18, (.slice a129 (List.length r124.1) c130)), (76, (.bool ((decide (from_2 < 0)) || (decide (from_2 > ((List.length r114.1 : Nat) : Int))))))] a.tmps) ?_ ?_
     ·skip
      refine gv_pureN 3 [77, 78, 79] [(79, (.bool (decide (from_2 < 0))))] (by kernel_rfl) ?_
      refine gv_split (s := 79) (g := (decide (from_2 < 0))) (by kernel_rfl) (fun hc150 => ?_) (fun hc150 => ?_)
      ·skip
       refine gv_pureN 6 [76, 80, 81, 82, 83, 84] [(76, (.bool true))] (by kernel_rfl) ?_
       refine gv_sub [2, 3, 4, 11, 12, 16, 18, 76] (σ' := [(2, (.int .i64 from_2)), (3, (.int .i64 to_3)), (4, (.bool last_4)), (11, (.int .i64 r1.1)), (12, (bp b6)), (16, (.slice a119 (List.length r114.1) c120)), (18, (.slice a129 (List.length r124.1) c130)), (76, (.bool true))]) (by kernel_rfl) ?_
       refine gv_nil <| gv_sub [2, 3, 4, 11, 12, 16, 18, 76] (σ' := [(2, (.int .i64 from_2)), (3, (.int .i64 to_3)), (4, (.bool last_4)), (11, (.int .i64 r1.1)), (12, (bp b6)), (16, (.slice a119 (List.length r114.1) c120)), (18, (.slice a129 (List.length r124.1) c130)), (76, (.bool true))]) (by kernel_rfl) ?_
       refine gv_goal fun a hd hs hok => ⟨rfl, hd, hs, ?_⟩
       obtain ⟨q2, q3, q4, q11, q12, q16, q18, q76, _⟩ := hok
       exact ⟨q2, q3, q4, q11, q12, q16, q18, (by rw [hc150]; exact q76), trivial⟩
      ·skip
       refine gv_pureN 6 [76, 80, 81, 82, 83, 84] [(76, (.bool (decide (from_2 > ((List.length r114.1 : Nat) : Int)))))] (by kernel_rfl) ?_
       refine gv_sub [2, 3, 4, 11, 12, 16, 18, 76] (σ' := [(2, (.int .i64 from_2)), (3, (.int .i64 to_3)), (4, (.bool last_4)), (11, (.int .i64 r1.1)), (12, (bp b6)), (16, (.slice a119 (List.length r114.1) c120)), (18, (.slice a129 (List.length r124.1) c130)), (76, (.bool (decide (from_2 > ((List.length r114.1 : Nat) : Int)))))]) (by kernel_rfl) ?_
       refine gv_nil <| gv_sub [2, 3, 4, 11, 12, 16, 18, 76] (σ' := [(2, (.int .i64 from_2)), (3, (.int .i64 to_3)), (4, (.bool last_4)), (11, (.int .i64 r1.1)), (12, (bp b6)), (16, (.slice a119 (List.length r114.1) c120)), (18, (.slice a129 (List.length r124.1) c130)), (76, (.bool (decide (from_2 > ((List.length r114.1 : Nat) : Int)))))]) (by kernel_rfl) ?_
       refine gv_goal fun a hd hs hok => ⟨rfl, hd, hs, ?_⟩
       obtain ⟨q2, q3, q4, q11, q12, q16, q18, q76, _⟩ := hok
       exact ⟨q2, q3, q4, q11, q12, q16, q18, (by rw [hc150]; exact q76), trivial⟩
     ·rintro a w149 ⟨e, hd, hs, hok⟩; subst e
      refine gv_in ?_ hd hs hok
      clear hd hs hok
      refine gv_cond (b := ((decide (from_2 < 0)) || (decide (from_2 > ((List.length r114.1 : Nat) : Int))))) (by kernel_rfl) (fun hc151 => ?_) (fun hc151 => ?_)
      ·replace h0 := ite_t hc151 h0
       refine gv_seq <| bindE h0 ?_; clear h0; intro j152 h1 h0
       refine gv_cut_code (J := fun a w153 => Below w0.heap.size w0 w153 ∧ w138.heap.size ≤ w153.heap.size ∧ a.defers = [] ∧ a.tmps.size = 122 ∧ Ok [(10, (.bool j152))] a.tmps) ?_ ?_
       ·skip
        refine gv_drawA (by kernel_rfl) ?_
        intro w154 hg155
        refine gv_stage (Cls w154 []) [0, 1] [(0, some true), (1, some false)] (bA 8 [0, 1]) 6 (by kernel_rfl) (by kernel_rfl) (Cls.refl _ _) ?_
        have hC156 := Cls.refl w154 []
        have hg157 := (grown_trans (grown_trans (grown_trans hg117 hg127) hg139) hg155)
        have hk158 := hb104.grown hg157 nb
        refine gv_loadBox (t := 24) (b := b6) (t' := 24) (fr := (0, 0)) #[(.int .i64 r1.2.1), (.int .i64 r1.2.2)] [] (fun e => by cases e) rfl rfl rfl (by kernel_rfl) (by kernel_rfl) (by kernel_rfl) (by kernel_rfl) (inw1 fun w' hC' => (hC'.box hk158 nm_nil)) rfl ?_
        refine bindE h1 ?_; clear h1; intro r159 hr160 h1
        refine gv_call (f := 29) (vs := [(.int .i64 4), (.int .i64 (-3))]) (cap := []) _ (by decide) rfl rfl rfl (by kernel_rfl) (by kernel_rfl) enters29 (ref4_At_ok fuel 4 (-3) w154  r159 hr160) ?_
        rintro v163 w161 ⟨hg162, rfl⟩
        refine ⟨(fun _ => hC156.grown hg162 nb), ?_⟩
        clear hr160 hg157 hc151 hc147 hl144 hr136 hB134 hl132 hr125 hl122 ho121 hr115 hc107 hc106 hb104 hB102 hb34 hbe30 hg24 hb14
        refine gv_nil <| gv_goA ?_
        refine gv_pre [2, 3, 4, 5, 6, 7] (bA 8 [0, 1, 2, 3, 4, 5, 6, 7]) 0 (by kernel_rfl) (by kernel_rfl) ?_
        refine gv_sub [11, 85, 86] (σ' := [(11, (.int .i64 r1.1)), (85, (.agg #[(.int .i64 r1.2.1), (.int .i64 r1.2.2)])), (86, (.agg #[(.int .i64 r159.1), (.int .i64 r159.2)]))]) (by kernel_rfl) ?_
        refine gv_eqs (t := 24) (op := .eql) (x := (.tmp 85)) (y := (.tmp 86)) (xs := #[(.int .i64 r1.2.1), (.int .i64 r1.2.2)]) (ys := #[(.int .i64 r159.1), (.int .i64 r159.2)]) ((r1.2.1 == r159.1) && (r1.2.2 == r159.2)) [] (fun e => by cases e) rfl rfl rfl (by kernel_rfl) (by kernel_rfl) (fun w' => eqs24eql r1.2.1 r1.2.2 r159.1 r159.2 _ _ w') rfl ?_
        refine gv_pureN 1 [88] [(88, (.bool ((r1.2.1 == r159.1) && (r1.2.2 == r159.2))))] (by kernel_rfl) ?_
        refine gv_split (s := 88) (g := ((r1.2.1 == r159.1) && (r1.2.2 == r159.2))) (by kernel_rfl) (fun hc164 => ?_) (fun hc164 => ?_)
        ·skip
         replace h1 := ite_t hc164 h1
         refine gv_pureN 4 [10, 89, 90, 91] [(10, (.bool (r1.1 == 0)))] (by kernel_rfl) ?_
         refine gv_nil <| gv_goA ?_
         refine gv_stageE (by kernel_rfl) ?_
         have e := sj h1; subst e
         refine gv_goal fun a hd hs hok => ?_
         have hg165 := (grown_trans (grown_trans hg139 hg155) hg162)
         have hB166 := bg hB146 hg165 nb
         have hz167 := (nt hg155.size hg162.size)
         exact ⟨hB166, hz167, hd, hs, ok_pick [10] hok (by kernel_rfl)⟩
        ·skip
         replace h1 := ite_f hc164 h1
         refine gv_pureN 4 [10, 89, 90, 91] [(10, (.bool false))] (by kernel_rfl) ?_
         refine gv_nil <| gv_goA ?_
         refine gv_stageE (by kernel_rfl) ?_
         have e := sj h1; subst e
         refine gv_goal fun a hd hs hok => ?_
         have hg168 := (grown_trans (grown_trans hg139 hg155) hg162)
         have hB169 := bg hB146 hg168 nb
         have hz170 := (nt hg155.size hg162.size)
         exact ⟨hB169, hz170, hd, hs, ok_pick [10] hok (by kernel_rfl)⟩
       ·rintro a w153 ⟨hB171, hz172, hd, hs, hok⟩
        refine gv_in ?_ hd hs hok
        clear hd hs hok
        clear hz172 hc151 hc147 hl145 hB146 hl144 ho143 hg139 hk137 hr136 hl133 hB134 hl132 ho131 hg127 hr125 hl123 hl122 ho121 hg117 hr115 hc107 hc106 hb105 hb104 hB102 hbe61 hg55 hB51 hg38 hb34 hbe30 hg24 hlo21 hb14
        refine gv_cret ?_
        have e := sj h0; subst e
        refine gv_ret (gv_done [(.bool j152)] rfl ⟨(by kernel_rfl), trivial⟩ ?_)
        exact ⟨grown_of_below hB171, rfl⟩
      ·replace h0 := ite_f hc151 h0
       refine gv_seq <| gv_region <| gv_cut_ops (J := fun a w173 => w138 = w173 ∧ a.defers = [] ∧ a.tmps.size = 122 ∧ Ok [(2, (.int .i64 from_2)), (3, (.int .i64 to_3)), (4, (.bool last_4)), (11, (.int .i64 r1.1)), (12, (bp b6)), (16, (.slice a119 (List.length r114.1) c120)), (18, (.slice a129 (List.length r124.1) c130)), (92, (.bool ((decide (to_3 < from_2)) || (decide (to_3 > ((List.length r114.1 : Nat) : Int))))))] a.tmps) ?_ ?_
       ·skip
        refine gv_pureN 4 [93, 94, 95, 96] [(96, (.bool (decide (to_3 < from_2))))] (by kernel_rfl) ?_
        refine gv_split (s := 96) (g := (decide (to_3 < from_2))) (by kernel_rfl) (fun hc174 => ?_) (fun hc174 => ?_)
        ·skip
         refine gv_pureN 6 [92, 97, 98, 99, 100, 101] [(92, (.bool true))] (by kernel_rfl) ?_
         refine gv_sub [2, 3, 4, 11, 12, 16, 18, 92] (σ' := [(2, (.int .i64 from_2)), (3, (.int .i64 to_3)), (4, (.bool last_4)), (11, (.int .i64 r1.1)), (12, (bp b6)), (16, (.slice a119 (List.length r114.1) c120)), (18, (.slice a129 (List.length r124.1) c130)), (92, (.bool true))]) (by kernel_rfl) ?_
         refine gv_nil <| gv_sub [2, 3, 4, 11, 12, 16, 18, 92] (σ' := [(2, (.int .i64 from_2)), (3, (.int .i64 to_3)), (4, (.bool last_4)), (11, (.int .i64 r1.1)), (12, (bp b6)), (16, (.slice a119 (List.length r114.1) c120)), (18, (.slice a129 (List.length r124.1) c130)), (92, (.bool true))]) (by kernel_rfl) ?_
         refine gv_goal fun a hd hs hok => ⟨rfl, hd, hs, ?_⟩
         obtain ⟨q2, q3, q4, q11, q12, q16, q18, q92, _⟩ := hok
         exact ⟨q2, q3, q4, q11, q12, q16, q18, (by rw [hc174]; exact q92), trivial⟩
        ·skip
         refine gv_pureN 6 [92, 97, 98, 99, 100, 101] [(92, (.bool (decide (to_3 > ((List.length r114.1 : Nat) : Int)))))] (by kernel_rfl) ?_
         refine gv_sub [2, 3, 4, 11, 12, 16, 18, 92] (σ' := [(2, (.int .i64 from_2)), (3, (.int .i64 to_3)), (4, (.bool last_4)), (11, (.int .i64 r1.1)), (12, (bp b6)), (16, (.slice a119 (List.length r114.1) c120)), (18, (.slice a129 (List.length r124.1) c130)), (92, (.bool (decide (to_3 > ((List.length r114.1 : Nat) : Int)))))]) (by kernel_rfl) ?_
         refine gv_nil <| gv_sub [2, 3, 4, 11, 12, 16, 18, 92] (σ' := [(2, (.int .i64 from_2)), (3, (.int .i64 to_3)), (4, (.bool last_4)), (11, (.int .i64 r1.1)), (12, (bp b6)), (16, (.slice a119 (List.length r114.1) c120)), (18, (.slice a129 (List.length r124.1) c130)), (92, (.bool (decide (to_3 > ((List.length r114.1 : Nat) : Int)))))]) (by kernel_rfl) ?_
         refine gv_goal fun a hd hs hok => ⟨rfl, hd, hs, ?_⟩
         obtain ⟨q2, q3, q4, q11, q12, q16, q18, q92, _⟩ := hok
         exact ⟨q2, q3, q4, q11, q12, q16, q18, (by rw [hc174]; exact q92), trivial⟩
       ·rintro a w173 ⟨e, hd, hs, hok⟩; subst e
        refine gv_in ?_ hd hs hok
        clear hd hs hok
        refine gv_cond (b := ((decide (to_3 < from_2)) || (decide (to_3 > ((List.length r114.1 : Nat) : Int))))) (by kernel_rfl) (fun hc175 => ?_) (fun hc175 => ?_)
        ·replace h0 := ite_t hc175 h0
         refine gv_seq <| bindE h0 ?_; clear h0; intro j176 h1 h0
         refine gv_cut_code (J := fun a w177 => Below w0.heap.size w0 w177 ∧ w138.heap.size ≤ w177.heap.size ∧ a.defers = [] ∧ a.tmps.size = 122 ∧ Ok [(10, (.bool j176))] a.tmps) ?_ ?_
         ·skip
          refine gv_drawA (by kernel_rfl) ?_
          intro w178 hg179
          refine gv_stage (Cls w178 []) [0, 1] [(0, some true), (1, some false)] (bA 8 [0, 1]) 6 (by kernel_rfl) (by kernel_rfl) (Cls.refl _ _) ?_
          have hC180 := Cls.refl w178 []
          have hg181 := (grown_trans (grown_trans (grown_trans hg117 hg127) hg139) hg179)
          have hk182 := hb104.grown hg181 nb
          refine gv_loadBox (t := 24) (b := b6) (t' := 24) (fr := (0, 0)) #[(.int .i64 r1.2.1), (.int .i64 r1.2.2)] [] (fun e => by cases e) rfl rfl rfl (by kernel_rfl) (by kernel_rfl) (by kernel_rfl) (by kernel_rfl) (inw1 fun w' hC' => (hC'.box hk182 nm_nil)) rfl ?_
          refine bindE h1 ?_; clear h1; intro r183 hr184 h1
          refine gv_call (f := 29) (vs := [(.int .i64 4), (.int .i64 (-4))]) (cap := []) _ (by decide) rfl rfl rfl (by kernel_rfl) (by kernel_rfl) enters29 (ref4_At_ok fuel 4 (-4) w178  r183 hr184) ?_
          rintro v187 w185 ⟨hg186, rfl⟩
          refine ⟨(fun _ => hC180.grown hg186 nb), ?_⟩
          refine gv_nil <| gv_goA ?_
          refine gv_pre [2, 3, 4, 5, 6, 7] (bA 8 [0, 1, 2, 3, 4, 5, 6, 7]) 0 (by kernel_rfl) (by kernel_rfl) ?_
          refine gv_sub [11, 102, 103] (σ' := [(11, (.int .i64 r1.1)), (102, (.agg #[(.int .i64 r1.2.1), (.int .i64 r1.2.2)])), (103, (.agg #[(.int .i64 r183.1), (.int .i64 r183.2)]))]) (by kernel_rfl) ?_
          refine gv_eqs (t := 24) (op := .eql) (x := (.tmp 102)) (y := (.tmp 103)) (xs := #[(.int .i64 r1.2.1), (.int .i64 r1.2.2)]) (ys := #[(.int .i64 r183.1), (.int .i64 r183.2)]) ((r1.2.1 == r183.1) && (r1.2.2 == r183.2)) [] (fun e => by cases e) rfl rfl rfl (by kernel_rfl) (by kernel_rfl) (fun w' => eqs24eql r1.2.1 r1.2.2 r183.1 r183.2 _ _ w') rfl ?_
          refine gv_pureN 1 [105] [(105, (.bool ((r1.2.1 == r183.1) && (r1.2.2 == r183.2))))] (by kernel_rfl) ?_
          refine gv_split (s := 105) (g := ((r1.2.1 == r183.1) && (r1.2.2 == r183.2))) (by kernel_rfl) (fun hc188 => ?_) (fun hc188 => ?_)
          ·skip
           replace h1 := ite_t hc188 h1
           refine gv_pureN 4 [10, 106, 107, 108] [(10, (.bool (r1.1 == 0)))] (by kernel_rfl) ?_
           refine gv_nil <| gv_goA ?_
           refine gv_stageE (by kernel_rfl) ?_
           have e := sj h1; subst e
           refine gv_goal fun a hd hs hok => ?_
           have hg189 := (grown_trans (grown_trans hg139 hg179) hg186)
           have hB190 := bg hB146 hg189 nb
           have hz191 := (nt hg179.size hg186.size)
           exact ⟨hB190, hz191, hd, hs, ok_pick [10] hok (by kernel_rfl)⟩
          ·skip
           replace h1 := ite_f hc188 h1
           refine gv_pureN 4 [10, 106, 107, 108] [(10, (.bool false))] (by kernel_rfl) ?_
           refine gv_nil <| gv_goA ?_
           refine gv_stageE (by kernel_rfl) ?_
           have e := sj h1; subst e
           refine gv_goal fun a hd hs hok => ?_
           have hg192 := (grown_trans (grown_trans hg139 hg179) hg186)
           have hB193 := bg hB146 hg192 nb
           have hz194 := (nt hg179.size hg186.size)
           exact ⟨hB193, hz194, hd, hs, ok_pick [10] hok (by kernel_rfl)⟩
         ·rintro a w177 ⟨hB195, hz196, hd, hs, hok⟩
          refine gv_in ?_ hd hs hok
          clear hd hs hok
          clear hz196 hc175 hc151 hc147 hl145 hB146 hl144 ho143 hg139 hk137 hr136 hl133 hB134 hl132 ho131 hg127 hr125 hl123 hl122 ho121 hg117 hr115 hc107 hc106 hb105 hb104 hB102 hbe61 hg55 hB51 hg38 hb34 hbe30 hg24 hlo21 hb14
          refine gv_cret ?_
          have e := sj h0; subst e
          refine gv_ret (gv_done [(.bool j176)] rfl ⟨(by kernel_rfl), trivial⟩ ?_)
          exact ⟨grown_of_below hB195, rfl⟩
        ·replace h0 := ite_f hc175 h0
         refine gv_skip <| gv_blk <| gv_seq <| gv_region <| bindE h0 ?_; clear h0; intro j197 h1 h0
         refine gv_cut_ops (J := fun a w198 => Below w0.heap.size w0 w198 ∧ w138.heap.size ≤ w198.heap.size ∧ a.defers = [] ∧ a.tmps.size = 122 ∧ Ok [(10, (.bool j197))] a.tmps) ?_ ?_
         ·skip
          refine gv_pureN 1 [109] [(109, (bp b6))] (by kernel_rfl) ?_
          have hg199 := (grown_trans (grown_trans hg117 hg127) hg139)
          have hk200 := hb104.grown hg199 nb
          refine gv_load (t := 3) (A := ⟨b6, 0, none⟩) (.int .i64 r1.2.1) [] (fun e => by cases e) rfl rfl rfl (by kernel_rfl) (by kernel_rfl) (by kernel_rfl) (inw0 (hk200.cell 0 rfl)) rfl ?_
          refine gv_pureN 2 [111, 112] [(112, (.bool (r1.2.1 == 0)))] (by kernel_rfl) ?_
          refine gv_sub [2, 3, 4, 11, 16, 18, 112] (σ' := [(2, (.int .i64 from_2)), (3, (.int .i64 to_3)), (4, (.bool last_4)), (11, (.int .i64 r1.1)), (16, (.slice a119 (List.length r114.1) c120)), (18, (.slice a129 (List.length r124.1) c130)), (112, (.bool (r1.2.1 == 0)))]) (by kernel_rfl) ?_
          refine gv_split (s := 112) (g := (r1.2.1 == 0)) (by kernel_rfl) (fun hc201 => ?_) (fun hc201 => ?_)
          ·skip
           replace h1 := ite_t hc201 h1
           refine gv_pureN 6 [113, 114, 115, 116, 117, 118] [(113, (.int .i64 r1.1)), (114, (.slice a119 (List.length r114.1) c120)), (115, (.slice a129 (List.length r124.1) c130)), (116, (.int .i64 from_2)), (117, (.int .i64 to_3)), (118, (.bool last_4))] (by kernel_rfl) ?_
           refine bindE h1 ?_; clear h1; intro r202 hr203 h1
           have hk204 := hk137.grown hg139 (fun _ h => h.elim) nb
           have hk205 := ho131.grown hg139 (fun _ h => h.elim) nb
           refine gv_call0 (by kernel_rfl) rfl (by kernel_rfl) enters40 (ref4_Occurs_ok fuel a119 c120 r114.1 a129 c130 r124.1 from_2 to_3 last_4 w138 (fun k => (fun k => blk a119 = some k) k ∨ (fun k => blk a129 = some k) k) (fun k hk => (hk).elim (fun h => (fun k (hk : blk a119 = some k) => hk204.lt k hk) k h) (fun h => (fun k (hk : blk a129 = some k) => hk205.lt k hk) k h)) ((hk204.rd (Y := fun k => blk a119 = some k) (fun _ h => h.elim) (fun g e => e)).wide (fun k hk => (.inl hk))) ((hk205.rd (Y := fun k => blk a129 = some k) (fun _ h => h.elim) (fun g e => e)).wide (fun k hk => (.inr hk))) r202 hr203) ?_
           rintro v208 w206 ⟨hg207, rfl⟩
           refine gv_pureN 3 [10, 120, 121] [(10, (.bool (r1.1 == r202)))] (by kernel_rfl) ?_
           refine gv_nil ?_
           have e := sj h1; subst e
           refine gv_goal fun a hd hs hok => ?_
           have hg209 := (grown_trans hg139 hg207)
           have hB210 := bg hB146 hg209 nb
           have hz211 := hg207.size
           exact ⟨hB210, hz211, hd, hs, ok_pick [10] hok (by kernel_rfl)⟩
          ·skip
           replace h1 := ite_f hc201 h1
           refine gv_pureN 10 [10, 113, 114, 115, 116, 117, 118, 119, 120, 121] [(10, (.bool false))] (by kernel_rfl) ?_
           refine gv_nil ?_
           have e := sj h1; subst e
           refine gv_goal fun a hd hs hok => ?_
           have hB212 := bg hB146 hg139 nb
           exact ⟨hB212, (Nat.le_refl _), hd, hs, ok_pick [10] hok (by kernel_rfl)⟩
         ·rintro a w198 ⟨hB213, hz214, hd, hs, hok⟩
          refine gv_in ?_ hd hs hok
          clear hd hs hok
          clear hz214 hc175 hc151 hc147 hl145 hB146 hl144 ho143 hg139 hk137 hr136 hl133 hB134 hl132 ho131 hg127 hr125 hl123 hl122 ho121 hg117 hr115 hc107 hc106 hb105 hb104 hB102 hbe61 hg55 hB51 hg38 hb34 hbe30 hg24 hlo21 hb14
          refine gv_cret ?_
          have e := sj h0; subst e
          refine gv_ret (gv_done [(.bool j197)] rfl ⟨(by kernel_rfl), trivial⟩ ?_)
          exact ⟨grown_of_below hB213, rfl⟩

end Go.Proofs.YtkmcegicngjhbaaDoor
