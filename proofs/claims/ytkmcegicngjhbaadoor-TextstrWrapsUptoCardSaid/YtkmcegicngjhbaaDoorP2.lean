import Derived.Test.YtkmcegicngjhbaaDoorP1
set_option linter.all false
set_option maxHeartbeats 4000000
set_option maxRecDepth 100000
/- Own work, printed by a program of mine: the walk of each function: a call returns what the plain function says. -/
namespace Go.Proofs.YtkmcegicngjhbaaDoor
open Go.Gv Go.Gv.D Go.RowKit
theorem enters15 : Go.Gv.Enters Tryd.prog 15 := ⟨Tryd.f15, Tryd.func15, by kernel_rfl, by kernel_rfl⟩
theorem enters23 : Go.Gv.Enters Tryd.prog 23 := ⟨Tryd.f23, Tryd.func23, by kernel_rfl, by kernel_rfl⟩
theorem enters24 : Go.Gv.Enters Tryd.prog 24 := ⟨Tryd.f24, Tryd.func24, by kernel_rfl, by kernel_rfl⟩
theorem enters26 : Go.Gv.Enters Tryd.prog 26 := ⟨Tryd.f26, Tryd.func26, by kernel_rfl, by kernel_rfl⟩
theorem enters29 : Go.Gv.Enters Tryd.prog 29 := ⟨Tryd.f29, Tryd.func29, by kernel_rfl, by kernel_rfl⟩
theorem enters31 : Go.Gv.Enters Tryd.prog 31 := ⟨Tryd.f31, Tryd.func31, by kernel_rfl, by kernel_rfl⟩
theorem enters32 : Go.Gv.Enters Tryd.prog 32 := ⟨Tryd.f32, Tryd.func32, by kernel_rfl, by kernel_rfl⟩
theorem enters33 : Go.Gv.Enters Tryd.prog 33 := ⟨Tryd.f33, Tryd.func33, by kernel_rfl, by kernel_rfl⟩
theorem enters34 : Go.Gv.Enters Tryd.prog 34 := ⟨Tryd.f34, Tryd.func34, by kernel_rfl, by kernel_rfl⟩
theorem enters35 : Go.Gv.Enters Tryd.prog 35 := ⟨Tryd.f35, Tryd.func35, by kernel_rfl, by kernel_rfl⟩
theorem enters36 : Go.Gv.Enters Tryd.prog 36 := ⟨Tryd.f36, Tryd.func36, by kernel_rfl, by kernel_rfl⟩
theorem enters54 : Go.Gv.Enters Tryd.prog 54 := ⟨Tryd.f54, Tryd.func54, by kernel_rfl, by kernel_rfl⟩
theorem enters67 : Go.Gv.Enters Tryd.prog 67 := ⟨Tryd.f67, Tryd.func67, by kernel_rfl, by kernel_rfl⟩
theorem enters68 : Go.Gv.Enters Tryd.prog 68 := ⟨Tryd.f68, Tryd.func68, by kernel_rfl, by kernel_rfl⟩
theorem enters92 : Go.Gv.Enters Tryd.prog 92 := ⟨Tryd.f92, Tryd.func92, by kernel_rfl, by kernel_rfl⟩
theorem info3 : InfoOk Tryd.prog 3 1 := infoOk (z := (.int .i64 0)) (bytes := 8) (by kernel_rfl) (by kernel_rfl) (by kernel_rfl) (by kernel_rfl)
theorem info5 : InfoOk Tryd.prog 5 1 := infoOk (z := (.int .u8 0)) (bytes := 1) (by kernel_rfl) (by kernel_rfl) (by kernel_rfl) (by kernel_rfl)
theorem info38 : InfoOk Tryd.prog 38 1 := infoOk (z := (.slice none 0 0)) (bytes := 24) (by kernel_rfl) (by kernel_rfl) (by kernel_rfl) (by kernel_rfl)
theorem eqs24eql (a0 : Int) (a1 : Int) (b0 : Int) (b1 : Int) (x y : Operand) (w : World) : (do eqGuard .eql 24 x y (.agg #[.int .i64 a0, .int .i64 a1]) (.agg #[.int .i64 b0, .int .i64 b1]); binOp .eql 24 (.agg #[.int .i64 a0, .int .i64 a1]) (.agg #[.int .i64 b0, .int .i64 b1]) : Sem Value).run Tryd.prog w = .ok (.bool ((a0 == b0) && (a1 == b1))) w := by
  have h1 : Tryd.prog.eqGuardType Tryd.prog.depth 24 = false := by kernel_rfl
  have h2 : Tryd.prog.stoodInHeld 24 = false := by kernel_rfl
  have h3 : Tryd.prog.underlying 24 = some (.struct (Tryd.prog.fieldsOf 24)) := by kernel_rfl
  have h4 := Tryd.underlying24
  rw [Sem.run_bind, run_eqGuard_agg w .eql 24 x y _ _ h1, Result.andThen_ok, run_eql_struct, run_equalIn_struct w 9999 24 _ _ h3 h2]
  by_cases g0 : a0 = b0 <;> by_cases g1 : a1 = b1 <;> simp [Program.fieldsOf, h4, Op.eqFields, part, isAgg, run_underlying Tryd.underlying3, run_equalIn_int _ _ _ _ _ _ _ Tryd.underlying3, g0, g1]

theorem ref4_behind_ok (fuel : Nat) (pa0_0 : Option Addr) (pc0_0 : Nat) (s_0 : (List UInt8)) (i_1 : Int) (w0 : World) (X0 : Nat → Prop) (hX0 : ∀ k, X0 k → k < w0.heap.size) (hpa0_0 : Rd bE w0 X0 pa0_0 pc0_0 s_0) (r0 : Int) (h0 : ref4_behind fuel s_0 i_1 = some r0) :
    Calls Tryd.prog 92 ([(.slice pa0_0 (List.length s_0) pc0_0), (.int .i64 i_1)] : List Value).toArray w0 (Ret fun v w' => w0.grownBy w' none ∧ v = tup [(.int .i64 r0)]) := by
 have hB0 : Below w0.heap.size w0 w0 := Below.refl _ _
 unfold ref4_behind at h0
 refine calls_run Tryd.func92 rfl Tryd.ntmps92 (by kernel_rfl) ?_
 refine gv_sub [0, 1] (σ' := [(0, (.slice pa0_0 (List.length s_0) pc0_0)), (1, (.int .i64 i_1))]) (by kernel_rfl) ?_
 refine gv_seq <| gv_region <| gv_pureN 1 [4] [] (by kernel_rfl) ?_
 refine gv_nil <| gv_seq <| gv_seq <| gv_region <| bindE h0 ?_; clear h0; intro j1 h1 h0
 refine gv_cut_ops (J := fun a w2 => Below w0.heap.size w0 w2 ∧ w0.heap.size ≤ w2.heap.size ∧ a.defers = [] ∧ a.tmps.size = 29 ∧ Ok [(0, (.slice pa0_0 (List.length s_0) pc0_0)), (1, (.int .i64 i_1)), (22, (.bool j1))] a.tmps) ?_ ?_
 ·skip
  refine gv_pureN 5 [5, 6, 7, 8, 9] [(9, (.bool (decide (i_1 < ((List.length s_0 : Nat) : Int)))))] (by kernel_rfl) ?_
  refine gv_split (s := 9) (g := (decide (i_1 < ((List.length s_0 : Nat) : Int)))) (by kernel_rfl) (fun hc3 => ?_) (fun hc3 => ?_)
  ·skip
   replace h1 := ite_t hc3 h1
   refine gv_pureN 2 [10, 11] [(10, (.slice pa0_0 (List.length s_0) pc0_0)), (11, (.int .i64 i_1))] (by kernel_rfl) ?_
   refine bindE h1 ?_; clear h1; intro x4 hx5 h1
   refine gv_idxaddr (t := 82) (e := 5) (a := pa0_0) (len := List.length s_0) (cap := pc0_0) (kk := .i64) (i := i_1) (sz := 1) [] (fun e => by cases e) rfl rfl rfl (by kernel_rfl) (by kernel_rfl) Tryd.underlying82 (by kernel_rfl) ((hpa0_0.below hB0 hX0).has hx5) (idx_spec hx5).1 (idx_spec hx5).2.1 rfl ?_
   refine gv_load (t := 5) (A := (elemAddr pa0_0 ((i_1 : Int).toNat * 1))) (.int .u8 ((x4).toNat : Int)) [] (fun e => by cases e) rfl rfl rfl (by kernel_rfl) (by kernel_rfl) (by kernel_rfl) (inw0 ((hpa0_0.below hB0 hX0).cell hx5)) rfl ?_
   refine gv_pureN 3 [14, 15, 16] [(16, (.bool (decide (((x4).toNat : Int) ≥ 128))))] (by kernel_rfl) ?_
   refine gv_split (s := 16) (g := (decide (((x4).toNat : Int) ≥ 128))) (by kernel_rfl) (fun hc6 => ?_) (fun hc6 => ?_)
   ·skip
    replace h1 := ite_t hc6 h1
    refine gv_pureN 2 [17, 18] [(17, (.slice pa0_0 (List.length s_0) pc0_0)), (18, (.int .i64 i_1))] (by kernel_rfl) ?_
    refine bindE h1 ?_; clear h1; intro x7 hx8 h1
    refine gv_idxaddr (t := 82) (e := 5) (a := pa0_0) (len := List.length s_0) (cap := pc0_0) (kk := .i64) (i := i_1) (sz := 1) [] (fun e => by cases e) rfl rfl rfl (by kernel_rfl) (by kernel_rfl) Tryd.underlying82 (by kernel_rfl) ((hpa0_0.below hB0 hX0).has hx8) (idx_spec hx8).1 (idx_spec hx8).2.1 rfl ?_
    refine gv_load (t := 5) (A := (elemAddr pa0_0 ((i_1 : Int).toNat * 1))) (.int .u8 ((x7).toNat : Int)) [] (fun e => by cases e) rfl rfl rfl (by kernel_rfl) (by kernel_rfl) (by kernel_rfl) (inw0 ((hpa0_0.below hB0 hX0).cell hx8)) rfl ?_
    refine gv_pureN 2 [21, 22] [(22, (.bool (decide (((x7).toNat : Int) < 192))))] (by kernel_rfl) ?_
    refine gv_nil ?_
    have e := sj h1; subst e
    refine gv_goal fun a hd hs hok => ?_
    exact ⟨hB0, (Nat.le_refl _), hd, hs, ok_pick [0, 1, 22] hok (by kernel_rfl)⟩
   ·skip
    replace h1 := ite_f hc6 h1
    refine gv_pureN 6 [17, 18, 19, 20, 21, 22] [(22, (.bool false))] (by kernel_rfl) ?_
    refine gv_nil ?_
    have e := sj h1; subst e
    refine gv_goal fun a hd hs hok => ?_
    exact ⟨hB0, (Nat.le_refl _), hd, hs, ok_pick [0, 1, 22] hok (by kernel_rfl)⟩
  ·skip
   replace h1 := ite_f hc3 h1
   refine gv_pureN 13 [10, 11, 12, 13, 14, 15, 16, 17, 18, 19, 20, 21, 22] [(22, (.bool false))] (by kernel_rfl) ?_
   refine gv_nil ?_
   have e := sj h1; subst e
   refine gv_goal fun a hd hs hok => ?_
   exact ⟨hB0, (Nat.le_refl _), hd, hs, ok_pick [0, 1, 22] hok (by kernel_rfl)⟩
 ·rintro a w2 ⟨hB9, hz10, hd, hs, hok⟩
  refine gv_in ?_ hd hs hok
  clear hd hs hok
  refine gv_cond (b := j1) (by kernel_rfl) (fun hc11 => ?_) (fun hc11 => ?_)
  ·replace h0 := ite_t hc11 h0
   refine gv_seq <| gv_region <| gv_pureN 2 [23, 24] [(23, (.slice pa0_0 (List.length s_0) pc0_0)), (24, (.int .i64 i_1))] (by kernel_rfl) ?_
   refine bindE h0 ?_; clear h0; intro x12 hx13 h0
   refine gv_idxaddr (t := 82) (e := 5) (a := pa0_0) (len := List.length s_0) (cap := pc0_0) (kk := .i64) (i := i_1) (sz := 1) [] (fun e => by cases e) rfl rfl rfl (by kernel_rfl) (by kernel_rfl) Tryd.underlying82 (by kernel_rfl) ((hpa0_0.below hB9 hX0).has hx13) (idx_spec hx13).1 (idx_spec hx13).2.1 rfl ?_
   refine gv_load (t := 5) (A := (elemAddr pa0_0 ((i_1 : Int).toNat * 1))) (.int .u8 ((x12).toNat : Int)) [] (fun e => by cases e) rfl rfl rfl (by kernel_rfl) (by kernel_rfl) (by kernel_rfl) (inw0 ((hpa0_0.below hB9 hX0).cell hx13)) rfl ?_
   refine gv_pureN 3 [4, 27, 28] [(4, (.int .i64 (IntKind.i64.wrap ((IntKind.i64.wrap (((x12).toNat : Int))) - 128))))] (by kernel_rfl) ?_
   refine bindE h0 ?_; clear h0; intro n14 hn15 h0
   refine gv_name (s := 4) (v := (.int .i64 (IntKind.i64.wrap ((IntKind.i64.wrap (((x12).toNat : Int))) - 128)))) (v' := (.int .i64 n14)) (by kernel_rfl) (congrArg (Value.int .i64) (sj hn15)) ?_
   refine gv_nil <| gv_cret ?_
   have e := sj h0; subst e
   refine gv_ret (gv_done [(.int .i64 n14)] rfl ⟨(by kernel_rfl), trivial⟩ ?_)
   exact ⟨grown_of_below hB9, rfl⟩
  ·replace h0 := ite_f hc11 h0
   refine gv_skip <| gv_seq <| gv_region <| gv_pureN 1 [4] [(4, (.int .i64 (-1)))] (by kernel_rfl) ?_
   refine gv_nil <| gv_cret ?_
   have e := sj h0; subst e
   refine gv_ret (gv_done [(.int .i64 (-1))] rfl ⟨(by kernel_rfl), trivial⟩ ?_)
   exact ⟨grown_of_below hB9, rfl⟩

theorem ref4_unit_ok (fuel : Nat) (pa0_0 : Option Addr) (pc0_0 : Nat) (s_0 : (List UInt8)) (at_1 : Int) (w0 : World) (X0 : Nat → Prop) (hX0 : ∀ k, X0 k → k < w0.heap.size) (hpa0_0 : Rd bE w0 X0 pa0_0 pc0_0 s_0) (r0 : (Int × Int)) (h0 : ref4_unit fuel s_0 at_1 = some r0) :
    Calls Tryd.prog 67 ([(.slice pa0_0 (List.length s_0) pc0_0), (.int .i64 at_1)] : List Value).toArray w0 (Ret fun v w' => w0.grownBy w' none ∧ v = tup [(.int .i64 r0.1), (.int .i64 r0.2)]) := by
 have hB0 : Below w0.heap.size w0 w0 := Below.refl _ _
 unfold ref4_unit at h0
 refine calls_run Tryd.func67 rfl Tryd.ntmps67 (by kernel_rfl) ?_
 refine gv_sub [0, 1] (σ' := [(0, (.slice pa0_0 (List.length s_0) pc0_0)), (1, (.int .i64 at_1))]) (by kernel_rfl) ?_
 refine gv_seq <| gv_region <| gv_pureN 2 [4, 5] [] (by kernel_rfl) ?_
 refine gv_nil <| gv_seq <| gv_drawA (by kernel_rfl) ?_
 intro w1 hg2
 refine gv_pre [0, 1, 2, 5, 6, 7, 9, 10, 11, 13, 14, 15] (bA 21 [0, 1, 2, 5, 6, 7, 9, 10, 11, 13, 14, 15]) 9 (by kernel_rfl) (by kernel_rfl) ?_
 refine gv_pureN 2 [12, 13] [(12, (.slice pa0_0 (List.length s_0) pc0_0)), (13, (.int .i64 at_1))] (by kernel_rfl) ?_
 refine bindE h0 ?_; clear h0; intro x3 hx4 h0
 have hB5 := bg hB0 hg2 nb
 refine gv_idxaddr (t := 82) (e := 5) (a := pa0_0) (len := List.length s_0) (cap := pc0_0) (kk := .i64) (i := at_1) (sz := 1) [] (fun e => by cases e) rfl rfl rfl (by kernel_rfl) (by kernel_rfl) Tryd.underlying82 (by kernel_rfl) ((hpa0_0.below hB5 hX0).has hx4) (idx_spec hx4).1 (idx_spec hx4).2.1 rfl ?_
 refine gv_pureN 9 [17, 18, 19, 21, 22, 23, 25, 26, 27] [(17, (.slice pa0_0 (List.length s_0) pc0_0)), (19, (.int .i64 (IntKind.i64.wrap (at_1 + 1)))), (21, (.slice pa0_0 (List.length s_0) pc0_0)), (23, (.int .i64 (IntKind.i64.wrap (at_1 + 2)))), (25, (.slice pa0_0 (List.length s_0) pc0_0)), (27, (.int .i64 (IntKind.i64.wrap (at_1 + 3))))] (by kernel_rfl) ?_
 refine gv_nil <| gv_goA ?_
 refine gv_stage (Cls w1 []) [0, 1, 2, 3, 4, 5, 6, 7, 8, 9, 10, 11, 12, 13, 14, 15, 16] [(3, some true), (4, some true), (8, some false), (12, some false), (16, some false)] (bA 21 [0, 1, 2, 3, 4, 5, 6, 7, 8, 9, 10, 11, 12, 13, 14, 15, 16]) 4 (by kernel_rfl) (by kernel_rfl) (Cls.refl _ _) ?_
 have hC6 := Cls.refl w1 []
 refine gv_load (t := 5) (A := (elemAddr pa0_0 ((at_1 : Int).toNat * 1))) (.int .u8 ((x3).toNat : Int)) [] (fun e => by cases e) rfl rfl rfl (by kernel_rfl) (by kernel_rfl) (by kernel_rfl) (inw1 fun w' hC' => ((hC'.rd (hpa0_0.below hB5 hX0) (fun k (hk : X0 k) => ltl (hX0 k hk) hB5.size) nmx_nil).cell hx4)) rfl ?_
 refine gv_pureN 1 [16] [(16, (.int .i64 (IntKind.i64.wrap (((x3).toNat : Int)))))] (by kernel_rfl) ?_
 refine bindE h0 ?_; clear h0; intro r7 hr8 h0
 refine gv_call (f := 92) (vs := [(.slice pa0_0 (List.length s_0) pc0_0), (.int .i64 (IntKind.i64.wrap (at_1 + 1)))]) (cap := []) _ (by decide) rfl rfl rfl (by kernel_rfl) (by kernel_rfl) enters92 (ref4_behind_ok fuel pa0_0 pc0_0 s_0 (IntKind.i64.wrap (at_1 + 1)) w1 (fun k => X0 k) (fun k hk => (fun k (hk : X0 k) => ltl (hX0 k hk) hB5.size) k hk) ((hpa0_0.below hB5 hX0).wide (fun k hk => hk)) r7 hr8) ?_
 rintro v11 w9 ⟨hg10, rfl⟩
 refine ⟨(fun _ => hC6.grown hg10 nb), ?_⟩
 refine bindE h0 ?_; clear h0; intro r12 hr13 h0
 have hB14 := bg hB5 hg10 nb
 refine gv_call (f := 92) (vs := [(.slice pa0_0 (List.length s_0) pc0_0), (.int .i64 (IntKind.i64.wrap (at_1 + 2)))]) (cap := []) _ (by decide) rfl rfl rfl (by kernel_rfl) (by kernel_rfl) enters92 (ref4_behind_ok fuel pa0_0 pc0_0 s_0 (IntKind.i64.wrap (at_1 + 2)) w9 (fun k => X0 k) (fun k hk => (fun k (hk : X0 k) => ltl (hX0 k hk) hB14.size) k hk) ((hpa0_0.below hB14 hX0).wide (fun k hk => hk)) r12 hr13) ?_
 rintro v17 w15 ⟨hg16, rfl⟩
 have hC18 := hC6.grown hg10 nb
 refine ⟨(fun _ => hC18.grown hg16 nb), ?_⟩
 refine bindE h0 ?_; clear h0; intro r19 hr20 h0
 have hB21 := bg hB14 hg16 nb
 refine gv_call (f := 92) (vs := [(.slice pa0_0 (List.length s_0) pc0_0), (.int .i64 (IntKind.i64.wrap (at_1 + 3)))]) (cap := []) _ (by decide) rfl rfl rfl (by kernel_rfl) (by kernel_rfl) enters92 (ref4_behind_ok fuel pa0_0 pc0_0 s_0 (IntKind.i64.wrap (at_1 + 3)) w15 (fun k => X0 k) (fun k hk => (fun k (hk : X0 k) => ltl (hX0 k hk) hB21.size) k hk) ((hpa0_0.below hB21 hX0).wide (fun k hk => hk)) r19 hr20) ?_
 rintro v24 w22 ⟨hg23, rfl⟩
 have hC25 := hC18.grown hg16 nb
 refine ⟨(fun _ => hC25.grown hg23 nb), ?_⟩
 refine gv_nil <| gv_goA ?_
 refine gv_pre [17, 18, 19, 20] (bA 21 [0, 1, 2, 3, 4, 5, 6, 7, 8, 9, 10, 11, 12, 13, 14, 15, 16, 17, 18, 19, 20]) 0 (by kernel_rfl) (by kernel_rfl) ?_
 refine gv_pureN 4 [6, 7, 8, 9] [(6, (.int .i64 (IntKind.i64.wrap (((x3).toNat : Int))))), (7, (.int .i64 r7)), (8, (.int .i64 r12)), (9, (.int .i64 r19))] (by kernel_rfl) ?_
 refine gv_nil <| gv_goA ?_
 refine gv_stageE (by kernel_rfl) ?_
 refine gv_seq <| gv_block <| gv_seq <| gv_region <| gv_pureN 3 [29, 30, 31] [(29, (.bool (decide ((IntKind.i64.wrap (((x3).toNat : Int))) < 128))))] (by kernel_rfl) ?_
 refine bindE h0 ?_; clear h0; intro n26 hn27 h0
 refine gv_name (s := 29) (v := (.bool (decide ((IntKind.i64.wrap (((x3).toNat : Int))) < 128)))) (v' := (.bool n26)) (by kernel_rfl) (congrArg (Value.bool) (sj hn27)) ?_
 refine gv_nil <| gv_cond (b := n26) (by kernel_rfl) (fun hc28 => ?_) (fun hc28 => ?_)
 ·replace h0 := ite_t hc28 h0
  refine gv_seq <| gv_region <| gv_pureN 3 [4, 5, 32] [(4, (.int .i64 (IntKind.i64.wrap (((x3).toNat : Int))))), (5, (.int .i64 1))] (by kernel_rfl) ?_
  refine gv_nil <| gv_cret ?_
  have e := sj h0; subst e
  refine gv_ret (gv_done [(.int .i64 (IntKind.i64.wrap (((x3).toNat : Int)))), (.int .i64 1)] rfl ⟨(by kernel_rfl), (by kernel_rfl), trivial⟩ ?_)
  have hB29 := bg hB21 hg23 nb
  exact ⟨grown_of_below hB29, rfl⟩
 ·replace h0 := ite_f hc28 h0
  refine gv_seq <| gv_region <| gv_cut_ops (J := fun a w30 => w22 = w30 ∧ a.defers = [] ∧ a.tmps.size = 120 ∧ Ok [(6, (.int .i64 (IntKind.i64.wrap (((x3).toNat : Int))))), (7, (.int .i64 r7)), (8, (.int .i64 r12)), (9, (.int .i64 r19)), (33, (.bool ((decide ((IntKind.i64.wrap (((x3).toNat : Int))) ≥ 194)) && ((decide ((IntKind.i64.wrap (((x3).toNat : Int))) < 224)) && (decide (r7 ≥ 0))))))] a.tmps) ?_ ?_
  ·skip
   refine gv_pureN 3 [34, 35, 36] [(36, (.bool (decide ((IntKind.i64.wrap (((x3).toNat : Int))) ≥ 194))))] (by kernel_rfl) ?_
   refine gv_split (s := 36) (g := (decide ((IntKind.i64.wrap (((x3).toNat : Int))) ≥ 194))) (by kernel_rfl) (fun hc31 => ?_) (fun hc31 => ?_)
   ·skip
    refine gv_pureN 4 [37, 38, 39, 40] [(40, (.bool (decide ((IntKind.i64.wrap (((x3).toNat : Int))) < 224))))] (by kernel_rfl) ?_
    refine gv_split (s := 40) (g := (decide ((IntKind.i64.wrap (((x3).toNat : Int))) < 224))) (by kernel_rfl) (fun hc32 => ?_) (fun hc32 => ?_)
    ·skip
     refine gv_pureN 4 [33, 41, 42, 43] [(33, (.bool (decide (r7 ≥ 0))))] (by kernel_rfl) ?_
     refine gv_sub [6, 7, 8, 9, 33] (σ' := [(6, (.int .i64 (IntKind.i64.wrap (((x3).toNat : Int))))), (7, (.int .i64 r7)), (8, (.int .i64 r12)), (9, (.int .i64 r19)), (33, (.bool (decide (r7 ≥ 0))))]) (by kernel_rfl) ?_
     refine gv_nil <| gv_sub [6, 7, 8, 9, 33] (σ' := [(6, (.int .i64 (IntKind.i64.wrap (((x3).toNat : Int))))), (7, (.int .i64 r7)), (8, (.int .i64 r12)), (9, (.int .i64 r19)), (33, (.bool (decide (r7 ≥ 0))))]) (by kernel_rfl) ?_
     refine gv_goal fun a hd hs hok => ⟨rfl, hd, hs, ?_⟩
     obtain ⟨q6, q7, q8, q9, q33, _⟩ := hok
     exact ⟨q6, q7, q8, q9, (by rw [hc31, hc32]; exact q33), trivial⟩
    ·skip
     refine gv_pureN 4 [33, 41, 42, 43] [(33, (.bool false))] (by kernel_rfl) ?_
     refine gv_sub [6, 7, 8, 9, 33] (σ' := [(6, (.int .i64 (IntKind.i64.wrap (((x3).toNat : Int))))), (7, (.int .i64 r7)), (8, (.int .i64 r12)), (9, (.int .i64 r19)), (33, (.bool false))]) (by kernel_rfl) ?_
     refine gv_nil <| gv_sub [6, 7, 8, 9, 33] (σ' := [(6, (.int .i64 (IntKind.i64.wrap (((x3).toNat : Int))))), (7, (.int .i64 r7)), (8, (.int .i64 r12)), (9, (.int .i64 r19)), (33, (.bool false))]) (by kernel_rfl) ?_
     refine gv_goal fun a hd hs hok => ⟨rfl, hd, hs, ?_⟩
     obtain ⟨q6, q7, q8, q9, q33, _⟩ := hok
     exact ⟨q6, q7, q8, q9, (by rw [hc31, hc32]; exact q33), trivial⟩
   ·skip
    refine gv_pureN 8 [33, 37, 38, 39, 40, 41, 42, 43] [(33, (.bool false))] (by kernel_rfl) ?_
    refine gv_nil <| gv_sub [6, 7, 8, 9, 33] (σ' := [(6, (.int .i64 (IntKind.i64.wrap (((x3).toNat : Int))))), (7, (.int .i64 r7)), (8, (.int .i64 r12)), (9, (.int .i64 r19)), (33, (.bool false))]) (by kernel_rfl) ?_
    refine gv_goal fun a hd hs hok => ⟨rfl, hd, hs, ?_⟩
    obtain ⟨q6, q7, q8, q9, q33, _⟩ := hok
    exact ⟨q6, q7, q8, q9, (by rw [hc31]; exact q33), trivial⟩
  ·rintro a w30 ⟨e, hd, hs, hok⟩; subst e
   refine gv_in ?_ hd hs hok
   clear hd hs hok
   refine gv_cond (b := ((decide ((IntKind.i64.wrap (((x3).toNat : Int))) ≥ 194)) && ((decide ((IntKind.i64.wrap (((x3).toNat : Int))) < 224)) && (decide (r7 ≥ 0))))) (by kernel_rfl) (fun hc33 => ?_) (fun hc33 => ?_)
   ·replace h0 := ite_t hc33 h0
    refine gv_seq <| gv_region <| gv_pureN 7 [4, 5, 44, 45, 46, 47, 48] [(4, (.int .i64 (IntKind.i64.wrap ((IntKind.i64.wrap ((IntKind.i64.wrap ((IntKind.i64.wrap (((x3).toNat : Int))) - 192)) * 64)) + r7)))), (5, (.int .i64 2))] (by kernel_rfl) ?_
    refine bindE h0 ?_; clear h0; intro n34 hn35 h0
    refine gv_name (s := 4) (v := (.int .i64 (IntKind.i64.wrap ((IntKind.i64.wrap ((IntKind.i64.wrap ((IntKind.i64.wrap (((x3).toNat : Int))) - 192)) * 64)) + r7)))) (v' := (.int .i64 n34)) (by kernel_rfl) (congrArg (Value.int .i64) (sj hn35)) ?_
    refine gv_nil <| gv_cret ?_
    have e := sj h0; subst e
    refine gv_ret (gv_done [(.int .i64 n34), (.int .i64 2)] rfl ⟨(by kernel_rfl), (by kernel_rfl), trivial⟩ ?_)
    have hB36 := bg hB21 hg23 nb
    exact ⟨grown_of_below hB36, rfl⟩
   ·replace h0 := ite_f hc33 h0
    refine gv_seq <| gv_region <| gv_cut_ops (J := fun a w37 => w22 = w37 ∧ a.defers = [] ∧ a.tmps.size = 120 ∧ Ok [(6, (.int .i64 (IntKind.i64.wrap (((x3).toNat : Int))))), (7, (.int .i64 r7)), (8, (.int .i64 r12)), (9, (.int .i64 r19)), (49, (.bool ((decide ((IntKind.i64.wrap (((x3).toNat : Int))) ≥ 224)) && ((decide ((IntKind.i64.wrap (((x3).toNat : Int))) < 240)) && ((decide (r7 ≥ 0)) && (decide (r12 ≥ 0)))))))] a.tmps) ?_ ?_
    ·skip
     refine gv_pureN 3 [50, 51, 52] [(52, (.bool (decide ((IntKind.i64.wrap (((x3).toNat : Int))) ≥ 224))))] (by kernel_rfl) ?_
     refine gv_split (s := 52) (g := (decide ((IntKind.i64.wrap (((x3).toNat : Int))) ≥ 224))) (by kernel_rfl) (fun hc38 => ?_) (fun hc38 => ?_)
     ·skip
      refine gv_pureN 4 [53, 54, 55, 56] [(56, (.bool (decide ((IntKind.i64.wrap (((x3).toNat : Int))) < 240))))] (by kernel_rfl) ?_
      refine gv_split (s := 56) (g := (decide ((IntKind.i64.wrap (((x3).toNat : Int))) < 240))) (by kernel_rfl) (fun hc39 => ?_) (fun hc39 => ?_)
      ·skip
       refine gv_pureN 4 [57, 58, 59, 60] [(60, (.bool (decide (r7 ≥ 0))))] (by kernel_rfl) ?_
       refine gv_sub [6, 7, 8, 9, 60] (σ' := [(6, (.int .i64 (IntKind.i64.wrap (((x3).toNat : Int))))), (7, (.int .i64 r7)), (8, (.int .i64 r12)), (9, (.int .i64 r19)), (60, (.bool (decide (r7 ≥ 0))))]) (by kernel_rfl) ?_
       refine gv_split (s := 60) (g := (decide (r7 ≥ 0))) (by kernel_rfl) (fun hc40 => ?_) (fun hc40 => ?_)
       ·skip
        refine gv_pureN 4 [49, 61, 62, 63] [(49, (.bool (decide (r12 ≥ 0))))] (by kernel_rfl) ?_
        refine gv_nil <| gv_sub [6, 7, 8, 9, 49] (σ' := [(6, (.int .i64 (IntKind.i64.wrap (((x3).toNat : Int))))), (7, (.int .i64 r7)), (8, (.int .i64 r12)), (9, (.int .i64 r19)), (49, (.bool (decide (r12 ≥ 0))))]) (by kernel_rfl) ?_
        refine gv_goal fun a hd hs hok => ⟨rfl, hd, hs, ?_⟩
        obtain ⟨q6, q7, q8, q9, q49, _⟩ := hok
        exact ⟨q6, q7, q8, q9, (by rw [hc38, hc39, hc40]; exact q49), trivial⟩
       ·skip
        refine gv_pureN 4 [49, 61, 62, 63] [(49, (.bool false))] (by kernel_rfl) ?_
        refine gv_nil <| gv_sub [6, 7, 8, 9, 49] (σ' := [(6, (.int .i64 (IntKind.i64.wrap (((x3).toNat : Int))))), (7, (.int .i64 r7)), (8, (.int .i64 r12)), (9, (.int .i64 r19)), (49, (.bool false))]) (by kernel_rfl) ?_
        refine gv_goal fun a hd hs hok => ⟨rfl, hd, hs, ?_⟩
        obtain ⟨q6, q7, q8, q9, q49, _⟩ := hok
        exact ⟨q6, q7, q8, q9, (by rw [hc38, hc39, hc40]; exact q49), trivial⟩
      ·skip
       refine gv_pureN 8 [49, 57, 58, 59, 60, 61, 62, 63] [(49, (.bool false))] (by kernel_rfl) ?_
       refine gv_sub [6, 7, 8, 9, 49] (σ' := [(6, (.int .i64 (IntKind.i64.wrap (((x3).toNat : Int))))), (7, (.int .i64 r7)), (8, (.int .i64 r12)), (9, (.int .i64 r19)), (49, (.bool false))]) (by kernel_rfl) ?_
       refine gv_nil <| gv_sub [6, 7, 8, 9, 49] (σ' := [(6, (.int .i64 (IntKind.i64.wrap (((x3).toNat : Int))))), (7, (.int .i64 r7)), (8, (.int .i64 r12)), (9, (.int .i64 r19)), (49, (.bool false))]) (by kernel_rfl) ?_
       refine gv_goal fun a hd hs hok => ⟨rfl, hd, hs, ?_⟩
       obtain ⟨q6, q7, q8, q9, q49, _⟩ := hok
       exact ⟨q6, q7, q8, q9, (by rw [hc38, hc39]; exact q49), trivial⟩
     ·skip
      refine gv_pureN 12 [49, 53, 54, 55, 56, 57, 58, 59, 60, 61, 62, 63] [(49, (.bool false))] (by kernel_rfl) ?_
      refine gv_nil <| gv_sub [6, 7, 8, 9, 49] (σ' := [(6, (.int .i64 (IntKind.i64.wrap (((x3).toNat : Int))))), (7, (.int .i64 r7)), (8, (.int .i64 r12)), (9, (.int .i64 r19)), (49, (.bool false))]) (by kernel_rfl) ?_
      refine gv_goal fun a hd hs hok => ⟨rfl, hd, hs, ?_⟩
      obtain ⟨q6, q7, q8, q9, q49, _⟩ := hok
      exact ⟨q6, q7, q8, q9, (by rw [hc38]; exact q49), trivial⟩
    ·rintro a w37 ⟨e, hd, hs, hok⟩; subst e
     refine gv_in ?_ hd hs hok
     clear hd hs hok
     refine bindE h0 ?_; clear h0; intro j41 h1 h0
     refine gv_cut_code (J := fun a w43 => ∃ s42 : Unit, j41 = .inl s42 ∧ Below w0.heap.size w0 w43 ∧ w22.heap.size ≤ w43.heap.size ∧ a.defers = [] ∧ a.tmps.size = 120 ∧ Ok [] a.tmps) ?_ ?_
     ·skip
      refine gv_cond (b := ((decide ((IntKind.i64.wrap (((x3).toNat : Int))) ≥ 224)) && ((decide ((IntKind.i64.wrap (((x3).toNat : Int))) < 240)) && ((decide (r7 ≥ 0)) && (decide (r12 ≥ 0)))))) (by kernel_rfl) (fun hc44 => ?_) (fun hc44 => ?_)
      ·replace h1 := ite_t hc44 h1
       refine gv_seq <| gv_region <| gv_pureN 9 [10, 64, 65, 66, 67, 68, 69, 70, 71] [(10, (.int .i64 (IntKind.i64.wrap ((IntKind.i64.wrap ((IntKind.i64.wrap ((IntKind.i64.wrap ((IntKind.i64.wrap (((x3).toNat : Int))) - 224)) * 4096)) + (IntKind.i64.wrap (r7 * 64)))) + r12))))] (by kernel_rfl) ?_
       refine bindE h1 ?_; clear h1; intro n45 hn46 h1
       refine gv_name (s := 10) (v := (.int .i64 (IntKind.i64.wrap ((IntKind.i64.wrap ((IntKind.i64.wrap ((IntKind.i64.wrap ((IntKind.i64.wrap (((x3).toNat : Int))) - 224)) * 4096)) + (IntKind.i64.wrap (r7 * 64)))) + r12)))) (v' := (.int .i64 n45)) (by kernel_rfl) (congrArg (Value.int .i64) (sj hn46)) ?_
       refine gv_nil <| gv_seq <| gv_region <| gv_cut_ops (J := fun a w47 => w22 = w47 ∧ a.defers = [] ∧ a.tmps.size = 120 ∧ Ok [(10, (.int .i64 n45)), (81, (.bool ((decide (n45 ≥ 2048)) && ((decide (n45 < 55296)) || (decide (n45 > 57343))))))] a.tmps) ?_ ?_
       ·skip
        refine gv_pureN 3 [72, 73, 74] [(74, (.bool (decide (n45 ≥ 2048))))] (by kernel_rfl) ?_
        refine gv_split (s := 74) (g := (decide (n45 ≥ 2048))) (by kernel_rfl) (fun hc48 => ?_) (fun hc48 => ?_)
        ·skip
         refine gv_pureN 3 [75, 76, 77] [(77, (.bool (decide (n45 < 55296))))] (by kernel_rfl) ?_
         refine gv_sub [10, 74, 77] (σ' := [(10, (.int .i64 n45)), (74, (.bool true)), (77, (.bool (decide (n45 < 55296))))]) (by kernel_rfl) ?_
         refine gv_split (s := 77) (g := (decide (n45 < 55296))) (by kernel_rfl) (fun hc49 => ?_) (fun hc49 => ?_)
         ·skip
          refine gv_pureN 4 [78, 79, 80, 81] [(81, (.bool true))] (by kernel_rfl) ?_
          refine gv_nil <| gv_sub [10, 81] (σ' := [(10, (.int .i64 n45)), (81, (.bool true))]) (by kernel_rfl) ?_
          refine gv_goal fun a hd hs hok => ⟨rfl, hd, hs, ?_⟩
          obtain ⟨q10, q81, _⟩ := hok
          exact ⟨q10, (by rw [hc48, hc49]; exact q81), trivial⟩
         ·skip
          refine gv_pureN 4 [78, 79, 80, 81] [(81, (.bool (decide (n45 > 57343))))] (by kernel_rfl) ?_
          refine gv_nil <| gv_sub [10, 81] (σ' := [(10, (.int .i64 n45)), (81, (.bool (decide (n45 > 57343))))]) (by kernel_rfl) ?_
          refine gv_goal fun a hd hs hok => ⟨rfl, hd, hs, ?_⟩
          obtain ⟨q10, q81, _⟩ := hok
          exact ⟨q10, (by rw [hc48, hc49]; exact q81), trivial⟩
        ·skip
         refine gv_pureN 7 [75, 76, 77, 78, 79, 80, 81] [(81, (.bool false))] (by kernel_rfl) ?_
         refine gv_sub [10, 81] (σ' := [(10, (.int .i64 n45)), (81, (.bool false))]) (by kernel_rfl) ?_
         refine gv_nil <| gv_sub [10, 81] (σ' := [(10, (.int .i64 n45)), (81, (.bool false))]) (by kernel_rfl) ?_
         refine gv_goal fun a hd hs hok => ⟨rfl, hd, hs, ?_⟩
         obtain ⟨q10, q81, _⟩ := hok
         exact ⟨q10, (by rw [hc48]; exact q81), trivial⟩
       ·rintro a w47 ⟨e, hd, hs, hok⟩; subst e
        refine gv_in ?_ hd hs hok
        clear hd hs hok
        refine gv_cond (b := ((decide (n45 ≥ 2048)) && ((decide (n45 < 55296)) || (decide (n45 > 57343))))) (by kernel_rfl) (fun hc50 => ?_) (fun hc50 => ?_)
        ·replace h1 := ite_t hc50 h1
         refine gv_seq <| gv_region <| gv_pureN 3 [4, 5, 82] [(4, (.int .i64 n45)), (5, (.int .i64 3))] (by kernel_rfl) ?_
         refine gv_nil <| gv_cret ?_
         have e := sj h1; subst e
         replace h0 := cont_inr h0
         have e := sj h0; subst e
         refine gv_ret (gv_done [(.int .i64 n45), (.int .i64 3)] rfl ⟨(by kernel_rfl), (by kernel_rfl), trivial⟩ ?_)
         have hB51 := bg hB21 hg23 nb
         exact ⟨grown_of_below hB51, rfl⟩
        ·replace h1 := ite_f hc50 h1
         refine gv_skip ?_
         have e := sj h1; subst e
         refine gv_goal fun a hd hs hok => ?_
         have hB52 := bg hB21 hg23 nb
         exact ⟨(), rfl, hB52, (Nat.le_refl _), hd, hs, ok_pick [] hok (by kernel_rfl)⟩
      ·replace h1 := ite_f hc44 h1
       refine gv_seq <| gv_region <| gv_cut_ops (J := fun a w53 => w22 = w53 ∧ a.defers = [] ∧ a.tmps.size = 120 ∧ Ok [(6, (.int .i64 (IntKind.i64.wrap (((x3).toNat : Int))))), (7, (.int .i64 r7)), (8, (.int .i64 r12)), (9, (.int .i64 r19)), (83, (.bool ((decide ((IntKind.i64.wrap (((x3).toNat : Int))) ≥ 240)) && ((decide ((IntKind.i64.wrap (((x3).toNat : Int))) < 245)) && ((decide (r7 ≥ 0)) && ((decide (r12 ≥ 0)) && (decide (r19 ≥ 0))))))))] a.tmps) ?_ ?_
       ·skip
        refine gv_pureN 3 [84, 85, 86] [(86, (.bool (decide ((IntKind.i64.wrap (((x3).toNat : Int))) ≥ 240))))] (by kernel_rfl) ?_
        refine gv_split (s := 86) (g := (decide ((IntKind.i64.wrap (((x3).toNat : Int))) ≥ 240))) (by kernel_rfl) (fun hc54 => ?_) (fun hc54 => ?_)
        ·skip
         refine gv_pureN 4 [87, 88, 89, 90] [(90, (.bool (decide ((IntKind.i64.wrap (((x3).toNat : Int))) < 245))))] (by kernel_rfl) ?_
         refine gv_split (s := 90) (g := (decide ((IntKind.i64.wrap (((x3).toNat : Int))) < 245))) (by kernel_rfl) (fun hc55 => ?_) (fun hc55 => ?_)
         ·skip
          refine gv_pureN 4 [91, 92, 93, 94] [(94, (.bool (decide (r7 ≥ 0))))] (by kernel_rfl) ?_
          refine gv_sub [6, 7, 8, 9, 94] (σ' := [(6, (.int .i64 (IntKind.i64.wrap (((x3).toNat : Int))))), (7, (.int .i64 r7)), (8, (.int .i64 r12)), (9, (.int .i64 r19)), (94, (.bool (decide (r7 ≥ 0))))]) (by kernel_rfl) ?_
          refine gv_split (s := 94) (g := (decide (r7 ≥ 0))) (by kernel_rfl) (fun hc56 => ?_) (fun hc56 => ?_)
          ·skip
           refine gv_pureN 4 [95, 96, 97, 98] [(98, (.bool (decide (r12 ≥ 0))))] (by kernel_rfl) ?_
           refine gv_split (s := 98) (g := (decide (r12 ≥ 0))) (by kernel_rfl) (fun hc57 => ?_) (fun hc57 => ?_)
           ·skip
            refine gv_pureN 4 [83, 99, 100, 101] [(83, (.bool (decide (r19 ≥ 0))))] (by kernel_rfl) ?_
            refine gv_nil <| gv_sub [6, 7, 8, 9, 83] (σ' := [(6, (.int .i64 (IntKind.i64.wrap (((x3).toNat : Int))))), (7, (.int .i64 r7)), (8, (.int .i64 r12)), (9, (.int .i64 r19)), (83, (.bool (decide (r19 ≥ 0))))]) (by kernel_rfl) ?_
            refine gv_goal fun a hd hs hok => ⟨rfl, hd, hs, ?_⟩
            obtain ⟨q6, q7, q8, q9, q83, _⟩ := hok
            exact ⟨q6, q7, q8, q9, (by rw [hc54, hc55, hc56, hc57]; exact q83), trivial⟩
           ·skip
            refine gv_pureN 4 [83, 99, 100, 101] [(83, (.bool false))] (by kernel_rfl) ?_
            refine gv_nil <| gv_sub [6, 7, 8, 9, 83] (σ' := [(6, (.int .i64 (IntKind.i64.wrap (((x3).toNat : Int))))), (7, (.int .i64 r7)), (8, (.int .i64 r12)), (9, (.int .i64 r19)), (83, (.bool false))]) (by kernel_rfl) ?_
            refine gv_goal fun a hd hs hok => ⟨rfl, hd, hs, ?_⟩
            obtain ⟨q6, q7, q8, q9, q83, _⟩ := hok
            exact ⟨q6, q7, q8, q9, (by rw [hc54, hc55, hc56, hc57]; exact q83), trivial⟩
          ·skip
           refine gv_pureN 8 [83, 95, 96, 97, 98, 99, 100, 101] [(83, (.bool false))] (by kernel_rfl) ?_
           refine gv_nil <| gv_sub [6, 7, 8, 9, 83] (σ' := [(6, (.int .i64 (IntKind.i64.wrap (((x3).toNat : Int))))), (7, (.int .i64 r7)), (8, (.int .i64 r12)), (9, (.int .i64 r19)), (83, (.bool false))]) (by kernel_rfl) ?_
           refine gv_goal fun a hd hs hok => ⟨rfl, hd, hs, ?_⟩
           obtain ⟨q6, q7, q8, q9, q83, _⟩ := hok
           exact ⟨q6, q7, q8, q9, (by rw [hc54, hc55, hc56]; exact q83), trivial⟩
         ·skip
          refine gv_pureN 12 [83, 91, 92, 93, 94, 95, 96, 97, 98, 99, 100, 101] [(83, (.bool false))] (by kernel_rfl) ?_
          refine gv_sub [6, 7, 8, 9, 83] (σ' := [(6, (.int .i64 (IntKind.i64.wrap (((x3).toNat : Int))))), (7, (.int .i64 r7)), (8, (.int .i64 r12)), (9, (.int .i64 r19)), (83, (.bool false))]) (by kernel_rfl) ?_
          refine gv_nil <| gv_sub [6, 7, 8, 9, 83] (σ' := [(6, (.int .i64 (IntKind.i64.wrap (((x3).toNat : Int))))), (7, (.int .i64 r7)), (8, (.int .i64 r12)), (9, (.int .i64 r19)), (83, (.bool false))]) (by kernel_rfl) ?_
          refine gv_goal fun a hd hs hok => ⟨rfl, hd, hs, ?_⟩
          obtain ⟨q6, q7, q8, q9, q83, _⟩ := hok
          exact ⟨q6, q7, q8, q9, (by rw [hc54, hc55]; exact q83), trivial⟩
        ·skip
         refine gv_pureN 16 [83, 87, 88, 89, 90, 91, 92, 93, 94, 95, 96, 97, 98, 99, 100, 101] [(83, (.bool false))] (by kernel_rfl) ?_
         refine gv_nil <| gv_sub [6, 7, 8, 9, 83] (σ' := [(6, (.int .i64 (IntKind.i64.wrap (((x3).toNat : Int))))), (7, (.int .i64 r7)), (8, (.int .i64 r12)), (9, (.int .i64 r19)), (83, (.bool false))]) (by kernel_rfl) ?_
         refine gv_goal fun a hd hs hok => ⟨rfl, hd, hs, ?_⟩
         obtain ⟨q6, q7, q8, q9, q83, _⟩ := hok
         exact ⟨q6, q7, q8, q9, (by rw [hc54]; exact q83), trivial⟩
       ·rintro a w53 ⟨e, hd, hs, hok⟩; subst e
        refine gv_in ?_ hd hs hok
        clear hd hs hok
        refine gv_cond (b := ((decide ((IntKind.i64.wrap (((x3).toNat : Int))) ≥ 240)) && ((decide ((IntKind.i64.wrap (((x3).toNat : Int))) < 245)) && ((decide (r7 ≥ 0)) && ((decide (r12 ≥ 0)) && (decide (r19 ≥ 0))))))) (by kernel_rfl) (fun hc58 => ?_) (fun hc58 => ?_)
        ·replace h1 := ite_t hc58 h1
         refine gv_seq <| gv_region <| gv_pureN 12 [11, 102, 103, 104, 105, 106, 107, 108, 109, 110, 111, 112] [(11, (.int .i64 (IntKind.i64.wrap ((IntKind.i64.wrap ((IntKind.i64.wrap ((IntKind.i64.wrap ((IntKind.i64.wrap ((IntKind.i64.wrap (((x3).toNat : Int))) - 240)) * 262144)) + (IntKind.i64.wrap (r7 * 4096)))) + (IntKind.i64.wrap (r12 * 64)))) + r19))))] (by kernel_rfl) ?_
         refine bindE h1 ?_; clear h1; intro n59 hn60 h1
         refine gv_name (s := 11) (v := (.int .i64 (IntKind.i64.wrap ((IntKind.i64.wrap ((IntKind.i64.wrap ((IntKind.i64.wrap ((IntKind.i64.wrap ((IntKind.i64.wrap (((x3).toNat : Int))) - 240)) * 262144)) + (IntKind.i64.wrap (r7 * 4096)))) + (IntKind.i64.wrap (r12 * 64)))) + r19)))) (v' := (.int .i64 n59)) (by kernel_rfl) (congrArg (Value.int .i64) (sj hn60)) ?_
         refine gv_nil <| gv_seq <| gv_region <| gv_cut_ops (J := fun a w61 => w22 = w61 ∧ a.defers = [] ∧ a.tmps.size = 120 ∧ Ok [(11, (.int .i64 n59)), (118, (.bool ((decide (n59 ≥ 65536)) && (decide (n59 ≤ 1114111)))))] a.tmps) ?_ ?_
         ·skip
          refine gv_pureN 3 [113, 114, 115] [(115, (.bool (decide (n59 ≥ 65536))))] (by kernel_rfl) ?_
          refine gv_split (s := 115) (g := (decide (n59 ≥ 65536))) (by kernel_rfl) (fun hc62 => ?_) (fun hc62 => ?_)
          ·skip
           refine gv_pureN 3 [116, 117, 118] [(118, (.bool (decide (n59 ≤ 1114111))))] (by kernel_rfl) ?_
           refine gv_sub [11, 118] (σ' := [(11, (.int .i64 n59)), (118, (.bool (decide (n59 ≤ 1114111))))]) (by kernel_rfl) ?_
           refine gv_nil <| gv_sub [11, 118] (σ' := [(11, (.int .i64 n59)), (118, (.bool (decide (n59 ≤ 1114111))))]) (by kernel_rfl) ?_
           refine gv_goal fun a hd hs hok => ⟨rfl, hd, hs, ?_⟩
           obtain ⟨q11, q118, _⟩ := hok
           exact ⟨q11, (by rw [hc62]; exact q118), trivial⟩
          ·skip
           refine gv_pureN 3 [116, 117, 118] [(118, (.bool false))] (by kernel_rfl) ?_
           refine gv_sub [11, 118] (σ' := [(11, (.int .i64 n59)), (118, (.bool false))]) (by kernel_rfl) ?_
           refine gv_nil <| gv_sub [11, 118] (σ' := [(11, (.int .i64 n59)), (118, (.bool false))]) (by kernel_rfl) ?_
           refine gv_goal fun a hd hs hok => ⟨rfl, hd, hs, ?_⟩
           obtain ⟨q11, q118, _⟩ := hok
           exact ⟨q11, (by rw [hc62]; exact q118), trivial⟩
         ·rintro a w61 ⟨e, hd, hs, hok⟩; subst e
          refine gv_in ?_ hd hs hok
          clear hd hs hok
          refine gv_cond (b := ((decide (n59 ≥ 65536)) && (decide (n59 ≤ 1114111)))) (by kernel_rfl) (fun hc63 => ?_) (fun hc63 => ?_)
          ·replace h1 := ite_t hc63 h1
           refine gv_seq <| gv_region <| gv_pureN 3 [4, 5, 119] [(4, (.int .i64 n59)), (5, (.int .i64 4))] (by kernel_rfl) ?_
           refine gv_nil <| gv_cret ?_
           have e := sj h1; subst e
           replace h0 := cont_inr h0
           have e := sj h0; subst e
           refine gv_ret (gv_done [(.int .i64 n59), (.int .i64 4)] rfl ⟨(by kernel_rfl), (by kernel_rfl), trivial⟩ ?_)
           have hB64 := bg hB21 hg23 nb
           exact ⟨grown_of_below hB64, rfl⟩
          ·replace h1 := ite_f hc63 h1
           refine gv_skip ?_
           have e := sj h1; subst e
           refine gv_goal fun a hd hs hok => ?_
           have hB65 := bg hB21 hg23 nb
           exact ⟨(), rfl, hB65, (Nat.le_refl _), hd, hs, ok_pick [] hok (by kernel_rfl)⟩
        ·replace h1 := ite_f hc58 h1
         refine gv_skip ?_
         have e := sj h1; subst e
         refine gv_goal fun a hd hs hok => ?_
         have hB66 := bg hB21 hg23 nb
         exact ⟨(), rfl, hB66, (Nat.le_refl _), hd, hs, ok_pick [] hok (by kernel_rfl)⟩
     ·rintro a w43 ⟨s42, e, hB67, hz68, hd, hs, hok⟩
      subst e
      refine gv_in ?_ hd hs hok
      clear hd hs hok
      replace h0 := cont_inl h0
      clear hc33 hc28 hn27 hC25 hg23 hB21 hr20 hC18 hg16 hB14 hr13 hg10 hr8 hC6 hB5 hx4 hg2
      refine gv_blk <| gv_seq <| gv_region <| gv_pureN 2 [4, 5] [(4, (.int .i64 0)), (5, (.int .i64 0))] (by kernel_rfl) ?_
      refine gv_nil <| gv_cret ?_
      have e := sj h0; subst e
      refine gv_ret (gv_done [(.int .i64 0), (.int .i64 0)] rfl ⟨(by kernel_rfl), (by kernel_rfl), trivial⟩ ?_)
      exact ⟨grown_of_below hB67, rfl⟩

theorem ref4_Points_ok (fuel : Nat) (s_0 : ByteArray) (w0 : World)  (r0 : ((List Int) × Bool)) (h0 : ref4_Points fuel s_0 = some r0) :
    Calls Tryd.prog 24 ([(.string s_0)] : List Value).toArray w0 (Ret fun v w' => w0.grownBy w' none ∧ ∃ (a0_0r : Option Addr) (c0_0r : Nat), v = tup [(.slice a0_0r (List.length r0.1) c0_0r), (.bool r0.2)] ∧ Gv.Own (iE .i64) 3 w' (fun _ => False) a0_0r c0_0r r0.1 ∧ (∀ g, blk a0_0r = some g → w0.heap.size ≤ g)) := by
 have hB0 : Below w0.heap.size w0 w0 := Below.refl _ _
 unfold ref4_Points at h0
 refine calls_run Tryd.func24 rfl Tryd.ntmps24 (by kernel_rfl) ?_
 refine gv_sub [0] (σ' := [(0, (.string s_0))]) (by kernel_rfl) ?_
 refine gv_seq <| gv_region <| gv_pureN 2 [2, 3] [] (by kernel_rfl) ?_
 refine gv_nil <| gv_seq <| gv_region <| gv_pureN 1 [4] [(4, (.slice none (List.length ([] : List Int)) 0))] (by kernel_rfl) ?_
 refine gv_nil <| gv_seq <| gv_seq <| gv_region <| gv_pureN 1 [5] [(5, (.int .i64 0))] (by kernel_rfl) ?_
 refine gv_nil <| bindE h0 ?_; clear h0; intro j1 h1 h0
 refine gv_cut_code (J := fun a w3 => ∃ s2 : (List Int), j1 = .inl s2 ∧ ∃ (a4_0j : Option Addr) (c4_0j : Nat), Below w0.heap.size w0 w3 ∧ w0.heap.size ≤ w3.heap.size ∧ Gv.Own (iE .i64) 3 w3 (fun _ => False) a4_0j c4_0j s2 ∧ (∀ g, blk a4_0j = some g → w0.heap.size ≤ g) ∧ a.defers = [] ∧ a.tmps.size = 29 ∧ Ok [(4, (.slice a4_0j (List.length s2) c4_0j))] a.tmps) ?_ ?_
 ·skip
  refine gv_block <| gv_loop (A := fun (s4 : ((List Int) × Int)) a w5 => ∃ (a4_0j : Option Addr) (c4_0j : Nat), Below w0.heap.size w0 w5 ∧ w0.heap.size ≤ w5.heap.size ∧ Gv.Own (iE .i64) 3 w5 (fun _ => False) a4_0j c4_0j s4.1 ∧ (∀ g, blk a4_0j = some g → w0.heap.size ≤ g) ∧ a.defers = [] ∧ a.tmps.size = 29 ∧ Ok [(0, (.string s_0)), (4, (.slice a4_0j (List.length s4.1) c4_0j)), (5, (.int .i64 s4.2))] a.tmps) h1 ?_ ?_
  ·intro a hd hs hok
   exact ⟨none, 0, hB0, (Nat.le_refl _), (Gv.Own.nil (iE .i64) 3 w0 (fun _ => False)), (fun _ h => by cases h), hd, hs, ok_pick [0, 4, 5] hok (by kernel_rfl)⟩
  ·rintro s4 r2 h2 hR2 a w5 ⟨a8, c9, hB6, hz7, ho10, hl11, hd, hs, hok⟩
   refine gv_in ?_ hd hs hok
   clear hd hs hok
   refine gv_seq <| gv_seq <| gv_region <| gv_pureN 4 [8, 9, 10, 11] [(11, (.bool (decide (s4.2 < ((ByteArray.size s_0 : Nat) : Int)))))] (by kernel_rfl) ?_
   refine gv_nil <| gv_cond (b := (decide (s4.2 < ((ByteArray.size s_0 : Nat) : Int)))) (by kernel_rfl) (fun hc12 => ?_) (fun hc12 => ?_)
   ·replace h2 := ite_t hc12 h2
    refine gv_skip <| gv_block <| gv_seq <| gv_region <| gv_pureN 1 [13] [(13, (.string s_0))] (by kernel_rfl) ?_
    refine gv_s2b (src := 9) (dst := 82) (e := 5) (s := s_0) (by decide) rfl rfl (by kernel_rfl) (by kernel_rfl) Tryd.underlying9 Tryd.underlying82 Tryd.underlying5 ?_
    rintro a13 c14 w15 hg16 hr17 hz19
    refine ⟨(fun e => by cases e), ?_⟩
    have hx20 : ∀ k, k = w5.heap.size → k < w15.heap.size := lts hz19
    have hx21 : ∀ k, k = w5.heap.size → (fun _ => False) k ∨ w0.heap.size ≤ k := fun k hk => .inr (lowe hB6.size k hk)
    refine gv_pureN 1 [15] [(15, (.int .i64 s4.2))] (by kernel_rfl) ?_
    refine bindE h2 ?_; clear h2; intro r22 hr23 h2
    refine gv_call0 (by kernel_rfl) rfl (by kernel_rfl) enters67 (ref4_unit_ok fuel a13 c14 (bytesOf s_0) s4.2 w15 (fun k => (· = w5.heap.size) k) (fun k hk => hx20 k hk) (hr17.wide (fun k hk => hk)) r22 hr23) ?_
    rintro v26 w24 ⟨hg25, rfl⟩
    refine gv_pureN 5 [6, 7, 12, 17, 18] [(6, (.int .i64 r22.1)), (7, (.int .i64 r22.2))] (by kernel_rfl) ?_
    refine gv_nil <| gv_seq <| gv_seq <| gv_region <| gv_pureN 2 [19, 20] [(20, (.bool (r22.2 == 0)))] (by kernel_rfl) ?_
    refine gv_nil <| gv_cond (b := (r22.2 == 0)) (by kernel_rfl) (fun hc27 => ?_) (fun hc27 => ?_)
    ·replace h2 := ite_t hc27 h2
     refine gv_seq <| gv_region <| gv_pureN 2 [2, 3] [(2, (.slice none (List.length ([] : List Int)) 0)), (3, (.bool false))] (by kernel_rfl) ?_
     refine gv_nil <| gv_cret ?_
     have e := sj h2; subst e
     replace h1 := congrArg some (hR2 _ rfl)
     have e := sj h1; subst e
     replace h0 := cont_inr h0
     have e := sj h0; subst e
     refine gv_ret (gv_done [(.slice none (List.length ([] : List Int)) 0), (.bool false)] rfl ⟨(by kernel_rfl), (by kernel_rfl), trivial⟩ ?_)
     have hg28 := (grown_trans hg16 hg25)
     have hB29 := bg hB6 hg28 nb
     exact ⟨grown_of_below hB29, none, 0, rfl, (Gv.Own.nil (iE .i64) 3 w24 (fun _ => False)), (fun _ h => by cases h)⟩
    ·replace h2 := ite_f hc27 h2
     refine gv_skip <| gv_seq <| gv_region <| gv_pureN 2 [21, 22] [(21, (.slice a8 (List.length s4.1) c9)), (22, (.int .i64 r22.1))] (by kernel_rfl) ?_
     refine gv_new0 (fun b => .slice (some ⟨b, 0, none⟩) 1 1) #[(.int .i64 r22.1)] 3 (by kernel_rfl) (by kernel_rfl) ?_
     intro b30 w31 hg32 hb33 hbe34 hz35
     have ho36 : Gv.Own (iE .i64) 3 w31 (fun _ => False) (some ⟨b30, 0, none⟩) 1 ([r22.1] : List Int) := Box.ownE hb33 ⟨[(.int .i64 r22.1)], [], rfl, rfl, rfl⟩ (show 1 ≤ maxLen by decide) (fun h => h)
     have hg41 := (grown_trans hg16 hg25)
     have hB42 := bg hB6 hg41 nb
     have hl37 : ∀ g, blk (some ⟨b30, 0, none⟩) = some g → w0.heap.size ≤ g := loo hbe34 hB42.size
     refine bindE h2 ?_; clear h2; intro l43 hx44 h2
     have hg51 := (grown_trans hg41 hg32)
     have hk52 := ho10.grown hg51 (fun _ h => h.elim) nb
     refine gv_append (iE .i64) (t := 38) (ty := 38) (e := 3) (a := a8) (ax := (some ⟨b30, 0, none⟩)) (cap := c9) (cx := 1) (xs := s4.1) (ys := ([r22.1] : List Int)) l43 (X := (fun _ => False)) (Y := (fun k => blk (some ⟨b30, 0, none⟩) = some k)) (by decide) rfl rfl (by kernel_rfl) (by kernel_rfl) Tryd.underlying38 info3 hk52 (ho36.rd (Y := fun k => blk (some ⟨b30, 0, none⟩) = some k) (fun _ h => h.elim) (fun g e => e)) hx44 (.inr fun _ _ _ _ _ h => h) (fun _ h => h.elim) ?_
     intro a45 c46 w47 hg48 ho49 hk50
     refine ⟨(fun e => by cases e), ?_⟩
     have hB54 := bg hB42 hg32 nb
     have hl53 : ∀ g, blk a45 = some g → w0.heap.size ≤ g := blk_step hk50 hl11 hB54.size
     have ap56 : ∀ g, blk a8 = some g → ¬ (· = w5.heap.size) g := fun g e hx => nl ((lowe (Nat.le_refl w5.heap.size)) _ hx) ((fun k (hk : blk a8 = some k) => ho10.lt k hk) g e)
     have hg57 := (grown_trans hg25 hg32)
     have hx58 := ltx hx20 hg57.size
     have ap55 : ∀ g, blk a45 = some g → ¬ (· = w5.heap.size) g := blk_neX hk50 ap56 hx58
     have hk60 := ho10.grown hg41 (fun _ h => h.elim) nb
     have ap61 : ∀ g, blk a8 = some g → ¬ (fun k => blk (some ⟨b30, 0, none⟩) = some k) g := fun g e hx => nl ((lowo hbe34) _ hx) ((fun k (hk : blk a8 = some k) => hk60.lt k hk) g e)
     have ap59 : ∀ g, blk a45 = some g → ¬ (fun k => blk (some ⟨b30, 0, none⟩) = some k) g := blk_neX hk50 ap61 (fun k (hk : blk (some ⟨b30, 0, none⟩) = some k) => ho36.lt k hk)
     have ap63 : ∀ g, blk (some ⟨b30, 0, none⟩) = some g → ¬ (fun k => blk a8 = some k) g := fun g e hx => nl ((lowo hbe34) g e) ((fun k (hk : blk a8 = some k) => hk60.lt k hk) _ hx)
     have ap62 : ∀ g, blk (some ⟨b30, 0, none⟩) = some g → ¬ (fun k => blk a45 = some k) g := fun g e h => blk_rev hk50 (fun h => ((ap63) g e) h) (ho36.lt g e) h
     refine gv_pureN 1 [4] [(4, (.slice a45 (List.length l43) c46))] (by kernel_rfl) ?_
     refine gv_nil <| gv_region <| gv_pureN 4 [5, 25, 26, 27] [(5, (.int .i64 (IntKind.i64.wrap (s4.2 + r22.2))))] (by kernel_rfl) ?_
     refine gv_nil <| gv_blk ?_
     have e := sj h2; subst e
     refine gv_goal fun a hd hs hok => ?_
     have hB64 := bg hB54 hg48 hl11
     have hz65 := (nt (nt (nt (nt hz7 hg16.size) hg25.size) hg32.size) hg48.size)
     exact ⟨(l43, (IntKind.i64.wrap (s4.2 + r22.2))), rfl, a45, c46, hB64, hz65, ho49, hl53, hd, hs, ok_pick [0, 4, 5] hok (by kernel_rfl)⟩
   ·replace h2 := ite_f hc12 h2
    refine gv_cexit <| gv_exit rfl ?_
    have e := sj h2; subst e
    replace h1 := congrArg some (hR2 _ rfl)
    have e := sj h1; subst e
    refine gv_goal fun a hd hs hok => ?_
    have hz66 := hz7
    exact ⟨s4.1, rfl, a8, c9, hB6, hz66, ho10, hl11, hd, hs, ok_pick [4] hok (by kernel_rfl)⟩
 ·rintro a w3 ⟨s2, e, a69, c70, hB67, hz68, ho71, hl72, hd, hs, hok⟩
  subst e
  refine gv_in ?_ hd hs hok
  clear hd hs hok
  replace h0 := cont_inl h0
  refine gv_seq <| gv_region <| gv_pureN 3 [2, 3, 28] [(2, (.slice a69 (List.length s2) c70)), (3, (.bool true))] (by kernel_rfl) ?_
  refine gv_nil <| gv_cret ?_
  have e := sj h0; subst e
  refine gv_ret (gv_done [(.slice a69 (List.length s2) c70), (.bool true)] rfl ⟨(by kernel_rfl), (by kernel_rfl), trivial⟩ ?_)
  exact ⟨grown_of_below hB67, a69, c70, rfl, ho71, hl72⟩

theorem ref4_TextOk_ok (fuel : Nat) (s_0 : ByteArray) (w0 : World)  (r0 : Bool) (h0 : ref4_TextOk fuel s_0 = some r0) :
    Calls Tryd.prog 31 ([(.string s_0)] : List Value).toArray w0 (Ret fun v w' => w0.grownBy w' none ∧ v = tup [(.bool r0)]) := by
 have hB0 : Below w0.heap.size w0 w0 := Below.refl _ _
 unfold ref4_TextOk at h0
 refine calls_run Tryd.func31 rfl Tryd.ntmps31 (by kernel_rfl) ?_
 refine gv_sub [0] (σ' := [(0, (.string s_0))]) (by kernel_rfl) ?_
 refine gv_seq <| gv_region <| gv_pureN 1 [2] [] (by kernel_rfl) ?_
 refine gv_nil <| gv_seq <| gv_region <| gv_pureN 1 [6] [(6, (.string s_0))] (by kernel_rfl) ?_
 refine bindE h0 ?_; clear h0; intro r1 hr2 h0
 refine gv_call0 (by kernel_rfl) rfl (by kernel_rfl) enters24 (ref4_Points_ok fuel s_0 w0  r1 hr2) ?_
 rintro v5 w3 ⟨hg4, a6, c7, rfl, ho8, hl9⟩
 have hl10 : ∀ g, blk a6 = some g → w0.heap.size ≤ g := fun g e => Nat.le_trans hB0.size (hl9 g e)
 refine gv_pureN 5 [3, 4, 5, 8, 9] [(4, (.bool r1.2))] (by kernel_rfl) ?_
 refine gv_nil <| gv_seq <| gv_region <| gv_cut_ops (J := fun a w11 => w3 = w11 ∧ a.defers = [] ∧ a.tmps.size = 16 ∧ Ok [(2, (.bool (r1.2 && (decide (((ByteArray.size s_0 : Nat) : Int) ≤ 4000)))))] a.tmps) ?_ ?_
 ·skip
  refine gv_pureN 2 [10, 11] [(11, (.bool r1.2))] (by kernel_rfl) ?_
  refine gv_split (s := 11) (g := r1.2) (by kernel_rfl) (fun hc12 => ?_) (fun hc12 => ?_)
  ·skip
   refine gv_pureN 5 [2, 12, 13, 14, 15] [(2, (.bool (decide (((ByteArray.size s_0 : Nat) : Int) ≤ 4000))))] (by kernel_rfl) ?_
   refine gv_nil <| gv_sub [2] (σ' := [(2, (.bool (decide (((ByteArray.size s_0 : Nat) : Int) ≤ 4000))))]) (by kernel_rfl) ?_
   refine gv_goal fun a hd hs hok => ⟨rfl, hd, hs, ?_⟩
   obtain ⟨q2, _⟩ := hok
   exact ⟨(by rw [hc12]; exact q2), trivial⟩
  ·skip
   refine gv_pureN 5 [2, 12, 13, 14, 15] [(2, (.bool false))] (by kernel_rfl) ?_
   refine gv_nil <| gv_sub [2] (σ' := [(2, (.bool false))]) (by kernel_rfl) ?_
   refine gv_goal fun a hd hs hok => ⟨rfl, hd, hs, ?_⟩
   obtain ⟨q2, _⟩ := hok
   exact ⟨(by rw [hc12]; exact q2), trivial⟩
 ·rintro a w11 ⟨e, hd, hs, hok⟩; subst e
  refine gv_in ?_ hd hs hok
  clear hd hs hok
  refine gv_cret ?_
  have e := sj h0; subst e
  refine gv_ret (gv_done [(.bool (r1.2 && (decide (((ByteArray.size s_0 : Nat) : Int) ≤ 4000))))] rfl ⟨(by kernel_rfl), trivial⟩ ?_)
  have hB13 := bg hB0 hg4 nb
  exact ⟨grown_of_below hB13, rfl⟩

theorem ref4_At_ok (fuel : Nat) (code_0 : Int) (index_1 : Int) (w0 : World)  (r0 : (Int × Int)) (h0 : ref4_At fuel code_0 index_1 = some r0) :
    Calls Tryd.prog 29 ([(.int .i64 code_0), (.int .i64 index_1)] : List Value).toArray w0 (Ret fun v w' => w0.grownBy w' none ∧ v = tup [(.agg #[(.int .i64 r0.1), (.int .i64 r0.2)])]) := by
 have hB0 : Below w0.heap.size w0 w0 := Below.refl _ _
 unfold ref4_At at h0
 refine calls_run Tryd.func29 rfl Tryd.ntmps29 (by kernel_rfl) ?_
 refine gv_sub [0, 1] (σ' := [(0, (.int .i64 code_0)), (1, (.int .i64 index_1))]) (by kernel_rfl) ?_
 refine gv_seq <| gv_region <| gv_new0 (fun b => .pointer (some ⟨b, 0, none⟩)) #[(.int .i64 0), (.int .i64 0)] 24 (by kernel_rfl) (by kernel_rfl) ?_
 intro b1 w2 hg3 hb4 hbe5 hz6
 refine gv_nil <| gv_seq <| gv_region <| gv_pureN 3 [5, 6, 7] [(7, (.agg #[(.int .i64 code_0), (.int .i64 index_1)]))] (by kernel_rfl) ?_
 refine gv_store0 24 0 (.agg #[(.int .i64 code_0), (.int .i64 index_1)]) #[(.int .i64 code_0), (.int .i64 index_1)] hb4 (by kernel_rfl) (by kernel_rfl) (by kernel_rfl) ?_
 intro w7 hg8 hb9 hz10
 refine gv_nil <| gv_cret ?_
 have e := sj h0; subst e
 refine gv_ret (gv_done [(.agg #[(.int .i64 code_0), (.int .i64 index_1)])] rfl ⟨⟨⟨b1, 0, none⟩, (by kernel_rfl), run_loadVar_row w7 b1 _ 24 _ _ _ hb9 Tryd.underlying24 rfl (by kernel_rfl)⟩, trivial⟩ ?_)
 have hB11 := bg hB0 hg3 nb
 have hlo12 : w0.heap.size ≤ b1 := lob hbe5 hB0.size
 have hB13 := bg hB11 hg8 (rowlo hlo12)
 exact ⟨grown_of_below hB13, rfl⟩

theorem ref4_TextFaults_ok (fuel : Nat) (pa0_0 : Option Addr) (pc0_0 : Nat) (l_0 : (List ByteArray)) (w0 : World) (X0 : Nat → Prop) (hX0 : ∀ k, X0 k → k < w0.heap.size) (hpa0_0 : Rd sE w0 X0 pa0_0 pc0_0 l_0) (r0 : (Int × Int)) (h0 : ref4_TextFaults fuel l_0 = some r0) :
    Calls Tryd.prog 23 ([(.slice pa0_0 (List.length l_0) pc0_0)] : List Value).toArray w0 (Ret fun v w' => w0.grownBy w' none ∧ v = tup [(.agg #[(.int .i64 r0.1), (.int .i64 r0.2)])]) := by
 have hB0 : Below w0.heap.size w0 w0 := Below.refl _ _
 unfold ref4_TextFaults at h0
 refine calls_run Tryd.func23 rfl Tryd.ntmps23 (by kernel_rfl) ?_
 refine gv_sub [0] (σ' := [(0, (.slice pa0_0 (List.length l_0) pc0_0))]) (by kernel_rfl) ?_
 refine gv_seq <| gv_region <| gv_new0 (fun b => .pointer (some ⟨b, 0, none⟩)) #[(.int .i64 0), (.int .i64 0)] 24 (by kernel_rfl) (by kernel_rfl) ?_
 intro b1 w2 hg3 hb4 hbe5 hz6
 refine gv_nil <| gv_seq <| gv_seq <| gv_region <| gv_pureN 1 [3] [(3, (.int .i64 0))] (by kernel_rfl) ?_
 refine gv_nil <| bindE h0 ?_; clear h0; intro j7 h1 h0
 refine gv_cut_code (J := fun a w9 => ∃ s8 : (Int × Int), j7 = .inl s8 ∧ Below w0.heap.size w0 w9 ∧ w2.heap.size ≤ w9.heap.size ∧ Box w9 b1 24 #[(.int .i64 s8.1), (.int .i64 s8.2)] ∧ a.defers = [] ∧ a.tmps.size = 20 ∧ Ok [(2, (bp b1))] a.tmps) ?_ ?_
 ·skip
  refine gv_block <| gv_loop (A := fun (s10 : (Int × (Int × Int))) a w11 => Below w0.heap.size w0 w11 ∧ w2.heap.size ≤ w11.heap.size ∧ Box w11 b1 24 #[(.int .i64 s10.2.1), (.int .i64 s10.2.2)] ∧ a.defers = [] ∧ a.tmps.size = 20 ∧ Ok [(0, (.slice pa0_0 (List.length l_0) pc0_0)), (2, (bp b1)), (3, (.int .i64 s10.1))] a.tmps) h1 ?_ ?_
  ·intro a hd hs hok
   have hB12 := bg hB0 hg3 nb
   exact ⟨hB12, (Nat.le_refl _), hb4, hd, hs, ok_pick [0, 2, 3] hok (by kernel_rfl)⟩
  ·rintro s10 r2 h2 hR2 a w11 ⟨hB13, hz14, hb15, hd, hs, hok⟩
   refine gv_in ?_ hd hs hok
   clear hd hs hok
   refine gv_seq <| gv_seq <| gv_region <| gv_pureN 4 [4, 5, 6, 7] [(7, (.bool (decide (s10.1 < ((List.length l_0 : Nat) : Int)))))] (by kernel_rfl) ?_
   refine gv_nil <| gv_cond (b := (decide (s10.1 < ((List.length l_0 : Nat) : Int)))) (by kernel_rfl) (fun hc16 => ?_) (fun hc16 => ?_)
   ·replace h2 := ite_t hc16 h2
    refine gv_skip <| gv_seq <| gv_block <| gv_seq <| gv_region <| gv_pureN 2 [10, 11] [(10, (.slice pa0_0 (List.length l_0) pc0_0)), (11, (.int .i64 s10.1))] (by kernel_rfl) ?_
    refine bindE h2 ?_; clear h2; intro x17 hx18 h2
    refine gv_idxaddr (t := 22) (e := 9) (a := pa0_0) (len := List.length l_0) (cap := pc0_0) (kk := .i64) (i := s10.1) (sz := 1) [] (fun e => by cases e) rfl rfl rfl (by kernel_rfl) (by kernel_rfl) Tryd.underlying22 (by kernel_rfl) ((hpa0_0.below hB13 hX0).has hx18) (idx_spec hx18).1 (idx_spec hx18).2.1 rfl ?_
    refine gv_load (t := 9) (A := (elemAddr pa0_0 ((s10.1 : Int).toNat * 1))) (.string x17) [] (fun e => by cases e) rfl rfl rfl (by kernel_rfl) (by kernel_rfl) (by kernel_rfl) (inw0 ((hpa0_0.below hB13 hX0).cell hx18)) rfl ?_
    refine bindE h2 ?_; clear h2; intro r19 hr20 h2
    refine gv_call0 (by kernel_rfl) rfl (by kernel_rfl) enters31 (ref4_TextOk_ok fuel x17 w11  r19 hr20) ?_
    rintro v23 w21 ⟨hg22, rfl⟩
    refine gv_pureN 1 [15] [(15, (.bool (!r19)))] (by kernel_rfl) ?_
    refine gv_nil <| gv_cond (b := (!r19)) (by kernel_rfl) (fun hc24 => ?_) (fun hc24 => ?_)
    ·replace h2 := ite_t hc24 h2
     refine gv_seq <| gv_region <| gv_pureN 2 [16, 17] [(17, (.int .i64 (IntKind.i64.wrap ((-1) - s10.1))))] (by kernel_rfl) ?_
     refine bindE h2 ?_; clear h2; intro r25 hr26 h2
     refine gv_call0 (by kernel_rfl) rfl (by kernel_rfl) enters29 (ref4_At_ok fuel 6 (IntKind.i64.wrap ((-1) - s10.1)) w21  r25 hr26) ?_
     rintro v29 w27 ⟨hg28, rfl⟩
     have hg34 := (grown_trans hg22 hg28)
     have hk35 := hb15.grown hg34 nb
     refine gv_store0 24 0 (.agg #[(.int .i64 r25.1), (.int .i64 r25.2)]) #[(.int .i64 r25.1), (.int .i64 r25.2)] hk35 (by kernel_rfl) (by kernel_rfl) (by kernel_rfl) ?_
     intro w30 hg31 hb32 hz33
     refine gv_nil <| gv_cret ?_
     have e := sj h2; subst e
     replace h1 := congrArg some (hR2 _ rfl)
     have e := sj h1; subst e
     replace h0 := cont_inr h0
     have e := sj h0; subst e
     refine gv_ret (gv_done [(.agg #[(.int .i64 r25.1), (.int .i64 r25.2)])] rfl ⟨⟨⟨b1, 0, none⟩, (by kernel_rfl), run_loadVar_row w30 b1 _ 24 _ _ _ hb32 Tryd.underlying24 rfl (by kernel_rfl)⟩, trivial⟩ ?_)
     have hB36 := bg hB13 hg34 nb
     have hlo37 : w0.heap.size ≤ b1 := lob hbe5 hB0.size
     have hB38 := bg hB36 hg31 (rowlo hlo37)
     exact ⟨grown_of_below hB38, rfl⟩
    ·replace h2 := ite_f hc24 h2
     refine gv_skip <| gv_blk <| gv_region <| gv_pureN 3 [3, 8, 9] [(3, (.int .i64 (IntKind.i64.wrap (s10.1 + 1))))] (by kernel_rfl) ?_
     refine gv_nil ?_
     have e := sj h2; subst e
     refine gv_goal fun a hd hs hok => ?_
     have hB39 := bg hB13 hg22 nb
     have hz40 := (nt hz14 hg22.size)
     have hk41 := hb15.grown hg22 nb
     exact ⟨((IntKind.i64.wrap (s10.1 + 1)), (s10.2.1, s10.2.2)), rfl, hB39, hz40, hk41, hd, hs, ok_pick [0, 2, 3] hok (by kernel_rfl)⟩
   ·replace h2 := ite_f hc16 h2
    refine gv_cexit <| gv_exit rfl ?_
    have e := sj h2; subst e
    replace h1 := congrArg some (hR2 _ rfl)
    have e := sj h1; subst e
    refine gv_goal fun a hd hs hok => ?_
    have hz42 := hz14
    exact ⟨(s10.2.1, s10.2.2), rfl, hB13, hz42, hb15, hd, hs, ok_pick [2] hok (by kernel_rfl)⟩
 ·rintro a w9 ⟨s8, e, hB43, hz44, hb45, hd, hs, hok⟩
  subst e
  refine gv_in ?_ hd hs hok
  clear hd hs hok
  replace h0 := cont_inl h0
  clear hz44 hz6 hb4 hg3
  refine gv_seq <| gv_region <| gv_pureN 1 [19] [(19, (.agg #[(.int .i64 0), (.int .i64 0)]))] (by kernel_rfl) ?_
  refine gv_store0 24 0 (.agg #[(.int .i64 0), (.int .i64 0)]) #[(.int .i64 0), (.int .i64 0)] hb45 (by kernel_rfl) (by kernel_rfl) (by kernel_rfl) ?_
  intro w46 hg47 hb48 hz49
  refine gv_nil <| gv_cret ?_
  have e := sj h0; subst e
  refine gv_ret (gv_done [(.agg #[(.int .i64 0), (.int .i64 0)])] rfl ⟨⟨⟨b1, 0, none⟩, (by kernel_rfl), run_loadVar_row w46 b1 _ 24 _ _ _ hb48 Tryd.underlying24 rfl (by kernel_rfl)⟩, trivial⟩ ?_)
  have hlo50 : w0.heap.size ≤ b1 := lob hbe5 hB0.size
  have hB51 := bg hB43 hg47 (rowlo hlo50)
  exact ⟨grown_of_below hB51, rfl⟩

theorem ref4_Blank_ok (fuel : Nat) (c_0 : Int) (w0 : World)  (r0 : Bool) (h0 : ref4_Blank fuel c_0 = some r0) :
    Calls Tryd.prog 54 ([(.int .i64 c_0)] : List Value).toArray w0 (Ret fun v w' => w0.grownBy w' none ∧ v = tup [(.bool r0)]) := by
 have hB0 : Below w0.heap.size w0 w0 := Below.refl _ _
 unfold ref4_Blank at h0
 refine calls_run Tryd.func54 rfl Tryd.ntmps54 (by kernel_rfl) ?_
 refine gv_sub [0] (σ' := [(0, (.int .i64 c_0))]) (by kernel_rfl) ?_
 refine gv_seq <| gv_region <| gv_pureN 1 [2] [] (by kernel_rfl) ?_
 refine gv_nil <| gv_seq <| gv_region <| gv_cut_ops (J := fun a w1 => w0 = w1 ∧ a.defers = [] ∧ a.tmps.size = 13 ∧ Ok [(2, (.bool ((c_0 == 32) || ((c_0 == 9) || (c_0 == 10)))))] a.tmps) ?_ ?_
 ·skip
  refine gv_pureN 3 [3, 4, 5] [(5, (.bool (c_0 == 32)))] (by kernel_rfl) ?_
  refine gv_split (s := 5) (g := (c_0 == 32)) (by kernel_rfl) (fun hc2 => ?_) (fun hc2 => ?_)
  ·skip
   refine gv_pureN 8 [2, 6, 7, 8, 9, 10, 11, 12] [(2, (.bool true))] (by kernel_rfl) ?_
   refine gv_nil <| gv_sub [2] (σ' := [(2, (.bool true))]) (by kernel_rfl) ?_
   refine gv_goal fun a hd hs hok => ⟨rfl, hd, hs, ?_⟩
   obtain ⟨q2, _⟩ := hok
   exact ⟨(by rw [hc2]; exact q2), trivial⟩
  ·skip
   refine gv_pureN 4 [6, 7, 8, 9] [(9, (.bool (c_0 == 9)))] (by kernel_rfl) ?_
   refine gv_split (s := 9) (g := (c_0 == 9)) (by kernel_rfl) (fun hc3 => ?_) (fun hc3 => ?_)
   ·skip
    refine gv_pureN 4 [2, 10, 11, 12] [(2, (.bool true))] (by kernel_rfl) ?_
    refine gv_nil <| gv_sub [2] (σ' := [(2, (.bool true))]) (by kernel_rfl) ?_
    refine gv_goal fun a hd hs hok => ⟨rfl, hd, hs, ?_⟩
    obtain ⟨q2, _⟩ := hok
    exact ⟨(by rw [hc2, hc3]; exact q2), trivial⟩
   ·skip
    refine gv_pureN 4 [2, 10, 11, 12] [(2, (.bool (c_0 == 10)))] (by kernel_rfl) ?_
    refine gv_nil <| gv_sub [2] (σ' := [(2, (.bool (c_0 == 10)))]) (by kernel_rfl) ?_
    refine gv_goal fun a hd hs hok => ⟨rfl, hd, hs, ?_⟩
    obtain ⟨q2, _⟩ := hok
    exact ⟨(by rw [hc2, hc3]; exact q2), trivial⟩
 ·rintro a w1 ⟨e, hd, hs, hok⟩; subst e
  refine gv_in ?_ hd hs hok
  clear hd hs hok
  refine gv_cret ?_
  have e := sj h0; subst e
  refine gv_ret (gv_done [(.bool ((c_0 == 32) || ((c_0 == 9) || (c_0 == 10))))] rfl ⟨(by kernel_rfl), trivial⟩ ?_)
  exact ⟨grown_of_below hB0, rfl⟩

theorem ref4_Encoded_ok (fuel : Nat) (pa0_0 : Option Addr) (pc0_0 : Nat) (l_0 : (List Int)) (w0 : World) (X0 : Nat → Prop) (hX0 : ∀ k, X0 k → k < w0.heap.size) (hpa0_0 : Rd (iE .i64) w0 X0 pa0_0 pc0_0 l_0) (r0 : (List UInt8)) (h0 : ref4_Encoded fuel l_0 = some r0) :
    Calls Tryd.prog 68 ([(.slice pa0_0 (List.length l_0) pc0_0)] : List Value).toArray w0 (Ret fun v w' => w0.grownBy w' none ∧ ∃ (a0_0r : Option Addr) (c0_0r : Nat), v = tup [(.slice a0_0r (List.length r0) c0_0r)] ∧ Gv.Own bE 5 w' (fun _ => False) a0_0r c0_0r r0 ∧ (∀ g, blk a0_0r = some g → w0.heap.size ≤ g)) := by
 have hB0 : Below w0.heap.size w0 w0 := Below.refl _ _
 unfold ref4_Encoded at h0
 refine calls_run Tryd.func68 rfl Tryd.ntmps68 (by kernel_rfl) ?_
 refine gv_sub [0] (σ' := [(0, (.slice pa0_0 (List.length l_0) pc0_0))]) (by kernel_rfl) ?_
 refine gv_seq <| gv_region <| gv_pureN 1 [2] [] (by kernel_rfl) ?_
 refine gv_nil <| gv_seq <| gv_region <| gv_pureN 1 [3] [(3, (.slice none (List.length ([] : List UInt8)) 0))] (by kernel_rfl) ?_
 refine gv_nil <| gv_seq <| gv_seq <| gv_region <| gv_pureN 1 [4] [(4, (.int .i64 0))] (by kernel_rfl) ?_
 refine gv_nil <| bindE h0 ?_; clear h0; intro j1 h1 h0
 refine gv_cut_code (J := fun a w2 => ∃ (a3_0j : Option Addr) (c3_0j : Nat), Below w0.heap.size w0 w2 ∧ w0.heap.size ≤ w2.heap.size ∧ Gv.Own bE 5 w2 (fun _ => False) a3_0j c3_0j j1 ∧ (∀ g, blk a3_0j = some g → w0.heap.size ≤ g) ∧ a.defers = [] ∧ a.tmps.size = 79 ∧ Ok [(3, (.slice a3_0j (List.length j1) c3_0j))] a.tmps) ?_ ?_
 ·skip
  refine gv_block <| gv_loop (A := fun (s3 : ((List UInt8) × Int)) a w4 => ∃ (a3_0j : Option Addr) (c3_0j : Nat), Below w0.heap.size w0 w4 ∧ w0.heap.size ≤ w4.heap.size ∧ Gv.Own bE 5 w4 (fun _ => False) a3_0j c3_0j s3.1 ∧ (∀ g, blk a3_0j = some g → w0.heap.size ≤ g) ∧ a.defers = [] ∧ a.tmps.size = 79 ∧ Ok [(0, (.slice pa0_0 (List.length l_0) pc0_0)), (3, (.slice a3_0j (List.length s3.1) c3_0j)), (4, (.int .i64 s3.2))] a.tmps) h1 ?_ ?_
  ·intro a hd hs hok
   exact ⟨none, 0, hB0, (Nat.le_refl _), (Gv.Own.nil bE 5 w0 (fun _ => False)), (fun _ h => by cases h), hd, hs, ok_pick [0, 3, 4] hok (by kernel_rfl)⟩
  ·rintro s3 r2 h2 hR2 a w4 ⟨a7, c8, hB5, hz6, ho9, hl10, hd, hs, hok⟩
   refine gv_in ?_ hd hs hok
   clear hd hs hok
   refine gv_seq <| gv_seq <| gv_region <| gv_pureN 4 [6, 7, 8, 9] [(9, (.bool (decide (s3.2 < ((List.length l_0 : Nat) : Int)))))] (by kernel_rfl) ?_
   refine gv_nil <| gv_cond (b := (decide (s3.2 < ((List.length l_0 : Nat) : Int)))) (by kernel_rfl) (fun hc11 => ?_) (fun hc11 => ?_)
   ·replace h2 := ite_t hc11 h2
    refine gv_skip <| gv_seq <| gv_block <| gv_seq <| gv_region <| gv_pureN 2 [12, 13] [(12, (.slice pa0_0 (List.length l_0) pc0_0)), (13, (.int .i64 s3.2))] (by kernel_rfl) ?_
    refine bindE h2 ?_; clear h2; intro x12 hx13 h2
    refine gv_idxaddr (t := 38) (e := 3) (a := pa0_0) (len := List.length l_0) (cap := pc0_0) (kk := .i64) (i := s3.2) (sz := 1) [] (fun e => by cases e) rfl rfl rfl (by kernel_rfl) (by kernel_rfl) Tryd.underlying38 (by kernel_rfl) ((hpa0_0.below hB5 hX0).has hx13) (idx_spec hx13).1 (idx_spec hx13).2.1 rfl ?_
    refine gv_load (t := 3) (A := (elemAddr pa0_0 ((s3.2 : Int).toNat * 1))) (.int .i64 x12) [] (fun e => by cases e) rfl rfl rfl (by kernel_rfl) (by kernel_rfl) (by kernel_rfl) (inw0 ((hpa0_0.below hB5 hX0).cell hx13)) rfl ?_
    refine gv_pureN 1 [5] [(5, (.int .i64 x12))] (by kernel_rfl) ?_
    refine gv_nil <| gv_block <| gv_seq <| gv_region <| gv_pureN 3 [37, 38, 39] [(37, (.bool (decide (x12 < 128))))] (by kernel_rfl) ?_
    refine gv_nil <| bindE h2 ?_; clear h2; intro j14 h3 h2
    refine gv_cut_code (J := fun a w15 => ∃ (a3_0j : Option Addr) (c3_0j : Nat), Below w0.heap.size w0 w15 ∧ w4.heap.size ≤ w15.heap.size ∧ Gv.Own bE 5 w15 (fun _ => False) a3_0j c3_0j j14 ∧ (∀ g, blk a3_0j = some g → w0.heap.size ≤ g) ∧ a.defers = [] ∧ a.tmps.size = 79 ∧ Ok [(0, (.slice pa0_0 (List.length l_0) pc0_0)), (3, (.slice a3_0j (List.length j14) c3_0j)), (4, (.int .i64 s3.2))] a.tmps) ?_ ?_
    ·skip
     refine gv_cond (b := (decide (x12 < 128))) (by kernel_rfl) (fun hc16 => ?_) (fun hc16 => ?_)
     ·replace h3 := ite_t hc16 h3
      refine gv_region <| gv_pureN 3 [40, 41, 42] [(40, (.slice a7 (List.length s3.1) c8)), (42, (.int .u8 (IntKind.u8.wrap (x12))))] (by kernel_rfl) ?_
      refine bindE h3 ?_; clear h3; intro b17 hb18 h3
      have hu19 := u8_spec hb18
      refine gv_new0 (fun b => .slice (some ⟨b, 0, none⟩) 1 1) #[(.int .u8 (IntKind.u8.wrap (x12)))] 5 (by kernel_rfl) (by kernel_rfl) ?_
      intro b20 w21 hg22 hb23 hbe24 hz25
      have ho26 : Gv.Own bE 5 w21 (fun _ => False) (some ⟨b20, 0, none⟩) 1 ([b17] : List UInt8) := Box.ownE hb23 ⟨[(.int .u8 (IntKind.u8.wrap (x12)))], [], rfl, (by simp only [bE, flat, hu19]), rfl⟩ (show 1 ≤ maxLen by decide) (fun h => h)
      have hl27 : ∀ g, blk (some ⟨b20, 0, none⟩) = some g → w0.heap.size ≤ g := loo hbe24 hB5.size
      refine bindE h3 ?_; clear h3; intro l31 hx32 h3
      have hk39 := ho9.grown hg22 (fun _ h => h.elim) nb
      refine gv_append bE (t := 82) (ty := 82) (e := 5) (a := a7) (ax := (some ⟨b20, 0, none⟩)) (cap := c8) (cx := 1) (xs := s3.1) (ys := ([b17] : List UInt8)) l31 (X := (fun _ => False)) (Y := (fun k => blk (some ⟨b20, 0, none⟩) = some k)) (by decide) rfl rfl (by kernel_rfl) (by kernel_rfl) Tryd.underlying82 info5 hk39 (ho26.rd (Y := fun k => blk (some ⟨b20, 0, none⟩) = some k) (fun _ h => h.elim) (fun g e => e)) hx32 (.inr fun _ _ _ _ _ h => h) (fun _ h => h.elim) ?_
      intro a33 c34 w35 hg36 ho37 hk38
      refine ⟨(fun e => by cases e), ?_⟩
      have hB41 := bg hB5 hg22 nb
      have hl40 : ∀ g, blk a33 = some g → w0.heap.size ≤ g := blk_step hk38 hl10 hB41.size
      have ap43 : ∀ g, blk a7 = some g → ¬ (fun k => blk (some ⟨b20, 0, none⟩) = some k) g := fun g e hx => nl ((lowo hbe24) _ hx) ((fun k (hk : blk a7 = some k) => ho9.lt k hk) g e)
      have ap42 : ∀ g, blk a33 = some g → ¬ (fun k => blk (some ⟨b20, 0, none⟩) = some k) g := blk_neX hk38 ap43 (fun k (hk : blk (some ⟨b20, 0, none⟩) = some k) => ho26.lt k hk)
      have ap45 : ∀ g, blk (some ⟨b20, 0, none⟩) = some g → ¬ (fun k => blk a7 = some k) g := fun g e hx => nl ((lowo hbe24) g e) ((fun k (hk : blk a7 = some k) => ho9.lt k hk) _ hx)
      have ap44 : ∀ g, blk (some ⟨b20, 0, none⟩) = some g → ¬ (fun k => blk a33 = some k) g := fun g e h => blk_rev hk38 (fun h => ((ap45) g e) h) (ho26.lt g e) h
      refine gv_pureN 1 [3] [(3, (.slice a33 (List.length l31) c34))] (by kernel_rfl) ?_
      refine gv_nil ?_
      have e := sj h3; subst e
      refine gv_goal fun a hd hs hok => ?_
      have hB46 := bg hB41 hg36 hl10
      have hz47 := (nt hg22.size hg36.size)
      exact ⟨a33, c34, hB46, hz47, ho37, hl40, hd, hs, ok_pick [0, 3, 4] hok (by kernel_rfl)⟩
     ·replace h3 := ite_f hc16 h3
      refine gv_seq <| gv_region <| gv_pureN 3 [45, 46, 47] [(45, (.bool (decide (x12 < 2048))))] (by kernel_rfl) ?_
      refine gv_nil <| gv_cond (b := (decide (x12 < 2048))) (by kernel_rfl) (fun hc48 => ?_) (fun hc48 => ?_)
      ·replace h3 := ite_t hc48 h3
       refine gv_region <| gv_pureN 9 [48, 49, 50, 51, 52, 53, 54, 55, 56] [(48, (.slice a7 (List.length s3.1) c8)), (52, (.int .u8 (IntKind.u8.wrap ((IntKind.i64.wrap (192 + (IntKind.i64.wrap ((x12).tdiv 64)))))))), (56, (.int .u8 (IntKind.u8.wrap ((IntKind.i64.wrap (128 + ((x12).tmod 64)))))))] (by kernel_rfl) ?_
       refine bindE h3 ?_; clear h3; intro b49 hb50 h3
       have hu51 := u8_spec hb50
       refine bindE h3 ?_; clear h3; intro b52 hb53 h3
       have hu54 := u8_spec hb53
       refine gv_new0 (fun b => .slice (some ⟨b, 0, none⟩) 2 2) #[(.int .u8 (IntKind.u8.wrap ((IntKind.i64.wrap (192 + (IntKind.i64.wrap ((x12).tdiv 64))))))), (.int .u8 (IntKind.u8.wrap ((IntKind.i64.wrap (128 + ((x12).tmod 64))))))] 5 (by kernel_rfl) (by kernel_rfl) ?_
       intro b55 w56 hg57 hb58 hbe59 hz60
       have ho61 : Gv.Own bE 5 w56 (fun _ => False) (some ⟨b55, 0, none⟩) 2 ([b49, b52] : List UInt8) := Box.ownE hb58 ⟨[(.int .u8 (IntKind.u8.wrap ((IntKind.i64.wrap (192 + (IntKind.i64.wrap ((x12).tdiv 64)))))))], [(.int .u8 (IntKind.u8.wrap ((IntKind.i64.wrap (128 + ((x12).tmod 64))))))], rfl, (by simp only [bE, flat, hu51]), ⟨[(.int .u8 (IntKind.u8.wrap ((IntKind.i64.wrap (128 + ((x12).tmod 64))))))], [], rfl, (by simp only [bE, flat, hu54]), rfl⟩⟩ (show 2 ≤ maxLen by decide) (fun h => h)
       have hl62 : ∀ g, blk (some ⟨b55, 0, none⟩) = some g → w0.heap.size ≤ g := loo hbe59 hB5.size
       refine bindE h3 ?_; clear h3; intro l66 hx67 h3
       have hk74 := ho9.grown hg57 (fun _ h => h.elim) nb
       refine gv_append bE (t := 82) (ty := 82) (e := 5) (a := a7) (ax := (some ⟨b55, 0, none⟩)) (cap := c8) (cx := 2) (xs := s3.1) (ys := ([b49, b52] : List UInt8)) l66 (X := (fun _ => False)) (Y := (fun k => blk (some ⟨b55, 0, none⟩) = some k)) (by decide) rfl rfl (by kernel_rfl) (by kernel_rfl) Tryd.underlying82 info5 hk74 (ho61.rd (Y := fun k => blk (some ⟨b55, 0, none⟩) = some k) (fun _ h => h.elim) (fun g e => e)) hx67 (.inr fun _ _ _ _ _ h => h) (fun _ h => h.elim) ?_
       intro a68 c69 w70 hg71 ho72 hk73
       refine ⟨(fun e => by cases e), ?_⟩
       have hB76 := bg hB5 hg57 nb
       have hl75 : ∀ g, blk a68 = some g → w0.heap.size ≤ g := blk_step hk73 hl10 hB76.size
       have ap78 : ∀ g, blk a7 = some g → ¬ (fun k => blk (some ⟨b55, 0, none⟩) = some k) g := fun g e hx => nl ((lowo hbe59) _ hx) ((fun k (hk : blk a7 = some k) => ho9.lt k hk) g e)
       have ap77 : ∀ g, blk a68 = some g → ¬ (fun k => blk (some ⟨b55, 0, none⟩) = some k) g := blk_neX hk73 ap78 (fun k (hk : blk (some ⟨b55, 0, none⟩) = some k) => ho61.lt k hk)
       have ap80 : ∀ g, blk (some ⟨b55, 0, none⟩) = some g → ¬ (fun k => blk a7 = some k) g := fun g e hx => nl ((lowo hbe59) g e) ((fun k (hk : blk a7 = some k) => ho9.lt k hk) _ hx)
       have ap79 : ∀ g, blk (some ⟨b55, 0, none⟩) = some g → ¬ (fun k => blk a68 = some k) g := fun g e h => blk_rev hk73 (fun h => ((ap80) g e) h) (ho61.lt g e) h
       refine gv_pureN 1 [3] [(3, (.slice a68 (List.length l66) c69))] (by kernel_rfl) ?_
       refine gv_nil ?_
       have e := sj h3; subst e
       refine gv_goal fun a hd hs hok => ?_
       have hB81 := bg hB76 hg71 hl10
       have hz82 := (nt hg57.size hg71.size)
       exact ⟨a68, c69, hB81, hz82, ho72, hl75, hd, hs, ok_pick [0, 3, 4] hok (by kernel_rfl)⟩
      ·replace h3 := ite_f hc48 h3
       refine gv_seq <| gv_region <| gv_pureN 3 [59, 60, 61] [(59, (.bool (decide (x12 < 65536))))] (by kernel_rfl) ?_
       refine gv_nil <| gv_cond (b := (decide (x12 < 65536))) (by kernel_rfl) (fun hc83 => ?_) (fun hc83 => ?_)
       ·replace h3 := ite_t hc83 h3
        refine gv_region <| gv_pureN 14 [62, 63, 64, 65, 66, 67, 68, 69, 70, 71, 72, 73, 74, 75] [(62, (.slice a7 (List.length s3.1) c8)), (66, (.int .u8 (IntKind.u8.wrap ((IntKind.i64.wrap (224 + (IntKind.i64.wrap ((x12).tdiv 4096)))))))), (71, (.int .u8 (IntKind.u8.wrap ((IntKind.i64.wrap (128 + (((IntKind.i64.wrap ((x12).tdiv 64))).tmod 64))))))), (75, (.int .u8 (IntKind.u8.wrap ((IntKind.i64.wrap (128 + ((x12).tmod 64)))))))] (by kernel_rfl) ?_
        refine bindE h3 ?_; clear h3; intro b84 hb85 h3
        have hu86 := u8_spec hb85
        refine bindE h3 ?_; clear h3; intro b87 hb88 h3
        have hu89 := u8_spec hb88
        refine bindE h3 ?_; clear h3; intro b90 hb91 h3
        have hu92 := u8_spec hb91
        refine gv_new0 (fun b => .slice (some ⟨b, 0, none⟩) 3 3) #[(.int .u8 (IntKind.u8.wrap ((IntKind.i64.wrap (224 + (IntKind.i64.wrap ((x12).tdiv 4096))))))), (.int .u8 (IntKind.u8.wrap ((IntKind.i64.wrap (128 + (((IntKind.i64.wrap ((x12).tdiv 64))).tmod 64)))))), (.int .u8 (IntKind.u8.wrap ((IntKind.i64.wrap (128 + ((x12).tmod 64))))))] 5 (by kernel_rfl) (by kernel_rfl) ?_
        intro b93 w94 hg95 hb96 hbe97 hz98
        have ho99 : Gv.Own bE 5 w94 (fun _ => False) (some ⟨b93, 0, none⟩) 3 ([b84, b87, b90] : List UInt8) := Box.ownE hb96 ⟨[(.int .u8 (IntKind.u8.wrap ((IntKind.i64.wrap (224 + (IntKind.i64.wrap ((x12).tdiv 4096)))))))], [(.int .u8 (IntKind.u8.wrap ((IntKind.i64.wrap (128 + (((IntKind.i64.wrap ((x12).tdiv 64))).tmod 64)))))), (.int .u8 (IntKind.u8.wrap ((IntKind.i64.wrap (128 + ((x12).tmod 64))))))], rfl, (by simp only [bE, flat, hu86]), ⟨[(.int .u8 (IntKind.u8.wrap ((IntKind.i64.wrap (128 + (((IntKind.i64.wrap ((x12).tdiv 64))).tmod 64))))))], [(.int .u8 (IntKind.u8.wrap ((IntKind.i64.wrap (128 + ((x12).tmod 64))))))], rfl, (by simp only [bE, flat, hu89]), ⟨[(.int .u8 (IntKind.u8.wrap ((IntKind.i64.wrap (128 + ((x12).tmod 64))))))], [], rfl, (by simp only [bE, flat, hu92]), rfl⟩⟩⟩ (show 3 ≤ maxLen by decide) (fun h => h)
        have hl100 : ∀ g, blk (some ⟨b93, 0, none⟩) = some g → w0.heap.size ≤ g := loo hbe97 hB5.size
        refine bindE h3 ?_; clear h3; intro l104 hx105 h3
        have hk112 := ho9.grown hg95 (fun _ h => h.elim) nb
        refine gv_append bE (t := 82) (ty := 82) (e := 5) (a := a7) (ax := (some ⟨b93, 0, none⟩)) (cap := c8) (cx := 3) (xs := s3.1) (ys := ([b84, b87, b90] : List UInt8)) l104 (X := (fun _ => False)) (Y := (fun k => blk (some ⟨b93, 0, none⟩) = some k)) (by decide) rfl rfl (by kernel_rfl) (by kernel_rfl) Tryd.underlying82 info5 hk112 (ho99.rd (Y := fun k => blk (some ⟨b93, 0, none⟩) = some k) (fun _ h => h.elim) (fun g e => e)) hx105 (.inr fun _ _ _ _ _ h => h) (fun _ h => h.elim) ?_
        intro a106 c107 w108 hg109 ho110 hk111
        refine ⟨(fun e => by cases e), ?_⟩
        have hB114 := bg hB5 hg95 nb
        have hl113 : ∀ g, blk a106 = some g → w0.heap.size ≤ g := blk_step hk111 hl10 hB114.size
        have ap116 : ∀ g, blk a7 = some g → ¬ (fun k => blk (some ⟨b93, 0, none⟩) = some k) g := fun g e hx => nl ((lowo hbe97) _ hx) ((fun k (hk : blk a7 = some k) => ho9.lt k hk) g e)
        have ap115 : ∀ g, blk a106 = some g → ¬ (fun k => blk (some ⟨b93, 0, none⟩) = some k) g := blk_neX hk111 ap116 (fun k (hk : blk (some ⟨b93, 0, none⟩) = some k) => ho99.lt k hk)
        have ap118 : ∀ g, blk (some ⟨b93, 0, none⟩) = some g → ¬ (fun k => blk a7 = some k) g := fun g e hx => nl ((lowo hbe97) g e) ((fun k (hk : blk a7 = some k) => ho9.lt k hk) _ hx)
        have ap117 : ∀ g, blk (some ⟨b93, 0, none⟩) = some g → ¬ (fun k => blk a106 = some k) g := fun g e h => blk_rev hk111 (fun h => ((ap118) g e) h) (ho99.lt g e) h
        refine gv_pureN 1 [3] [(3, (.slice a106 (List.length l104) c107))] (by kernel_rfl) ?_
        refine gv_nil ?_
        have e := sj h3; subst e
        refine gv_goal fun a hd hs hok => ?_
        have hB119 := bg hB114 hg109 hl10
        have hz120 := (nt hg95.size hg109.size)
        exact ⟨a106, c107, hB119, hz120, ho110, hl113, hd, hs, ok_pick [0, 3, 4] hok (by kernel_rfl)⟩
       ·replace h3 := ite_f hc83 h3
        refine gv_region <| gv_pureN 19 [16, 17, 18, 19, 20, 21, 22, 23, 24, 25, 26, 27, 28, 29, 30, 31, 32, 33, 34] [(16, (.slice a7 (List.length s3.1) c8)), (20, (.int .u8 (IntKind.u8.wrap ((IntKind.i64.wrap (240 + (IntKind.i64.wrap ((x12).tdiv 262144)))))))), (25, (.int .u8 (IntKind.u8.wrap ((IntKind.i64.wrap (128 + (((IntKind.i64.wrap ((x12).tdiv 4096))).tmod 64))))))), (30, (.int .u8 (IntKind.u8.wrap ((IntKind.i64.wrap (128 + (((IntKind.i64.wrap ((x12).tdiv 64))).tmod 64))))))), (34, (.int .u8 (IntKind.u8.wrap ((IntKind.i64.wrap (128 + ((x12).tmod 64)))))))] (by kernel_rfl) ?_
        refine bindE h3 ?_; clear h3; intro b121 hb122 h3
        have hu123 := u8_spec hb122
        refine bindE h3 ?_; clear h3; intro b124 hb125 h3
        have hu126 := u8_spec hb125
        refine bindE h3 ?_; clear h3; intro b127 hb128 h3
        have hu129 := u8_spec hb128
        refine bindE h3 ?_; clear h3; intro b130 hb131 h3
        have hu132 := u8_spec hb131
        refine gv_new0 (fun b => .slice (some ⟨b, 0, none⟩) 4 4) #[(.int .u8 (IntKind.u8.wrap ((IntKind.i64.wrap (240 + (IntKind.i64.wrap ((x12).tdiv 262144))))))), (.int .u8 (IntKind.u8.wrap ((IntKind.i64.wrap (128 + (((IntKind.i64.wrap ((x12).tdiv 4096))).tmod 64)))))), (.int .u8 (IntKind.u8.wrap ((IntKind.i64.wrap (128 + (((IntKind.i64.wrap ((x12).tdiv 64))).tmod 64)))))), (.int .u8 (IntKind.u8.wrap ((IntKind.i64.wrap (128 + ((x12).tmod 64))))))] 5 (by kernel_rfl) (by kernel_rfl) ?_
        intro b133 w134 hg135 hb136 hbe137 hz138
        have ho139 : Gv.Own bE 5 w134 (fun _ => False) (some ⟨b133, 0, none⟩) 4 ([b121, b124, b127, b130] : List UInt8) := Box.ownE hb136 ⟨[(.int .u8 (IntKind.u8.wrap ((IntKind.i64.wrap (240 + (IntKind.i64.wrap ((x12).tdiv 262144)))))))], [(.int .u8 (IntKind.u8.wrap ((IntKind.i64.wrap (128 + (((IntKind.i64.wrap ((x12).tdiv 4096))).tmod 64)))))), (.int .u8 (IntKind.u8.wrap ((IntKind.i64.wrap (128 + (((IntKind.i64.wrap ((x12).tdiv 64))).tmod 64)))))), (.int .u8 (IntKind.u8.wrap ((IntKind.i64.wrap (128 + ((x12).tmod 64))))))], rfl, (by simp only [bE, flat, hu123]), ⟨[(.int .u8 (IntKind.u8.wrap ((IntKind.i64.wrap (128 + (((IntKind.i64.wrap ((x12).tdiv 4096))).tmod 64))))))], [(.int .u8 (IntKind.u8.wrap ((IntKind.i64.wrap (128 + (((IntKind.i64.wrap ((x12).tdiv 64))).tmod 64)))))), (.int .u8 (IntKind.u8.wrap ((IntKind.i64.wrap (128 + ((x12).tmod 64))))))], rfl, (by simp only [bE, flat, hu126]), ⟨[(.int .u8 (IntKind.u8.wrap ((IntKind.i64.wrap (128 + (((IntKind.i64.wrap ((x12).tdiv 64))).tmod 64))))))], [(.int .u8 (IntKind.u8.wrap ((IntKind.i64.wrap (128 + ((x12).tmod 64))))))], rfl, (by simp only [bE, flat, hu129]), ⟨[(.int .u8 (IntKind.u8.wrap ((IntKind.i64.wrap (128 + ((x12).tmod 64))))))], [], rfl, (by simp only [bE, flat, hu132]), rfl⟩⟩⟩⟩ (show 4 ≤ maxLen by decide) (fun h => h)
        have hl140 : ∀ g, blk (some ⟨b133, 0, none⟩) = some g → w0.heap.size ≤ g := loo hbe137 hB5.size
        refine bindE h3 ?_; clear h3; intro l144 hx145 h3
        have hk152 := ho9.grown hg135 (fun _ h => h.elim) nb
        refine gv_append bE (t := 82) (ty := 82) (e := 5) (a := a7) (ax := (some ⟨b133, 0, none⟩)) (cap := c8) (cx := 4) (xs := s3.1) (ys := ([b121, b124, b127, b130] : List UInt8)) l144 (X := (fun _ => False)) (Y := (fun k => blk (some ⟨b133, 0, none⟩) = some k)) (by decide) rfl rfl (by kernel_rfl) (by kernel_rfl) Tryd.underlying82 info5 hk152 (ho139.rd (Y := fun k => blk (some ⟨b133, 0, none⟩) = some k) (fun _ h => h.elim) (fun g e => e)) hx145 (.inr fun _ _ _ _ _ h => h) (fun _ h => h.elim) ?_
        intro a146 c147 w148 hg149 ho150 hk151
        refine ⟨(fun e => by cases e), ?_⟩
        have hB154 := bg hB5 hg135 nb
        have hl153 : ∀ g, blk a146 = some g → w0.heap.size ≤ g := blk_step hk151 hl10 hB154.size
        have ap156 : ∀ g, blk a7 = some g → ¬ (fun k => blk (some ⟨b133, 0, none⟩) = some k) g := fun g e hx => nl ((lowo hbe137) _ hx) ((fun k (hk : blk a7 = some k) => ho9.lt k hk) g e)
        have ap155 : ∀ g, blk a146 = some g → ¬ (fun k => blk (some ⟨b133, 0, none⟩) = some k) g := blk_neX hk151 ap156 (fun k (hk : blk (some ⟨b133, 0, none⟩) = some k) => ho139.lt k hk)
        have ap158 : ∀ g, blk (some ⟨b133, 0, none⟩) = some g → ¬ (fun k => blk a7 = some k) g := fun g e hx => nl ((lowo hbe137) g e) ((fun k (hk : blk a7 = some k) => ho9.lt k hk) _ hx)
        have ap157 : ∀ g, blk (some ⟨b133, 0, none⟩) = some g → ¬ (fun k => blk a146 = some k) g := fun g e h => blk_rev hk151 (fun h => ((ap158) g e) h) (ho139.lt g e) h
        have hz159 := (nt hg135.size hg149.size)
        clear ap157 ap158 ap155 ap156 hk151 hk152 hx145 hl140 ho139 hz138 hbe137 hb136 hg135 hu132 hb131 hu129 hb128 hu126 hb125 hu123 hb122 hc83 hc48 hc16 hx13 hc11 ho9 hB5
        refine gv_pureN 1 [3] [(3, (.slice a146 (List.length l144) c147))] (by kernel_rfl) ?_
        refine gv_nil ?_
        have e := sj h3; subst e
        refine gv_goal fun a hd hs hok => ?_
        have hB160 := bg hB154 hg149 hl10
        have hz161 := hz159
        exact ⟨a146, c147, hB160, hz161, ho150, hl153, hd, hs, ok_pick [0, 3, 4] hok (by kernel_rfl)⟩
    ·rintro a w15 ⟨a164, c165, hB162, hz163, ho166, hl167, hd, hs, hok⟩
     refine gv_in ?_ hd hs hok
     clear hd hs hok
     have hz168 := (nt hz6 hz163)
     clear hz163 hx13 hc11 hl10 ho9 hz6 hB5
     refine gv_blk <| gv_blk <| gv_region <| gv_pureN 3 [4, 10, 11] [(4, (.int .i64 (IntKind.i64.wrap (s3.2 + 1))))] (by kernel_rfl) ?_
     refine gv_nil ?_
     have e := sj h2; subst e
     refine gv_goal fun a hd hs hok => ?_
     have hz169 := hz168
     exact ⟨(j14, (IntKind.i64.wrap (s3.2 + 1))), rfl, a164, c165, hB162, hz169, ho166, hl167, hd, hs, ok_pick [0, 3, 4] hok (by kernel_rfl)⟩
   ·replace h2 := ite_f hc11 h2
    refine gv_cexit <| gv_exit rfl ?_
    have e := sj h2; subst e
    replace h1 := congrArg some (hR2 _ rfl)
    have e := sj h1; subst e
    refine gv_goal fun a hd hs hok => ?_
    have hz170 := hz6
    exact ⟨a7, c8, hB5, hz170, ho9, hl10, hd, hs, ok_pick [3] hok (by kernel_rfl)⟩
 ·rintro a w2 ⟨a173, c174, hB171, hz172, ho175, hl176, hd, hs, hok⟩
  refine gv_in ?_ hd hs hok
  clear hd hs hok
  refine gv_seq <| gv_region <| gv_pureN 2 [2, 78] [(2, (.slice a173 (List.length j1) c174))] (by kernel_rfl) ?_
  refine gv_nil <| gv_cret ?_
  have e := sj h0; subst e
  refine gv_ret (gv_done [(.slice a173 (List.length j1) c174)] rfl ⟨(by kernel_rfl), trivial⟩ ?_)
  exact ⟨grown_of_below hB171, a173, c174, rfl, ho175, hl176⟩

theorem ref4_String_ok (fuel : Nat) (pa0_0 : Option Addr) (pc0_0 : Nat) (l_0 : (List Int)) (w0 : World) (X0 : Nat → Prop) (hX0 : ∀ k, X0 k → k < w0.heap.size) (hpa0_0 : Rd (iE .i64) w0 X0 pa0_0 pc0_0 l_0) (r0 : ByteArray) (h0 : ref4_String fuel l_0 = some r0) :
    Calls Tryd.prog 26 ([(.slice pa0_0 (List.length l_0) pc0_0)] : List Value).toArray w0 (Ret fun v w' => w0.grownBy w' none ∧ v = tup [(.string r0)]) := by
 have hB0 : Below w0.heap.size w0 w0 := Below.refl _ _
 unfold ref4_String at h0
 refine calls_run Tryd.func26 rfl Tryd.ntmps26 (by kernel_rfl) ?_
 refine gv_sub [0] (σ' := [(0, (.slice pa0_0 (List.length l_0) pc0_0))]) (by kernel_rfl) ?_
 refine gv_seq <| gv_region <| gv_pureN 1 [2] [] (by kernel_rfl) ?_
 refine gv_nil <| gv_seq <| gv_region <| gv_pureN 1 [3] [(3, (.slice pa0_0 (List.length l_0) pc0_0))] (by kernel_rfl) ?_
 refine bindE h0 ?_; clear h0; intro r1 hr2 h0
 refine gv_call0 (by kernel_rfl) rfl (by kernel_rfl) enters68 (ref4_Encoded_ok fuel pa0_0 pc0_0 l_0 w0 (fun k => X0 k) (fun k hk => (fun k (hk : X0 k) => ltl (hX0 k hk) hB0.size) k hk) ((hpa0_0.below hB0 hX0).wide (fun k hk => hk)) r1 hr2) ?_
 rintro v5 w3 ⟨hg4, a6, c7, rfl, ho8, hl9⟩
 have hl10 : ∀ g, blk a6 = some g → w0.heap.size ≤ g := fun g e => Nat.le_trans hB0.size (hl9 g e)
 refine gv_b2s (src := 82) (dst := 9) (e := 5) (xs := r1) (a := a6) (cap := c7) (X := (fun k => blk a6 = some k)) [] (fun e => by cases e) rfl rfl rfl (by kernel_rfl) (by kernel_rfl) Tryd.underlying82 Tryd.underlying5 Tryd.underlying9 (inw0 (ho8.rd (Y := fun k => blk a6 = some k) (fun _ h => h.elim) (fun g e => e))) rfl ?_
 refine gv_pureN 1 [2] [(2, (.string (strOf r1)))] (by kernel_rfl) ?_
 refine gv_nil <| gv_cret ?_
 have e := sj h0; subst e
 refine gv_ret (gv_done [(.string (strOf r1))] rfl ⟨(by kernel_rfl), trivial⟩ ?_)
 have hB11 := bg hB0 hg4 nb
 exact ⟨grown_of_below hB11, rfl⟩

theorem ref4_WordsOf_ok (fuel : Nat) (pa0_0 : Option Addr) (pc0_0 : Nat) (l_0 : (List Int)) (w0 : World) (X0 : Nat → Prop) (hX0 : ∀ k, X0 k → k < w0.heap.size) (hpa0_0 : Rd (iE .i64) w0 X0 pa0_0 pc0_0 l_0) (r0 : (List ByteArray)) (h0 : ref4_WordsOf fuel l_0 = some r0) :
    Calls Tryd.prog 32 ([(.slice pa0_0 (List.length l_0) pc0_0)] : List Value).toArray w0 (Ret fun v w' => w0.grownBy w' none ∧ ∃ (a0_0r : Option Addr) (c0_0r : Nat), v = tup [(.slice a0_0r (List.length r0) c0_0r)] ∧ Gv.Own sE 9 w' (fun _ => False) a0_0r c0_0r r0 ∧ (∀ g, blk a0_0r = some g → w0.heap.size ≤ g)) := by
 have hB0 : Below w0.heap.size w0 w0 := Below.refl _ _
 unfold ref4_WordsOf at h0
 refine calls_run Tryd.func32 rfl Tryd.ntmps32 (by kernel_rfl) ?_
 refine gv_sub [0] (σ' := [(0, (.slice pa0_0 (List.length l_0) pc0_0))]) (by kernel_rfl) ?_
 refine gv_seq <| gv_region <| gv_pureN 1 [2] [] (by kernel_rfl) ?_
 refine gv_nil <| gv_seq <| gv_region <| gv_pureN 1 [3] [(3, (.slice none (List.length ([] : List ByteArray)) 0))] (by kernel_rfl) ?_
 refine gv_nil <| gv_seq <| gv_seq <| gv_region <| gv_pureN 1 [4] [(4, (.int .i64 0))] (by kernel_rfl) ?_
 refine gv_nil <| bindE h0 ?_; clear h0; intro j1 h1 h0
 refine gv_cut_code (J := fun a w2 => ∃ (a3_0j : Option Addr) (c3_0j : Nat), Below w0.heap.size w0 w2 ∧ w0.heap.size ≤ w2.heap.size ∧ Gv.Own sE 9 w2 (fun _ => False) a3_0j c3_0j j1 ∧ (∀ g, blk a3_0j = some g → w0.heap.size ≤ g) ∧ a.defers = [] ∧ a.tmps.size = 42 ∧ Ok [(3, (.slice a3_0j (List.length j1) c3_0j))] a.tmps) ?_ ?_
 ·skip
  refine gv_block <| gv_loop (A := fun (s3 : ((List ByteArray) × Int)) a w4 => ∃ (a3_0j : Option Addr) (c3_0j : Nat), Below w0.heap.size w0 w4 ∧ w0.heap.size ≤ w4.heap.size ∧ Gv.Own sE 9 w4 (fun _ => False) a3_0j c3_0j s3.1 ∧ (∀ g, blk a3_0j = some g → w0.heap.size ≤ g) ∧ a.defers = [] ∧ a.tmps.size = 42 ∧ Ok [(0, (.slice pa0_0 (List.length l_0) pc0_0)), (3, (.slice a3_0j (List.length s3.1) c3_0j)), (4, (.int .i64 s3.2))] a.tmps) h1 ?_ ?_
  ·intro a hd hs hok
   exact ⟨none, 0, hB0, (Nat.le_refl _), (Gv.Own.nil sE 9 w0 (fun _ => False)), (fun _ h => by cases h), hd, hs, ok_pick [0, 3, 4] hok (by kernel_rfl)⟩
  ·rintro s3 r2 h2 hR2 a w4 ⟨a7, c8, hB5, hz6, ho9, hl10, hd, hs, hok⟩
   refine gv_in ?_ hd hs hok
   clear hd hs hok
   refine gv_seq <| gv_seq <| gv_region <| gv_pureN 4 [6, 7, 8, 9] [(9, (.bool (decide (s3.2 < ((List.length l_0 : Nat) : Int)))))] (by kernel_rfl) ?_
   refine gv_nil <| gv_cond (b := (decide (s3.2 < ((List.length l_0 : Nat) : Int)))) (by kernel_rfl) (fun hc11 => ?_) (fun hc11 => ?_)
   ·replace h2 := ite_t hc11 h2
    refine gv_skip <| gv_seq <| bindE h2 ?_; clear h2; intro j12 h3 h2
    refine gv_cut_code (J := fun a w13 => ∃ (a3_0j : Option Addr) (c3_0j : Nat), Below w0.heap.size w0 w13 ∧ w4.heap.size ≤ w13.heap.size ∧ Gv.Own sE 9 w13 (fun _ => False) a3_0j c3_0j j12.1 ∧ (∀ g, blk a3_0j = some g → w0.heap.size ≤ g) ∧ a.defers = [] ∧ a.tmps.size = 42 ∧ Ok [(0, (.slice pa0_0 (List.length l_0) pc0_0)), (3, (.slice a3_0j (List.length j12.1) c3_0j)), (4, (.int .i64 j12.2))] a.tmps) ?_ ?_
    ·skip
     refine gv_block <| gv_seq <| gv_seq <| gv_region <| gv_pureN 2 [12, 13] [(12, (.slice pa0_0 (List.length l_0) pc0_0)), (13, (.int .i64 s3.2))] (by kernel_rfl) ?_
     refine bindE h3 ?_; clear h3; intro x14 hx15 h3
     refine gv_idxaddr (t := 38) (e := 3) (a := pa0_0) (len := List.length l_0) (cap := pc0_0) (kk := .i64) (i := s3.2) (sz := 1) [] (fun e => by cases e) rfl rfl rfl (by kernel_rfl) (by kernel_rfl) Tryd.underlying38 (by kernel_rfl) ((hpa0_0.below hB5 hX0).has hx15) (idx_spec hx15).1 (idx_spec hx15).2.1 rfl ?_
     refine gv_load (t := 3) (A := (elemAddr pa0_0 ((s3.2 : Int).toNat * 1))) (.int .i64 x14) [] (fun e => by cases e) rfl rfl rfl (by kernel_rfl) (by kernel_rfl) (by kernel_rfl) (inw0 ((hpa0_0.below hB5 hX0).cell hx15)) rfl ?_
     refine bindE h3 ?_; clear h3; intro r16 hr17 h3
     refine gv_call0 (by kernel_rfl) rfl (by kernel_rfl) enters54 (ref4_Blank_ok fuel x14 w4  r16 hr17) ?_
     rintro v20 w18 ⟨hg19, rfl⟩
     refine gv_nil <| gv_cond (b := r16) (by kernel_rfl) (fun hc21 => ?_) (fun hc21 => ?_)
     ·replace h3 := ite_t hc21 h3
      refine gv_cexit <| gv_exit rfl ?_
      have e := sj h3; subst e
      refine gv_goal fun a hd hs hok => ?_
      have hB22 := bg hB5 hg19 nb
      have hz23 := hg19.size
      have hk24 := ho9.grown hg19 (fun _ h => h.elim) nb
      exact ⟨a7, c8, hB22, hz23, hk24, hl10, hd, hs, ok_pick [0, 3, 4] hok (by kernel_rfl)⟩
     ·replace h3 := ite_f hc21 h3
      refine gv_skip <| gv_seq <| gv_region <| gv_pureN 2 [5, 17] [(5, (.int .i64 s3.2))] (by kernel_rfl) ?_
      refine gv_nil <| gv_seq <| bindE h3 ?_; clear h3; intro j25 h4 h3
      refine gv_cut_code (J := fun a w26 => Below w0.heap.size w0 w26 ∧ w18.heap.size ≤ w26.heap.size ∧ Gv.Own sE 9 w26 (fun _ => False) a7 c8 s3.1 ∧ a.defers = [] ∧ a.tmps.size = 42 ∧ Ok [(0, (.slice pa0_0 (List.length l_0) pc0_0)), (3, (.slice a7 (List.length s3.1) c8)), (4, (.int .i64 s3.2)), (5, (.int .i64 j25))] a.tmps) ?_ ?_
      ·skip
       refine gv_block <| gv_loop (A := fun (s27 : Int) a w28 => Below w0.heap.size w0 w28 ∧ w18.heap.size ≤ w28.heap.size ∧ Gv.Own sE 9 w28 (fun _ => False) a7 c8 s3.1 ∧ a.defers = [] ∧ a.tmps.size = 42 ∧ Ok [(0, (.slice pa0_0 (List.length l_0) pc0_0)), (3, (.slice a7 (List.length s3.1) c8)), (4, (.int .i64 s3.2)), (5, (.int .i64 s27))] a.tmps) h4 ?_ ?_
       ·intro a hd hs hok
        have hB29 := bg hB5 hg19 nb
        have hk30 := ho9.grown hg19 (fun _ h => h.elim) nb
        exact ⟨hB29, (Nat.le_refl _), hk30, hd, hs, ok_pick [0, 3, 4, 5] hok (by kernel_rfl)⟩
       ·rintro s27 r5 h5 hR5 a w28 ⟨hB31, hz32, hk33, hd, hs, hok⟩
        refine gv_in ?_ hd hs hok
        clear hd hs hok
        clear hc21 hr17 hx15 hc11 ho9 hB5
        refine gv_seq <| gv_seq <| gv_region <| bindE h5 ?_; clear h5; intro j34 h6 h5
        refine gv_cut_ops (J := fun a w35 => Below w0.heap.size w0 w35 ∧ w28.heap.size ≤ w35.heap.size ∧ Gv.Own sE 9 w35 (fun _ => False) a7 c8 s3.1 ∧ a.defers = [] ∧ a.tmps.size = 42 ∧ Ok [(0, (.slice pa0_0 (List.length l_0) pc0_0)), (3, (.slice a7 (List.length s3.1) c8)), (4, (.int .i64 s3.2)), (5, (.int .i64 s27)), (29, (.bool j34))] a.tmps) ?_ ?_
        ·skip
         refine gv_pureN 5 [18, 19, 20, 21, 22] [(22, (.bool (decide (s27 < ((List.length l_0 : Nat) : Int)))))] (by kernel_rfl) ?_
         refine gv_split (s := 22) (g := (decide (s27 < ((List.length l_0 : Nat) : Int)))) (by kernel_rfl) (fun hc36 => ?_) (fun hc36 => ?_)
         ·skip
          replace h6 := ite_t hc36 h6
          refine gv_pureN 2 [23, 24] [(23, (.slice pa0_0 (List.length l_0) pc0_0)), (24, (.int .i64 s27))] (by kernel_rfl) ?_
          refine bindE h6 ?_; clear h6; intro x37 hx38 h6
          refine gv_idxaddr (t := 38) (e := 3) (a := pa0_0) (len := List.length l_0) (cap := pc0_0) (kk := .i64) (i := s27) (sz := 1) [] (fun e => by cases e) rfl rfl rfl (by kernel_rfl) (by kernel_rfl) Tryd.underlying38 (by kernel_rfl) ((hpa0_0.below hB31 hX0).has hx38) (idx_spec hx38).1 (idx_spec hx38).2.1 rfl ?_
          refine gv_load (t := 3) (A := (elemAddr pa0_0 ((s27 : Int).toNat * 1))) (.int .i64 x37) [] (fun e => by cases e) rfl rfl rfl (by kernel_rfl) (by kernel_rfl) (by kernel_rfl) (inw0 ((hpa0_0.below hB31 hX0).cell hx38)) rfl ?_
          refine bindE h6 ?_; clear h6; intro r39 hr40 h6
          refine gv_call0 (by kernel_rfl) rfl (by kernel_rfl) enters54 (ref4_Blank_ok fuel x37 w28  r39 hr40) ?_
          rintro v43 w41 ⟨hg42, rfl⟩
          refine gv_pureN 2 [28, 29] [(29, (.bool (!r39)))] (by kernel_rfl) ?_
          refine gv_nil ?_
          have e := sj h6; subst e
          refine gv_goal fun a hd hs hok => ?_
          have hB44 := bg hB31 hg42 nb
          have hz45 := hg42.size
          have hk46 := hk33.grown hg42 (fun _ h => h.elim) nb
          exact ⟨hB44, hz45, hk46, hd, hs, ok_pick [0, 3, 4, 5, 29] hok (by kernel_rfl)⟩
         ·skip
          replace h6 := ite_f hc36 h6
          refine gv_pureN 7 [23, 24, 25, 26, 27, 28, 29] [(29, (.bool false))] (by kernel_rfl) ?_
          refine gv_nil ?_
          have e := sj h6; subst e
          refine gv_goal fun a hd hs hok => ?_
          exact ⟨hB31, (Nat.le_refl _), hk33, hd, hs, ok_pick [0, 3, 4, 5, 29] hok (by kernel_rfl)⟩
        ·rintro a w35 ⟨hB47, hz48, hk49, hd, hs, hok⟩
         refine gv_in ?_ hd hs hok
         clear hd hs hok
         have hz50 := (nt hz32 hz48)
         clear hz48 hk33 hz32 hB31
         refine gv_cond (b := j34) (by kernel_rfl) (fun hc51 => ?_) (fun hc51 => ?_)
         ·replace h5 := ite_t hc51 h5
          refine gv_skip <| gv_block <| gv_region <| gv_pureN 3 [5, 30, 31] [(5, (.int .i64 (IntKind.i64.wrap (s27 + 1))))] (by kernel_rfl) ?_
          refine gv_nil <| gv_blk ?_
          have e := sj h5; subst e
          refine gv_goal fun a hd hs hok => ?_
          have hz52 := hz50
          exact ⟨(IntKind.i64.wrap (s27 + 1)), rfl, hB47, hz52, hk49, hd, hs, ok_pick [0, 3, 4, 5] hok (by kernel_rfl)⟩
         ·replace h5 := ite_f hc51 h5
          refine gv_cexit <| gv_exit rfl ?_
          have e := sj h5; subst e
          replace h4 := congrArg some (hR5 _ rfl)
          have e := sj h4; subst e
          refine gv_goal fun a hd hs hok => ?_
          have hz53 := hz50
          exact ⟨hB47, hz53, hk49, hd, hs, ok_pick [0, 3, 4, 5] hok (by kernel_rfl)⟩
      ·rintro a w26 ⟨hB54, hz55, hk56, hd, hs, hok⟩
       refine gv_in ?_ hd hs hok
       clear hd hs hok
       have hz57 := (nt hg19.size hz55)
       clear hz55 hc21 hg19 hr17 hx15 hc11 ho9 hB5
       refine gv_seq <| gv_region <| gv_pureN 4 [32, 33, 34, 35] [(32, (.slice a7 (List.length s3.1) c8)), (33, (.slice pa0_0 (List.length l_0) pc0_0)), (34, (.int .i64 s3.2)), (35, (.int .i64 j25))] (by kernel_rfl) ?_
       refine bindE h3 ?_; clear h3; intro x58 hx59 h3
       refine gv_ssl2 (iE .i64) (t := 38) (e := 3) (xs := l_0) (a := pa0_0) (cap := pc0_0) (lo := (some (.int .i64 s3.2))) (hi := (some (.int .i64 j25))) s3.2 j25 x58 (fun e => by cases e) rfl rfl rfl (by kernel_rfl) (by kernel_rfl) Tryd.underlying38 (by kernel_rfl) (.inr ⟨_, rfl⟩) (.inr ⟨_, rfl⟩) hx59 (hpa0_0.below hB54 hX0).1 ?_
       intro a60 c61 hsub62
       have hp63 := hsub62 _ _ hpa0_0
       refine bindE h3 ?_; clear h3; intro r64 hr65 h3
       refine gv_call0 (by kernel_rfl) rfl (by kernel_rfl) enters26 (ref4_String_ok fuel a60 c61 x58 w26 (fun k => X0 k) (fun k hk => (fun k (hk : X0 k) => ltl (hX0 k hk) hB54.size) k hk) ((hp63.below hB54 hX0).wide (fun k hk => hk)) r64 hr65) ?_
       rintro v68 w66 ⟨hg67, rfl⟩
       refine gv_new0 (fun b => .slice (some ⟨b, 0, none⟩) 1 1) #[(.string r64)] 9 (by kernel_rfl) (by kernel_rfl) ?_
       intro b69 w70 hg71 hb72 hbe73 hz74
       have ho75 : Gv.Own sE 9 w70 (fun _ => False) (some ⟨b69, 0, none⟩) 1 ([r64] : List ByteArray) := Box.ownE hb72 ⟨[(.string r64)], [], rfl, rfl, rfl⟩ (show 1 ≤ maxLen by decide) (fun h => h)
       have hB80 := bg hB54 hg67 nb
       have hl76 : ∀ g, blk (some ⟨b69, 0, none⟩) = some g → w0.heap.size ≤ g := loo hbe73 hB80.size
       refine bindE h3 ?_; clear h3; intro l81 hx82 h3
       have hg89 := (grown_trans hg67 hg71)
       have hk90 := hk56.grown hg89 (fun _ h => h.elim) nb
       refine gv_append sE (t := 22) (ty := 22) (e := 9) (a := a7) (ax := (some ⟨b69, 0, none⟩)) (cap := c8) (cx := 1) (xs := s3.1) (ys := ([r64] : List ByteArray)) l81 (X := (fun _ => False)) (Y := (fun k => blk (some ⟨b69, 0, none⟩) = some k)) (by decide) rfl rfl (by kernel_rfl) (by kernel_rfl) Tryd.underlying22 info9 hk90 (ho75.rd (Y := fun k => blk (some ⟨b69, 0, none⟩) = some k) (fun _ h => h.elim) (fun g e => e)) hx82 (.inr fun _ _ _ _ _ h => h) (fun _ h => h.elim) ?_
       intro a83 c84 w85 hg86 ho87 hk88
       refine ⟨(fun e => by cases e), ?_⟩
       have hB92 := bg hB80 hg71 nb
       have hl91 : ∀ g, blk a83 = some g → w0.heap.size ≤ g := blk_step hk88 hl10 hB92.size
       have hk94 := hk56.grown hg67 (fun _ h => h.elim) nb
       have ap95 : ∀ g, blk a7 = some g → ¬ (fun k => blk (some ⟨b69, 0, none⟩) = some k) g := fun g e hx => nl ((lowo hbe73) _ hx) ((fun k (hk : blk a7 = some k) => hk94.lt k hk) g e)
       have ap93 : ∀ g, blk a83 = some g → ¬ (fun k => blk (some ⟨b69, 0, none⟩) = some k) g := blk_neX hk88 ap95 (fun k (hk : blk (some ⟨b69, 0, none⟩) = some k) => ho75.lt k hk)
       have ap97 : ∀ g, blk (some ⟨b69, 0, none⟩) = some g → ¬ (fun k => blk a7 = some k) g := fun g e hx => nl ((lowo hbe73) g e) ((fun k (hk : blk a7 = some k) => hk94.lt k hk) _ hx)
       have ap96 : ∀ g, blk (some ⟨b69, 0, none⟩) = some g → ¬ (fun k => blk a83 = some k) g := fun g e h => blk_rev hk88 (fun h => ((ap97) g e) h) (ho75.lt g e) h
       refine gv_pureN 1 [3] [(3, (.slice a83 (List.length l81) c84))] (by kernel_rfl) ?_
       refine gv_nil <| gv_region <| gv_pureN 2 [4, 40] [(4, (.int .i64 j25))] (by kernel_rfl) ?_
       refine gv_nil <| gv_blk ?_
       have e := sj h3; subst e
       refine gv_goal fun a hd hs hok => ?_
       have hB98 := bg hB92 hg86 hl10
       have hz99 := (nt (nt (nt hz57 hg67.size) hg71.size) hg86.size)
       exact ⟨a83, c84, hB98, hz99, ho87, hl91, hd, hs, ok_pick [0, 3, 4] hok (by kernel_rfl)⟩
    ·rintro a w13 ⟨a102, c103, hB100, hz101, ho104, hl105, hd, hs, hok⟩
     refine gv_in ?_ hd hs hok
     clear hd hs hok
     have hz106 := (nt hz6 hz101)
     clear hz101 hc11 hl10 ho9 hz6 hB5
     refine gv_region <| gv_pureN 3 [4, 10, 11] [(4, (.int .i64 (IntKind.i64.wrap (j12.2 + 1))))] (by kernel_rfl) ?_
     refine gv_nil ?_
     have e := sj h2; subst e
     refine gv_goal fun a hd hs hok => ?_
     have hz107 := hz106
     exact ⟨(j12.1, (IntKind.i64.wrap (j12.2 + 1))), rfl, a102, c103, hB100, hz107, ho104, hl105, hd, hs, ok_pick [0, 3, 4] hok (by kernel_rfl)⟩
   ·replace h2 := ite_f hc11 h2
    refine gv_cexit <| gv_exit rfl ?_
    have e := sj h2; subst e
    replace h1 := congrArg some (hR2 _ rfl)
    have e := sj h1; subst e
    refine gv_goal fun a hd hs hok => ?_
    have hz108 := hz6
    exact ⟨a7, c8, hB5, hz108, ho9, hl10, hd, hs, ok_pick [3] hok (by kernel_rfl)⟩
 ·rintro a w2 ⟨a111, c112, hB109, hz110, ho113, hl114, hd, hs, hok⟩
  refine gv_in ?_ hd hs hok
  clear hd hs hok
  refine gv_seq <| gv_region <| gv_pureN 2 [2, 41] [(2, (.slice a111 (List.length j1) c112))] (by kernel_rfl) ?_
  refine gv_nil <| gv_cret ?_
  have e := sj h0; subst e
  refine gv_ret (gv_done [(.slice a111 (List.length j1) c112)] rfl ⟨(by kernel_rfl), trivial⟩ ?_)
  exact ⟨grown_of_below hB109, a111, c112, rfl, ho113, hl114⟩

theorem law4_list_ok (fuel : Nat) (pa0_0 : Option Addr) (pc0_0 : Nat) (l_0 : (List ByteArray)) (f_1 : (Int × Int)) (pa2_0 : Option Addr) (pc2_0 : Nat) (want_2 : (List ByteArray)) (w_3 : (Int × Int)) (w0 : World) (X0 : Nat → Prop) (hX0 : ∀ k, X0 k → k < w0.heap.size) (hpa0_0 : Rd sE w0 X0 pa0_0 pc0_0 l_0) (hpa2_0 : Rd sE w0 X0 pa2_0 pc2_0 want_2) (r0 : Bool) (h0 : law4_list fuel l_0 f_1 want_2 w_3 = some r0) :
    Calls Tryd.prog 33 ([(.slice pa0_0 (List.length l_0) pc0_0), (.agg #[(.int .i64 f_1.1), (.int .i64 f_1.2)]), (.slice pa2_0 (List.length want_2) pc2_0), (.agg #[(.int .i64 w_3.1), (.int .i64 w_3.2)])] : List Value).toArray w0 (Ret fun v w' => w0.grownBy w' none ∧ v = tup [(.bool r0)]) := by
 have hB0 : Below w0.heap.size w0 w0 := Below.refl _ _
 unfold law4_list at h0
 refine calls_run Tryd.func33 rfl Tryd.ntmps33 (by kernel_rfl) ?_
 refine gv_sub [0, 1, 2, 3] (σ' := [(0, (.slice pa0_0 (List.length l_0) pc0_0)), (1, (.agg #[(.int .i64 f_1.1), (.int .i64 f_1.2)])), (2, (.slice pa2_0 (List.length want_2) pc2_0)), (3, (.agg #[(.int .i64 w_3.1), (.int .i64 w_3.2)]))]) (by kernel_rfl) ?_
 refine gv_seq <| gv_region <| gv_new0 (fun b => .pointer (some ⟨b, 0, none⟩)) #[(.int .i64 f_1.1), (.int .i64 f_1.2)] 24 (by kernel_rfl) (by kernel_rfl) ?_
 intro b1 w2 hg3 hb4 hbe5 hz6
 refine gv_new0 (fun b => .pointer (some ⟨b, 0, none⟩)) #[(.int .i64 w_3.1), (.int .i64 w_3.2)] 24 (by kernel_rfl) (by kernel_rfl) ?_
 intro b7 w8 hg9 hb10 hbe11 hz12
 refine gv_pureN 1 [8] [] (by kernel_rfl) ?_
 refine gv_nil <| gv_seq <| gv_seq <| gv_region <| bindE h0 ?_; clear h0; intro j13 h1 h0
 refine gv_cut_ops (J := fun a w14 => Below w0.heap.size w0 w14 ∧ w8.heap.size ≤ w14.heap.size ∧ Box w14 b1 24 #[(.int .i64 f_1.1), (.int .i64 f_1.2)] ∧ Box w14 b7 24 #[(.int .i64 w_3.1), (.int .i64 w_3.2)] ∧ a.defers = [] ∧ a.tmps.size = 37 ∧ Ok [(0, (.slice pa0_0 (List.length l_0) pc0_0)), (2, (.slice pa2_0 (List.length want_2) pc2_0)), (5, (bp b1)), (7, (bp b7)), (16, (.bool j13))] a.tmps) ?_ ?_
 ·skip
  refine gv_pureN 1 [9] [(9, (bp b7))] (by kernel_rfl) ?_
  refine gv_load (t := 3) (A := ⟨b7, 0, none⟩) (.int .i64 w_3.1) [] (fun e => by cases e) rfl rfl rfl (by kernel_rfl) (by kernel_rfl) (by kernel_rfl) (inw0 (hb10.cell 0 rfl)) rfl ?_
  refine gv_pureN 2 [11, 12] [(12, (.bool (w_3.1 == 0)))] (by kernel_rfl) ?_
  refine gv_split (s := 12) (g := (w_3.1 == 0)) (by kernel_rfl) (fun hc15 => ?_) (fun hc15 => ?_)
  ·skip
   replace h1 := ite_t hc15 h1
   refine gv_pureN 4 [13, 14, 15, 16] [(16, (.bool (decide (((List.length want_2 : Nat) : Int) > 1000))))] (by kernel_rfl) ?_
   refine gv_nil ?_
   have e := sj h1; subst e
   refine gv_goal fun a hd hs hok => ?_
   have hg16 := (grown_trans hg3 hg9)
   have hB17 := bg hB0 hg16 nb
   have hk18 := hb4.grown hg9 nb
   exact ⟨hB17, (Nat.le_refl _), hk18, hb10, hd, hs, ok_pick [0, 2, 5, 7, 16] hok (by kernel_rfl)⟩
  ·skip
   replace h1 := ite_f hc15 h1
   refine gv_pureN 4 [13, 14, 15, 16] [(16, (.bool false))] (by kernel_rfl) ?_
   refine gv_nil ?_
   have e := sj h1; subst e
   refine gv_goal fun a hd hs hok => ?_
   have hg19 := (grown_trans hg3 hg9)
   have hB20 := bg hB0 hg19 nb
   have hk21 := hb4.grown hg9 nb
   exact ⟨hB20, (Nat.le_refl _), hk21, hb10, hd, hs, ok_pick [0, 2, 5, 7, 16] hok (by kernel_rfl)⟩
 ·rintro a w14 ⟨hB22, hz23, hb24, hb25, hd, hs, hok⟩
  refine gv_in ?_ hd hs hok
  clear hd hs hok
  clear hz23 hz12 hb10 hg9 hz6
  refine bindE h0 ?_; clear h0; intro j26 h1 h0
  refine gv_cut_code (J := fun a w27 => Below w0.heap.size w0 w27 ∧ w14.heap.size ≤ w27.heap.size ∧ Box w27 b1 24 #[(.int .i64 f_1.1), (.int .i64 f_1.2)] ∧ Box w27 b7 24 #[(.int .i64 j26.1), (.int .i64 j26.2)] ∧ a.defers = [] ∧ a.tmps.size = 37 ∧ Ok [(0, (.slice pa0_0 (List.length l_0) pc0_0)), (2, (.slice pa2_0 (List.length want_2) pc2_0)), (5, (bp b1)), (7, (bp b7))] a.tmps) ?_ ?_
  ·skip
   refine gv_cond (b := j13) (by kernel_rfl) (fun hc28 => ?_) (fun hc28 => ?_)
   ·replace h1 := ite_t hc28 h1
    refine gv_region <| bindE h1 ?_; clear h1; intro r29 hr30 h1
    refine gv_call0 (by kernel_rfl) rfl (by kernel_rfl) enters29 (ref4_At_ok fuel 2 (-1) w14  r29 hr30) ?_
    rintro v33 w31 ⟨hg32, rfl⟩
    have hk38 := hb25.grown hg32 nb
    refine gv_store0 24 0 (.agg #[(.int .i64 r29.1), (.int .i64 r29.2)]) #[(.int .i64 r29.1), (.int .i64 r29.2)] hk38 (by kernel_rfl) (by kernel_rfl) (by kernel_rfl) ?_
    intro w34 hg35 hb36 hz37
    refine gv_nil ?_
    have e := sj h1; subst e
    refine gv_goal fun a hd hs hok => ?_
    have hB39 := bg hB22 hg32 nb
    have hB40 := bg hB0 hg3 nb
    have hlo41 : w0.heap.size ≤ b7 := lob hbe11 hB40.size
    have hB42 := bg hB39 hg35 (rowlo hlo41)
    have hz43 := (nt hg32.size hg35.size)
    have lt44 := ltl ((ltb hb4) _ rfl) ((lowb hbe11) _ rfl)
    have hk45 := (hb24.grown hg32 nb).grown hg35 (rowne (ng lt44))
    exact ⟨hB42, hz43, hk45, hb36, hd, hs, ok_pick [0, 2, 5, 7] hok (by kernel_rfl)⟩
   ·replace h1 := ite_f hc28 h1
    refine gv_skip ?_
    have e := sj h1; subst e
    refine gv_goal fun a hd hs hok => ?_
    exact ⟨hB22, (Nat.le_refl _), hb24, hb25, hd, hs, ok_pick [0, 2, 5, 7] hok (by kernel_rfl)⟩
  ·rintro a w27 ⟨hB46, hz47, hb48, hb49, hd, hs, hok⟩
   refine gv_in ?_ hd hs hok
   clear hd hs hok
   clear hz47 hb25 hb24 hB22
   refine gv_seq <| gv_seq <| gv_region <| gv_pureN 1 [18] [(18, (bp b7))] (by kernel_rfl) ?_
   refine gv_load (t := 3) (A := ⟨b7, 0, none⟩) (.int .i64 j26.1) [] (fun e => by cases e) rfl rfl rfl (by kernel_rfl) (by kernel_rfl) (by kernel_rfl) (inw0 (hb49.cell 0 rfl)) rfl ?_
   refine gv_pureN 1 [20] [(20, (.bool (j26.1 != 0)))] (by kernel_rfl) ?_
   refine gv_nil <| gv_cond (b := (j26.1 != 0)) (by kernel_rfl) (fun hc50 => ?_) (fun hc50 => ?_)
   ·replace h0 := ite_t hc50 h0
    refine gv_seq <| gv_region <| bindE h0 ?_; clear h0; intro j51 h1 h0
    refine gv_cut_ops (J := fun a w52 => Below w0.heap.size w0 w52 ∧ w27.heap.size ≤ w52.heap.size ∧ a.defers = [] ∧ a.tmps.size = 37 ∧ Ok [(8, (.bool j51))] a.tmps) ?_ ?_
    ·skip
     refine gv_loadBox (t := 24) (b := b1) (t' := 24) (fr := (0, 0)) #[(.int .i64 f_1.1), (.int .i64 f_1.2)] [] (fun e => by cases e) rfl rfl rfl (by kernel_rfl) (by kernel_rfl) (by kernel_rfl) (by kernel_rfl) (inw0 hb48) rfl ?_
     refine gv_loadBox (t := 24) (b := b7) (t' := 24) (fr := (0, 0)) #[(.int .i64 j26.1), (.int .i64 j26.2)] [] (fun e => by cases e) rfl rfl rfl (by kernel_rfl) (by kernel_rfl) (by kernel_rfl) (by kernel_rfl) (inw0 hb49) rfl ?_
     refine gv_eqs (t := 24) (op := .eql) (x := (.tmp 21)) (y := (.tmp 22)) (xs := #[(.int .i64 f_1.1), (.int .i64 f_1.2)]) (ys := #[(.int .i64 j26.1), (.int .i64 j26.2)]) ((f_1.1 == j26.1) && (f_1.2 == j26.2)) [] (fun e => by cases e) rfl rfl rfl (by kernel_rfl) (by kernel_rfl) (fun w' => eqs24eql f_1.1 f_1.2 j26.1 j26.2 _ _ w') rfl ?_
     refine gv_pureN 1 [24] [(24, (.bool ((f_1.1 == j26.1) && (f_1.2 == j26.2))))] (by kernel_rfl) ?_
     refine gv_split (s := 24) (g := ((f_1.1 == j26.1) && (f_1.2 == j26.2))) (by kernel_rfl) (fun hc53 => ?_) (fun hc53 => ?_)
     ·skip
      replace h1 := ite_t hc53 h1
      refine gv_pureN 5 [8, 25, 26, 27, 28] [(8, (.bool (((List.length l_0 : Nat) : Int) == 0)))] (by kernel_rfl) ?_
      refine gv_nil ?_
      have e := sj h1; subst e
      refine gv_goal fun a hd hs hok => ?_
      exact ⟨hB46, (Nat.le_refl _), hd, hs, ok_pick [8] hok (by kernel_rfl)⟩
     ·skip
      replace h1 := ite_f hc53 h1
      refine gv_pureN 5 [8, 25, 26, 27, 28] [(8, (.bool false))] (by kernel_rfl) ?_
      refine gv_nil ?_
      have e := sj h1; subst e
      refine gv_goal fun a hd hs hok => ?_
      exact ⟨hB46, (Nat.le_refl _), hd, hs, ok_pick [8] hok (by kernel_rfl)⟩
    ·rintro a w52 ⟨hB54, hz55, hd, hs, hok⟩
     refine gv_in ?_ hd hs hok
     clear hd hs hok
     clear hz55 hc50 hb49 hb48 hB46 hbe11 hbe5 hb4 hg3
     refine gv_cret ?_
     have e := sj h0; subst e
     refine gv_ret (gv_done [(.bool j51)] rfl ⟨(by kernel_rfl), trivial⟩ ?_)
     exact ⟨grown_of_below hB54, rfl⟩
   ·replace h0 := ite_f hc50 h0
    refine gv_skip <| gv_seq <| gv_region <| bindE h0 ?_; clear h0; intro j56 h1 h0
    refine gv_cut_ops (J := fun a w57 => Below w0.heap.size w0 w57 ∧ w27.heap.size ≤ w57.heap.size ∧ a.defers = [] ∧ a.tmps.size = 37 ∧ Ok [(8, (.bool j56))] a.tmps) ?_ ?_
    ·skip
     refine gv_loadBox (t := 24) (b := b1) (t' := 24) (fr := (0, 0)) #[(.int .i64 f_1.1), (.int .i64 f_1.2)] [] (fun e => by cases e) rfl rfl rfl (by kernel_rfl) (by kernel_rfl) (by kernel_rfl) (by kernel_rfl) (inw0 hb48) rfl ?_
     refine gv_loadBox (t := 24) (b := b7) (t' := 24) (fr := (0, 0)) #[(.int .i64 j26.1), (.int .i64 j26.2)] [] (fun e => by cases e) rfl rfl rfl (by kernel_rfl) (by kernel_rfl) (by kernel_rfl) (by kernel_rfl) (inw0 hb49) rfl ?_
     refine gv_eqs (t := 24) (op := .eql) (x := (.tmp 29)) (y := (.tmp 30)) (xs := #[(.int .i64 f_1.1), (.int .i64 f_1.2)]) (ys := #[(.int .i64 j26.1), (.int .i64 j26.2)]) ((f_1.1 == j26.1) && (f_1.2 == j26.2)) [] (fun e => by cases e) rfl rfl rfl (by kernel_rfl) (by kernel_rfl) (fun w' => eqs24eql f_1.1 f_1.2 j26.1 j26.2 _ _ w') rfl ?_
     refine gv_pureN 1 [32] [(32, (.bool ((f_1.1 == j26.1) && (f_1.2 == j26.2))))] (by kernel_rfl) ?_
     refine gv_split (s := 32) (g := ((f_1.1 == j26.1) && (f_1.2 == j26.2))) (by kernel_rfl) (fun hc58 => ?_) (fun hc58 => ?_)
     ·skip
      replace h1 := ite_t hc58 h1
      refine gv_pureN 2 [33, 34] [(33, (.slice pa0_0 (List.length l_0) pc0_0)), (34, (.slice pa2_0 (List.length want_2) pc2_0))] (by kernel_rfl) ?_
      refine bindE h1 ?_; clear h1; intro r59 hr60 h1
      refine gv_call0 (by kernel_rfl) rfl (by kernel_rfl) enters18 (ref4_SameTexts_ok fuel pa0_0 pc0_0 l_0 pa2_0 pc2_0 want_2 w27 (fun k => X0 k ∨ X0 k) (fun k hk => (hk).elim (fun h => (fun k (hk : X0 k) => ltl (hX0 k hk) hB46.size) k h) (fun h => (fun k (hk : X0 k) => ltl (hX0 k hk) hB46.size) k h)) ((hpa0_0.below hB46 hX0).wide (fun k hk => (.inl hk))) ((hpa2_0.below hB46 hX0).wide (fun k hk => (.inr hk))) r59 hr60) ?_
      rintro v63 w61 ⟨hg62, rfl⟩
      refine gv_pureN 2 [8, 36] [(8, (.bool r59))] (by kernel_rfl) ?_
      refine gv_nil ?_
      have e := sj h1; subst e
      refine gv_goal fun a hd hs hok => ?_
      have hB64 := bg hB46 hg62 nb
      have hz65 := hg62.size
      exact ⟨hB64, hz65, hd, hs, ok_pick [8] hok (by kernel_rfl)⟩
     ·skip
      replace h1 := ite_f hc58 h1
      refine gv_pureN 5 [8, 33, 34, 35, 36] [(8, (.bool false))] (by kernel_rfl) ?_
      refine gv_nil ?_
      have e := sj h1; subst e
      refine gv_goal fun a hd hs hok => ?_
      exact ⟨hB46, (Nat.le_refl _), hd, hs, ok_pick [8] hok (by kernel_rfl)⟩
    ·rintro a w57 ⟨hB66, hz67, hd, hs, hok⟩
     refine gv_in ?_ hd hs hok
     clear hd hs hok
     clear hz67 hc50 hb49 hb48 hB46 hbe11 hbe5 hb4 hg3
     refine gv_cret ?_
     have e := sj h0; subst e
     refine gv_ret (gv_done [(.bool j56)] rfl ⟨(by kernel_rfl), trivial⟩ ?_)
     exact ⟨grown_of_below hB66, rfl⟩

theorem ref4_Wrapped_ok (fuel : Nat) (pa0_0 : Option Addr) (pc0_0 : Nat) (words_0 : (List ByteArray)) (width_1 : Int) (w0 : World) (X0 : Nat → Prop) (hX0 : ∀ k, X0 k → k < w0.heap.size) (hpa0_0 : Rd sE w0 X0 pa0_0 pc0_0 words_0) (r0 : (List ByteArray)) (h0 : ref4_Wrapped fuel words_0 width_1 = some r0) :
    Calls Tryd.prog 34 ([(.slice pa0_0 (List.length words_0) pc0_0), (.int .i64 width_1)] : List Value).toArray w0 (Ret fun v w' => w0.grownBy w' none ∧ ∃ (a0_0r : Option Addr) (c0_0r : Nat), v = tup [(.slice a0_0r (List.length r0) c0_0r)] ∧ Gv.Own sE 9 w' (fun _ => False) a0_0r c0_0r r0 ∧ (∀ g, blk a0_0r = some g → w0.heap.size ≤ g)) := by
 have hB0 : Below w0.heap.size w0 w0 := Below.refl _ _
 unfold ref4_Wrapped at h0
 refine calls_run Tryd.func34 rfl Tryd.ntmps34 (by kernel_rfl) ?_
 refine gv_sub [0, 1] (σ' := [(0, (.slice pa0_0 (List.length words_0) pc0_0)), (1, (.int .i64 width_1))]) (by kernel_rfl) ?_
 refine gv_seq <| gv_region <| gv_pureN 1 [4] [] (by kernel_rfl) ?_
 refine gv_nil <| gv_seq <| gv_region <| gv_pureN 1 [5] [(5, (.slice none (List.length ([] : List ByteArray)) 0))] (by kernel_rfl) ?_
 refine gv_nil <| gv_seq <| gv_region <| gv_pureN 2 [6, 12] [(6, (.int .i64 width_1))] (by kernel_rfl) ?_
 refine gv_nil <| gv_seq <| gv_seq <| gv_region <| gv_pureN 1 [7] [(7, (.int .i64 0))] (by kernel_rfl) ?_
 refine gv_nil <| bindE h0 ?_; clear h0; intro j1 h1 h0
 refine gv_cut_code (J := fun a w2 => ∃ (a5_0j : Option Addr) (c5_0j : Nat), Below w0.heap.size w0 w2 ∧ w0.heap.size ≤ w2.heap.size ∧ Gv.Own sE 9 w2 (fun _ => False) a5_0j c5_0j j1 ∧ (∀ g, blk a5_0j = some g → w0.heap.size ≤ g) ∧ a.defers = [] ∧ a.tmps.size = 85 ∧ Ok [(5, (.slice a5_0j (List.length j1) c5_0j))] a.tmps) ?_ ?_
 ·skip
  refine gv_block <| gv_loop (A := fun (s3 : ((List ByteArray) × Int × Int)) a w4 => ∃ (a5_0j : Option Addr) (c5_0j : Nat), Below w0.heap.size w0 w4 ∧ w0.heap.size ≤ w4.heap.size ∧ Gv.Own sE 9 w4 (fun _ => False) a5_0j c5_0j s3.1 ∧ (∀ g, blk a5_0j = some g → w0.heap.size ≤ g) ∧ a.defers = [] ∧ a.tmps.size = 85 ∧ Ok [(0, (.slice pa0_0 (List.length words_0) pc0_0)), (1, (.int .i64 width_1)), (5, (.slice a5_0j (List.length s3.1) c5_0j)), (6, (.int .i64 s3.2.1)), (7, (.int .i64 s3.2.2))] a.tmps) h1 ?_ ?_
  ·intro a hd hs hok
   exact ⟨none, 0, hB0, (Nat.le_refl _), (Gv.Own.nil sE 9 w0 (fun _ => False)), (fun _ h => by cases h), hd, hs, ok_pick [0, 1, 5, 6, 7] hok (by kernel_rfl)⟩
  ·rintro s3 r2 h2 hR2 a w4 ⟨a7, c8, hB5, hz6, ho9, hl10, hd, hs, hok⟩
   refine gv_in ?_ hd hs hok
   clear hd hs hok
   refine gv_seq <| gv_seq <| gv_region <| gv_pureN 4 [13, 14, 15, 16] [(16, (.bool (decide (s3.2.2 < ((List.length words_0 : Nat) : Int)))))] (by kernel_rfl) ?_
   refine gv_nil <| gv_cond (b := (decide (s3.2.2 < ((List.length words_0 : Nat) : Int)))) (by kernel_rfl) (fun hc11 => ?_) (fun hc11 => ?_)
   ·replace h2 := ite_t hc11 h2
    refine gv_skip <| gv_seq <| bindE h2 ?_; clear h2; intro j12 h3 h2
    refine gv_cut_code (J := fun a w13 => ∃ (a5_0j : Option Addr) (c5_0j : Nat), Below w0.heap.size w0 w13 ∧ w4.heap.size ≤ w13.heap.size ∧ Gv.Own sE 9 w13 (fun _ => False) a5_0j c5_0j j12.1 ∧ (∀ g, blk a5_0j = some g → w0.heap.size ≤ g) ∧ a.defers = [] ∧ a.tmps.size = 85 ∧ Ok [(0, (.slice pa0_0 (List.length words_0) pc0_0)), (1, (.int .i64 width_1)), (5, (.slice a5_0j (List.length j12.1) c5_0j)), (6, (.int .i64 j12.2)), (7, (.int .i64 s3.2.2))] a.tmps) ?_ ?_
    ·skip
     refine gv_block <| gv_seq <| gv_region <| gv_pureN 2 [20, 21] [(20, (.slice pa0_0 (List.length words_0) pc0_0)), (21, (.int .i64 s3.2.2))] (by kernel_rfl) ?_
     refine bindE h3 ?_; clear h3; intro x14 hx15 h3
     refine gv_idxaddr (t := 22) (e := 9) (a := pa0_0) (len := List.length words_0) (cap := pc0_0) (kk := .i64) (i := s3.2.2) (sz := 1) [] (fun e => by cases e) rfl rfl rfl (by kernel_rfl) (by kernel_rfl) Tryd.underlying22 (by kernel_rfl) ((hpa0_0.below hB5 hX0).has hx15) (idx_spec hx15).1 (idx_spec hx15).2.1 rfl ?_
     refine gv_load (t := 9) (A := (elemAddr pa0_0 ((s3.2.2 : Int).toNat * 1))) (.string x14) [] (fun e => by cases e) rfl rfl rfl (by kernel_rfl) (by kernel_rfl) (by kernel_rfl) (inw0 ((hpa0_0.below hB5 hX0).cell hx15)) rfl ?_
     refine bindE h3 ?_; clear h3; intro r16 hr17 h3
     refine gv_call0 (by kernel_rfl) rfl (by kernel_rfl) enters24 (ref4_Points_ok fuel x14 w4  r16 hr17) ?_
     rintro v20 w18 ⟨hg19, a21, c22, rfl, ho23, hl24⟩
     have hl25 : ∀ g, blk a21 = some g → w0.heap.size ≤ g := fun g e => Nat.le_trans hB5.size (hl24 g e)
     refine gv_pureN 5 [8, 9, 19, 25, 26] [(8, (.slice a21 (List.length r16.1) c22))] (by kernel_rfl) ?_
     refine gv_nil <| gv_seq <| gv_seq <| gv_region <| gv_cut_ops (J := fun a w26 => w18 = w26 ∧ a.defers = [] ∧ a.tmps.size = 85 ∧ Ok [(0, (.slice pa0_0 (List.length words_0) pc0_0)), (1, (.int .i64 width_1)), (5, (.slice a7 (List.length s3.1) c8)), (6, (.int .i64 s3.2.1)), (7, (.int .i64 s3.2.2)), (8, (.slice a21 (List.length r16.1) c22)), (38, (.bool ((decide ((IntKind.i64.wrap ((IntKind.i64.wrap (s3.2.1 + 1)) + ((List.length r16.1 : Nat) : Int))) ≤ width_1)) && (decide (((List.length s3.1 : Nat) : Int) > 0)))))] a.tmps) ?_ ?_
     ·skip
      refine gv_pureN 8 [27, 28, 29, 30, 31, 32, 33, 34] [(34, (.bool (decide ((IntKind.i64.wrap ((IntKind.i64.wrap (s3.2.1 + 1)) + ((List.length r16.1 : Nat) : Int))) ≤ width_1))))] (by kernel_rfl) ?_
      refine gv_split (s := 34) (g := (decide ((IntKind.i64.wrap ((IntKind.i64.wrap (s3.2.1 + 1)) + ((List.length r16.1 : Nat) : Int))) ≤ width_1))) (by kernel_rfl) (fun hc27 => ?_) (fun hc27 => ?_)
      ·skip
       refine gv_pureN 4 [35, 36, 37, 38] [(38, (.bool (decide (((List.length s3.1 : Nat) : Int) > 0))))] (by kernel_rfl) ?_
       refine gv_nil <| gv_sub [0, 1, 5, 6, 7, 8, 38] (σ' := [(0, (.slice pa0_0 (List.length words_0) pc0_0)), (1, (.int .i64 width_1)), (5, (.slice a7 (List.length s3.1) c8)), (6, (.int .i64 s3.2.1)), (7, (.int .i64 s3.2.2)), (8, (.slice a21 (List.length r16.1) c22)), (38, (.bool (decide (((List.length s3.1 : Nat) : Int) > 0))))]) (by kernel_rfl) ?_
       refine gv_goal fun a hd hs hok => ⟨rfl, hd, hs, ?_⟩
       obtain ⟨q0, q1, q5, q6, q7, q8, q38, _⟩ := hok
       exact ⟨q0, q1, q5, q6, q7, q8, (by rw [hc27]; exact q38), trivial⟩
      ·skip
       refine gv_pureN 4 [35, 36, 37, 38] [(38, (.bool false))] (by kernel_rfl) ?_
       refine gv_nil <| gv_sub [0, 1, 5, 6, 7, 8, 38] (σ' := [(0, (.slice pa0_0 (List.length words_0) pc0_0)), (1, (.int .i64 width_1)), (5, (.slice a7 (List.length s3.1) c8)), (6, (.int .i64 s3.2.1)), (7, (.int .i64 s3.2.2)), (8, (.slice a21 (List.length r16.1) c22)), (38, (.bool false))]) (by kernel_rfl) ?_
       refine gv_goal fun a hd hs hok => ⟨rfl, hd, hs, ?_⟩
       obtain ⟨q0, q1, q5, q6, q7, q8, q38, _⟩ := hok
       exact ⟨q0, q1, q5, q6, q7, q8, (by rw [hc27]; exact q38), trivial⟩
     ·rintro a w26 ⟨e, hd, hs, hok⟩; subst e
      refine gv_in ?_ hd hs hok
      clear hd hs hok
      refine gv_cond (b := ((decide ((IntKind.i64.wrap ((IntKind.i64.wrap (s3.2.1 + 1)) + ((List.length r16.1 : Nat) : Int))) ≤ width_1)) && (decide (((List.length s3.1 : Nat) : Int) > 0)))) (by kernel_rfl) (fun hc28 => ?_) (fun hc28 => ?_)
      ·replace h3 := ite_t hc28 h3
       refine gv_seq <| gv_drawA (by kernel_rfl) ?_
       intro w29 hg30
       refine gv_pre [0, 1, 2, 3, 4, 6, 7, 8] (bA 14 [0, 1, 2, 3, 4, 6, 7, 8]) 6 (by kernel_rfl) (by kernel_rfl) ?_
       refine gv_pureN 4 [39, 40, 41, 42] [(39, (.slice a7 (List.length s3.1) c8)), (42, (.int .i64 (IntKind.i64.wrap (((List.length s3.1 : Nat) : Int) - 1))))] (by kernel_rfl) ?_
       refine bindE h3 ?_; clear h3; intro x31 hx32 h3
       have hg33 := (grown_trans hg19 hg30)
       have hk34 := ho9.grown hg33 (fun _ h => h.elim) nb
       refine gv_idxaddr (t := 22) (e := 9) (a := a7) (len := List.length s3.1) (cap := c8) (kk := .i64) (i := (IntKind.i64.wrap (((List.length s3.1 : Nat) : Int) - 1))) (sz := 1) [] (fun e => by cases e) rfl rfl rfl (by kernel_rfl) (by kernel_rfl) Tryd.underlying22 (by kernel_rfl) ((hk34.rd (Y := fun k => blk a7 = some k) (fun _ h => h.elim) (fun g e => e)).has hx32) (idx_spec hx32).1 (idx_spec hx32).2.1 rfl ?_
       refine gv_pureN 2 [45, 46] [(45, (.slice pa0_0 (List.length words_0) pc0_0)), (46, (.int .i64 s3.2.2))] (by kernel_rfl) ?_
       refine bindE h3 ?_; clear h3; intro x35 hx36 h3
       have hB37 := bg hB5 hg33 nb
       refine gv_idxaddr (t := 22) (e := 9) (a := pa0_0) (len := List.length words_0) (cap := pc0_0) (kk := .i64) (i := s3.2.2) (sz := 1) [] (fun e => by cases e) rfl rfl rfl (by kernel_rfl) (by kernel_rfl) Tryd.underlying22 (by kernel_rfl) ((hpa0_0.below hB37 hX0).has hx36) (idx_spec hx36).1 (idx_spec hx36).2.1 rfl ?_
       refine gv_nil <| gv_goA ?_
       refine gv_stage (Cls w29 []) [0, 1, 2, 3, 4, 5, 6, 7, 8, 9, 10] [(5, some true), (9, some true), (10, some true)] (bA 14 [0, 1, 2, 3, 4, 5, 6, 7, 8, 9, 10]) 3 (by kernel_rfl) (by kernel_rfl) (Cls.refl _ _) ?_
       have hC38 := Cls.refl w29 []
       refine gv_load (t := 9) (A := (elemAddr a7 (((IntKind.i64.wrap (((List.length s3.1 : Nat) : Int) - 1)) : Int).toNat * 1))) (.string x31) [] (fun e => by cases e) rfl rfl rfl (by kernel_rfl) (by kernel_rfl) (by kernel_rfl) (inw1 fun w' hC' => ((hC'.rd (hk34.rd (Y := fun k => blk a7 = some k) (fun _ h => h.elim) (fun g e => e)) (fun k (hk : blk a7 = some k) => hk34.lt k hk) nmx_nil).cell hx32)) rfl ?_
       refine gv_load (t := 9) (A := (elemAddr pa0_0 ((s3.2.2 : Int).toNat * 1))) (.string x35) [] (fun e => by cases e) rfl rfl rfl (by kernel_rfl) (by kernel_rfl) (by kernel_rfl) (inw1 fun w' hC' => ((hC'.rd (hpa0_0.below hB37 hX0) (fun k (hk : X0 k) => ltl (hX0 k hk) hB37.size) nmx_nil).cell hx36)) rfl ?_
       refine bindE h3 ?_; clear h3; intro x39 hx40 h3
       refine gv_cat (t := 9) (s := (strOf [32])) (u := x35) x39 [] (fun e => by cases e) rfl rfl rfl (by kernel_rfl) (by kernel_rfl) hx40 rfl ?_
       refine gv_nil <| gv_goA ?_
       refine gv_pre [11, 12] (bA 14 [0, 1, 2, 3, 4, 5, 6, 7, 8, 9, 10, 11, 12]) 1 (by kernel_rfl) (by kernel_rfl) ?_
       refine bindE h3 ?_; clear h3; intro x41 hx42 h3
       refine gv_cat (t := 9) (s := x31) (u := x39) x41 [] (fun e => by cases e) rfl rfl rfl (by kernel_rfl) (by kernel_rfl) hx42 rfl ?_
       refine gv_sub [0, 1, 5, 6, 7, 8, 39, 42, 50] (σ' := [(0, (.slice pa0_0 (List.length words_0) pc0_0)), (1, (.int .i64 width_1)), (5, (.slice a7 (List.length s3.1) c8)), (6, (.int .i64 s3.2.1)), (7, (.int .i64 s3.2.2)), (8, (.slice a21 (List.length r16.1) c22)), (39, (.slice a7 (List.length s3.1) c8)), (42, (.int .i64 (IntKind.i64.wrap (((List.length s3.1 : Nat) : Int) - 1)))), (50, (.string x41))]) (by kernel_rfl) ?_
       refine bindE h3 ?_; clear h3; intro x43 hx44 h3
       refine gv_idxaddr (t := 22) (e := 9) (a := a7) (len := List.length s3.1) (cap := c8) (kk := .i64) (i := (IntKind.i64.wrap (((List.length s3.1 : Nat) : Int) - 1))) (sz := 1) [] (fun e => by cases e) rfl rfl rfl (by kernel_rfl) (by kernel_rfl) Tryd.underlying22 (by kernel_rfl) ((hk34.rd (Y := fun k => blk a7 = some k) (fun _ h => h.elim) (fun g e => e)).has hx44) (idx_spec hx44).1 (idx_spec hx44).2.1 rfl ?_
       refine gv_nil <| gv_goA ?_
       refine gv_stage (fun _ => True) [0, 1, 2, 3, 4, 5, 6, 7, 8, 9, 10, 11, 12, 13] [(13, some false)] (bA 14 [0, 1, 2, 3, 4, 5, 6, 7, 8, 9, 10, 11, 12, 13]) 0 (by kernel_rfl) (by kernel_rfl) trivial ?_
       refine bindE h3 ?_; clear h3; intro l45 hx46 h3
       refine gv_upd (f := Value.string) (hf := fun _ => rfl) (t := 9) (e := 9) (a := a7) (cap := c8) (xs := s3.1) (i := (IntKind.i64.wrap (((List.length s3.1 : Nat) : Int) - 1))) x41 l45 (by decide) rfl rfl (by kernel_rfl) rfl (by kernel_rfl) (by kernel_rfl) hk34 hx46 ?_
       intro w47 hg48 ho49 hz50
       refine ⟨(fun _ => trivial), ?_⟩
       have hln51 : List.length s3.1 = List.length l45 := by obtain ⟨_, _, e⟩ := upd_spec hx46; rw [e, List.length_set]
       refine gv_name (s := 5) (v := (.slice a7 (List.length s3.1) c8)) (v' := (.slice a7 (List.length l45) c8)) (by kernel_rfl) (by rw [hln51]) ?_
       refine gv_nil <| gv_goA ?_
       refine gv_stageE (by kernel_rfl) ?_
       refine gv_seq <| gv_region <| gv_pureN 6 [6, 52, 53, 54, 55, 56] [(6, (.int .i64 (IntKind.i64.wrap (s3.2.1 + (IntKind.i64.wrap (1 + ((List.length r16.1 : Nat) : Int)))))))] (by kernel_rfl) ?_
       refine bindE h3 ?_; clear h3; intro n52 hn53 h3
       refine gv_name (s := 6) (v := (.int .i64 (IntKind.i64.wrap (s3.2.1 + (IntKind.i64.wrap (1 + ((List.length r16.1 : Nat) : Int))))))) (v' := (.int .i64 n52)) (by kernel_rfl) (congrArg (Value.int .i64) (sj hn53)) ?_
       refine gv_nil <| gv_cexit <| gv_exit rfl ?_
       have e := sj h3; subst e
       refine gv_goal fun a hd hs hok => ?_
       have hB54 := bg hB37 hg48 hl10
       have hz55 := (nt (nt hg19.size hg30.size) hg48.size)
       exact ⟨a7, c8, hB54, hz55, ho49, hl10, hd, hs, ok_pick [0, 1, 5, 6, 7] hok (by kernel_rfl)⟩
      ·replace h3 := ite_f hc28 h3
       refine gv_skip <| gv_seq <| gv_region <| gv_pureN 1 [10] [(10, (.int .i64 0))] (by kernel_rfl) ?_
       refine gv_nil <| bindE h3 ?_; clear h3; intro j56 h4 h3
       refine gv_cut_code (J := fun a w57 => ∃ (a5_0j : Option Addr) (c5_0j : Nat), Below w0.heap.size w0 w57 ∧ w18.heap.size ≤ w57.heap.size ∧ Gv.Own sE 9 w57 (fun _ => False) a5_0j c5_0j j56.1 ∧ (∀ g, blk a5_0j = some g → w0.heap.size ≤ g) ∧ a.defers = [] ∧ a.tmps.size = 85 ∧ Ok [(0, (.slice pa0_0 (List.length words_0) pc0_0)), (1, (.int .i64 width_1)), (5, (.slice a5_0j (List.length j56.1) c5_0j)), (6, (.int .i64 j56.2)), (7, (.int .i64 s3.2.2))] a.tmps) ?_ ?_
       ·skip
        refine gv_block <| gv_loop (A := fun (s58 : ((List ByteArray) × Int × Int)) a w59 => ∃ (a5_0j : Option Addr) (c5_0j : Nat), Below w0.heap.size w0 w59 ∧ w18.heap.size ≤ w59.heap.size ∧ Gv.Own sE 9 w59 (fun _ => False) a5_0j c5_0j s58.1 ∧ (∀ g, blk a5_0j = some g → w0.heap.size ≤ g) ∧ (∀ g, blk a5_0j = some g → ¬ (fun k => blk a21 = some k) g) ∧ (∀ g, blk a21 = some g → ¬ (fun k => blk a5_0j = some k) g) ∧ Gv.Own (iE .i64) 3 w59 (fun _ => False) a21 c22 r16.1 ∧ a.defers = [] ∧ a.tmps.size = 85 ∧ Ok [(0, (.slice pa0_0 (List.length words_0) pc0_0)), (1, (.int .i64 width_1)), (5, (.slice a5_0j (List.length s58.1) c5_0j)), (6, (.int .i64 s58.2.1)), (7, (.int .i64 s3.2.2)), (8, (.slice a21 (List.length r16.1) c22)), (10, (.int .i64 s58.2.2))] a.tmps) h4 ?_ ?_
        ·intro a hd hs hok
         have hB60 := bg hB5 hg19 nb
         have hk61 := ho9.grown hg19 (fun _ h => h.elim) nb
         have ap62 : ∀ g, blk a7 = some g → ¬ (fun k => blk a21 = some k) g := fun g e hx => nl ((show ∀ k, blk a21 = some k → w4.heap.size ≤ k from hl24) _ hx) ((fun k (hk : blk a7 = some k) => ho9.lt k hk) g e)
         have ap63 : ∀ g, blk a21 = some g → ¬ (fun k => blk a7 = some k) g := fun g e hx => nl ((show ∀ k, blk a21 = some k → w4.heap.size ≤ k from hl24) g e) ((fun k (hk : blk a7 = some k) => ho9.lt k hk) _ hx)
         exact ⟨a7, c8, hB60, (Nat.le_refl _), hk61, hl10, ap62, ap63, ho23, hd, hs, ok_pick [0, 1, 5, 6, 7, 8, 10] hok (by kernel_rfl)⟩
        ·rintro s58 r5 h5 hR5 a w59 ⟨a66, c67, hB64, hz65, ho68, hl69, ap70, ap71, hk72, hd, hs, hok⟩
         refine gv_in ?_ hd hs hok
         clear hd hs hok
         clear hc28 hl24 ho23 hr17 hx15 hc11 hl10 ho9 hB5
         refine gv_seq <| gv_seq <| gv_region <| gv_pureN 4 [57, 58, 59, 60] [(60, (.bool (decide (s58.2.2 < ((List.length r16.1 : Nat) : Int)))))] (by kernel_rfl) ?_
         refine gv_nil <| gv_cond (b := (decide (s58.2.2 < ((List.length r16.1 : Nat) : Int)))) (by kernel_rfl) (fun hc73 => ?_) (fun hc73 => ?_)
         ·replace h5 := ite_t hc73 h5
          refine gv_skip <| gv_seq <| gv_block <| gv_seq <| gv_region <| gv_pureN 4 [11, 64, 65, 66] [(11, (.int .i64 (IntKind.i64.wrap (s58.2.2 + width_1))))] (by kernel_rfl) ?_
          refine gv_nil <| gv_seq <| gv_seq <| gv_region <| gv_pureN 4 [67, 68, 69, 70] [(70, (.bool (decide ((IntKind.i64.wrap (s58.2.2 + width_1)) > ((List.length r16.1 : Nat) : Int)))))] (by kernel_rfl) ?_
          refine gv_nil <| bindE h5 ?_; clear h5; intro j74 h6 h5
          refine gv_cut_code (J := fun a w75 => Below w0.heap.size w0 w75 ∧ w59.heap.size ≤ w75.heap.size ∧ Gv.Own sE 9 w75 (fun _ => False) a66 c67 s58.1 ∧ Gv.Own (iE .i64) 3 w75 (fun _ => False) a21 c22 r16.1 ∧ a.defers = [] ∧ a.tmps.size = 85 ∧ Ok [(0, (.slice pa0_0 (List.length words_0) pc0_0)), (1, (.int .i64 width_1)), (5, (.slice a66 (List.length s58.1) c67)), (7, (.int .i64 s3.2.2)), (8, (.slice a21 (List.length r16.1) c22)), (10, (.int .i64 s58.2.2)), (11, (.int .i64 j74))] a.tmps) ?_ ?_
          ·skip
           refine gv_cond (b := (decide ((IntKind.i64.wrap (s58.2.2 + width_1)) > ((List.length r16.1 : Nat) : Int)))) (by kernel_rfl) (fun hc76 => ?_) (fun hc76 => ?_)
           ·replace h6 := ite_t hc76 h6
            refine gv_region <| gv_pureN 3 [11, 71, 72] [(11, (.int .i64 ((List.length r16.1 : Nat) : Int)))] (by kernel_rfl) ?_
            refine gv_nil ?_
            have e := sj h6; subst e
            refine gv_goal fun a hd hs hok => ?_
            exact ⟨hB64, (Nat.le_refl _), ho68, hk72, hd, hs, ok_pick [0, 1, 5, 7, 8, 10, 11] hok (by kernel_rfl)⟩
           ·replace h6 := ite_f hc76 h6
            refine gv_skip ?_
            have e := sj h6; subst e
            refine gv_goal fun a hd hs hok => ?_
            exact ⟨hB64, (Nat.le_refl _), ho68, hk72, hd, hs, ok_pick [0, 1, 5, 7, 8, 10, 11] hok (by kernel_rfl)⟩
          ·rintro a w75 ⟨hB77, hz78, hk79, hk80, hd, hs, hok⟩
           refine gv_in ?_ hd hs hok
           clear hd hs hok
           have hz81 := (nt hz65 hz78)
           clear hz78 hc73 hk72 ho68 hz65 hB64
           refine gv_seq <| gv_region <| gv_pureN 4 [73, 74, 75, 76] [(73, (.slice a66 (List.length s58.1) c67)), (74, (.slice a21 (List.length r16.1) c22)), (75, (.int .i64 s58.2.2)), (76, (.int .i64 j74))] (by kernel_rfl) ?_
           refine bindE h5 ?_; clear h5; intro x82 hx83 h5
           refine gv_ssl2 (iE .i64) (t := 38) (e := 3) (xs := r16.1) (a := a21) (cap := c22) (lo := (some (.int .i64 s58.2.2))) (hi := (some (.int .i64 j74))) s58.2.2 j74 x82 (fun e => by cases e) rfl rfl rfl (by kernel_rfl) (by kernel_rfl) Tryd.underlying38 (by kernel_rfl) (.inr ⟨_, rfl⟩) (.inr ⟨_, rfl⟩) hx83 (hk80.rd (Y := fun k => blk a21 = some k) (fun _ h => h.elim) (fun g e => e)).1 ?_
           intro a84 c85 hsub86
           have hr87 := hsub86 _ _ (hk80.rd (Y := fun k => blk a21 = some k) (fun _ h => h.elim) (fun g e => e))
           refine bindE h5 ?_; clear h5; intro r88 hr89 h5
           refine gv_call0 (by kernel_rfl) rfl (by kernel_rfl) enters26 (ref4_String_ok fuel a84 c85 x82 w75 (fun k => (fun k => blk a21 = some k) k) (fun k hk => (fun k (hk : blk a21 = some k) => hk80.lt k hk) k hk) (hr87.wide (fun k hk => hk)) r88 hr89) ?_
           rintro v92 w90 ⟨hg91, rfl⟩
           refine gv_new0 (fun b => .slice (some ⟨b, 0, none⟩) 1 1) #[(.string r88)] 9 (by kernel_rfl) (by kernel_rfl) ?_
           intro b93 w94 hg95 hb96 hbe97 hz98
           have ho99 : Gv.Own sE 9 w94 (fun _ => False) (some ⟨b93, 0, none⟩) 1 ([r88] : List ByteArray) := Box.ownE hb96 ⟨[(.string r88)], [], rfl, rfl, rfl⟩ (show 1 ≤ maxLen by decide) (fun h => h)
           have hB104 := bg hB77 hg91 nb
           have hl100 : ∀ g, blk (some ⟨b93, 0, none⟩) = some g → w0.heap.size ≤ g := loo hbe97 hB104.size
           refine bindE h5 ?_; clear h5; intro l105 hx106 h5
           have hg113 := (grown_trans hg91 hg95)
           have hk114 := hk79.grown hg113 (fun _ h => h.elim) nb
           refine gv_append sE (t := 22) (ty := 22) (e := 9) (a := a66) (ax := (some ⟨b93, 0, none⟩)) (cap := c67) (cx := 1) (xs := s58.1) (ys := ([r88] : List ByteArray)) l105 (X := (fun _ => False)) (Y := (fun k => blk (some ⟨b93, 0, none⟩) = some k)) (by decide) rfl rfl (by kernel_rfl) (by kernel_rfl) Tryd.underlying22 info9 hk114 (ho99.rd (Y := fun k => blk (some ⟨b93, 0, none⟩) = some k) (fun _ h => h.elim) (fun g e => e)) hx106 (.inr fun _ _ _ _ _ h => h) (fun _ h => h.elim) ?_
           intro a107 c108 w109 hg110 ho111 hk112
           refine ⟨(fun e => by cases e), ?_⟩
           have hB116 := bg hB104 hg95 nb
           have hl115 : ∀ g, blk a107 = some g → w0.heap.size ≤ g := blk_step hk112 hl69 hB116.size
           have hk118 := hk80.grown hg113 (fun _ h => h.elim) nb
           have ap117 : ∀ g, blk a107 = some g → ¬ (fun k => blk a21 = some k) g := blk_neX hk112 ap70 (fun k (hk : blk a21 = some k) => hk118.lt k hk)
           have ap119 : ∀ g, blk a21 = some g → ¬ (fun k => blk a107 = some k) g := fun g e h => blk_rev hk112 (fun h => ((ap71) g e) h) (hk118.lt g e) h
           have hx121 := ltx (fun k (hk : blk a21 = some k) => hk80.lt k hk) hg113.size
           have ap120 : ∀ g, blk a107 = some g → ¬ (fun k => blk a21 = some k) g := blk_neX hk112 ap70 hx121
           have hk123 := hk79.grown hg91 (fun _ h => h.elim) nb
           have ap124 : ∀ g, blk a66 = some g → ¬ (fun k => blk (some ⟨b93, 0, none⟩) = some k) g := fun g e hx => nl ((lowo hbe97) _ hx) ((fun k (hk : blk a66 = some k) => hk123.lt k hk) g e)
           have ap122 : ∀ g, blk a107 = some g → ¬ (fun k => blk (some ⟨b93, 0, none⟩) = some k) g := blk_neX hk112 ap124 (fun k (hk : blk (some ⟨b93, 0, none⟩) = some k) => ho99.lt k hk)
           have ap126 : ∀ g, blk (some ⟨b93, 0, none⟩) = some g → ¬ (fun k => blk a66 = some k) g := fun g e hx => nl ((lowo hbe97) g e) ((fun k (hk : blk a66 = some k) => hk123.lt k hk) _ hx)
           have ap125 : ∀ g, blk (some ⟨b93, 0, none⟩) = some g → ¬ (fun k => blk a107 = some k) g := fun g e h => blk_rev hk112 (fun h => ((ap126) g e) h) (ho99.lt g e) h
           refine gv_pureN 1 [5] [(5, (.slice a107 (List.length l105) c108))] (by kernel_rfl) ?_
           refine gv_nil <| gv_region <| gv_pureN 4 [6, 81, 82, 83] [(6, (.int .i64 (IntKind.i64.wrap (j74 - s58.2.2))))] (by kernel_rfl) ?_
           refine gv_nil <| gv_blk <| gv_region <| gv_pureN 4 [10, 61, 62, 63] [(10, (.int .i64 (IntKind.i64.wrap (s58.2.2 + width_1))))] (by kernel_rfl) ?_
           refine gv_nil ?_
           have e := sj h5; subst e
           refine gv_goal fun a hd hs hok => ?_
           have hB127 := bg hB116 hg110 hl69
           have hz128 := (nt (nt (nt hz81 hg91.size) hg95.size) hg110.size)
           have hk129 := hk118.grown hg110 (fun _ h => h.elim) (rdnn ap70)
           exact ⟨(l105, (IntKind.i64.wrap (j74 - s58.2.2)), (IntKind.i64.wrap (s58.2.2 + width_1))), rfl, a107, c108, hB127, hz128, ho111, hl115, ap117, ap119, hk129, hd, hs, ok_pick [0, 1, 5, 6, 7, 8, 10] hok (by kernel_rfl)⟩
         ·replace h5 := ite_f hc73 h5
          refine gv_cexit <| gv_exit rfl ?_
          have e := sj h5; subst e
          replace h4 := congrArg some (hR5 _ rfl)
          have e := sj h4; subst e
          refine gv_goal fun a hd hs hok => ?_
          have hz130 := hz65
          exact ⟨a66, c67, hB64, hz130, ho68, hl69, hd, hs, ok_pick [0, 1, 5, 6, 7] hok (by kernel_rfl)⟩
       ·rintro a w57 ⟨a133, c134, hB131, hz132, ho135, hl136, hd, hs, hok⟩
        refine gv_in ?_ hd hs hok
        clear hd hs hok
        have hz137 := (nt hg19.size hz132)
        clear hz132 hc28 hl25 hl24 ho23 hg19 hr17 hx15 hc11 hl10 ho9 hB5
        refine gv_blk ?_
        have e := sj h3; subst e
        refine gv_goal fun a hd hs hok => ?_
        have hz138 := hz137
        exact ⟨a133, c134, hB131, hz138, ho135, hl136, hd, hs, ok_pick [0, 1, 5, 6, 7] hok (by kernel_rfl)⟩
    ·rintro a w13 ⟨a141, c142, hB139, hz140, ho143, hl144, hd, hs, hok⟩
     refine gv_in ?_ hd hs hok
     clear hd hs hok
     have hz145 := (nt hz6 hz140)
     clear hz140 hc11 hl10 ho9 hz6 hB5
     refine gv_region <| gv_pureN 3 [7, 17, 18] [(7, (.int .i64 (IntKind.i64.wrap (s3.2.2 + 1))))] (by kernel_rfl) ?_
     refine gv_nil ?_
     have e := sj h2; subst e
     refine gv_goal fun a hd hs hok => ?_
     have hz146 := hz145
     exact ⟨(j12.1, j12.2, (IntKind.i64.wrap (s3.2.2 + 1))), rfl, a141, c142, hB139, hz146, ho143, hl144, hd, hs, ok_pick [0, 1, 5, 6, 7] hok (by kernel_rfl)⟩
   ·replace h2 := ite_f hc11 h2
    refine gv_cexit <| gv_exit rfl ?_
    have e := sj h2; subst e
    replace h1 := congrArg some (hR2 _ rfl)
    have e := sj h1; subst e
    refine gv_goal fun a hd hs hok => ?_
    have hz147 := hz6
    exact ⟨a7, c8, hB5, hz147, ho9, hl10, hd, hs, ok_pick [5] hok (by kernel_rfl)⟩
 ·rintro a w2 ⟨a150, c151, hB148, hz149, ho152, hl153, hd, hs, hok⟩
  refine gv_in ?_ hd hs hok
  clear hd hs hok
  refine gv_seq <| gv_region <| gv_pureN 2 [4, 84] [(4, (.slice a150 (List.length j1) c151))] (by kernel_rfl) ?_
  refine gv_nil <| gv_cret ?_
  have e := sj h0; subst e
  refine gv_ret (gv_done [(.slice a150 (List.length j1) c151)] rfl ⟨(by kernel_rfl), trivial⟩ ?_)
  exact ⟨grown_of_below hB148, a150, c151, rfl, ho152, hl153⟩

theorem textstr_Distance_ok (fuel : Nat) (a_0 : ByteArray) (b_1 : ByteArray) (w0 : World) (X0 : Nat → Prop) (hX0 : ∀ k, X0 k → k < w0.heap.size) (hG1 : Rd bE w0 X0 (some ⟨1, 0, none⟩) 256 utf8First) (hG2 : Rd (prE (iE .u8) (iE .u8)) w0 X0 (some ⟨2, 0, none⟩) 16 utf8Acc) (r0 : (Int × (Int × Int))) (h0 : textstr_Distance fuel a_0 b_1 = some r0) :
    Calls Tryd.prog 35 ([(.string a_0), (.string b_1)] : List Value).toArray w0 (Ret fun v w' => w0.grownBy w' none ∧ v = tup [(.int .i64 r0.1), (.agg #[(.int .i64 r0.2.1), (.int .i64 r0.2.2)])]) := by
 have hB0 : Below w0.heap.size w0 w0 := Below.refl _ _
 unfold textstr_Distance at h0
 refine calls_run Tryd.func35 rfl Tryd.ntmps35 (by kernel_rfl) ?_
 refine gv_sub [0, 1] (σ' := [(0, (.string a_0)), (1, (.string b_1))]) (by kernel_rfl) ?_
 refine gv_seq <| gv_region <| gv_pureN 1 [4] [] (by kernel_rfl) ?_
 refine gv_new0 (fun b => .pointer (some ⟨b, 0, none⟩)) #[(.int .i64 0), (.int .i64 0)] 24 (by kernel_rfl) (by kernel_rfl) ?_
 intro b1 w2 hg3 hb4 hbe5 hz6
 refine gv_nil <| gv_seq <| gv_seq <| gv_region <| gv_pureN 2 [17, 18] [(17, (.string a_0)), (18, (.string b_1))] (by kernel_rfl) ?_
 refine gv_new0 (fun b => .slice (some ⟨b, 0, none⟩) 2 2) #[(.string a_0), (.string b_1)] 9 (by kernel_rfl) (by kernel_rfl) ?_
 intro b7 w8 hg9 hb10 hbe11 hz12
 have ho13 : Gv.Own sE 9 w8 (fun _ => False) (some ⟨b7, 0, none⟩) 2 ([a_0, b_1] : List ByteArray) := Box.ownE hb10 ⟨[(.string a_0)], [(.string b_1)], rfl, rfl, ⟨[(.string b_1)], [], rfl, rfl, rfl⟩⟩ (show 2 ≤ maxLen by decide) (fun h => h)
 have hB18 := bg hB0 hg3 nb
 have hl14 : ∀ g, blk (some ⟨b7, 0, none⟩) = some g → w0.heap.size ≤ g := loo hbe11 hB18.size
 refine bindE h0 ?_; clear h0; intro r19 hr20 h0
 have hB21 := bg hB18 hg9 nb
 refine gv_call0 (by kernel_rfl) rfl (by kernel_rfl) enters58 (textstr_check_ok fuel (some ⟨b7, 0, none⟩) 2 ([a_0, b_1] : List ByteArray) w8 (fun k => (fun k => blk (some ⟨b7, 0, none⟩) = some k) k ∨ X0 k ∨ X0 k) (fun k hk => (hk).elim (fun h => (fun k (hk : blk (some ⟨b7, 0, none⟩) = some k) => ho13.lt k hk) k h) (fun h => (h).elim (fun h => (fun k (hk : X0 k) => ltl (hX0 k hk) hB21.size) k h) (fun h => (fun k (hk : X0 k) => ltl (hX0 k hk) hB21.size) k h))) ((ho13.rd (Y := fun k => blk (some ⟨b7, 0, none⟩) = some k) (fun _ h => h.elim) (fun g e => e)).wide (fun k hk => (.inl hk))) ((hG1.below hB21 hX0).wide (fun k hk => (.inr (.inl hk)))) ((hG2.below hB21 hX0).wide (fun k hk => (.inr (.inr hk)))) r19 hr20) ?_
 rintro v24 w22 ⟨hg23, rfl⟩
 refine gv_new0 (fun b => .pointer (some ⟨b, 0, none⟩)) #[(.int .i64 0), (.int .i64 0)] 24 (by kernel_rfl) (by kernel_rfl) ?_
 intro b25 w26 hg27 hb28 hbe29 hz30
 refine gv_store0 24 0 (.agg #[(.int .i64 r19.1), (.int .i64 r19.2)]) #[(.int .i64 r19.1), (.int .i64 r19.2)] hb28 (by kernel_rfl) (by kernel_rfl) (by kernel_rfl) ?_
 intro w31 hg32 hb33 hz34
 refine gv_nil <| gv_seq <| gv_region <| gv_pureN 1 [21] [(21, (bp b25))] (by kernel_rfl) ?_
 refine gv_load (t := 3) (A := ⟨b25, 0, none⟩) (.int .i64 r19.1) [] (fun e => by cases e) rfl rfl rfl (by kernel_rfl) (by kernel_rfl) (by kernel_rfl) (inw0 (hb33.cell 0 rfl)) rfl ?_
 refine gv_pureN 1 [23] [(23, (.bool (r19.1 != 0)))] (by kernel_rfl) ?_
 refine gv_nil <| gv_cond (b := (r19.1 != 0)) (by kernel_rfl) (fun hc35 => ?_) (fun hc35 => ?_)
 ·replace h0 := ite_t hc35 h0
  refine gv_seq <| gv_drawA (by kernel_rfl) ?_
  intro w36 hg37
  refine gv_pre [1] (bA 3 [1]) 2 (by kernel_rfl) (by kernel_rfl) ?_
  refine gv_pureN 1 [4] [(4, (.int .i64 0))] (by kernel_rfl) ?_
  refine gv_nil <| gv_goA ?_
  refine gv_stage (Cls w36 []) [0, 1] [(0, some true)] (bA 3 [0, 1]) 1 (by kernel_rfl) (by kernel_rfl) (Cls.refl _ _) ?_
  have hC38 := Cls.refl w36 []
  have hk39 := hb33.grown hg37 nb
  refine gv_loadBox (t := 24) (b := b25) (t' := 24) (fr := (0, 0)) #[(.int .i64 r19.1), (.int .i64 r19.2)] [] (fun e => by cases e) rfl rfl rfl (by kernel_rfl) (by kernel_rfl) (by kernel_rfl) (by kernel_rfl) (inw1 fun w' hC' => (hC'.box hk39 nm_nil)) rfl ?_
  refine gv_nil <| gv_goA ?_
  refine gv_stage (fun _ => True) [0, 1, 2] [(2, some false)] (bA 3 [0, 1, 2]) 0 (by kernel_rfl) (by kernel_rfl) trivial ?_
  have hg44 := (grown_trans (grown_trans hg9 hg23) hg27)
  have hg45 := (grown_trans hg9 hg23)
  have hk46 := hb4.grown hg45 nb
  have lt47 := ltl ((ltb hk46) _ rfl) ((lowb hbe29) _ rfl)
  have hk48 := ((hb4.grown hg44 nb).grown hg32 (rowne (ng lt47))).grown hg37 nb
  refine gv_store (t := 24) (b := b1) (off := 0) (v := (.agg #[(.int .i64 r19.1), (.int .i64 r19.2)])) (t' := 24) (cs := #[(.int .i64 0), (.int .i64 0)]) #[(.int .i64 r19.1), (.int .i64 r19.2)] (by decide) rfl rfl (by kernel_rfl) (by kernel_rfl) (by kernel_rfl) (by intro u hu; simp [Value.cells] at hu; rcases hu with rfl | rfl <;> rfl) (show 0 + 2 ≤ 2 by decide) (by rfl) hk48 ?_
  intro w40 hg41 hb42 hz43
  refine ⟨(fun _ => trivial), ?_⟩
  refine gv_nil <| gv_goA ?_
  refine gv_stageE (by kernel_rfl) ?_
  refine gv_cret ?_
  have e := sj h0; subst e
  refine gv_ret (gv_done [(.int .i64 0), (.agg #[(.int .i64 r19.1), (.int .i64 r19.2)])] rfl ⟨(by kernel_rfl), ⟨⟨b1, 0, none⟩, (by kernel_rfl), run_loadVar_row w40 b1 _ 24 _ _ _ hb42 Tryd.underlying24 rfl (by kernel_rfl)⟩, trivial⟩ ?_)
  have hg49 := (grown_trans hg23 hg27)
  have hB50 := bg hB21 hg49 nb
  have hB51 := bg hB21 hg23 nb
  have hlo52 : w0.heap.size ≤ b25 := lob hbe29 hB51.size
  have hB53 := bg hB50 hg32 (rowlo hlo52)
  have hB54 := bg hB53 hg37 nb
  have hlo55 : w0.heap.size ≤ b1 := lob hbe5 hB0.size
  have hB56 := bg hB54 hg41 (rowlo hlo55)
  exact ⟨grown_of_below hB56, rfl⟩
 ·replace h0 := ite_f hc35 h0
  refine gv_skip <| gv_seq <| gv_region <| gv_pureN 1 [25] [(25, (.string a_0))] (by kernel_rfl) ?_
  refine bindE h0 ?_; clear h0; intro l64 hx65 h0
  refine gv_s2r (src := 9) (dst := 72) (e := 21) (s := a_0) (by decide) rfl rfl (by kernel_rfl) (by kernel_rfl) Tryd.underlying9 Tryd.underlying72 Tryd.underlying21 hx65 ?_
  rintro a57 c58 w59 hg60 hr61 hz63
  refine ⟨(fun e => by cases e), ?_⟩
  have hx66 : ∀ k, k = w31.heap.size → k < w59.heap.size := lts hz63
  have hg68 := (grown_trans hg23 hg27)
  have hB69 := bg hB21 hg68 nb
  have hB70 := bg hB21 hg23 nb
  have hlo71 : w0.heap.size ≤ b25 := lob hbe29 hB70.size
  have hB72 := bg hB69 hg32 (rowlo hlo71)
  have hx67 : ∀ k, k = w31.heap.size → X0 k ∨ w0.heap.size ≤ k := fun k hk => .inr (lowe hB72.size k hk)
  clear hlo71 hB70 hB69 hg68 hz63 hx65 hc35 hz34 hb33 hz30 hb28 hB21 hr20 hl14 hB18 ho13 hz12 hbe11 hb10 hz6 hg3
  refine gv_pureN 1 [27] [(27, (.string b_1))] (by kernel_rfl) ?_
  refine bindE h0 ?_; clear h0; intro l80 hx81 h0
  refine gv_s2r (src := 9) (dst := 72) (e := 21) (s := b_1) (by decide) rfl rfl (by kernel_rfl) (by kernel_rfl) Tryd.underlying9 Tryd.underlying72 Tryd.underlying21 hx81 ?_
  rintro a73 c74 w75 hg76 hr77 hz79
  refine ⟨(fun e => by cases e), ?_⟩
  have hx82 : ∀ k, k = w59.heap.size → k < w75.heap.size := lts hz79
  have hB84 := bg hB72 hg60 nb
  have hx83 : ∀ k, k = w59.heap.size → X0 k ∨ w0.heap.size ≤ k := fun k hk => .inr (lowe hB84.size k hk)
  refine gv_pureN 2 [7, 8] [(7, (.slice a57 (List.length l64) c58)), (8, (.slice a73 (List.length l80) c74))] (by kernel_rfl) ?_
  refine gv_sub [5, 7, 8] (σ' := [(5, (bp b1)), (7, (.slice a57 (List.length l64) c58)), (8, (.slice a73 (List.length l80) c74))]) (by kernel_rfl) ?_
  refine gv_nil <| gv_seq <| gv_region <| gv_pureN 3 [29, 30, 31] [(31, (.int .i64 (IntKind.i64.wrap (((List.length l80 : Nat) : Int) + 1))))] (by kernel_rfl) ?_
  refine bindE h0 ?_; clear h0; intro l85 hx86 h0
  refine gv_makeC (f := (fun n : Int => Value.int .i64 n)) (hf := fun _ => rfl) (t := 38) (e := 3) (kl := .i64) (kc := .i64) (l := (IntKind.i64.wrap (((List.length l80 : Nat) : Int) + 1))) (c := (IntKind.i64.wrap (((List.length l80 : Nat) : Int) + 1))) (bytes := 8) 0 l85 (by decide) rfl rfl (by kernel_rfl) (by kernel_rfl) Tryd.underlying38 (by kernel_rfl) (by decide) hx86 ?_
  intro b87 w88 hg89 ho90 hbe91 hz92
  refine ⟨(fun e => by cases e), ?_⟩
  have hB94 := bg hB84 hg76 nb
  have hl93 : ∀ g, blk (some ⟨b87, 0, none⟩) = some g → w0.heap.size ≤ g := loo hbe91 hB94.size
  refine gv_pureN 1 [9] [(9, (.slice (some ⟨b87, 0, none⟩) (List.length l85) ((IntKind.i64.wrap (((List.length l80 : Nat) : Int) + 1))).toNat))] (by kernel_rfl) ?_
  refine gv_nil <| gv_seq <| gv_seq <| gv_region <| gv_pureN 3 [33, 34, 35] [(34, (.int .i64 ((List.length l85 : Nat) : Int))), (35, (.int .i64 0))] (by kernel_rfl) ?_
  refine gv_nil <| bindE h0 ?_; clear h0; intro j95 h1 h0
  refine gv_cut_code (J := fun a w96 => ∃ (a9_0j : Option Addr) (c9_0j : Nat), Below w0.heap.size w0 w96 ∧ w88.heap.size ≤ w96.heap.size ∧ Gv.Own (iE .i64) 3 w96 (fun _ => False) a9_0j c9_0j j95 ∧ (∀ g, blk a9_0j = some g → w0.heap.size ≤ g) ∧ (∀ g, blk a9_0j = some g → ¬ (· = b1) g) ∧ (∀ g, blk a9_0j = some g → ¬ (· = w31.heap.size) g) ∧ (∀ g, blk a9_0j = some g → ¬ (· = w59.heap.size) g) ∧ ¬ (fun k => blk a9_0j = some k) b1 ∧ Box w96 b1 24 #[(.int .i64 0), (.int .i64 0)] ∧ Rd (iE .i32) w96 (· = w31.heap.size) a57 c58 l64 ∧ Rd (iE .i32) w96 (· = w59.heap.size) a73 c74 l80 ∧ a.defers = [] ∧ a.tmps.size = 98 ∧ Ok [(5, (bp b1)), (7, (.slice a57 (List.length l64) c58)), (8, (.slice a73 (List.length l80) c74)), (9, (.slice a9_0j (List.length j95) c9_0j))] a.tmps) ?_ ?_
  ·skip
   refine gv_block <| gv_loop (A := fun (s97 : ((List Int) × Int)) a w98 => ∃ (a9_0j : Option Addr) (c9_0j : Nat), Below w0.heap.size w0 w98 ∧ w88.heap.size ≤ w98.heap.size ∧ Gv.Own (iE .i64) 3 w98 (fun _ => False) a9_0j c9_0j s97.1 ∧ (∀ g, blk a9_0j = some g → w0.heap.size ≤ g) ∧ (∀ g, blk a9_0j = some g → ¬ (· = b1) g) ∧ (∀ g, blk a9_0j = some g → ¬ (· = w31.heap.size) g) ∧ (∀ g, blk a9_0j = some g → ¬ (· = w59.heap.size) g) ∧ ¬ (fun k => blk a9_0j = some k) b1 ∧ Box w98 b1 24 #[(.int .i64 0), (.int .i64 0)] ∧ Rd (iE .i32) w98 (· = w31.heap.size) a57 c58 l64 ∧ Rd (iE .i32) w98 (· = w59.heap.size) a73 c74 l80 ∧ a.defers = [] ∧ a.tmps.size = 98 ∧ Ok [(5, (bp b1)), (7, (.slice a57 (List.length l64) c58)), (8, (.slice a73 (List.length l80) c74)), (9, (.slice a9_0j (List.length s97.1) c9_0j)), (34, (.int .i64 ((List.length l85 : Nat) : Int))), (35, (.int .i64 s97.2))] a.tmps) h1 ?_ ?_
   ·intro a hd hs hok
    have hB99 := bg hB94 hg89 nb
    have hg100 := (grown_trans (grown_trans hg9 hg23) hg27)
    have hg101 := (grown_trans hg9 hg23)
    have hk102 := hb4.grown hg101 nb
    have lt103 := ltl ((ltb hk102) _ rfl) ((lowb hbe29) _ rfl)
    have hg104 := (grown_trans hg60 hg76)
    have hk105 := ((hb4.grown hg100 nb).grown hg32 (rowne (ng lt103))).grown hg104 nb
    have ap106 : ∀ g, blk (some ⟨b87, 0, none⟩) = some g → ¬ (· = b1) g := fun g e hx => nl ((lowo hbe91) g e) ((ltb hk105) _ hx)
    have hx107 := ltx hx66 hg76.size
    have ap108 : ∀ g, blk (some ⟨b87, 0, none⟩) = some g → ¬ (· = w31.heap.size) g := fun g e hx => nl ((lowo hbe91) g e) (hx107 _ hx)
    have ap109 : ∀ g, blk (some ⟨b87, 0, none⟩) = some g → ¬ (· = w59.heap.size) g := fun g e hx => nl ((lowo hbe91) g e) (hx82 _ hx)
    have ap110 : ¬ (fun k => blk (some ⟨b87, 0, none⟩) = some k) b1 := fun hx => nl ((lowo hbe91) _ hx) ((ltb hk105) _ rfl)
    have hk111 := hk105.grown hg89 nb
    have hg112 := (grown_trans hg76 hg89)
    have hk113 := hr61.grown hg112 hx66 nb
    have hk114 := hr77.grown hg89 hx82 nb
    exact ⟨(some ⟨b87, 0, none⟩), ((IntKind.i64.wrap (((List.length l80 : Nat) : Int) + 1))).toNat, hB99, (Nat.le_refl _), ho90, hl93, ap106, ap108, ap109, ap110, hk111, hk113, hk114, hd, hs, ok_pick [5, 7, 8, 9, 34, 35] hok (by kernel_rfl)⟩
   ·rintro s97 r2 h2 hR2 a w98 ⟨a117, c118, hB115, hz116, ho119, hl120, ap121, ap122, ap123, ap124, hb125, hk126, hk127, hd, hs, hok⟩
    refine gv_in ?_ hd hs hok
    clear hd hs hok
    clear hl93 hB94 hz92 hbe91 ho90 hx86 hB84 hz79 hr77 hx81 hB72 hr61
    refine gv_seq <| gv_region <| gv_pureN 1 [36] [(36, (.bool (decide (s97.2 < ((List.length l85 : Nat) : Int)))))] (by kernel_rfl) ?_
    refine gv_nil <| gv_seq <| gv_cond (b := (decide (s97.2 < ((List.length l85 : Nat) : Int)))) (by kernel_rfl) (fun hc128 => ?_) (fun hc128 => ?_)
    ·replace h2 := ite_t hc128 h2
     refine gv_skip <| gv_seq <| gv_block <| gv_seq <| gv_region <| gv_pureN 2 [10, 37] [(10, (.int .i64 s97.2))] (by kernel_rfl) ?_
     refine gv_nil <| gv_region <| gv_pureN 3 [38, 39, 40] [(38, (.slice a117 (List.length s97.1) c118)), (39, (.int .i64 s97.2)), (40, (.int .i64 s97.2))] (by kernel_rfl) ?_
     refine bindE h2 ?_; clear h2; intro x129 hx130 h2
     refine gv_idxaddr (t := 38) (e := 3) (a := a117) (len := List.length s97.1) (cap := c118) (kk := .i64) (i := s97.2) (sz := 1) [] (fun e => by cases e) rfl rfl rfl (by kernel_rfl) (by kernel_rfl) Tryd.underlying38 (by kernel_rfl) ((ho119.rd (Y := fun k => blk a117 = some k) (fun _ h => h.elim) (fun g e => e)).has hx130) (idx_spec hx130).1 (idx_spec hx130).2.1 rfl ?_
     refine bindE h2 ?_; clear h2; intro l131 hx132 h2
     refine gv_upd (f := (fun n : Int => Value.int .i64 n)) (hf := fun _ => rfl) (t := 3) (e := 3) (a := a117) (cap := c118) (xs := s97.1) (i := s97.2) s97.2 l131 (by decide) rfl rfl (by kernel_rfl) rfl (by kernel_rfl) (by kernel_rfl) ho119 hx132 ?_
     intro w133 hg134 ho135 hz136
     refine ⟨(fun e => by cases e), ?_⟩
     have hln137 : List.length s97.1 = List.length l131 := by obtain ⟨_, _, e⟩ := upd_spec hx132; rw [e, List.length_set]
     refine gv_name (s := 9) (v := (.slice a117 (List.length s97.1) c118)) (v' := (.slice a117 (List.length l131) c118)) (by kernel_rfl) (by rw [hln137]) ?_
     refine gv_nil <| gv_blk <| gv_region <| gv_pureN 2 [35, 42] [(35, (.int .i64 (IntKind.i64.wrap (s97.2 + 1))))] (by kernel_rfl) ?_
     refine gv_nil ?_
     have e := sj h2; subst e
     refine gv_goal fun a hd hs hok => ?_
     have hB138 := bg hB115 hg134 hl120
     have hz139 := (nt hz116 hg134.size)
     have hk140 := hb125.grown hg134 ap121
     have hg141 := (grown_trans hg76 hg89)
     have hx142 := ltx hx66 hg141.size
     have hk143 := hk126.grown hg134 (fun k hk => ltl (hx142 k hk) hz116) ap122
     have hx144 := ltx hx82 hg89.size
     have hk145 := hk127.grown hg134 (fun k hk => ltl (hx144 k hk) hz116) ap123
     exact ⟨(l131, (IntKind.i64.wrap (s97.2 + 1))), rfl, a117, c118, hB138, hz139, ho135, hl120, ap121, ap122, ap123, ap124, hk140, hk143, hk145, hd, hs, ok_pick [5, 7, 8, 9, 34, 35] hok (by kernel_rfl)⟩
    ·replace h2 := ite_f hc128 h2
     refine gv_cexit <| gv_exit rfl ?_
     have e := sj h2; subst e
     replace h1 := congrArg some (hR2 _ rfl)
     have e := sj h1; subst e
     refine gv_goal fun a hd hs hok => ?_
     have hz146 := hz116
     exact ⟨a117, c118, hB115, hz146, ho119, hl120, ap121, ap122, ap123, ap124, hb125, hk126, hk127, hd, hs, ok_pick [5, 7, 8, 9] hok (by kernel_rfl)⟩
  ·rintro a w96 ⟨a149, c150, hB147, hz148, ho151, hl152, ap153, ap154, ap155, ap156, hb157, hk158, hk159, hd, hs, hok⟩
   refine gv_in ?_ hd hs hok
   clear hd hs hok
   clear hl93 hB94 hz92 hbe91 ho90 hx86 hB84 hz79 hr77 hx81 hB72 hr61
   refine gv_seq <| gv_seq <| gv_region <| gv_pureN 3 [43, 44, 45] [(43, (.slice a57 (List.length l64) c58)), (44, (.int .i64 ((List.length l64 : Nat) : Int))), (45, (.int .i64 0))] (by kernel_rfl) ?_
   refine gv_nil <| bindE h0 ?_; clear h0; intro j160 h1 h0
   refine gv_cut_code (J := fun a w161 => ∃ (a9_0j : Option Addr) (c9_0j : Nat), Below w0.heap.size w0 w161 ∧ w96.heap.size ≤ w161.heap.size ∧ Gv.Own (iE .i64) 3 w161 (fun _ => False) a9_0j c9_0j j160 ∧ (∀ g, blk a9_0j = some g → w0.heap.size ≤ g) ∧ (∀ g, blk a9_0j = some g → ¬ (· = b1) g) ∧ (∀ g, blk a9_0j = some g → ¬ (· = w59.heap.size) g) ∧ ¬ (fun k => blk a9_0j = some k) b1 ∧ Box w161 b1 24 #[(.int .i64 0), (.int .i64 0)] ∧ Rd (iE .i32) w161 (· = w59.heap.size) a73 c74 l80 ∧ a.defers = [] ∧ a.tmps.size = 98 ∧ Ok [(5, (bp b1)), (8, (.slice a73 (List.length l80) c74)), (9, (.slice a9_0j (List.length j160) c9_0j))] a.tmps) ?_ ?_
   ·skip
    refine gv_block <| gv_loop (A := fun (s162 : ((List Int) × Int)) a w163 => ∃ (a9_0j : Option Addr) (c9_0j : Nat), Below w0.heap.size w0 w163 ∧ w96.heap.size ≤ w163.heap.size ∧ Gv.Own (iE .i64) 3 w163 (fun _ => False) a9_0j c9_0j s162.1 ∧ (∀ g, blk a9_0j = some g → w0.heap.size ≤ g) ∧ (∀ g, blk a9_0j = some g → ¬ (· = b1) g) ∧ (∀ g, blk a9_0j = some g → ¬ (· = w59.heap.size) g) ∧ (∀ g, blk a9_0j = some g → ¬ (· = w31.heap.size) g) ∧ ¬ (fun k => blk a9_0j = some k) b1 ∧ Box w163 b1 24 #[(.int .i64 0), (.int .i64 0)] ∧ Rd (iE .i32) w163 (· = w59.heap.size) a73 c74 l80 ∧ Rd (iE .i32) w163 (· = w31.heap.size) a57 c58 l64 ∧ a.defers = [] ∧ a.tmps.size = 98 ∧ Ok [(5, (bp b1)), (8, (.slice a73 (List.length l80) c74)), (9, (.slice a9_0j (List.length s162.1) c9_0j)), (43, (.slice a57 (List.length l64) c58)), (44, (.int .i64 ((List.length l64 : Nat) : Int))), (45, (.int .i64 s162.2))] a.tmps) h1 ?_ ?_
    ·intro a hd hs hok
     exact ⟨a149, c150, hB147, (Nat.le_refl _), ho151, hl152, ap153, ap155, ap154, ap156, hb157, hk159, hk158, hd, hs, ok_pick [5, 8, 9, 43, 44, 45] hok (by kernel_rfl)⟩
    ·rintro s162 r2 h2 hR2 a w163 ⟨a166, c167, hB164, hz165, ho168, hl169, ap170, ap171, ap172, ap173, hb174, hk175, hk176, hd, hs, hok⟩
     refine gv_in ?_ hd hs hok
     clear hd hs hok
     clear hk159 hk158 hb157 ap156 ap155 ap154 ap153 hl152 ho151 hB147
     refine gv_seq <| gv_region <| gv_pureN 1 [46] [(46, (.bool (decide (s162.2 < ((List.length l64 : Nat) : Int)))))] (by kernel_rfl) ?_
     refine gv_nil <| gv_seq <| gv_cond (b := (decide (s162.2 < ((List.length l64 : Nat) : Int)))) (by kernel_rfl) (fun hc177 => ?_) (fun hc177 => ?_)
     ·replace h2 := ite_t hc177 h2
      refine gv_skip <| gv_seq <| gv_block <| gv_seq <| gv_region <| gv_pureN 1 [47] [(47, (.int .i64 s162.2))] (by kernel_rfl) ?_
      refine bindE h2 ?_; clear h2; intro x178 hx179 h2
      refine gv_idxaddr (t := 72) (e := 21) (a := a57) (len := List.length l64) (cap := c58) (kk := .i64) (i := s162.2) (sz := 1) [] (fun e => by cases e) rfl rfl rfl (by kernel_rfl) (by kernel_rfl) Tryd.underlying72 (by kernel_rfl) (hk176.has hx179) (idx_spec hx179).1 (idx_spec hx179).2.1 rfl ?_
      refine gv_load (t := 21) (A := (elemAddr a57 ((s162.2 : Int).toNat * 1))) (.int .i32 x178) [] (fun e => by cases e) rfl rfl rfl (by kernel_rfl) (by kernel_rfl) (by kernel_rfl) (inw0 (hk176.cell hx179)) rfl ?_
      refine gv_pureN 2 [11, 12] [(11, (.int .i64 s162.2)), (12, (.int .i32 x178))] (by kernel_rfl) ?_
      refine gv_nil <| gv_seq <| gv_region <| gv_pureN 1 [50] [(50, (.slice a166 (List.length s162.1) c167))] (by kernel_rfl) ?_
      refine bindE h2 ?_; clear h2; intro x180 hx181 h2
      refine gv_idxaddr (t := 38) (e := 3) (a := a166) (len := List.length s162.1) (cap := c167) (kk := .i64) (i := 0) (sz := 1) [] (fun e => by cases e) rfl rfl rfl (by kernel_rfl) (by kernel_rfl) Tryd.underlying38 (by kernel_rfl) ((ho168.rd (Y := fun k => blk a166 = some k) (fun _ h => h.elim) (fun g e => e)).has hx181) (idx_spec hx181).1 (idx_spec hx181).2.1 rfl ?_
      refine gv_load (t := 3) (A := (elemAddr a166 ((0 : Int).toNat * 1))) (.int .i64 x180) [] (fun e => by cases e) rfl rfl rfl (by kernel_rfl) (by kernel_rfl) (by kernel_rfl) (inw0 ((ho168.rd (Y := fun k => blk a166 = some k) (fun _ h => h.elim) (fun g e => e)).cell hx181)) rfl ?_
      refine gv_pureN 1 [13] [(13, (.int .i64 x180))] (by kernel_rfl) ?_
      refine gv_nil <| gv_seq <| gv_region <| gv_pureN 3 [53, 54, 55] [(53, (.slice a166 (List.length s162.1) c167)), (55, (.int .i64 (IntKind.i64.wrap (s162.2 + 1))))] (by kernel_rfl) ?_
      refine bindE h2 ?_; clear h2; intro x182 hx183 h2
      refine gv_idxaddr (t := 38) (e := 3) (a := a166) (len := List.length s162.1) (cap := c167) (kk := .i64) (i := 0) (sz := 1) [] (fun e => by cases e) rfl rfl rfl (by kernel_rfl) (by kernel_rfl) Tryd.underlying38 (by kernel_rfl) ((ho168.rd (Y := fun k => blk a166 = some k) (fun _ h => h.elim) (fun g e => e)).has hx183) (idx_spec hx183).1 (idx_spec hx183).2.1 rfl ?_
      refine bindE h2 ?_; clear h2; intro l184 hx185 h2
      refine gv_upd (f := (fun n : Int => Value.int .i64 n)) (hf := fun _ => rfl) (t := 3) (e := 3) (a := a166) (cap := c167) (xs := s162.1) (i := 0) (IntKind.i64.wrap (s162.2 + 1)) l184 (by decide) rfl rfl (by kernel_rfl) rfl (by kernel_rfl) (by kernel_rfl) ho168 hx185 ?_
      intro w186 hg187 ho188 hz189
      refine ⟨(fun e => by cases e), ?_⟩
      have hln190 : List.length s162.1 = List.length l184 := by obtain ⟨_, _, e⟩ := upd_spec hx185; rw [e, List.length_set]
      refine gv_name (s := 9) (v := (.slice a166 (List.length s162.1) c167)) (v' := (.slice a166 (List.length l184) c167)) (by kernel_rfl) (by rw [hln190]) ?_
      refine gv_nil <| gv_seq <| gv_region <| gv_pureN 3 [57, 58, 59] [(57, (.slice a73 (List.length l80) c74)), (58, (.int .i64 ((List.length l80 : Nat) : Int))), (59, (.int .i64 0))] (by kernel_rfl) ?_
      refine gv_nil <| bindE h2 ?_; clear h2; intro j191 h3 h2
      refine gv_cut_code (J := fun a w192 => ∃ (a9_0j : Option Addr) (c9_0j : Nat), Below w0.heap.size w0 w192 ∧ w186.heap.size ≤ w192.heap.size ∧ Gv.Own (iE .i64) 3 w192 (fun _ => False) a9_0j c9_0j j191 ∧ (∀ g, blk a9_0j = some g → w0.heap.size ≤ g) ∧ (∀ g, blk a9_0j = some g → ¬ (· = b1) g) ∧ (∀ g, blk a9_0j = some g → ¬ (· = w59.heap.size) g) ∧ (∀ g, blk a9_0j = some g → ¬ (· = w31.heap.size) g) ∧ ¬ (fun k => blk a9_0j = some k) b1 ∧ Box w192 b1 24 #[(.int .i64 0), (.int .i64 0)] ∧ Rd (iE .i32) w192 (· = w59.heap.size) a73 c74 l80 ∧ Rd (iE .i32) w192 (· = w31.heap.size) a57 c58 l64 ∧ a.defers = [] ∧ a.tmps.size = 98 ∧ Ok [(5, (bp b1)), (8, (.slice a73 (List.length l80) c74)), (9, (.slice a9_0j (List.length j191) c9_0j)), (43, (.slice a57 (List.length l64) c58)), (44, (.int .i64 ((List.length l64 : Nat) : Int))), (45, (.int .i64 s162.2))] a.tmps) ?_ ?_
      ·skip
       refine gv_block <| gv_loop (A := fun (s193 : ((List Int) × Int × Int)) a w194 => ∃ (a9_0j : Option Addr) (c9_0j : Nat), Below w0.heap.size w0 w194 ∧ w186.heap.size ≤ w194.heap.size ∧ Gv.Own (iE .i64) 3 w194 (fun _ => False) a9_0j c9_0j s193.1 ∧ (∀ g, blk a9_0j = some g → w0.heap.size ≤ g) ∧ (∀ g, blk a9_0j = some g → ¬ (· = b1) g) ∧ (∀ g, blk a9_0j = some g → ¬ (· = w59.heap.size) g) ∧ (∀ g, blk a9_0j = some g → ¬ (· = w31.heap.size) g) ∧ ¬ (fun k => blk a9_0j = some k) b1 ∧ Box w194 b1 24 #[(.int .i64 0), (.int .i64 0)] ∧ Rd (iE .i32) w194 (· = w59.heap.size) a73 c74 l80 ∧ Rd (iE .i32) w194 (· = w31.heap.size) a57 c58 l64 ∧ a.defers = [] ∧ a.tmps.size = 98 ∧ Ok [(5, (bp b1)), (8, (.slice a73 (List.length l80) c74)), (9, (.slice a9_0j (List.length s193.1) c9_0j)), (12, (.int .i32 x178)), (13, (.int .i64 s193.2.1)), (43, (.slice a57 (List.length l64) c58)), (44, (.int .i64 ((List.length l64 : Nat) : Int))), (45, (.int .i64 s162.2)), (57, (.slice a73 (List.length l80) c74)), (58, (.int .i64 ((List.length l80 : Nat) : Int))), (59, (.int .i64 s193.2.2))] a.tmps) h3 ?_ ?_
       ·intro a hd hs hok
        have hB195 := bg hB164 hg187 hl169
        have hk196 := hb174.grown hg187 ap170
        have hx197 := ltx hx82 hg89.size
        have hk198 := hk175.grown hg187 (fun k hk => ltl ((fun k hk => ltl (hx197 k hk) hz148) k hk) hz165) ap171
        have hg199 := (grown_trans hg76 hg89)
        have hx200 := ltx hx66 hg199.size
        have hk201 := hk176.grown hg187 (fun k hk => ltl ((fun k hk => ltl (hx200 k hk) hz148) k hk) hz165) ap172
        exact ⟨a166, c167, hB195, (Nat.le_refl _), ho188, hl169, ap170, ap171, ap172, ap173, hk196, hk198, hk201, hd, hs, ok_pick [5, 8, 9, 12, 13, 43, 44, 45, 57, 58, 59] hok (by kernel_rfl)⟩
       ·rintro s193 r4 h4 hR4 a w194 ⟨a204, c205, hB202, hz203, ho206, hl207, ap208, ap209, ap210, ap211, hb212, hk213, hk214, hd, hs, hok⟩
        refine gv_in ?_ hd hs hok
        clear hd hs hok
        have hz215 := (nt hz165 hg187.size)
        clear hln190 hz189 ho188 hx185 hx183 hx181 hx179 hc177 hk176 hk175 hb174 ap173 ap172 ap171 ap170 hl169 ho168 hB164
        refine gv_seq <| gv_region <| gv_pureN 1 [60] [(60, (.bool (decide (s193.2.2 < ((List.length l80 : Nat) : Int)))))] (by kernel_rfl) ?_
        refine gv_nil <| gv_seq <| gv_cond (b := (decide (s193.2.2 < ((List.length l80 : Nat) : Int)))) (by kernel_rfl) (fun hc216 => ?_) (fun hc216 => ?_)
        ·replace h4 := ite_t hc216 h4
         refine gv_skip <| gv_seq <| gv_block <| gv_seq <| gv_region <| gv_pureN 1 [61] [(61, (.int .i64 s193.2.2))] (by kernel_rfl) ?_
         refine bindE h4 ?_; clear h4; intro x217 hx218 h4
         refine gv_idxaddr (t := 72) (e := 21) (a := a73) (len := List.length l80) (cap := c74) (kk := .i64) (i := s193.2.2) (sz := 1) [] (fun e => by cases e) rfl rfl rfl (by kernel_rfl) (by kernel_rfl) Tryd.underlying72 (by kernel_rfl) (hk213.has hx218) (idx_spec hx218).1 (idx_spec hx218).2.1 rfl ?_
         refine gv_load (t := 21) (A := (elemAddr a73 ((s193.2.2 : Int).toNat * 1))) (.int .i32 x217) [] (fun e => by cases e) rfl rfl rfl (by kernel_rfl) (by kernel_rfl) (by kernel_rfl) (inw0 (hk213.cell hx218)) rfl ?_
         refine gv_pureN 2 [14, 15] [(14, (.int .i64 s193.2.2)), (15, (.int .i32 x217))] (by kernel_rfl) ?_
         refine gv_nil <| gv_seq <| gv_region <| gv_pureN 2 [16, 64] [(16, (.int .i64 s193.2.1))] (by kernel_rfl) ?_
         refine gv_nil <| gv_seq <| gv_seq <| gv_region <| gv_pureN 3 [65, 66, 67] [(67, (.bool (x178 != x217)))] (by kernel_rfl) ?_
         refine gv_nil <| bindE h4 ?_; clear h4; intro j219 h5 h4
         refine gv_cut_code (J := fun a w220 => Below w0.heap.size w0 w220 ∧ w194.heap.size ≤ w220.heap.size ∧ Box w220 b1 24 #[(.int .i64 0), (.int .i64 0)] ∧ Rd (iE .i32) w220 (· = w59.heap.size) a73 c74 l80 ∧ Gv.Own (iE .i64) 3 w220 (fun _ => False) a204 c205 s193.1 ∧ Rd (iE .i32) w220 (· = w31.heap.size) a57 c58 l64 ∧ a.defers = [] ∧ a.tmps.size = 98 ∧ Ok [(5, (bp b1)), (8, (.slice a73 (List.length l80) c74)), (9, (.slice a204 (List.length s193.1) c205)), (12, (.int .i32 x178)), (14, (.int .i64 s193.2.2)), (16, (.int .i64 j219)), (43, (.slice a57 (List.length l64) c58)), (44, (.int .i64 ((List.length l64 : Nat) : Int))), (45, (.int .i64 s162.2)), (57, (.slice a73 (List.length l80) c74)), (58, (.int .i64 ((List.length l80 : Nat) : Int))), (59, (.int .i64 s193.2.2))] a.tmps) ?_ ?_
         ·skip
          refine gv_cond (b := (x178 != x217)) (by kernel_rfl) (fun hc221 => ?_) (fun hc221 => ?_)
          ·replace h5 := ite_t hc221 h5
           refine gv_drawA (by kernel_rfl) ?_
           intro w222 hg223
           refine gv_pre [0, 1, 2, 3, 5, 6, 7, 8] (bA 13 [0, 1, 2, 3, 5, 6, 7, 8]) 5 (by kernel_rfl) (by kernel_rfl) ?_
           refine gv_pureN 3 [68, 69, 70] [(68, (.int .i64 s193.2.1)), (69, (.slice a204 (List.length s193.1) c205)), (70, (.int .i64 s193.2.2))] (by kernel_rfl) ?_
           refine bindE h5 ?_; clear h5; intro x224 hx225 h5
           have hk226 := ho206.grown hg223 (fun _ h => h.elim) nb
           refine gv_idxaddr (t := 38) (e := 3) (a := a204) (len := List.length s193.1) (cap := c205) (kk := .i64) (i := s193.2.2) (sz := 1) [] (fun e => by cases e) rfl rfl rfl (by kernel_rfl) (by kernel_rfl) Tryd.underlying38 (by kernel_rfl) ((hk226.rd (Y := fun k => blk a204 = some k) (fun _ h => h.elim) (fun g e => e)).has hx225) (idx_spec hx225).1 (idx_spec hx225).2.1 rfl ?_
           refine gv_pureN 3 [73, 74, 75] [(73, (.slice a204 (List.length s193.1) c205)), (75, (.int .i64 (IntKind.i64.wrap (s193.2.2 + 1))))] (by kernel_rfl) ?_
           refine bindE h5 ?_; clear h5; intro x227 hx228 h5
           refine gv_idxaddr (t := 38) (e := 3) (a := a204) (len := List.length s193.1) (cap := c205) (kk := .i64) (i := (IntKind.i64.wrap (s193.2.2 + 1))) (sz := 1) [] (fun e => by cases e) rfl rfl rfl (by kernel_rfl) (by kernel_rfl) Tryd.underlying38 (by kernel_rfl) ((hk226.rd (Y := fun k => blk a204 = some k) (fun _ h => h.elim) (fun g e => e)).has hx228) (idx_spec hx228).1 (idx_spec hx228).2.1 rfl ?_
           refine gv_nil <| gv_goA ?_
           refine gv_stage (Cls w222 []) [0, 1, 2, 3, 4, 5, 6, 7, 8, 9] [(4, some true), (9, some true)] (bA 13 [0, 1, 2, 3, 4, 5, 6, 7, 8, 9]) 3 (by kernel_rfl) (by kernel_rfl) (Cls.refl _ _) ?_
           have hC229 := Cls.refl w222 []
           refine gv_load (t := 3) (A := (elemAddr a204 ((s193.2.2 : Int).toNat * 1))) (.int .i64 x224) [] (fun e => by cases e) rfl rfl rfl (by kernel_rfl) (by kernel_rfl) (by kernel_rfl) (inw1 fun w' hC' => ((hC'.rd (hk226.rd (Y := fun k => blk a204 = some k) (fun _ h => h.elim) (fun g e => e)) (fun k (hk : blk a204 = some k) => hk226.lt k hk) nmx_nil).cell hx225)) rfl ?_
           refine gv_load (t := 3) (A := (elemAddr a204 (((IntKind.i64.wrap (s193.2.2 + 1)) : Int).toNat * 1))) (.int .i64 x227) [] (fun e => by cases e) rfl rfl rfl (by kernel_rfl) (by kernel_rfl) (by kernel_rfl) (inw1 fun w' hC' => ((hC'.rd (hk226.rd (Y := fun k => blk a204 = some k) (fun _ h => h.elim) (fun g e => e)) (fun k (hk : blk a204 = some k) => hk226.lt k hk) nmx_nil).cell hx228)) rfl ?_
           refine gv_nil <| gv_goA ?_
           refine gv_pre [10, 11, 12] (bA 13 [0, 1, 2, 3, 4, 5, 6, 7, 8, 9, 10, 11, 12]) 0 (by kernel_rfl) (by kernel_rfl) ?_
           refine gv_pureN 3 [16, 78, 79] [(16, (.int .i64 (IntKind.i64.wrap ((if x227 < (if x224 < s193.2.1 then x224 else s193.2.1) then x227 else (if x224 < s193.2.1 then x224 else s193.2.1)) + 1))))] (by kernel_rfl) ?_
           refine gv_sub [5, 8, 9, 12, 14, 16, 43, 44, 45, 57, 58, 59] (σ' := [(5, (bp b1)), (8, (.slice a73 (List.length l80) c74)), (9, (.slice a204 (List.length s193.1) c205)), (12, (.int .i32 x178)), (14, (.int .i64 s193.2.2)), (16, (.int .i64 (IntKind.i64.wrap ((if x227 < (if x224 < s193.2.1 then x224 else s193.2.1) then x227 else (if x224 < s193.2.1 then x224 else s193.2.1)) + 1)))), (43, (.slice a57 (List.length l64) c58)), (44, (.int .i64 ((List.length l64 : Nat) : Int))), (45, (.int .i64 s162.2)), (57, (.slice a73 (List.length l80) c74)), (58, (.int .i64 ((List.length l80 : Nat) : Int))), (59, (.int .i64 s193.2.2))]) (by kernel_rfl) ?_
           refine bindE h5 ?_; clear h5; intro n230 hn231 h5
           refine gv_name (s := 16) (v := (.int .i64 (IntKind.i64.wrap ((if x227 < (if x224 < s193.2.1 then x224 else s193.2.1) then x227 else (if x224 < s193.2.1 then x224 else s193.2.1)) + 1)))) (v' := (.int .i64 n230)) (by kernel_rfl) (congrArg (Value.int .i64) (sj hn231)) ?_
           refine gv_nil <| gv_goA ?_
           refine gv_stageE (by kernel_rfl) ?_
           have e := sj h5; subst e
           refine gv_goal fun a hd hs hok => ?_
           have hB232 := bg hB202 hg223 nb
           have hz233 := hg223.size
           have hk234 := hb212.grown hg223 nb
           have hx235 := ltx hx82 hg89.size
           have hx236 := ltx (fun k hk => ltl ((fun k hk => ltl (hx235 k hk) hz148) k hk) hz165) hg187.size
           have hk237 := hk213.grown hg223 (fun k hk => ltl (hx236 k hk) hz203) nb
           have hg238 := (grown_trans hg76 hg89)
           have hx239 := ltx hx66 hg238.size
           have hx240 := ltx (fun k hk => ltl ((fun k hk => ltl (hx239 k hk) hz148) k hk) hz165) hg187.size
           have hk241 := hk214.grown hg223 (fun k hk => ltl (hx240 k hk) hz203) nb
           exact ⟨hB232, hz233, hk234, hk237, hk226, hk241, hd, hs, ok_pick [5, 8, 9, 12, 14, 16, 43, 44, 45, 57, 58, 59] hok (by kernel_rfl)⟩
          ·replace h5 := ite_f hc221 h5
           refine gv_skip ?_
           have e := sj h5; subst e
           refine gv_goal fun a hd hs hok => ?_
           exact ⟨hB202, (Nat.le_refl _), hb212, hk213, ho206, hk214, hd, hs, ok_pick [5, 8, 9, 12, 14, 16, 43, 44, 45, 57, 58, 59] hok (by kernel_rfl)⟩
         ·rintro a w220 ⟨hB242, hz243, hb244, hk245, hk246, hk247, hd, hs, hok⟩
          refine gv_in ?_ hd hs hok
          clear hd hs hok
          have hz248 := (nt hz203 hz243)
          clear hx218 hc216 hk214 hk213 hb212 ho206 hB202
          refine gv_region <| gv_pureN 6 [80, 81, 82, 83, 84, 85] [(80, (.slice a204 (List.length s193.1) c205)), (82, (.int .i64 (IntKind.i64.wrap (s193.2.2 + 1)))), (83, (.slice a204 (List.length s193.1) c205)), (85, (.int .i64 (IntKind.i64.wrap (s193.2.2 + 1))))] (by kernel_rfl) ?_
          refine bindE h4 ?_; clear h4; intro x249 hx250 h4
          refine gv_idxaddr (t := 38) (e := 3) (a := a204) (len := List.length s193.1) (cap := c205) (kk := .i64) (i := (IntKind.i64.wrap (s193.2.2 + 1))) (sz := 1) [] (fun e => by cases e) rfl rfl rfl (by kernel_rfl) (by kernel_rfl) Tryd.underlying38 (by kernel_rfl) ((hk246.rd (Y := fun k => blk a204 = some k) (fun _ h => h.elim) (fun g e => e)).has hx250) (idx_spec hx250).1 (idx_spec hx250).2.1 rfl ?_
          refine gv_load (t := 3) (A := (elemAddr a204 (((IntKind.i64.wrap (s193.2.2 + 1)) : Int).toNat * 1))) (.int .i64 x249) [] (fun e => by cases e) rfl rfl rfl (by kernel_rfl) (by kernel_rfl) (by kernel_rfl) (inw0 ((hk246.rd (Y := fun k => blk a204 = some k) (fun _ h => h.elim) (fun g e => e)).cell hx250)) rfl ?_
          refine gv_pureN 2 [13, 88] [(13, (.int .i64 x249)), (88, (.int .i64 j219))] (by kernel_rfl) ?_
          refine bindE h4 ?_; clear h4; intro x251 hx252 h4
          refine gv_idxaddr (t := 38) (e := 3) (a := a204) (len := List.length s193.1) (cap := c205) (kk := .i64) (i := (IntKind.i64.wrap (s193.2.2 + 1))) (sz := 1) [] (fun e => by cases e) rfl rfl rfl (by kernel_rfl) (by kernel_rfl) Tryd.underlying38 (by kernel_rfl) ((hk246.rd (Y := fun k => blk a204 = some k) (fun _ h => h.elim) (fun g e => e)).has hx252) (idx_spec hx252).1 (idx_spec hx252).2.1 rfl ?_
          refine bindE h4 ?_; clear h4; intro l253 hx254 h4
          refine gv_upd (f := (fun n : Int => Value.int .i64 n)) (hf := fun _ => rfl) (t := 3) (e := 3) (a := a204) (cap := c205) (xs := s193.1) (i := (IntKind.i64.wrap (s193.2.2 + 1))) j219 l253 (by decide) rfl rfl (by kernel_rfl) rfl (by kernel_rfl) (by kernel_rfl) hk246 hx254 ?_
          intro w255 hg256 ho257 hz258
          refine ⟨(fun e => by cases e), ?_⟩
          have hln259 : List.length s193.1 = List.length l253 := by obtain ⟨_, _, e⟩ := upd_spec hx254; rw [e, List.length_set]
          refine gv_name (s := 9) (v := (.slice a204 (List.length s193.1) c205)) (v' := (.slice a204 (List.length l253) c205)) (by kernel_rfl) (by rw [hln259]) ?_
          refine gv_nil <| gv_blk <| gv_region <| gv_pureN 2 [59, 90] [(59, (.int .i64 (IntKind.i64.wrap (s193.2.2 + 1))))] (by kernel_rfl) ?_
          refine gv_nil ?_
          have e := sj h4; subst e
          refine gv_goal fun a hd hs hok => ?_
          have hB260 := bg hB242 hg256 hl207
          have hz261 := (nt hz248 hg256.size)
          have hk262 := hb244.grown hg256 ap208
          have hx263 := ltx hx82 hg89.size
          have hx264 := ltx (fun k hk => ltl ((fun k hk => ltl (hx263 k hk) hz148) k hk) hz165) hg187.size
          have hk265 := hk245.grown hg256 (fun k hk => ltl ((fun k hk => ltl (hx264 k hk) hz203) k hk) hz243) ap209
          have hg266 := (grown_trans hg76 hg89)
          have hx267 := ltx hx66 hg266.size
          have hx268 := ltx (fun k hk => ltl ((fun k hk => ltl (hx267 k hk) hz148) k hk) hz165) hg187.size
          have hk269 := hk247.grown hg256 (fun k hk => ltl ((fun k hk => ltl (hx268 k hk) hz203) k hk) hz243) ap210
          exact ⟨(l253, x249, (IntKind.i64.wrap (s193.2.2 + 1))), rfl, a204, c205, hB260, hz261, ho257, hl207, ap208, ap209, ap210, ap211, hk262, hk265, hk269, hd, hs, ok_pick [5, 8, 9, 12, 13, 43, 44, 45, 57, 58, 59] hok (by kernel_rfl)⟩
        ·replace h4 := ite_f hc216 h4
         refine gv_cexit <| gv_exit rfl ?_
         have e := sj h4; subst e
         replace h3 := congrArg some (hR4 _ rfl)
         have e := sj h3; subst e
         refine gv_goal fun a hd hs hok => ?_
         have hz270 := hz203
         exact ⟨a204, c205, hB202, hz270, ho206, hl207, ap208, ap209, ap210, ap211, hb212, hk213, hk214, hd, hs, ok_pick [5, 8, 9, 43, 44, 45] hok (by kernel_rfl)⟩
      ·rintro a w192 ⟨a273, c274, hB271, hz272, ho275, hl276, ap277, ap278, ap279, ap280, hb281, hk282, hk283, hd, hs, hok⟩
       refine gv_in ?_ hd hs hok
       clear hd hs hok
       have hz284 := (nt (nt hz165 hg187.size) hz272)
       clear hln190 hz189 ho188 hx185 hx183 hx181 hx179 hc177 hk176 hk175 hb174 ap173 ap172 ap171 ap170 hl169 ho168 hB164
       refine gv_blk <| gv_region <| gv_pureN 2 [45, 91] [(45, (.int .i64 (IntKind.i64.wrap (s162.2 + 1))))] (by kernel_rfl) ?_
       refine gv_nil ?_
       have e := sj h2; subst e
       refine gv_goal fun a hd hs hok => ?_
       have hz285 := hz284
       exact ⟨(j191, (IntKind.i64.wrap (s162.2 + 1))), rfl, a273, c274, hB271, hz285, ho275, hl276, ap277, ap278, ap279, ap280, hb281, hk282, hk283, hd, hs, ok_pick [5, 8, 9, 43, 44, 45] hok (by kernel_rfl)⟩
     ·replace h2 := ite_f hc177 h2
      refine gv_cexit <| gv_exit rfl ?_
      have e := sj h2; subst e
      replace h1 := congrArg some (hR2 _ rfl)
      have e := sj h1; subst e
      refine gv_goal fun a hd hs hok => ?_
      have hz286 := hz165
      exact ⟨a166, c167, hB164, hz286, ho168, hl169, ap170, ap171, ap173, hb174, hk175, hd, hs, ok_pick [5, 8, 9] hok (by kernel_rfl)⟩
   ·rintro a w161 ⟨a289, c290, hB287, hz288, ho291, hl292, ap293, ap294, ap295, hb296, hk297, hd, hs, hok⟩
    refine gv_in ?_ hd hs hok
    clear hd hs hok
    clear hk159 hk158 hb157 ap156 ap155 ap154 ap153 hl152 ho151 hB147 hg76 hx67 hx66
    refine gv_seq <| gv_region <| gv_pureN 3 [92, 93, 94] [(92, (.slice a289 (List.length j160) c290)), (94, (.int .i64 ((List.length l80 : Nat) : Int)))] (by kernel_rfl) ?_
    refine bindE h0 ?_; clear h0; intro x298 hx299 h0
    refine gv_idxaddr (t := 38) (e := 3) (a := a289) (len := List.length j160) (cap := c290) (kk := .i64) (i := ((List.length l80 : Nat) : Int)) (sz := 1) [] (fun e => by cases e) rfl rfl rfl (by kernel_rfl) (by kernel_rfl) Tryd.underlying38 (by kernel_rfl) ((ho291.rd (Y := fun k => blk a289 = some k) (fun _ h => h.elim) (fun g e => e)).has hx299) (idx_spec hx299).1 (idx_spec hx299).2.1 rfl ?_
    refine gv_load (t := 3) (A := (elemAddr a289 ((((List.length l80 : Nat) : Int) : Int).toNat * 1))) (.int .i64 x298) [] (fun e => by cases e) rfl rfl rfl (by kernel_rfl) (by kernel_rfl) (by kernel_rfl) (inw0 ((ho291.rd (Y := fun k => blk a289 = some k) (fun _ h => h.elim) (fun g e => e)).cell hx299)) rfl ?_
    refine gv_pureN 2 [4, 97] [(4, (.int .i64 x298)), (97, (.agg #[(.int .i64 0), (.int .i64 0)]))] (by kernel_rfl) ?_
    refine gv_store0 24 0 (.agg #[(.int .i64 0), (.int .i64 0)]) #[(.int .i64 0), (.int .i64 0)] hb296 (by kernel_rfl) (by kernel_rfl) (by kernel_rfl) ?_
    intro w300 hg301 hb302 hz303
    refine gv_nil <| gv_cret ?_
    have e := sj h0; subst e
    refine gv_ret (gv_done [(.int .i64 x298), (.agg #[(.int .i64 0), (.int .i64 0)])] rfl ⟨(by kernel_rfl), ⟨⟨b1, 0, none⟩, (by kernel_rfl), run_loadVar_row w300 b1 _ 24 _ _ _ hb302 Tryd.underlying24 rfl (by kernel_rfl)⟩, trivial⟩ ?_)
    have hlo304 : w0.heap.size ≤ b1 := lob hbe5 hB0.size
    have hB305 := bg hB287 hg301 (rowlo hlo304)
    exact ⟨grown_of_below hB305, rfl⟩

theorem ref4_Changes_ok (fuel : Nat) (pa0_0 : Option Addr) (pc0_0 : Nat) (a_0 : (List Int)) (pa1_0 : Option Addr) (pc1_0 : Nat) (b_1 : (List Int)) (w0 : World) (X0 : Nat → Prop) (hX0 : ∀ k, X0 k → k < w0.heap.size) (hpa0_0 : Rd (iE .i64) w0 X0 pa0_0 pc0_0 a_0) (hpa1_0 : Rd (iE .i64) w0 X0 pa1_0 pc1_0 b_1) (r0 : Int) (h0 : ref4_Changes fuel a_0 b_1 = some r0) :
    Calls Tryd.prog 36 ([(.slice pa0_0 (List.length a_0) pc0_0), (.slice pa1_0 (List.length b_1) pc1_0)] : List Value).toArray w0 (Ret fun v w' => w0.grownBy w' none ∧ v = tup [(.int .i64 r0)]) := by
 have hB0 : Below w0.heap.size w0 w0 := Below.refl _ _
 unfold ref4_Changes at h0
 refine calls_run Tryd.func36 rfl Tryd.ntmps36 (by kernel_rfl) ?_
 refine gv_sub [0, 1] (σ' := [(0, (.slice pa0_0 (List.length a_0) pc0_0)), (1, (.slice pa1_0 (List.length b_1) pc1_0))]) (by kernel_rfl) ?_
 refine gv_seq <| gv_region <| gv_pureN 1 [4] [] (by kernel_rfl) ?_
 refine gv_nil <| gv_seq <| gv_region <| gv_pureN 1 [5] [(5, (.slice none (List.length ([] : List (List Int))) 0))] (by kernel_rfl) ?_
 refine gv_nil <| gv_seq <| gv_seq <| gv_region <| gv_pureN 1 [6] [(6, (.int .i64 0))] (by kernel_rfl) ?_
 refine gv_nil <| bindE h0 ?_; clear h0; intro j1 h1 h0
 refine gv_cut_code (J := fun a w2 => ∃ (a5_0j : Option Addr) (c5_0j : Nat), ∃ (X5_0j : Nat → Prop), Below w0.heap.size w0 w2 ∧ w0.heap.size ≤ w2.heap.size ∧ Gv.Own (slE (iE .i64)) 38 w2 X5_0j a5_0j c5_0j j1 ∧ (∀ g, blk a5_0j = some g → w0.heap.size ≤ g) ∧ (∀ k, X5_0j k → k < w2.heap.size) ∧ (∀ k, X5_0j k → X0 k ∨ w0.heap.size ≤ k) ∧ a.defers = [] ∧ a.tmps.size = 113 ∧ Ok [(0, (.slice pa0_0 (List.length a_0) pc0_0)), (1, (.slice pa1_0 (List.length b_1) pc1_0)), (5, (.slice a5_0j (List.length j1) c5_0j))] a.tmps) ?_ ?_
 ·skip
  refine gv_block <| gv_loop (A := fun (s3 : ((List (List Int)) × Int)) a w4 => ∃ (a5_0j : Option Addr) (c5_0j : Nat), ∃ (X5_0j : Nat → Prop), Below w0.heap.size w0 w4 ∧ w0.heap.size ≤ w4.heap.size ∧ Gv.Own (slE (iE .i64)) 38 w4 X5_0j a5_0j c5_0j s3.1 ∧ (∀ g, blk a5_0j = some g → w0.heap.size ≤ g) ∧ (∀ k, X5_0j k → k < w4.heap.size) ∧ (∀ k, X5_0j k → X0 k ∨ w0.heap.size ≤ k) ∧ a.defers = [] ∧ a.tmps.size = 113 ∧ Ok [(0, (.slice pa0_0 (List.length a_0) pc0_0)), (1, (.slice pa1_0 (List.length b_1) pc1_0)), (5, (.slice a5_0j (List.length s3.1) c5_0j)), (6, (.int .i64 s3.2))] a.tmps) h1 ?_ ?_
  ·intro a hd hs hok
   exact ⟨none, 0, (fun _ => False), hB0, (Nat.le_refl _), (Gv.Own.nil (slE (iE .i64)) 38 w0 (fun _ => False)), (fun _ h => by cases h), (fun _ h => h.elim), (fun _ h => h.elim), hd, hs, ok_pick [0, 1, 5, 6] hok (by kernel_rfl)⟩
  ·rintro s3 r2 h2 hR2 a w4 ⟨a7, c8, X7, hB5, hz6, ho9, hl10, hx11, hx12, hd, hs, hok⟩
   refine gv_in ?_ hd hs hok
   clear hd hs hok
   refine gv_seq <| gv_seq <| gv_region <| gv_pureN 4 [10, 11, 12, 13] [(13, (.bool (decide (s3.2 ≤ ((List.length a_0 : Nat) : Int)))))] (by kernel_rfl) ?_
   refine gv_nil <| gv_cond (b := (decide (s3.2 ≤ ((List.length a_0 : Nat) : Int)))) (by kernel_rfl) (fun hc13 => ?_) (fun hc13 => ?_)
   ·replace h2 := ite_t hc13 h2
    refine gv_skip <| gv_seq <| gv_block <| gv_seq <| gv_region <| gv_pureN 3 [16, 17, 18] [(18, (.int .i64 (IntKind.i64.wrap (((List.length b_1 : Nat) : Int) + 1))))] (by kernel_rfl) ?_
    refine bindE h2 ?_; clear h2; intro l14 hx15 h2
    refine gv_makeC (f := (fun n : Int => Value.int .i64 n)) (hf := fun _ => rfl) (t := 38) (e := 3) (kl := .i64) (kc := .i64) (l := (IntKind.i64.wrap (((List.length b_1 : Nat) : Int) + 1))) (c := (IntKind.i64.wrap (((List.length b_1 : Nat) : Int) + 1))) (bytes := 8) 0 l14 (by decide) rfl rfl (by kernel_rfl) (by kernel_rfl) Tryd.underlying38 (by kernel_rfl) (by decide) hx15 ?_
    intro b16 w17 hg18 ho19 hbe20 hz21
    refine ⟨(fun e => by cases e), ?_⟩
    have hl22 : ∀ g, blk (some ⟨b16, 0, none⟩) = some g → w0.heap.size ≤ g := loo hbe20 hB5.size
    refine gv_pureN 1 [7] [(7, (.slice (some ⟨b16, 0, none⟩) (List.length l14) ((IntKind.i64.wrap (((List.length b_1 : Nat) : Int) + 1))).toNat))] (by kernel_rfl) ?_
    refine gv_nil <| gv_seq <| gv_seq <| gv_region <| gv_pureN 1 [8] [(8, (.int .i64 0))] (by kernel_rfl) ?_
    refine gv_nil <| bindE h2 ?_; clear h2; intro j23 h3 h2
    refine gv_cut_code (J := fun a w24 => ∃ (a7_0j : Option Addr) (c7_0j : Nat), Below w0.heap.size w0 w24 ∧ w17.heap.size ≤ w24.heap.size ∧ Gv.Own (iE .i64) 3 w24 (fun _ => False) a7_0j c7_0j j23 ∧ (∀ g, blk a7_0j = some g → w0.heap.size ≤ g) ∧ (∀ g, blk a7_0j = some g → ¬ (fun k => blk a7 = some k ∨ X7 k) g) ∧ (∀ g, blk a7 = some g → ¬ (fun k => blk a7_0j = some k) g) ∧ Gv.Own (slE (iE .i64)) 38 w24 X7 a7 c8 s3.1 ∧ a.defers = [] ∧ a.tmps.size = 113 ∧ Ok [(0, (.slice pa0_0 (List.length a_0) pc0_0)), (1, (.slice pa1_0 (List.length b_1) pc1_0)), (5, (.slice a7 (List.length s3.1) c8)), (6, (.int .i64 s3.2)), (7, (.slice a7_0j (List.length j23) c7_0j))] a.tmps) ?_ ?_
    ·skip
     refine gv_block <| gv_loop (A := fun (s25 : ((List Int) × Int)) a w26 => ∃ (a7_0j : Option Addr) (c7_0j : Nat), Below w0.heap.size w0 w26 ∧ w17.heap.size ≤ w26.heap.size ∧ Gv.Own (iE .i64) 3 w26 (fun _ => False) a7_0j c7_0j s25.1 ∧ (∀ g, blk a7_0j = some g → w0.heap.size ≤ g) ∧ (∀ g, blk a7_0j = some g → ¬ (fun k => blk a7 = some k ∨ X7 k) g) ∧ (∀ g, blk a7 = some g → ¬ (fun k => blk a7_0j = some k) g) ∧ Gv.Own (slE (iE .i64)) 38 w26 X7 a7 c8 s3.1 ∧ a.defers = [] ∧ a.tmps.size = 113 ∧ Ok [(0, (.slice pa0_0 (List.length a_0) pc0_0)), (1, (.slice pa1_0 (List.length b_1) pc1_0)), (5, (.slice a7 (List.length s3.1) c8)), (6, (.int .i64 s3.2)), (7, (.slice a7_0j (List.length s25.1) c7_0j)), (8, (.int .i64 s25.2))] a.tmps) h3 ?_ ?_
     ·intro a hd hs hok
      have hB27 := bg hB5 hg18 nb
      have ap28 : ∀ g, blk (some ⟨b16, 0, none⟩) = some g → ¬ (fun k => blk a7 = some k ∨ X7 k) g := fun g e hx => nl ((lowo hbe20) g e) ((fun k (hk : blk a7 = some k ∨ X7 k) => hk.elim (fun h => ho9.lt k h) (fun h => hx11 k h)) _ hx)
      have ap29 : ∀ g, blk a7 = some g → ¬ (fun k => blk (some ⟨b16, 0, none⟩) = some k) g := fun g e hx => nl ((lowo hbe20) _ hx) ((fun k (hk : blk a7 = some k ∨ X7 k) => hk.elim (fun h => ho9.lt k h) (fun h => hx11 k h)) g (.inl e))
      have hk30 := ho9.grown hg18 hx11 nb
      exact ⟨(some ⟨b16, 0, none⟩), ((IntKind.i64.wrap (((List.length b_1 : Nat) : Int) + 1))).toNat, hB27, (Nat.le_refl _), ho19, hl22, ap28, ap29, hk30, hd, hs, ok_pick [0, 1, 5, 6, 7, 8] hok (by kernel_rfl)⟩
     ·rintro s25 r4 h4 hR4 a w26 ⟨a33, c34, hB31, hz32, ho35, hl36, ap37, ap38, hk39, hd, hs, hok⟩
      refine gv_in ?_ hd hs hok
      clear hd hs hok
      have hz40 := (nt hz6 hg18.size)
      clear hl22 hz21 hbe20 ho19 hx15 hc13 ho9 hz6 hB5
      refine gv_seq <| gv_seq <| gv_region <| gv_pureN 4 [20, 21, 22, 23] [(23, (.bool (decide (s25.2 ≤ ((List.length b_1 : Nat) : Int)))))] (by kernel_rfl) ?_
      refine gv_nil <| gv_cond (b := (decide (s25.2 ≤ ((List.length b_1 : Nat) : Int)))) (by kernel_rfl) (fun hc41 => ?_) (fun hc41 => ?_)
      ·replace h4 := ite_t hc41 h4
       refine gv_skip <| gv_seq <| gv_block <| gv_block <| gv_seq <| gv_region <| gv_pureN 3 [86, 87, 88] [(86, (.bool (s3.2 == 0)))] (by kernel_rfl) ?_
       refine gv_nil <| bindE h4 ?_; clear h4; intro j42 h5 h4
       refine gv_cut_code (J := fun a w43 => ∃ (a7_0j : Option Addr) (c7_0j : Nat), Below w0.heap.size w0 w43 ∧ w26.heap.size ≤ w43.heap.size ∧ Gv.Own (iE .i64) 3 w43 (fun _ => False) a7_0j c7_0j j42 ∧ (∀ g, blk a7_0j = some g → w0.heap.size ≤ g) ∧ (∀ g, blk a7_0j = some g → ¬ (fun k => blk a7 = some k ∨ X7 k) g) ∧ (∀ g, blk a7 = some g → ¬ (fun k => blk a7_0j = some k) g) ∧ Gv.Own (slE (iE .i64)) 38 w43 X7 a7 c8 s3.1 ∧ a.defers = [] ∧ a.tmps.size = 113 ∧ Ok [(0, (.slice pa0_0 (List.length a_0) pc0_0)), (1, (.slice pa1_0 (List.length b_1) pc1_0)), (5, (.slice a7 (List.length s3.1) c8)), (6, (.int .i64 s3.2)), (7, (.slice a7_0j (List.length j42) c7_0j)), (8, (.int .i64 s25.2))] a.tmps) ?_ ?_
       ·skip
        refine gv_cond (b := (s3.2 == 0)) (by kernel_rfl) (fun hc44 => ?_) (fun hc44 => ?_)
        ·replace h5 := ite_t hc44 h5
         refine gv_region <| gv_pureN 3 [89, 90, 91] [(89, (.slice a33 (List.length s25.1) c34)), (90, (.int .i64 s25.2)), (91, (.int .i64 s25.2))] (by kernel_rfl) ?_
         refine bindE h5 ?_; clear h5; intro x45 hx46 h5
         refine gv_idxaddr (t := 38) (e := 3) (a := a33) (len := List.length s25.1) (cap := c34) (kk := .i64) (i := s25.2) (sz := 1) [] (fun e => by cases e) rfl rfl rfl (by kernel_rfl) (by kernel_rfl) Tryd.underlying38 (by kernel_rfl) ((ho35.rd (Y := fun k => blk a33 = some k) (fun _ h => h.elim) (fun g e => e)).has hx46) (idx_spec hx46).1 (idx_spec hx46).2.1 rfl ?_
         refine bindE h5 ?_; clear h5; intro l47 hx48 h5
         refine gv_upd (f := (fun n : Int => Value.int .i64 n)) (hf := fun _ => rfl) (t := 3) (e := 3) (a := a33) (cap := c34) (xs := s25.1) (i := s25.2) s25.2 l47 (by decide) rfl rfl (by kernel_rfl) rfl (by kernel_rfl) (by kernel_rfl) ho35 hx48 ?_
         intro w49 hg50 ho51 hz52
         refine ⟨(fun e => by cases e), ?_⟩
         have hln53 : List.length s25.1 = List.length l47 := by obtain ⟨_, _, e⟩ := upd_spec hx48; rw [e, List.length_set]
         refine gv_name (s := 7) (v := (.slice a33 (List.length s25.1) c34)) (v' := (.slice a33 (List.length l47) c34)) (by kernel_rfl) (by rw [hln53]) ?_
         refine gv_nil ?_
         have e := sj h5; subst e
         refine gv_goal fun a hd hs hok => ?_
         have hB54 := bg hB31 hg50 hl36
         have hz55 := hg50.size
         have hx56 := ltx hx11 hg18.size
         have hk57 := hk39.grown hg50 (fun k hk => ltl (hx56 k hk) hz32) (rdnx ap37)
         exact ⟨a33, c34, hB54, hz55, ho51, hl36, ap37, ap38, hk57, hd, hs, ok_pick [0, 1, 5, 6, 7, 8] hok (by kernel_rfl)⟩
        ·replace h5 := ite_f hc44 h5
         refine gv_seq <| gv_region <| gv_pureN 3 [93, 94, 95] [(93, (.bool (s25.2 == 0)))] (by kernel_rfl) ?_
         refine gv_nil <| gv_cond (b := (s25.2 == 0)) (by kernel_rfl) (fun hc58 => ?_) (fun hc58 => ?_)
         ·replace h5 := ite_t hc58 h5
          refine gv_region <| gv_pureN 3 [96, 97, 98] [(96, (.slice a33 (List.length s25.1) c34)), (97, (.int .i64 s25.2)), (98, (.int .i64 s3.2))] (by kernel_rfl) ?_
          refine bindE h5 ?_; clear h5; intro x59 hx60 h5
          refine gv_idxaddr (t := 38) (e := 3) (a := a33) (len := List.length s25.1) (cap := c34) (kk := .i64) (i := s25.2) (sz := 1) [] (fun e => by cases e) rfl rfl rfl (by kernel_rfl) (by kernel_rfl) Tryd.underlying38 (by kernel_rfl) ((ho35.rd (Y := fun k => blk a33 = some k) (fun _ h => h.elim) (fun g e => e)).has hx60) (idx_spec hx60).1 (idx_spec hx60).2.1 rfl ?_
          refine bindE h5 ?_; clear h5; intro l61 hx62 h5
          refine gv_upd (f := (fun n : Int => Value.int .i64 n)) (hf := fun _ => rfl) (t := 3) (e := 3) (a := a33) (cap := c34) (xs := s25.1) (i := s25.2) s3.2 l61 (by decide) rfl rfl (by kernel_rfl) rfl (by kernel_rfl) (by kernel_rfl) ho35 hx62 ?_
          intro w63 hg64 ho65 hz66
          refine ⟨(fun e => by cases e), ?_⟩
          have hln67 : List.length s25.1 = List.length l61 := by obtain ⟨_, _, e⟩ := upd_spec hx62; rw [e, List.length_set]
          refine gv_name (s := 7) (v := (.slice a33 (List.length s25.1) c34)) (v' := (.slice a33 (List.length l61) c34)) (by kernel_rfl) (by rw [hln67]) ?_
          refine gv_nil ?_
          have e := sj h5; subst e
          refine gv_goal fun a hd hs hok => ?_
          have hB68 := bg hB31 hg64 hl36
          have hz69 := hg64.size
          have hx70 := ltx hx11 hg18.size
          have hk71 := hk39.grown hg64 (fun k hk => ltl (hx70 k hk) hz32) (rdnx ap37)
          exact ⟨a33, c34, hB68, hz69, ho65, hl36, ap37, ap38, hk71, hd, hs, ok_pick [0, 1, 5, 6, 7, 8] hok (by kernel_rfl)⟩
         ·replace h5 := ite_f hc58 h5
          refine gv_seq <| gv_region <| gv_pureN 3 [26, 27, 28] [(26, (.slice a7 (List.length s3.1) c8)), (28, (.int .i64 (IntKind.i64.wrap (s3.2 - 1))))] (by kernel_rfl) ?_
          refine bindE h5 ?_; clear h5; intro x72 hx73 h5
          refine gv_idxaddr (t := 87) (e := 38) (a := a7) (len := List.length s3.1) (cap := c8) (kk := .i64) (i := (IntKind.i64.wrap (s3.2 - 1))) (sz := 1) [] (fun e => by cases e) rfl rfl rfl (by kernel_rfl) (by kernel_rfl) Tryd.underlying87 (by kernel_rfl) ((hk39.rd (Y := fun k => blk a7 = some k ∨ X7 k) (fun _ h => .inr h) (fun g e => .inl e)).has hx73) (idx_spec hx73).1 (idx_spec hx73).2.1 rfl ?_
          obtain ⟨_, ⟨a75, c76, rfl, hr77⟩, hc74⟩ := hk39.cellsK hx73
          refine gv_load (t := 38) (A := (elemAddr a7 (((IntKind.i64.wrap (s3.2 - 1)) : Int).toNat * 1))) (.slice a75 (List.length x72) c76) [] (fun e => by cases e) rfl rfl rfl (by kernel_rfl) (by kernel_rfl) (by kernel_rfl) (inw0 ((hc74 w26 (fun _ _ => rfl)).zero rfl)) rfl ?_
          refine gv_pureN 2 [31, 32] [(32, (.int .i64 (IntKind.i64.wrap (s25.2 - 1))))] (by kernel_rfl) ?_
          refine bindE h5 ?_; clear h5; intro x78 hx79 h5
          refine gv_idxaddr (t := 38) (e := 3) (a := a75) (len := List.length x72) (cap := c76) (kk := .i64) (i := (IntKind.i64.wrap (s25.2 - 1))) (sz := 1) [] (fun e => by cases e) rfl rfl rfl (by kernel_rfl) (by kernel_rfl) Tryd.underlying38 (by kernel_rfl) (hr77.has hx79) (idx_spec hx79).1 (idx_spec hx79).2.1 rfl ?_
          refine gv_load (t := 3) (A := (elemAddr a75 (((IntKind.i64.wrap (s25.2 - 1)) : Int).toNat * 1))) (.int .i64 x78) [] (fun e => by cases e) rfl rfl rfl (by kernel_rfl) (by kernel_rfl) (by kernel_rfl) (inw0 (hr77.cell hx79)) rfl ?_
          refine gv_pureN 1 [9] [(9, (.int .i64 x78))] (by kernel_rfl) ?_
          refine gv_nil <| gv_seq <| gv_seq <| gv_drawA (by kernel_rfl) ?_
          intro w80 hg81
          refine gv_pre [0, 1, 2, 3, 5, 6, 7, 8] (bA 11 [0, 1, 2, 3, 5, 6, 7, 8]) 3 (by kernel_rfl) (by kernel_rfl) ?_
          refine gv_pureN 3 [35, 36, 37] [(35, (.slice pa0_0 (List.length a_0) pc0_0)), (37, (.int .i64 (IntKind.i64.wrap (s3.2 - 1))))] (by kernel_rfl) ?_
          refine bindE h5 ?_; clear h5; intro x82 hx83 h5
          have hB84 := bg hB31 hg81 nb
          refine gv_idxaddr (t := 38) (e := 3) (a := pa0_0) (len := List.length a_0) (cap := pc0_0) (kk := .i64) (i := (IntKind.i64.wrap (s3.2 - 1))) (sz := 1) [] (fun e => by cases e) rfl rfl rfl (by kernel_rfl) (by kernel_rfl) Tryd.underlying38 (by kernel_rfl) ((hpa0_0.below hB84 hX0).has hx83) (idx_spec hx83).1 (idx_spec hx83).2.1 rfl ?_
          refine gv_pureN 3 [40, 41, 42] [(40, (.slice pa1_0 (List.length b_1) pc1_0)), (42, (.int .i64 (IntKind.i64.wrap (s25.2 - 1))))] (by kernel_rfl) ?_
          refine bindE h5 ?_; clear h5; intro x85 hx86 h5
          refine gv_idxaddr (t := 38) (e := 3) (a := pa1_0) (len := List.length b_1) (cap := pc1_0) (kk := .i64) (i := (IntKind.i64.wrap (s25.2 - 1))) (sz := 1) [] (fun e => by cases e) rfl rfl rfl (by kernel_rfl) (by kernel_rfl) Tryd.underlying38 (by kernel_rfl) ((hpa1_0.below hB84 hX0).has hx86) (idx_spec hx86).1 (idx_spec hx86).2.1 rfl ?_
          refine gv_nil <| gv_goA ?_
          refine gv_stage (Cls w80 []) [0, 1, 2, 3, 4, 5, 6, 7, 8, 9] [(4, some true), (9, some true)] (bA 11 [0, 1, 2, 3, 4, 5, 6, 7, 8, 9]) 1 (by kernel_rfl) (by kernel_rfl) (Cls.refl _ _) ?_
          have hC87 := Cls.refl w80 []
          refine gv_sub [0, 1, 5, 6, 7, 8, 9, 38, 43] (σ' := [(0, (.slice pa0_0 (List.length a_0) pc0_0)), (1, (.slice pa1_0 (List.length b_1) pc1_0)), (5, (.slice a7 (List.length s3.1) c8)), (6, (.int .i64 s3.2)), (7, (.slice a33 (List.length s25.1) c34)), (8, (.int .i64 s25.2)), (9, (.int .i64 x78)), (38, (.pointer (some (elemAddr pa0_0 (((IntKind.i64.wrap (s3.2 - 1)) : Int).toNat * 1))))), (43, (.pointer (some (elemAddr pa1_0 (((IntKind.i64.wrap (s25.2 - 1)) : Int).toNat * 1)))))]) (by kernel_rfl) ?_
          refine gv_load (t := 3) (A := (elemAddr pa0_0 (((IntKind.i64.wrap (s3.2 - 1)) : Int).toNat * 1))) (.int .i64 x82) [] (fun e => by cases e) rfl rfl rfl (by kernel_rfl) (by kernel_rfl) (by kernel_rfl) (inw1 fun w' hC' => ((hC'.rd (hpa0_0.below hB84 hX0) (fun k (hk : X0 k) => ltl (hX0 k hk) hB84.size) nmx_nil).cell hx83)) rfl ?_
          refine gv_load (t := 3) (A := (elemAddr pa1_0 (((IntKind.i64.wrap (s25.2 - 1)) : Int).toNat * 1))) (.int .i64 x85) [] (fun e => by cases e) rfl rfl rfl (by kernel_rfl) (by kernel_rfl) (by kernel_rfl) (inw1 fun w' hC' => ((hC'.rd (hpa1_0.below hB84 hX0) (fun k (hk : X0 k) => ltl (hX0 k hk) hB84.size) nmx_nil).cell hx86)) rfl ?_
          refine gv_nil <| gv_goA ?_
          refine gv_pre [10] (bA 11 [0, 1, 2, 3, 4, 5, 6, 7, 8, 9, 10]) 0 (by kernel_rfl) (by kernel_rfl) ?_
          refine gv_pureN 1 [45] [(45, (.bool (x82 != x85)))] (by kernel_rfl) ?_
          refine gv_nil <| gv_goA ?_
          refine gv_stageE (by kernel_rfl) ?_
          refine bindE h5 ?_; clear h5; intro j88 h6 h5
          refine gv_cut_code (J := fun a w89 => Below w0.heap.size w0 w89 ∧ w80.heap.size ≤ w89.heap.size ∧ Gv.Own (slE (iE .i64)) 38 w89 X7 a7 c8 s3.1 ∧ Gv.Own (iE .i64) 3 w89 (fun _ => False) a33 c34 s25.1 ∧ a.defers = [] ∧ a.tmps.size = 113 ∧ Ok [(0, (.slice pa0_0 (List.length a_0) pc0_0)), (1, (.slice pa1_0 (List.length b_1) pc1_0)), (5, (.slice a7 (List.length s3.1) c8)), (6, (.int .i64 s3.2)), (7, (.slice a33 (List.length s25.1) c34)), (8, (.int .i64 s25.2)), (9, (.int .i64 j88))] a.tmps) ?_ ?_
          ·skip
           refine gv_cond (b := (x82 != x85)) (by kernel_rfl) (fun hc90 => ?_) (fun hc90 => ?_)
           ·replace h6 := ite_t hc90 h6
            refine gv_region <| gv_pureN 3 [9, 46, 47] [(9, (.int .i64 (IntKind.i64.wrap (x78 + 1))))] (by kernel_rfl) ?_
            refine gv_nil ?_
            have e := sj h6; subst e
            refine gv_goal fun a hd hs hok => ?_
            have hx91 := ltx hx11 hg18.size
            have hk92 := hk39.grown hg81 (fun k hk => ltl (hx91 k hk) hz32) nb
            have hk93 := ho35.grown hg81 (fun _ h => h.elim) nb
            exact ⟨hB84, (Nat.le_refl _), hk92, hk93, hd, hs, ok_pick [0, 1, 5, 6, 7, 8, 9] hok (by kernel_rfl)⟩
           ·replace h6 := ite_f hc90 h6
            refine gv_skip ?_
            have e := sj h6; subst e
            refine gv_goal fun a hd hs hok => ?_
            have hx94 := ltx hx11 hg18.size
            have hk95 := hk39.grown hg81 (fun k hk => ltl (hx94 k hk) hz32) nb
            have hk96 := ho35.grown hg81 (fun _ h => h.elim) nb
            exact ⟨hB84, (Nat.le_refl _), hk95, hk96, hd, hs, ok_pick [0, 1, 5, 6, 7, 8, 9] hok (by kernel_rfl)⟩
          ·rintro a w89 ⟨hB97, hz98, hk99, hk100, hd, hs, hok⟩
           refine gv_in ?_ hd hs hok
           clear hd hs hok
           clear hC87 hx86 hB84 hx83 hx79 hc74 hx73 hc58 hc44 hc41 hB31
           refine gv_seq <| gv_seq <| gv_region <| gv_pureN 3 [48, 49, 50] [(48, (.slice a7 (List.length s3.1) c8)), (50, (.int .i64 (IntKind.i64.wrap (s3.2 - 1))))] (by kernel_rfl) ?_
           refine bindE h5 ?_; clear h5; intro x101 hx102 h5
           refine gv_idxaddr (t := 87) (e := 38) (a := a7) (len := List.length s3.1) (cap := c8) (kk := .i64) (i := (IntKind.i64.wrap (s3.2 - 1))) (sz := 1) [] (fun e => by cases e) rfl rfl rfl (by kernel_rfl) (by kernel_rfl) Tryd.underlying87 (by kernel_rfl) ((hk99.rd (Y := fun k => blk a7 = some k ∨ X7 k) (fun _ h => .inr h) (fun g e => .inl e)).has hx102) (idx_spec hx102).1 (idx_spec hx102).2.1 rfl ?_
           obtain ⟨_, ⟨a104, c105, rfl, hr106⟩, hc103⟩ := hk99.cellsK hx102
           refine gv_load (t := 38) (A := (elemAddr a7 (((IntKind.i64.wrap (s3.2 - 1)) : Int).toNat * 1))) (.slice a104 (List.length x101) c105) [] (fun e => by cases e) rfl rfl rfl (by kernel_rfl) (by kernel_rfl) (by kernel_rfl) (inw0 ((hc103 w89 (fun _ _ => rfl)).zero rfl)) rfl ?_
           refine gv_pureN 1 [53] [(53, (.int .i64 s25.2))] (by kernel_rfl) ?_
           refine bindE h5 ?_; clear h5; intro x107 hx108 h5
           refine gv_idxaddr (t := 38) (e := 3) (a := a104) (len := List.length x101) (cap := c105) (kk := .i64) (i := s25.2) (sz := 1) [] (fun e => by cases e) rfl rfl rfl (by kernel_rfl) (by kernel_rfl) Tryd.underlying38 (by kernel_rfl) (hr106.has hx108) (idx_spec hx108).1 (idx_spec hx108).2.1 rfl ?_
           refine gv_load (t := 3) (A := (elemAddr a104 ((s25.2 : Int).toNat * 1))) (.int .i64 x107) [] (fun e => by cases e) rfl rfl rfl (by kernel_rfl) (by kernel_rfl) (by kernel_rfl) (inw0 (hr106.cell hx108)) rfl ?_
           refine gv_pureN 3 [56, 57, 58] [(58, (.bool (decide ((IntKind.i64.wrap (x107 + 1)) < j88))))] (by kernel_rfl) ?_
           refine gv_nil <| bindE h5 ?_; clear h5; intro j109 h6 h5
           refine gv_cut_code (J := fun a w110 => Below w0.heap.size w0 w110 ∧ w89.heap.size ≤ w110.heap.size ∧ Gv.Own (slE (iE .i64)) 38 w110 X7 a7 c8 s3.1 ∧ Gv.Own (iE .i64) 3 w110 (fun _ => False) a33 c34 s25.1 ∧ a.defers = [] ∧ a.tmps.size = 113 ∧ Ok [(0, (.slice pa0_0 (List.length a_0) pc0_0)), (1, (.slice pa1_0 (List.length b_1) pc1_0)), (5, (.slice a7 (List.length s3.1) c8)), (6, (.int .i64 s3.2)), (7, (.slice a33 (List.length s25.1) c34)), (8, (.int .i64 s25.2)), (9, (.int .i64 j109))] a.tmps) ?_ ?_
           ·skip
            refine gv_cond (b := (decide ((IntKind.i64.wrap (x107 + 1)) < j88))) (by kernel_rfl) (fun hc111 => ?_) (fun hc111 => ?_)
            ·replace h6 := ite_t hc111 h6
             refine gv_region <| gv_pureN 3 [59, 60, 61] [(59, (.slice a7 (List.length s3.1) c8)), (61, (.int .i64 (IntKind.i64.wrap (s3.2 - 1))))] (by kernel_rfl) ?_
             refine bindE h6 ?_; clear h6; intro x112 hx113 h6
             refine gv_idxaddr (t := 87) (e := 38) (a := a7) (len := List.length s3.1) (cap := c8) (kk := .i64) (i := (IntKind.i64.wrap (s3.2 - 1))) (sz := 1) [] (fun e => by cases e) rfl rfl rfl (by kernel_rfl) (by kernel_rfl) Tryd.underlying87 (by kernel_rfl) ((hk99.rd (Y := fun k => blk a7 = some k ∨ X7 k) (fun _ h => .inr h) (fun g e => .inl e)).has hx113) (idx_spec hx113).1 (idx_spec hx113).2.1 rfl ?_
             obtain ⟨_, ⟨a115, c116, rfl, hr117⟩, hc114⟩ := hk99.cellsK hx113
             refine gv_load (t := 38) (A := (elemAddr a7 (((IntKind.i64.wrap (s3.2 - 1)) : Int).toNat * 1))) (.slice a115 (List.length x112) c116) [] (fun e => by cases e) rfl rfl rfl (by kernel_rfl) (by kernel_rfl) (by kernel_rfl) (inw0 ((hc114 w89 (fun _ _ => rfl)).zero rfl)) rfl ?_
             refine gv_pureN 1 [64] [(64, (.int .i64 s25.2))] (by kernel_rfl) ?_
             refine bindE h6 ?_; clear h6; intro x118 hx119 h6
             refine gv_idxaddr (t := 38) (e := 3) (a := a115) (len := List.length x112) (cap := c116) (kk := .i64) (i := s25.2) (sz := 1) [] (fun e => by cases e) rfl rfl rfl (by kernel_rfl) (by kernel_rfl) Tryd.underlying38 (by kernel_rfl) (hr117.has hx119) (idx_spec hx119).1 (idx_spec hx119).2.1 rfl ?_
             refine gv_load (t := 3) (A := (elemAddr a115 ((s25.2 : Int).toNat * 1))) (.int .i64 x118) [] (fun e => by cases e) rfl rfl rfl (by kernel_rfl) (by kernel_rfl) (by kernel_rfl) (inw0 (hr117.cell hx119)) rfl ?_
             refine gv_pureN 2 [9, 67] [(9, (.int .i64 (IntKind.i64.wrap (x118 + 1))))] (by kernel_rfl) ?_
             refine gv_sub [0, 1, 5, 6, 7, 8, 9] (σ' := [(0, (.slice pa0_0 (List.length a_0) pc0_0)), (1, (.slice pa1_0 (List.length b_1) pc1_0)), (5, (.slice a7 (List.length s3.1) c8)), (6, (.int .i64 s3.2)), (7, (.slice a33 (List.length s25.1) c34)), (8, (.int .i64 s25.2)), (9, (.int .i64 (IntKind.i64.wrap (x118 + 1))))]) (by kernel_rfl) ?_
             refine gv_nil ?_
             have e := sj h6; subst e
             refine gv_goal fun a hd hs hok => ?_
             exact ⟨hB97, (Nat.le_refl _), hk99, hk100, hd, hs, ok_pick [0, 1, 5, 6, 7, 8, 9] hok (by kernel_rfl)⟩
            ·replace h6 := ite_f hc111 h6
             refine gv_skip ?_
             have e := sj h6; subst e
             refine gv_goal fun a hd hs hok => ?_
             exact ⟨hB97, (Nat.le_refl _), hk99, hk100, hd, hs, ok_pick [0, 1, 5, 6, 7, 8, 9] hok (by kernel_rfl)⟩
           ·rintro a w110 ⟨hB120, hz121, hk122, hk123, hd, hs, hok⟩
            refine gv_in ?_ hd hs hok
            clear hd hs hok
            have hz124 := (nt hz98 hz121)
            clear hx108 hc103 hr106 hx102 hk100 hk99 hB97
            refine gv_seq <| gv_seq <| gv_region <| gv_pureN 3 [68, 69, 70] [(68, (.slice a33 (List.length s25.1) c34)), (70, (.int .i64 (IntKind.i64.wrap (s25.2 - 1))))] (by kernel_rfl) ?_
            refine bindE h5 ?_; clear h5; intro x125 hx126 h5
            refine gv_idxaddr (t := 38) (e := 3) (a := a33) (len := List.length s25.1) (cap := c34) (kk := .i64) (i := (IntKind.i64.wrap (s25.2 - 1))) (sz := 1) [] (fun e => by cases e) rfl rfl rfl (by kernel_rfl) (by kernel_rfl) Tryd.underlying38 (by kernel_rfl) ((hk123.rd (Y := fun k => blk a33 = some k) (fun _ h => h.elim) (fun g e => e)).has hx126) (idx_spec hx126).1 (idx_spec hx126).2.1 rfl ?_
            refine gv_load (t := 3) (A := (elemAddr a33 (((IntKind.i64.wrap (s25.2 - 1)) : Int).toNat * 1))) (.int .i64 x125) [] (fun e => by cases e) rfl rfl rfl (by kernel_rfl) (by kernel_rfl) (by kernel_rfl) (inw0 ((hk123.rd (Y := fun k => blk a33 = some k) (fun _ h => h.elim) (fun g e => e)).cell hx126)) rfl ?_
            refine gv_pureN 3 [73, 74, 75] [(75, (.bool (decide ((IntKind.i64.wrap (x125 + 1)) < j109))))] (by kernel_rfl) ?_
            refine gv_nil <| bindE h5 ?_; clear h5; intro j127 h6 h5
            refine gv_cut_code (J := fun a w128 => Below w0.heap.size w0 w128 ∧ w110.heap.size ≤ w128.heap.size ∧ Gv.Own (slE (iE .i64)) 38 w128 X7 a7 c8 s3.1 ∧ Gv.Own (iE .i64) 3 w128 (fun _ => False) a33 c34 s25.1 ∧ a.defers = [] ∧ a.tmps.size = 113 ∧ Ok [(0, (.slice pa0_0 (List.length a_0) pc0_0)), (1, (.slice pa1_0 (List.length b_1) pc1_0)), (5, (.slice a7 (List.length s3.1) c8)), (6, (.int .i64 s3.2)), (7, (.slice a33 (List.length s25.1) c34)), (8, (.int .i64 s25.2)), (9, (.int .i64 j127))] a.tmps) ?_ ?_
            ·skip
             refine gv_cond (b := (decide ((IntKind.i64.wrap (x125 + 1)) < j109))) (by kernel_rfl) (fun hc129 => ?_) (fun hc129 => ?_)
             ·replace h6 := ite_t hc129 h6
              refine gv_region <| gv_pureN 3 [76, 77, 78] [(76, (.slice a33 (List.length s25.1) c34)), (78, (.int .i64 (IntKind.i64.wrap (s25.2 - 1))))] (by kernel_rfl) ?_
              refine bindE h6 ?_; clear h6; intro x130 hx131 h6
              refine gv_idxaddr (t := 38) (e := 3) (a := a33) (len := List.length s25.1) (cap := c34) (kk := .i64) (i := (IntKind.i64.wrap (s25.2 - 1))) (sz := 1) [] (fun e => by cases e) rfl rfl rfl (by kernel_rfl) (by kernel_rfl) Tryd.underlying38 (by kernel_rfl) ((hk123.rd (Y := fun k => blk a33 = some k) (fun _ h => h.elim) (fun g e => e)).has hx131) (idx_spec hx131).1 (idx_spec hx131).2.1 rfl ?_
              refine gv_load (t := 3) (A := (elemAddr a33 (((IntKind.i64.wrap (s25.2 - 1)) : Int).toNat * 1))) (.int .i64 x130) [] (fun e => by cases e) rfl rfl rfl (by kernel_rfl) (by kernel_rfl) (by kernel_rfl) (inw0 ((hk123.rd (Y := fun k => blk a33 = some k) (fun _ h => h.elim) (fun g e => e)).cell hx131)) rfl ?_
              refine gv_pureN 2 [9, 81] [(9, (.int .i64 (IntKind.i64.wrap (x130 + 1))))] (by kernel_rfl) ?_
              refine gv_nil ?_
              have e := sj h6; subst e
              refine gv_goal fun a hd hs hok => ?_
              exact ⟨hB120, (Nat.le_refl _), hk122, hk123, hd, hs, ok_pick [0, 1, 5, 6, 7, 8, 9] hok (by kernel_rfl)⟩
             ·replace h6 := ite_f hc129 h6
              refine gv_skip ?_
              have e := sj h6; subst e
              refine gv_goal fun a hd hs hok => ?_
              exact ⟨hB120, (Nat.le_refl _), hk122, hk123, hd, hs, ok_pick [0, 1, 5, 6, 7, 8, 9] hok (by kernel_rfl)⟩
            ·rintro a w128 ⟨hB132, hz133, hk134, hk135, hd, hs, hok⟩
             refine gv_in ?_ hd hs hok
             clear hd hs hok
             have hz136 := (nt hz124 hz133)
             clear hx126 hz124 hk123 hk122 hB120
             refine gv_region <| gv_pureN 3 [82, 83, 84] [(82, (.slice a33 (List.length s25.1) c34)), (83, (.int .i64 s25.2)), (84, (.int .i64 j127))] (by kernel_rfl) ?_
             refine bindE h5 ?_; clear h5; intro x137 hx138 h5
             refine gv_idxaddr (t := 38) (e := 3) (a := a33) (len := List.length s25.1) (cap := c34) (kk := .i64) (i := s25.2) (sz := 1) [] (fun e => by cases e) rfl rfl rfl (by kernel_rfl) (by kernel_rfl) Tryd.underlying38 (by kernel_rfl) ((hk135.rd (Y := fun k => blk a33 = some k) (fun _ h => h.elim) (fun g e => e)).has hx138) (idx_spec hx138).1 (idx_spec hx138).2.1 rfl ?_
             refine bindE h5 ?_; clear h5; intro l139 hx140 h5
             refine gv_upd (f := (fun n : Int => Value.int .i64 n)) (hf := fun _ => rfl) (t := 3) (e := 3) (a := a33) (cap := c34) (xs := s25.1) (i := s25.2) j127 l139 (by decide) rfl rfl (by kernel_rfl) rfl (by kernel_rfl) (by kernel_rfl) hk135 hx140 ?_
             intro w141 hg142 ho143 hz144
             refine ⟨(fun e => by cases e), ?_⟩
             have hln145 : List.length s25.1 = List.length l139 := by obtain ⟨_, _, e⟩ := upd_spec hx140; rw [e, List.length_set]
             refine gv_name (s := 7) (v := (.slice a33 (List.length s25.1) c34)) (v' := (.slice a33 (List.length l139) c34)) (by kernel_rfl) (by rw [hln145]) ?_
             refine gv_nil ?_
             have e := sj h5; subst e
             refine gv_goal fun a hd hs hok => ?_
             have hB146 := bg hB132 hg142 hl36
             have hz147 := (nt (nt hg81.size hz136) hg142.size)
             have hx148 := ltx hx11 hg18.size
             have hx149 := ltx (fun k hk => ltl (hx148 k hk) hz32) hg81.size
             have hk150 := hk134.grown hg142 (fun k hk => ltl ((fun k hk => ltl ((fun k hk => ltl (hx149 k hk) hz98) k hk) hz121) k hk) hz133) (rdnx ap37)
             exact ⟨a33, c34, hB146, hz147, ho143, hl36, ap37, ap38, hk150, hd, hs, ok_pick [0, 1, 5, 6, 7, 8] hok (by kernel_rfl)⟩
       ·rintro a w43 ⟨a153, c154, hB151, hz152, ho155, hl156, ap157, ap158, hk159, hd, hs, hok⟩
        refine gv_in ?_ hd hs hok
        clear hd hs hok
        have hz160 := (nt hz32 hz152)
        clear hc41 hk39 ap38 ap37 hl36 ho35 hB31
        refine gv_blk <| gv_blk <| gv_region <| gv_pureN 3 [8, 24, 25] [(8, (.int .i64 (IntKind.i64.wrap (s25.2 + 1))))] (by kernel_rfl) ?_
        refine gv_nil ?_
        have e := sj h4; subst e
        refine gv_goal fun a hd hs hok => ?_
        have hz161 := hz160
        exact ⟨(j42, (IntKind.i64.wrap (s25.2 + 1))), rfl, a153, c154, hB151, hz161, ho155, hl156, ap157, ap158, hk159, hd, hs, ok_pick [0, 1, 5, 6, 7, 8] hok (by kernel_rfl)⟩
      ·replace h4 := ite_f hc41 h4
       refine gv_cexit <| gv_exit rfl ?_
       have e := sj h4; subst e
       replace h3 := congrArg some (hR4 _ rfl)
       have e := sj h3; subst e
       refine gv_goal fun a hd hs hok => ?_
       have hz162 := hz32
       exact ⟨a33, c34, hB31, hz162, ho35, hl36, ap37, ap38, hk39, hd, hs, ok_pick [0, 1, 5, 6, 7] hok (by kernel_rfl)⟩
    ·rintro a w24 ⟨a165, c166, hB163, hz164, ho167, hl168, ap169, ap170, hk171, hd, hs, hok⟩
     refine gv_in ?_ hd hs hok
     clear hd hs hok
     have hz172 := (nt (nt hz6 hg18.size) hz164)
     clear hl22 hz21 hbe20 ho19 hx15 hc13 ho9 hz6 hB5
     refine gv_region <| gv_pureN 2 [100, 101] [(100, (.slice a7 (List.length s3.1) c8)), (101, (.slice a165 (List.length j23) c166))] (by kernel_rfl) ?_
     refine gv_new0 (fun b => .slice (some ⟨b, 0, none⟩) 1 1) #[(.slice a165 (List.length j23) c166)] 38 (by kernel_rfl) (by kernel_rfl) ?_
     intro b173 w174 hg175 hb176 hbe177 hz178
     obtain ⟨X184, e⟩ : ∃ X : Nat → Prop, X = (fun k => (fun k => blk a165 = some k) k) := ⟨_, rfl⟩
     have hx182 : ∀ k, X184 k → k < w24.heap.size := fun k h => by rw [e] at h; exact (fun k (hk : blk a165 = some k) => ho167.lt k hk) k h
     have hz185 := hg175.size
     have hx181 : ∀ k, X184 k → k < w174.heap.size := fun k h => ltl (hx182 k h) hz185
     have hx183 : ∀ k, X184 k → X0 k ∨ w0.heap.size ≤ k := fun k h => by rw [e] at h; exact (fun k (hk : blk a165 = some k) => Or.inr (hl168 k hk)) k h
     have hk186 := ho167.grown hg175 (fun _ h => h.elim) nb
     have ho179 : Gv.Own (slE (iE .i64)) 38 w174 X184 (some ⟨b173, 0, none⟩) 1 ([j23] : List (List Int)) := Box.ownE hb176 (by rw [e]; exact ⟨[(.slice a165 (List.length j23) c166)], [], rfl, ⟨a165, c166, rfl, ((hk186.rd (Y := fun k => blk a165 = some k) (fun _ h => h.elim) (fun g e => e)).wide (fun _ h => h))⟩, rfl⟩) (show 1 ≤ maxLen by decide) (fun h => noteq hbe177 (hx182 _ h))
     have hx187 : ∀ k, X184 k → (fun k => (fun k => blk a165 = some k) k) k := fun k h => by rw [e] at h; exact h
     clear e
     have hl180 : ∀ g, blk (some ⟨b173, 0, none⟩) = some g → w0.heap.size ≤ g := loo hbe177 hB163.size
     have ap188 : ∀ g, blk (some ⟨b173, 0, none⟩) = some g → ¬ (fun k => blk a165 = some k) g := fun g e hx => nl (lowo hbe177 g e) ((fun k (hk : blk a165 = some k) => ho167.lt k hk) _ hx)
     have hx190 := ltx hx11 hg18.size
     have ap189 : ∀ g, blk (some ⟨b173, 0, none⟩) = some g → ¬ (fun k => blk a7 = some k ∨ X7 k) g := fun g e hx => nl (lowo hbe177 g e) ((fun k (hk : blk a7 = some k ∨ X7 k) => hk.elim (fun h => hk171.lt k h) (fun h => (fun k hk => ltl (hx190 k hk) hz164) k h)) _ hx)
     have ap191 : ∀ g, blk a7 = some g → ¬ (fun k => blk (some ⟨b173, 0, none⟩) = some k ∨ X184 k) g := fun g e h => h.elim (fun h => nl (lowo hbe177 _ h) ((fun k (hk : blk a7 = some k ∨ X7 k) => hk.elim (fun h => hk171.lt k h) (fun h => (fun k hk => ltl (hx190 k hk) hz164) k h)) g (.inl e))) (fun h => (ap170) g e (hx187 _ h))
     refine bindE h2 ?_; clear h2; intro l192 hx193 h2
     obtain ⟨X194, e⟩ : ∃ X : Nat → Prop, X = fun k => X7 k ∨ (fun k => blk (some ⟨b173, 0, none⟩) = some k ∨ X184 k) k := ⟨_, rfl⟩
     have hx198 := ltx (fun k hk => ltl (hx190 k hk) hz164) hg175.size
     have hx195 : ∀ k, X194 k → k < w174.heap.size := fun k hk => by rw [e] at hk; exact hk.elim (fun h => hx198 k h) (fun h => (fun k (hk : blk (some ⟨b173, 0, none⟩) = some k ∨ X184 k) => hk.elim (fun h => ho179.lt k h) (fun h => hx181 k h)) k h)
     have hx196 : ∀ k, X194 k → X0 k ∨ w0.heap.size ≤ k := fun k hk => by rw [e] at hk; exact hk.elim (fun h => hx12 k h) (fun h => (fun k (hk : blk (some ⟨b173, 0, none⟩) = some k ∨ X184 k) => hk.elim (fun h => Or.inr (hl180 k h)) (fun h => hx183 k h)) k h)
     have hk199 := hk171.grown hg175 (fun k hk => ltl (hx190 k hk) hz164) nb
     have ho197 : Gv.Own (slE (iE .i64)) 38 w174 X194 a7 c8 s3.1 := (hk199).wide (fun k hk => by rw [e]; exact .inl hk) (fun g e1 hk => by rw [e] at hk; exact hk.elim (fun h => (hk199).out g e1 h) (fun h => ap191 g e1 h))
     have hx200 : ∀ k, (fun k => blk (some ⟨b173, 0, none⟩) = some k ∨ X184 k) k → X194 k := fun k hk => by rw [e]; exact .inr hk
     have hx201 : ∀ k, X194 k → X7 k ∨ (fun k => blk (some ⟨b173, 0, none⟩) = some k ∨ X184 k) k := fun k hk => by rw [e] at hk; exact hk
     clear e
     refine gv_append (slE (iE .i64)) (t := 87) (ty := 87) (e := 38) (a := a7) (ax := (some ⟨b173, 0, none⟩)) (cap := c8) (cx := 1) (xs := s3.1) (ys := ([j23] : List (List Int))) l192 (X := X194) (Y := (fun k => blk (some ⟨b173, 0, none⟩) = some k ∨ X184 k)) (by decide) rfl rfl (by kernel_rfl) (by kernel_rfl) Tryd.underlying87 info38 ho197 (ho179.rd (Y := fun k => blk (some ⟨b173, 0, none⟩) = some k ∨ X184 k) (fun _ h => .inr h) (fun g e => .inl e)) hx193 (.inl hx200) hx195 ?_
     intro a202 c203 w204 hg205 ho206 hk207
     refine ⟨(fun e => by cases e), ?_⟩
     have hB209 := bg hB163 hg175 nb
     have hl208 : ∀ g, blk a202 = some g → w0.heap.size ≤ g := blk_step hk207 hl10 hB209.size
     have hx210 : ∀ k, X194 k → k < w204.heap.size := fun k hk => ltl (hx195 k hk) hg205.size
     have ap211 : ∀ g, blk a202 = some g → ¬ (fun k => blk a165 = some k) g := blk_neX hk207 ap170 (fun k (hk : blk a165 = some k) => hk186.lt k hk)
     have ap213 : ∀ g, blk a202 = some g → ¬ (fun k => blk (some ⟨b173, 0, none⟩) = some k ∨ X184 k) g := blk_neX hk207 ap191 (fun k (hk : blk (some ⟨b173, 0, none⟩) = some k ∨ X184 k) => hk.elim (fun h => ho179.lt k h) (fun h => hx181 k h))
     refine gv_pureN 1 [5] [(5, (.slice a202 (List.length l192) c203))] (by kernel_rfl) ?_
     refine gv_nil <| gv_blk <| gv_region <| gv_pureN 3 [6, 14, 15] [(6, (.int .i64 (IntKind.i64.wrap (s3.2 + 1))))] (by kernel_rfl) ?_
     refine gv_nil ?_
     have e := sj h2; subst e
     refine gv_goal fun a hd hs hok => ?_
     have hB215 := bg hB209 hg205 hl10
     have hz216 := (nt (nt hz172 hg175.size) hg205.size)
     exact ⟨(l192, (IntKind.i64.wrap (s3.2 + 1))), rfl, a202, c203, X194, hB215, hz216, ho206, hl208, hx210, hx196, hd, hs, ok_pick [0, 1, 5, 6] hok (by kernel_rfl)⟩
   ·replace h2 := ite_f hc13 h2
    refine gv_cexit <| gv_exit rfl ?_
    have e := sj h2; subst e
    replace h1 := congrArg some (hR2 _ rfl)
    have e := sj h1; subst e
    refine gv_goal fun a hd hs hok => ?_
    have hz217 := hz6
    exact ⟨a7, c8, X7, hB5, hz217, ho9, hl10, hx11, hx12, hd, hs, ok_pick [0, 1, 5] hok (by kernel_rfl)⟩
 ·rintro a w2 ⟨a220, c221, X220, hB218, hz219, ho222, hl223, hx224, hx225, hd, hs, hok⟩
  refine gv_in ?_ hd hs hok
  clear hd hs hok
  refine gv_seq <| gv_region <| gv_pureN 3 [104, 105, 106] [(104, (.slice a220 (List.length j1) c221)), (106, (.int .i64 ((List.length a_0 : Nat) : Int)))] (by kernel_rfl) ?_
  refine bindE h0 ?_; clear h0; intro x226 hx227 h0
  refine gv_idxaddr (t := 87) (e := 38) (a := a220) (len := List.length j1) (cap := c221) (kk := .i64) (i := ((List.length a_0 : Nat) : Int)) (sz := 1) [] (fun e => by cases e) rfl rfl rfl (by kernel_rfl) (by kernel_rfl) Tryd.underlying87 (by kernel_rfl) ((ho222.rd (Y := fun k => blk a220 = some k ∨ X220 k) (fun _ h => .inr h) (fun g e => .inl e)).has hx227) (idx_spec hx227).1 (idx_spec hx227).2.1 rfl ?_
  obtain ⟨_, ⟨a229, c230, rfl, hr231⟩, hc228⟩ := ho222.cellsK hx227
  refine gv_load (t := 38) (A := (elemAddr a220 ((((List.length a_0 : Nat) : Int) : Int).toNat * 1))) (.slice a229 (List.length x226) c230) [] (fun e => by cases e) rfl rfl rfl (by kernel_rfl) (by kernel_rfl) (by kernel_rfl) (inw0 ((hc228 w2 (fun _ _ => rfl)).zero rfl)) rfl ?_
  refine gv_pureN 2 [109, 110] [(110, (.int .i64 ((List.length b_1 : Nat) : Int)))] (by kernel_rfl) ?_
  refine bindE h0 ?_; clear h0; intro x232 hx233 h0
  refine gv_idxaddr (t := 38) (e := 3) (a := a229) (len := List.length x226) (cap := c230) (kk := .i64) (i := ((List.length b_1 : Nat) : Int)) (sz := 1) [] (fun e => by cases e) rfl rfl rfl (by kernel_rfl) (by kernel_rfl) Tryd.underlying38 (by kernel_rfl) (hr231.has hx233) (idx_spec hx233).1 (idx_spec hx233).2.1 rfl ?_
  refine gv_load (t := 3) (A := (elemAddr a229 ((((List.length b_1 : Nat) : Int) : Int).toNat * 1))) (.int .i64 x232) [] (fun e => by cases e) rfl rfl rfl (by kernel_rfl) (by kernel_rfl) (by kernel_rfl) (inw0 (hr231.cell hx233)) rfl ?_
  refine gv_pureN 1 [4] [(4, (.int .i64 x232))] (by kernel_rfl) ?_
  refine gv_nil <| gv_cret ?_
  have e := sj h0; subst e
  refine gv_ret (gv_done [(.int .i64 x232)] rfl ⟨(by kernel_rfl), trivial⟩ ?_)
  exact ⟨grown_of_below hB218, rfl⟩

end Go.Proofs.YtkmcegicngjhbaaDoor
