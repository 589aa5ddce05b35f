import Derived.Test.YtkmcegicngjhbaaDoorP1
set_option linter.all false
set_option maxHeartbeats 4000000
set_option maxRecDepth 100000
/- Own work, printed by a program of mine: the walk of each function: a call returns what the plain function says. -/
namespace Go.Proofs.YtkmcegicngjhbaaDoor
open Go.Gv Go.Gv.D Go.RowKit
theorem enters15 : Go.Gv.Enters Tryd.prog 15 := ⟨Tryd.f15, Tryd.func15, by kernel_rfl, by kernel_rfl⟩
theorem enters23 : Go.Gv.Enters Tryd.prog 23 := ⟨Tryd.f23, Tryd.func23, by kernel_rfl, by kernel_rfl⟩
theorem enters24 : Go.Gv.Enters Tryd.prog 24 := ⟨Tryd.f24, Tryd.func24, by kernel_rfl, by kernel_rfl⟩
theorem enters25 : Go.Gv.Enters Tryd.prog 25 := ⟨Tryd.f25, Tryd.func25, by kernel_rfl, by kernel_rfl⟩
theorem enters26 : Go.Gv.Enters Tryd.prog 26 := ⟨Tryd.f26, Tryd.func26, by kernel_rfl, by kernel_rfl⟩
theorem enters29 : Go.Gv.Enters Tryd.prog 29 := ⟨Tryd.f29, Tryd.func29, by kernel_rfl, by kernel_rfl⟩
theorem enters31 : Go.Gv.Enters Tryd.prog 31 := ⟨Tryd.f31, Tryd.func31, by kernel_rfl, by kernel_rfl⟩
theorem enters39 : Go.Gv.Enters Tryd.prog 39 := ⟨Tryd.f39, Tryd.func39, by kernel_rfl, by kernel_rfl⟩
theorem enters41 : Go.Gv.Enters Tryd.prog 41 := ⟨Tryd.f41, Tryd.func41, by kernel_rfl, by kernel_rfl⟩
theorem enters42 : Go.Gv.Enters Tryd.prog 42 := ⟨Tryd.f42, Tryd.func42, by kernel_rfl, by kernel_rfl⟩
theorem enters43 : Go.Gv.Enters Tryd.prog 43 := ⟨Tryd.f43, Tryd.func43, by kernel_rfl, by kernel_rfl⟩
theorem enters44 : Go.Gv.Enters Tryd.prog 44 := ⟨Tryd.f44, Tryd.func44, by kernel_rfl, by kernel_rfl⟩
theorem enters45 : Go.Gv.Enters Tryd.prog 45 := ⟨Tryd.f45, Tryd.func45, by kernel_rfl, by kernel_rfl⟩
theorem enters67 : Go.Gv.Enters Tryd.prog 67 := ⟨Tryd.f67, Tryd.func67, by kernel_rfl, by kernel_rfl⟩
theorem enters68 : Go.Gv.Enters Tryd.prog 68 := ⟨Tryd.f68, Tryd.func68, by kernel_rfl, by kernel_rfl⟩
theorem enters74 : Go.Gv.Enters Tryd.prog 74 := ⟨Tryd.f74, Tryd.func74, by kernel_rfl, by kernel_rfl⟩
theorem enters75 : Go.Gv.Enters Tryd.prog 75 := ⟨Tryd.f75, Tryd.func75, by kernel_rfl, by kernel_rfl⟩
theorem enters77 : Go.Gv.Enters Tryd.prog 77 := ⟨Tryd.f77, Tryd.func77, by kernel_rfl, by kernel_rfl⟩
theorem enters78 : Go.Gv.Enters Tryd.prog 78 := ⟨Tryd.f78, Tryd.func78, by kernel_rfl, by kernel_rfl⟩
theorem enters92 : Go.Gv.Enters Tryd.prog 92 := ⟨Tryd.f92, Tryd.func92, by kernel_rfl, by kernel_rfl⟩
theorem enters97 : Go.Gv.Enters Tryd.prog 97 := ⟨Tryd.f97, Tryd.func97, by kernel_rfl, by kernel_rfl⟩
theorem info3 : InfoOk Tryd.prog 3 1 := infoOk (z := (.int .i64 0)) (bytes := 8) (by kernel_rfl) (by kernel_rfl) (by kernel_rfl) (by kernel_rfl)
theorem info5 : InfoOk Tryd.prog 5 1 := infoOk (z := (.int .u8 0)) (bytes := 1) (by kernel_rfl) (by kernel_rfl) (by kernel_rfl) (by kernel_rfl)
theorem eqs24eql (a0 : Int) (a1 : Int) (b0 : Int) (b1 : Int) (x y : Operand) (w : World) : (do eqGuard .eql 24 x y (.agg #[.int .i64 a0, .int .i64 a1]) (.agg #[.int .i64 b0, .int .i64 b1]); binOp .eql 24 (.agg #[.int .i64 a0, .int .i64 a1]) (.agg #[.int .i64 b0, .int .i64 b1]) : Sem Value).run Tryd.prog w = .ok (.bool ((a0 == b0) && (a1 == b1))) w := by
  have h1 : Tryd.prog.eqGuardType Tryd.prog.depth 24 = false := by kernel_rfl
  have h2 : Tryd.prog.stoodInHeld 24 = false := by kernel_rfl
  have h3 : Tryd.prog.underlying 24 = some (.struct (Tryd.prog.fieldsOf 24)) := by kernel_rfl
  have h4 := Tryd.underlying24
  rw [Sem.run_bind, run_eqGuard_agg w .eql 24 x y _ _ h1, Result.andThen_ok, run_eql_struct, run_equalIn_struct w 9999 24 _ _ h3 h2]
  by_cases g0 : a0 = b0 <;> by_cases g1 : a1 = b1 <;> simp [Program.fieldsOf, h4, Op.eqFields, part, isAgg, run_underlying Tryd.underlying3, run_equalIn_int _ _ _ _ _ _ _ Tryd.underlying3, g0, g1]

theorem strings_CountA_ok (fuel : Nat) (s_0 : ByteArray) (substr_1 : ByteArray) (w0 : World) (X0 : Nat → Prop) (hX0 : ∀ k, X0 k → k < w0.heap.size) {gmx : Int} (hG0 : Rd (iE .i64) w0 X0 (some ⟨0, 0, none⟩) 1 [gmx]) (r0 : Int) (h0 : strings_CountA fuel s_0 substr_1 = some r0) :
    Calls Tryd.prog 74 ([(.string s_0), (.string substr_1)] : List Value).toArray w0 (Ret fun v w' => w0.grownBy w' none ∧ v = tup [(.int .i64 r0)]) := by
  have hB0 : Below w0.heap.size w0 w0 := Below.refl _ _
  unfold strings_CountA at h0
  by_cases hz : (((ByteArray.size substr_1 : Nat) : Int) == 0) = true
  · replace h0 := ite_t hz h0
    refine calls_run Tryd.func74 rfl Tryd.ntmps74 (by kernel_rfl) ?_
    refine gv_sub [0, 1] (σ' := [(0, (.string s_0)), (1, (.string substr_1))]) (by kernel_rfl) ?_
    refine gv_seq <| gv_region <| gv_pureN 1 [4] [] (by kernel_rfl) ?_
    refine gv_nil <| gv_seq <| gv_seq <| gv_region <| gv_pureN 3 [7, 8, 9] [(9, (.bool (((ByteArray.size substr_1 : Nat) : Int) == 0)))] (by kernel_rfl) ?_
    refine gv_nil <| gv_cond (b := (((ByteArray.size substr_1 : Nat) : Int) == 0)) (by kernel_rfl) (fun hc1 => ?_) (fun hc1 => ?_)
    · refine gv_seq <| gv_region <| gv_pureN 1 [10] [(10, (.string s_0))] (by kernel_rfl) ?_
      refine bindE h0 ?_; clear h0; intro r2 hr3 h0
      refine gv_call0 (by kernel_rfl) rfl (by kernel_rfl) enters73 (utf8_RuneCountInString_ok fuel s_0 w0  r2 hr3) ?_
      rintro v6 w4 ⟨hg5, rfl⟩
      refine gv_pureN 2 [4, 12] [(4, (.int .i64 (IntKind.i64.wrap (r2 + 1))))] (by kernel_rfl) ?_
      refine gv_nil <| gv_cret ?_
      have e := sj h0; subst e
      refine gv_ret (gv_done [(.int .i64 (IntKind.i64.wrap (r2 + 1)))] rfl ⟨(by kernel_rfl), trivial⟩ ?_)
      have hB7 := bg hB0 hg5 nb
      exact ⟨grown_of_below hB7, rfl⟩
    · rw [hz] at hc1; cases hc1
  · have hz : (((ByteArray.size substr_1 : Nat) : Int) == 0) = false := by cases h : (((ByteArray.size substr_1 : Nat) : Int) == 0) <;> first | rfl | exact absurd h hz
    exact strings_Count_ok fuel s_0 substr_1 w0 X0 hX0 hG0 r0 (ite_f hz h0)

theorem ref4_behind_ok (fuel : Nat) (pa0_0 : Option Addr) (pc0_0 : Nat) (s_0 : (List UInt8)) (i_1 : Int) (w0 : World) (X0 : Nat → Prop) (hX0 : ∀ k, X0 k → k < w0.heap.size) (hpa0_0 : Rd bE w0 X0 pa0_0 pc0_0 s_0) (r0 : Int) (h0 : ref4_behind fuel s_0 i_1 = some r0) :
    Calls Tryd.prog 92 ([(.slice pa0_0 (List.length s_0) pc0_0), (.int .i64 i_1)] : List Value).toArray w0 (Ret fun v w' => w0.grownBy w' none ∧ v = tup [(.int .i64 r0)]) := by
 have hB0 : Below w0.heap.size w0 w0 := Below.refl _ _
 unfold ref4_behind at h0
 refine calls_run Tryd.func92 rfl Tryd.ntmps92 (by kernel_rfl) ?_
 refine gv_sub [0, 1] (σ' := [(0, (.slice pa0_0 (List.length s_0) pc0_0)), (1, (.int .i64 i_1))]) (by kernel_rfl) ?_
 refine gv_seq <| gv_region <| gv_pureN 1 [4] [] (by kernel_rfl) ?_
 refine gv_nil <| gv_seq <| gv_seq <| gv_region <| bindE h0 ?_; clear h0; intro j1 h1 h0
 refine gv_cut_ops (J := fun a w2 => Below w0.heap.size w0 w2 ∧ w0.heap.size ≤ w2.heap.size ∧ a.defers = [] ∧ a.tmps.size = 29 ∧ Ok [(0, (.slice pa0_0 (List.length s_0) pc0_0)), (1, (.int .i64 i_1)), (22, (.bool j1))] a.tmps) ?_ ?_
 ·skip
  refine gv_pureN 5 [5, 6, 7, 8, 9] [(9, (.bool (decide (i_1 < ((List.length s_0 : Nat) : Int)))))] (by kernel_rfl) ?_
  refine gv_split (s := 9) (g := (decide (i_1 < ((List.length s_0 : Nat) : Int)))) (by kernel_rfl) (fun hc3 => ?_) (fun hc3 => ?_)
  ·skip
   replace h1 := ite_t hc3 h1
   refine gv_pureN 2 [10, 11] [(10, (.slice pa0_0 (List.length s_0) pc0_0)), (11, (.int .i64 i_1))] (by kernel_rfl) ?_
   refine bindE h1 ?_; clear h1; intro x4 hx5 h1
   refine gv_idxaddr (t := 82) (e := 5) (a := pa0_0) (len := List.length s_0) (cap := pc0_0) (kk := .i64) (i := i_1) (sz := 1) [] (fun e => by cases e) rfl rfl rfl (by kernel_rfl) (by kernel_rfl) Tryd.underlying82 (by kernel_rfl) ((hpa0_0.below hB0 hX0).has hx5) (idx_spec hx5).1 (idx_spec hx5).2.1 rfl ?_
   refine gv_load (t := 5) (A := (elemAddr pa0_0 ((i_1 : Int).toNat * 1))) (.int .u8 ((x4).toNat : Int)) [] (fun e => by cases e) rfl rfl rfl (by kernel_rfl) (by kernel_rfl) (by kernel_rfl) (inw0 ((hpa0_0.below hB0 hX0).cell hx5)) rfl ?_
   refine gv_pureN 3 [14, 15, 16] [(16, (.bool (decide (((x4).toNat : Int) ≥ 128))))] (by kernel_rfl) ?_
   refine gv_split (s := 16) (g := (decide (((x4).toNat : Int) ≥ 128))) (by kernel_rfl) (fun hc6 => ?_) (fun hc6 => ?_)
   ·skip
    replace h1 := ite_t hc6 h1
    refine gv_pureN 2 [17, 18] [(17, (.slice pa0_0 (List.length s_0) pc0_0)), (18, (.int .i64 i_1))] (by kernel_rfl) ?_
    refine bindE h1 ?_; clear h1; intro x7 hx8 h1
    refine gv_idxaddr (t := 82) (e := 5) (a := pa0_0) (len := List.length s_0) (cap := pc0_0) (kk := .i64) (i := i_1) (sz := 1) [] (fun e => by cases e) rfl rfl rfl (by kernel_rfl) (by kernel_rfl) Tryd.underlying82 (by kernel_rfl) ((hpa0_0.below hB0 hX0).has hx8) (idx_spec hx8).1 (idx_spec hx8).2.1 rfl ?_
    refine gv_load (t := 5) (A := (elemAddr pa0_0 ((i_1 : Int).toNat * 1))) (.int .u8 ((x7).toNat : Int)) [] (fun e => by cases e) rfl rfl rfl (by kernel_rfl) (by kernel_rfl) (by kernel_rfl) (inw0 ((hpa0_0.below hB0 hX0).cell hx8)) rfl ?_
    refine gv_pureN 2 [21, 22] [(22, (.bool (decide (((x7).toNat : Int) < 192))))] (by kernel_rfl) ?_
    refine gv_nil ?_
    have e := sj h1; subst e
    refine gv_goal fun a hd hs hok => ?_
    exact ⟨hB0, (Nat.le_refl _), hd, hs, ok_pick [0, 1, 22] hok (by kernel_rfl)⟩
   ·skip
    replace h1 := ite_f hc6 h1
    refine gv_pureN 6 [17, 18, 19, 20, 21, 22] [(22, (.bool false))] (by kernel_rfl) ?_
    refine gv_nil ?_
    have e := sj h1; subst e
    refine gv_goal fun a hd hs hok => ?_
    exact ⟨hB0, (Nat.le_refl _), hd, hs, ok_pick [0, 1, 22] hok (by kernel_rfl)⟩
  ·skip
   replace h1 := ite_f hc3 h1
   refine gv_pureN 13 [10, 11, 12, 13, 14, 15, 16, 17, 18, 19, 20, 21, 22] [(22, (.bool false))] (by kernel_rfl) ?_
   refine gv_nil ?_
   have e := sj h1; subst e
   refine gv_goal fun a hd hs hok => ?_
   exact ⟨hB0, (Nat.le_refl _), hd, hs, ok_pick [0, 1, 22] hok (by kernel_rfl)⟩
 ·rintro a w2 ⟨hB9, hz10, hd, hs, hok⟩
  refine gv_in ?_ hd hs hok
  clear hd hs hok
  refine gv_cond (b := j1) (by kernel_rfl) (fun hc11 => ?_) (fun hc11 => ?_)
  ·replace h0 := ite_t hc11 h0
   refine gv_seq <| gv_region <| gv_pureN 2 [23, 24] [(23, (.slice pa0_0 (List.length s_0) pc0_0)), (24, (.int .i64 i_1))] (by kernel_rfl) ?_
   refine bindE h0 ?_; clear h0; intro x12 hx13 h0
   refine gv_idxaddr (t := 82) (e := 5) (a := pa0_0) (len := List.length s_0) (cap := pc0_0) (kk := .i64) (i := i_1) (sz := 1) [] (fun e => by cases e) rfl rfl rfl (by kernel_rfl) (by kernel_rfl) Tryd.underlying82 (by kernel_rfl) ((hpa0_0.below hB9 hX0).has hx13) (idx_spec hx13).1 (idx_spec hx13).2.1 rfl ?_
   refine gv_load (t := 5) (A := (elemAddr pa0_0 ((i_1 : Int).toNat * 1))) (.int .u8 ((x12).toNat : Int)) [] (fun e => by cases e) rfl rfl rfl (by kernel_rfl) (by kernel_rfl) (by kernel_rfl) (inw0 ((hpa0_0.below hB9 hX0).cell hx13)) rfl ?_
   refine gv_pureN 3 [4, 27, 28] [(4, (.int .i64 (IntKind.i64.wrap ((IntKind.i64.wrap (((x12).toNat : Int))) - 128))))] (by kernel_rfl) ?_
   refine bindE h0 ?_; clear h0; intro n14 hn15 h0
   refine gv_name (s := 4) (v := (.int .i64 (IntKind.i64.wrap ((IntKind.i64.wrap (((x12).toNat : Int))) - 128)))) (v' := (.int .i64 n14)) (by kernel_rfl) (congrArg (Value.int .i64) (sj hn15)) ?_
   refine gv_nil <| gv_cret ?_
   have e := sj h0; subst e
   refine gv_ret (gv_done [(.int .i64 n14)] rfl ⟨(by kernel_rfl), trivial⟩ ?_)
   exact ⟨grown_of_below hB9, rfl⟩
  ·replace h0 := ite_f hc11 h0
   refine gv_skip <| gv_seq <| gv_region <| gv_pureN 1 [4] [(4, (.int .i64 (-1)))] (by kernel_rfl) ?_
   refine gv_nil <| gv_cret ?_
   have e := sj h0; subst e
   refine gv_ret (gv_done [(.int .i64 (-1))] rfl ⟨(by kernel_rfl), trivial⟩ ?_)
   exact ⟨grown_of_below hB9, rfl⟩

theorem ref4_unit_ok (fuel : Nat) (pa0_0 : Option Addr) (pc0_0 : Nat) (s_0 : (List UInt8)) (at_1 : Int) (w0 : World) (X0 : Nat → Prop) (hX0 : ∀ k, X0 k → k < w0.heap.size) (hpa0_0 : Rd bE w0 X0 pa0_0 pc0_0 s_0) (r0 : (Int × Int)) (h0 : ref4_unit fuel s_0 at_1 = some r0) :
    Calls Tryd.prog 67 ([(.slice pa0_0 (List.length s_0) pc0_0), (.int .i64 at_1)] : List Value).toArray w0 (Ret fun v w' => w0.grownBy w' none ∧ v = tup [(.int .i64 r0.1), (.int .i64 r0.2)]) := by
 have hB0 : Below w0.heap.size w0 w0 := Below.refl _ _
 unfold ref4_unit at h0
 refine calls_run Tryd.func67 rfl Tryd.ntmps67 (by kernel_rfl) ?_
 refine gv_sub [0, 1] (σ' := [(0, (.slice pa0_0 (List.length s_0) pc0_0)), (1, (.int .i64 at_1))]) (by kernel_rfl) ?_
 refine gv_seq <| gv_region <| gv_pureN 2 [4, 5] [] (by kernel_rfl) ?_
 refine gv_nil <| gv_seq <| gv_drawA (by kernel_rfl) ?_
 intro w1 hg2
 refine gv_pre [0, 1, 2, 5, 6, 7, 9, 10, 11, 13, 14, 15] (bA 21 [0, 1, 2, 5, 6, 7, 9, 10, 11, 13, 14, 15]) 9 (by kernel_rfl) (by kernel_rfl) ?_
 refine gv_pureN 2 [12, 13] [(12, (.slice pa0_0 (List.length s_0) pc0_0)), (13, (.int .i64 at_1))] (by kernel_rfl) ?_
 refine bindE h0 ?_; clear h0; intro x3 hx4 h0
 have hB5 := bg hB0 hg2 nb
 refine gv_idxaddr (t := 82) (e := 5) (a := pa0_0) (len := List.length s_0) (cap := pc0_0) (kk := .i64) (i := at_1) (sz := 1) [] (fun e => by cases e) rfl rfl rfl (by kernel_rfl) (by kernel_rfl) Tryd.underlying82 (by kernel_rfl) ((hpa0_0.below hB5 hX0).has hx4) (idx_spec hx4).1 (idx_spec hx4).2.1 rfl ?_
 refine gv_pureN 9 [17, 18, 19, 21, 22, 23, 25, 26, 27] [(17, (.slice pa0_0 (List.length s_0) pc0_0)), (19, (.int .i64 (IntKind.i64.wrap (at_1 + 1)))), (21, (.slice pa0_0 (List.length s_0) pc0_0)), (23, (.int .i64 (IntKind.i64.wrap (at_1 + 2)))), (25, (.slice pa0_0 (List.length s_0) pc0_0)), (27, (.int .i64 (IntKind.i64.wrap (at_1 + 3))))] (by kernel_rfl) ?_
 refine gv_nil <| gv_goA ?_
 refine gv_stage (Cls w1 []) [0, 1, 2, 3, 4, 5, 6, 7, 8, 9, 10, 11, 12, 13, 14, 15, 16] [(3, some true), (4, some true), (8, some false), (12, some false), (16, some false)] (bA 21 [0, 1, 2, 3, 4, 5, 6, 7, 8, 9, 10, 11, 12, 13, 14, 15, 16]) 4 (by kernel_rfl) (by kernel_rfl) (Cls.refl _ _) ?_
 have hC6 := Cls.refl w1 []
 refine gv_load (t := 5) (A := (elemAddr pa0_0 ((at_1 : Int).toNat * 1))) (.int .u8 ((x3).toNat : Int)) [] (fun e => by cases e) rfl rfl rfl (by kernel_rfl) (by kernel_rfl) (by kernel_rfl) (inw1 fun w' hC' => ((hC'.rd (hpa0_0.below hB5 hX0) (fun k (hk : X0 k) => ltl (hX0 k hk) hB5.size) nmx_nil).cell hx4)) rfl ?_
 refine gv_pureN 1 [16] [(16, (.int .i64 (IntKind.i64.wrap (((x3).toNat : Int)))))] (by kernel_rfl) ?_
 refine bindE h0 ?_; clear h0; intro r7 hr8 h0
 refine gv_call (f := 92) (vs := [(.slice pa0_0 (List.length s_0) pc0_0), (.int .i64 (IntKind.i64.wrap (at_1 + 1)))]) (cap := []) _ (by decide) rfl rfl rfl (by kernel_rfl) (by kernel_rfl) enters92 (ref4_behind_ok fuel pa0_0 pc0_0 s_0 (IntKind.i64.wrap (at_1 + 1)) w1 (fun k => X0 k) (fun k hk => (fun k (hk : X0 k) => ltl (hX0 k hk) hB5.size) k hk) ((hpa0_0.below hB5 hX0).wide (fun k hk => hk)) r7 hr8) ?_
 rintro v11 w9 ⟨hg10, rfl⟩
 refine ⟨(fun _ => hC6.grown hg10 nb), ?_⟩
 refine bindE h0 ?_; clear h0; intro r12 hr13 h0
 have hB14 := bg hB5 hg10 nb
 refine gv_call (f := 92) (vs := [(.slice pa0_0 (List.length s_0) pc0_0), (.int .i64 (IntKind.i64.wrap (at_1 + 2)))]) (cap := []) _ (by decide) rfl rfl rfl (by kernel_rfl) (by kernel_rfl) enters92 (ref4_behind_ok fuel pa0_0 pc0_0 s_0 (IntKind.i64.wrap (at_1 + 2)) w9 (fun k => X0 k) (fun k hk => (fun k (hk : X0 k) => ltl (hX0 k hk) hB14.size) k hk) ((hpa0_0.below hB14 hX0).wide (fun k hk => hk)) r12 hr13) ?_
 rintro v17 w15 ⟨hg16, rfl⟩
 have hC18 := hC6.grown hg10 nb
 refine ⟨(fun _ => hC18.grown hg16 nb), ?_⟩
 refine bindE h0 ?_; clear h0; intro r19 hr20 h0
 have hB21 := bg hB14 hg16 nb
 refine gv_call (f := 92) (vs := [(.slice pa0_0 (List.length s_0) pc0_0), (.int .i64 (IntKind.i64.wrap (at_1 + 3)))]) (cap := []) _ (by decide) rfl rfl rfl (by kernel_rfl) (by kernel_rfl) enters92 (ref4_behind_ok fuel pa0_0 pc0_0 s_0 (IntKind.i64.wrap (at_1 + 3)) w15 (fun k => X0 k) (fun k hk => (fun k (hk : X0 k) => ltl (hX0 k hk) hB21.size) k hk) ((hpa0_0.below hB21 hX0).wide (fun k hk => hk)) r19 hr20) ?_
 rintro v24 w22 ⟨hg23, rfl⟩
 have hC25 := hC18.grown hg16 nb
 refine ⟨(fun _ => hC25.grown hg23 nb), ?_⟩
 refine gv_nil <| gv_goA ?_
 refine gv_pre [17, 18, 19, 20] (bA 21 [0, 1, 2, 3, 4, 5, 6, 7, 8, 9, 10, 11, 12, 13, 14, 15, 16, 17, 18, 19, 20]) 0 (by kernel_rfl) (by kernel_rfl) ?_
 refine gv_pureN 4 [6, 7, 8, 9] [(6, (.int .i64 (IntKind.i64.wrap (((x3).toNat : Int))))), (7, (.int .i64 r7)), (8, (.int .i64 r12)), (9, (.int .i64 r19))] (by kernel_rfl) ?_
 refine gv_nil <| gv_goA ?_
 refine gv_stageE (by kernel_rfl) ?_
 refine gv_seq <| gv_block <| gv_seq <| gv_region <| gv_pureN 3 [29, 30, 31] [(29, (.bool (decide ((IntKind.i64.wrap (((x3).toNat : Int))) < 128))))] (by kernel_rfl) ?_
 refine bindE h0 ?_; clear h0; intro n26 hn27 h0
 refine gv_name (s := 29) (v := (.bool (decide ((IntKind.i64.wrap (((x3).toNat : Int))) < 128)))) (v' := (.bool n26)) (by kernel_rfl) (congrArg (Value.bool) (sj hn27)) ?_
 refine gv_nil <| gv_cond (b := n26) (by kernel_rfl) (fun hc28 => ?_) (fun hc28 => ?_)
 ·replace h0 := ite_t hc28 h0
  refine gv_seq <| gv_region <| gv_pureN 3 [4, 5, 32] [(4, (.int .i64 (IntKind.i64.wrap (((x3).toNat : Int))))), (5, (.int .i64 1))] (by kernel_rfl) ?_
  refine gv_nil <| gv_cret ?_
  have e := sj h0; subst e
  refine gv_ret (gv_done [(.int .i64 (IntKind.i64.wrap (((x3).toNat : Int)))), (.int .i64 1)] rfl ⟨(by kernel_rfl), (by kernel_rfl), trivial⟩ ?_)
  have hB29 := bg hB21 hg23 nb
  exact ⟨grown_of_below hB29, rfl⟩
 ·replace h0 := ite_f hc28 h0
  refine gv_seq <| gv_region <| gv_cut_ops (J := fun a w30 => w22 = w30 ∧ a.defers = [] ∧ a.tmps.size = 120 ∧ Ok [(6, (.int .i64 (IntKind.i64.wrap (((x3).toNat : Int))))), (7, (.int .i64 r7)), (8, (.int .i64 r12)), (9, (.int .i64 r19)), (33, (.bool ((decide ((IntKind.i64.wrap (((x3).toNat : Int))) ≥ 194)) && ((decide ((IntKind.i64.wrap (((x3).toNat : Int))) < 224)) && (decide (r7 ≥ 0))))))] a.tmps) ?_ ?_
  ·skip
   refine gv_pureN 3 [34, 35, 36] [(36, (.bool (decide ((IntKind.i64.wrap (((x3).toNat : Int))) ≥ 194))))] (by kernel_rfl) ?_
   refine gv_split (s := 36) (g := (decide ((IntKind.i64.wrap (((x3).toNat : Int))) ≥ 194))) (by kernel_rfl) (fun hc31 => ?_) (fun hc31 => ?_)
   ·skip
    refine gv_pureN 4 [37, 38, 39, 40] [(40, (.bool (decide ((IntKind.i64.wrap (((x3).toNat : Int))) < 224))))] (by kernel_rfl) ?_
    refine gv_split (s := 40) (g := (decide ((IntKind.i64.wrap (((x3).toNat : Int))) < 224))) (by kernel_rfl) (fun hc32 => ?_) (fun hc32 => ?_)
    ·skip
     refine gv_pureN 4 [33, 41, 42, 43] [(33, (.bool (decide (r7 ≥ 0))))] (by kernel_rfl) ?_
     refine gv_sub [6, 7, 8, 9, 33] (σ' := [(6, (.int .i64 (IntKind.i64.wrap (((x3).toNat : Int))))), (7, (.int .i64 r7)), (8, (.int .i64 r12)), (9, (.int .i64 r19)), (33, (.bool (decide (r7 ≥ 0))))]) (by kernel_rfl) ?_
     refine gv_nil <| gv_sub [6, 7, 8, 9, 33] (σ' := [(6, (.int .i64 (IntKind.i64.wrap (((x3).toNat : Int))))), (7, (.int .i64 r7)), (8, (.int .i64 r12)), (9, (.int .i64 r19)), (33, (.bool (decide (r7 ≥ 0))))]) (by kernel_rfl) ?_
     refine gv_goal fun a hd hs hok => ⟨rfl, hd, hs, ?_⟩
     obtain ⟨q6, q7, q8, q9, q33, _⟩ := hok
     exact ⟨q6, q7, q8, q9, (by rw [hc31, hc32]; exact q33), trivial⟩
    ·skip
     refine gv_pureN 4 [33, 41, 42, 43] [(33, (.bool false))] (by kernel_rfl) ?_
     refine gv_sub [6, 7, 8, 9, 33] (σ' := [(6, (.int .i64 (IntKind.i64.wrap (((x3).toNat : Int))))), (7, (.int .i64 r7)), (8, (.int .i64 r12)), (9, (.int .i64 r19)), (33, (.bool false))]) (by kernel_rfl) ?_
     refine gv_nil <| gv_sub [6, 7, 8, 9, 33] (σ' := [(6, (.int .i64 (IntKind.i64.wrap (((x3).toNat : Int))))), (7, (.int .i64 r7)), (8, (.int .i64 r12)), (9, (.int .i64 r19)), (33, (.bool false))]) (by kernel_rfl) ?_
     refine gv_goal fun a hd hs hok => ⟨rfl, hd, hs, ?_⟩
     obtain ⟨q6, q7, q8, q9, q33, _⟩ := hok
     exact ⟨q6, q7, q8, q9, (by rw [hc31, hc32]; exact q33), trivial⟩
   ·skip
    refine gv_pureN 8 [33, 37, 38, 39, 40, 41, 42, 43] [(33, (.bool false))] (by kernel_rfl) ?_
    refine gv_nil <| gv_sub [6, 7, 8, 9, 33] (σ' := [(6, (.int .i64 (IntKind.i64.wrap (((x3).toNat : Int))))), (7, (.int .i64 r7)), (8, (.int .i64 r12)), (9, (.int .i64 r19)), (33, (.bool false))]) (by kernel_rfl) ?_
    refine gv_goal fun a hd hs hok => ⟨rfl, hd, hs, ?_⟩
    obtain ⟨q6, q7, q8, q9, q33, _⟩ := hok
    exact ⟨q6, q7, q8, q9, (by rw [hc31]; exact q33), trivial⟩
  ·rintro a w30 ⟨e, hd, hs, hok⟩; subst e
   refine gv_in ?_ hd hs hok
   clear hd hs hok
   refine gv_cond (b := ((decide ((IntKind.i64.wrap (((x3).toNat : Int))) ≥ 194)) && ((decide ((IntKind.i64.wrap (((x3).toNat : Int))) < 224)) && (decide (r7 ≥ 0))))) (by kernel_rfl) (fun hc33 => ?_) (fun hc33 => ?_)
   ·replace h0 := ite_t hc33 h0
    refine gv_seq <| gv_region <| gv_pureN 7 [4, 5, 44, 45, 46, 47, 48] [(4, (.int .i64 (IntKind.i64.wrap ((IntKind.i64.wrap ((IntKind.i64.wrap ((IntKind.i64.wrap (((x3).toNat : Int))) - 192)) * 64)) + r7)))), (5, (.int .i64 2))] (by kernel_rfl) ?_
    refine bindE h0 ?_; clear h0; intro n34 hn35 h0
    refine gv_name (s := 4) (v := (.int .i64 (IntKind.i64.wrap ((IntKind.i64.wrap ((IntKind.i64.wrap ((IntKind.i64.wrap (((x3).toNat : Int))) - 192)) * 64)) + r7)))) (v' := (.int .i64 n34)) (by kernel_rfl) (congrArg (Value.int .i64) (sj hn35)) ?_
    refine gv_nil <| gv_cret ?_
    have e := sj h0; subst e
    refine gv_ret (gv_done [(.int .i64 n34), (.int .i64 2)] rfl ⟨(by kernel_rfl), (by kernel_rfl), trivial⟩ ?_)
    have hB36 := bg hB21 hg23 nb
    exact ⟨grown_of_below hB36, rfl⟩
   ·replace h0 := ite_f hc33 h0
    refine gv_seq <| gv_region <| gv_cut_ops (J := fun a w37 => w22 = w37 ∧ a.defers = [] ∧ a.tmps.size = 120 ∧ Ok [(6, (.int .i64 (IntKind.i64.wrap (((x3).toNat : Int))))), (7, (.int .i64 r7)), (8, (.int .i64 r12)), (9, (.int .i64 r19)), (49, (.bool ((decide ((IntKind.i64.wrap (((x3).toNat : Int))) ≥ 224)) && ((decide ((IntKind.i64.wrap (((x3).toNat : Int))) < 240)) && ((decide (r7 ≥ 0)) && (decide (r12 ≥ 0)))))))] a.tmps) ?_ ?_
    ·skip
     refine gv_pureN 3 [50, 51, 52] [(52, (.bool (decide ((IntKind.i64.wrap (((x3).toNat : Int))) ≥ 224))))] (by kernel_rfl) ?_
     refine gv_split (s := 52) (g := (decide ((IntKind.i64.wrap (((x3).toNat : Int))) ≥ 224))) (by kernel_rfl) (fun hc38 => ?_) (fun hc38 => ?_)
     ·skip
      refine gv_pureN 4 [53, 54, 55, 56] [(56, (.bool (decide ((IntKind.i64.wrap (((x3).toNat : Int))) < 240))))] (by kernel_rfl) ?_
      refine gv_split (s := 56) (g := (decide ((IntKind.i64.wrap (((x3).toNat : Int))) < 240))) (by kernel_rfl) (fun hc39 => ?_) (fun hc39 => ?_)
      ·skip
       refine gv_pureN 4 [57, 58, 59, 60] [(60, (.bool (decide (r7 ≥ 0))))] (by kernel_rfl) ?_
       refine gv_sub [6, 7, 8, 9, 60] (σ' := [(6, (.int .i64 (IntKind.i64.wrap (((x3).toNat : Int))))), (7, (.int .i64 r7)), (8, (.int .i64 r12)), (9, (.int .i64 r19)), (60, (.bool (decide (r7 ≥ 0))))]) (by kernel_rfl) ?_
       refine gv_split (s := 60) (g := (decide (r7 ≥ 0))) (by kernel_rfl) (fun hc40 => ?_) (fun hc40 => ?_)
       ·skip
        refine gv_pureN 4 [49, 61, 62, 63] [(49, (.bool (decide (r12 ≥ 0))))] (by kernel_rfl) ?_
        refine gv_nil <| gv_sub [6, 7, 8, 9, 49] (σ' := [(6, (.int .i64 (IntKind.i64.wrap (((x3).toNat : Int))))), (7, (.int .i64 r7)), (8, (.int .i64 r12)), (9, (.int .i64 r19)), (49, (.bool (decide (r12 ≥ 0))))]) (by kernel_rfl) ?_
        refine gv_goal fun a hd hs hok => ⟨rfl, hd, hs, ?_⟩
        obtain ⟨q6, q7, q8, q9, q49, _⟩ := hok
        exact ⟨q6, q7, q8, q9, (by rw [hc38, hc39, hc40]; exact q49), trivial⟩
       ·skip
        refine gv_pureN 4 [49, 61, 62, 63] [(49, (.bool false))] (by kernel_rfl) ?_
        refine gv_nil <| gv_sub [6, 7, 8, 9, 49] (σ' := [(6, (.int .i64 (IntKind.i64.wrap (((x3).toNat : Int))))), (7, (.int .i64 r7)), (8, (.int .i64 r12)), (9, (.int .i64 r19)), (49, (.bool false))]) (by kernel_rfl) ?_
        refine gv_goal fun a hd hs hok => ⟨rfl, hd, hs, ?_⟩
        obtain ⟨q6, q7, q8, q9, q49, _⟩ := hok
        exact ⟨q6, q7, q8, q9, (by rw [hc38, hc39, hc40]; exact q49), trivial⟩
      ·skip
       refine gv_pureN 8 [49, 57, 58, 59, 60, 61, 62, 63] [(49, (.bool false))] (by kernel_rfl) ?_
       refine gv_sub [6, 7, 8, 9, 49] (σ' := [(6, (.int .i64 (IntKind.i64.wrap (((x3).toNat : Int))))), (7, (.int .i64 r7)), (8, (.int .i64 r12)), (9, (.int .i64 r19)), (49, (.bool false))]) (by kernel_rfl) ?_
       refine gv_nil <| gv_sub [6, 7, 8, 9, 49] (σ' := [(6, (.int .i64 (IntKind.i64.wrap (((x3).toNat : Int))))), (7, (.int .i64 r7)), (8, (.int .i64 r12)), (9, (.int .i64 r19)), (49, (.bool false))]) (by kernel_rfl) ?_
       refine gv_goal fun a hd hs hok => ⟨rfl, hd, hs, ?_⟩
       obtain ⟨q6, q7, q8, q9, q49, _⟩ := hok
       exact ⟨q6, q7, q8, q9, (by rw [hc38, hc39]; exact q49), trivial⟩
     ·skip
      refine gv_pureN 12 [49, 53, 54, 55, 56, 57, 58, 59, 60, 61, 62, 63] [(49, (.bool false))] (by kernel_rfl) ?_
      refine gv_nil <| gv_sub [6, 7, 8, 9, 49] (σ' := [(6, (.int .i64 (IntKind.i64.wrap (((x3).toNat : Int))))), (7, (.int .i64 r7)), (8, (.int .i64 r12)), (9, (.int .i64 r19)), (49, (.bool false))]) (by kernel_rfl) ?_
      refine gv_goal fun a hd hs hok => ⟨rfl, hd, hs, ?_⟩
      obtain ⟨q6, q7, q8, q9, q49, _⟩ := hok
      exact ⟨q6, q7, q8, q9, (by rw [hc38]; exact q49), trivial⟩
    ·rintro a w37 ⟨e, hd, hs, hok⟩; subst e
     refine gv_in ?_ hd hs hok
     clear hd hs hok
     refine bindE h0 ?_; clear h0; intro j41 h1 h0
     refine gv_cut_code (J := fun a w43 => ∃ s42 : Unit, j41 = .inl s42 ∧ Below w0.heap.size w0 w43 ∧ w22.heap.size ≤ w43.heap.size ∧ a.defers = [] ∧ a.tmps.size = 120 ∧ Ok [] a.tmps) ?_ ?_
     ·skip
      refine gv_cond (b := ((decide ((IntKind.i64.wrap (((x3).toNat : Int))) ≥ 224)) && ((decide ((IntKind.i64.wrap (((x3).toNat : Int))) < 240)) && ((decide (r7 ≥ 0)) && (decide (r12 ≥ 0)))))) (by kernel_rfl) (fun hc44 => ?_) (fun hc44 => ?_)
      ·replace h1 := ite_t hc44 h1
       refine gv_seq <| gv_region <| gv_pureN 9 [10, 64, 65, 66, 67, 68, 69, 70, 71] [(10, (.int .i64 (IntKind.i64.wrap ((IntKind.i64.wrap ((IntKind.i64.wrap ((IntKind.i64.wrap ((IntKind.i64.wrap (((x3).toNat : Int))) - 224)) * 4096)) + (IntKind.i64.wrap (r7 * 64)))) + r12))))] (by kernel_rfl) ?_
       refine bindE h1 ?_; clear h1; intro n45 hn46 h1
       refine gv_name (s := 10) (v := (.int .i64 (IntKind.i64.wrap ((IntKind.i64.wrap ((IntKind.i64.wrap ((IntKind.i64.wrap ((IntKind.i64.wrap (((x3).toNat : Int))) - 224)) * 4096)) + (IntKind.i64.wrap (r7 * 64)))) + r12)))) (v' := (.int .i64 n45)) (by kernel_rfl) (congrArg (Value.int .i64) (sj hn46)) ?_
       refine gv_nil <| gv_seq <| gv_region <| gv_cut_ops (J := fun a w47 => w22 = w47 ∧ a.defers = [] ∧ a.tmps.size = 120 ∧ Ok [(10, (.int .i64 n45)), (81, (.bool ((decide (n45 ≥ 2048)) && ((decide (n45 < 55296)) || (decide (n45 > 57343))))))] a.tmps) ?_ ?_
       ·skip
        refine gv_pureN 3 [72, 73, 74] [(74, (.bool (decide (n45 ≥ 2048))))] (by kernel_rfl) ?_
        refine gv_split (s := 74) (g := (decide (n45 ≥ 2048))) (by kernel_rfl) (fun hc48 => ?_) (fun hc48 => ?_)
        ·skip
         refine gv_pureN 3 [75, 76, 77] [(77, (.bool (decide (n45 < 55296))))] (by kernel_rfl) ?_
         refine gv_sub [10, 74, 77] (σ' := [(10, (.int .i64 n45)), (74, (.bool true)), (77, (.bool (decide (n45 < 55296))))]) (by kernel_rfl) ?_
         refine gv_split (s := 77) (g := (decide (n45 < 55296))) (by kernel_rfl) (fun hc49 => ?_) (fun hc49 => ?_)
         ·skip
          refine gv_pureN 4 [78, 79, 80, 81] [(81, (.bool true))] (by kernel_rfl) ?_
          refine gv_nil <| gv_sub [10, 81] (σ' := [(10, (.int .i64 n45)), (81, (.bool true))]) (by kernel_rfl) ?_
          refine gv_goal fun a hd hs hok => ⟨rfl, hd, hs, ?_⟩
          obtain ⟨q10, q81, _⟩ := hok
          exact ⟨q10, (by rw [hc48, hc49]; exact q81), trivial⟩
         ·skip
          refine gv_pureN 4 [78, 79, 80, 81] [(81, (.bool (decide (n45 > 57343))))] (by kernel_rfl) ?_
          refine gv_nil <| gv_sub [10, 81] (σ' := [(10, (.int .i64 n45)), (81, (.bool (decide (n45 > 57343))))]) (by kernel_rfl) ?_
          refine gv_goal fun a hd hs hok => ⟨rfl, hd, hs, ?_⟩
          obtain ⟨q10, q81, _⟩ := hok
          exact ⟨q10, (by rw [hc48, hc49]; exact q81), trivial⟩
        ·skip
         refine gv_pureN 7 [75, 76, 77, 78, 79, 80, 81] [(81, (.bool false))] (by kernel_rfl) ?_
         refine gv_sub [10, 81] (σ' := [(10, (.int .i64 n45)), (81, (.bool false))]) (by kernel_rfl) ?_
         refine gv_nil <| gv_sub [10, 81] (σ' := [(10, (.int .i64 n45)), (81, (.bool false))]) (by kernel_rfl) ?_
         refine gv_goal fun a hd hs hok => ⟨rfl, hd, hs, ?_⟩
         obtain ⟨q10, q81, _⟩ := hok
         exact ⟨q10, (by rw [hc48]; exact q81), trivial⟩
       ·rintro a w47 ⟨e, hd, hs, hok⟩; subst e
        refine gv_in ?_ hd hs hok
        clear hd hs hok
        refine gv_cond (b := ((decide (n45 ≥ 2048)) && ((decide (n45 < 55296)) || (decide (n45 > 57343))))) (by kernel_rfl) (fun hc50 => ?_) (fun hc50 => ?_)
        ·replace h1 := ite_t hc50 h1
         refine gv_seq <| gv_region <| gv_pureN 3 [4, 5, 82] [(4, (.int .i64 n45)), (5, (.int .i64 3))] (by kernel_rfl) ?_
         refine gv_nil <| gv_cret ?_
         have e := sj h1; subst e
         replace h0 := cont_inr h0
         have e := sj h0; subst e
         refine gv_ret (gv_done [(.int .i64 n45), (.int .i64 3)] rfl ⟨(by kernel_rfl), (by kernel_rfl), trivial⟩ ?_)
         have hB51 := bg hB21 hg23 nb
         exact ⟨grown_of_below hB51, rfl⟩
        ·replace h1 := ite_f hc50 h1
         refine gv_skip ?_
         have e := sj h1; subst e
         refine gv_goal fun a hd hs hok => ?_
         have hB52 := bg hB21 hg23 nb
         exact ⟨(), rfl, hB52, (Nat.le_refl _), hd, hs, ok_pick [] hok (by kernel_rfl)⟩
      ·replace h1 := ite_f hc44 h1
       refine gv_seq <| gv_region <| gv_cut_ops (J := fun a w53 => w22 = w53 ∧ a.defers = [] ∧ a.tmps.size = 120 ∧ Ok [(6, (.int .i64 (IntKind.i64.wrap (((x3).toNat : Int))))), (7, (.int .i64 r7)), (8, (.int .i64 r12)), (9, (.int .i64 r19)), (83, (.bool ((decide ((IntKind.i64.wrap (((x3).toNat : Int))) ≥ 240)) && ((decide ((IntKind.i64.wrap (((x3).toNat : Int))) < 245)) && ((decide (r7 ≥ 0)) && ((decide (r12 ≥ 0)) && (decide (r19 ≥ 0))))))))] a.tmps) ?_ ?_
       ·skip
        refine gv_pureN 3 [84, 85, 86] [(86, (.bool (decide ((IntKind.i64.wrap (((x3).toNat : Int))) ≥ 240))))] (by kernel_rfl) ?_
        refine gv_split (s := 86) (g := (decide ((IntKind.i64.wrap (((x3).toNat : Int))) ≥ 240))) (by kernel_rfl) (fun hc54 => ?_) (fun hc54 => ?_)
        ·skip
         refine gv_pureN 4 [87, 88, 89, 90] [(90, (.bool (decide ((IntKind.i64.wrap (((x3).toNat : Int))) < 245))))] (by kernel_rfl) ?_
         refine gv_split (s := 90) (g := (decide ((IntKind.i64.wrap (((x3).toNat : Int))) < 245))) (by kernel_rfl) (fun hc55 => ?_) (fun hc55 => ?_)
         ·skip
          refine gv_pureN 4 [91, 92, 93, 94] [(94, (.bool (decide (r7 ≥ 0))))] (by kernel_rfl) ?_
          refine gv_sub [6, 7, 8, 9, 94] (σ' := [(6, (.int .i64 (IntKind.i64.wrap (((x3).toNat : Int))))), (7, (.int .i64 r7)), (8, (.int .i64 r12)), (9, (.int .i64 r19)), (94, (.bool (decide (r7 ≥ 0))))]) (by kernel_rfl) ?_
          refine gv_split (s := 94) (g := (decide (r7 ≥ 0))) (by kernel_rfl) (fun hc56 => ?_) (fun hc56 => ?_)
          ·skip
           refine gv_pureN 4 [95, 96, 97, 98] [(98, (.bool (decide (r12 ≥ 0))))] (by kernel_rfl) ?_
           refine gv_split (s := 98) (g := (decide (r12 ≥ 0))) (by kernel_rfl) (fun hc57 => ?_) (fun hc57 => ?_)
           ·skip
            refine gv_pureN 4 [83, 99, 100, 101] [(83, (.bool (decide (r19 ≥ 0))))] (by kernel_rfl) ?_
            refine gv_nil <| gv_sub [6, 7, 8, 9, 83] (σ' := [(6, (.int .i64 (IntKind.i64.wrap (((x3).toNat : Int))))), (7, (.int .i64 r7)), (8, (.int .i64 r12)), (9, (.int .i64 r19)), (83, (.bool (decide (r19 ≥ 0))))]) (by kernel_rfl) ?_
            refine gv_goal fun a hd hs hok => ⟨rfl, hd, hs, ?_⟩
            obtain ⟨q6, q7, q8, q9, q83, _⟩ := hok
            exact ⟨q6, q7, q8, q9, (by rw [hc54, hc55, hc56, hc57]; exact q83), trivial⟩
           ·skip
            refine gv_pureN 4 [83, 99, 100, 101] [(83, (.bool false))] (by kernel_rfl) ?_
            refine gv_nil <| gv_sub [6, 7, 8, 9, 83] (σ' := [(6, (.int .i64 (IntKind.i64.wrap (((x3).toNat : Int))))), (7, (.int .i64 r7)), (8, (.int .i64 r12)), (9, (.int .i64 r19)), (83, (.bool false))]) (by kernel_rfl) ?_
            refine gv_goal fun a hd hs hok => ⟨rfl, hd, hs, ?_⟩
            obtain ⟨q6, q7, q8, q9, q83, _⟩ := hok
            exact ⟨q6, q7, q8, q9, (by rw [hc54, hc55, hc56, hc57]; exact q83), trivial⟩
          ·skip
           refine gv_pureN 8 [83, 95, 96, 97, 98, 99, 100, 101] [(83, (.bool false))] (by kernel_rfl) ?_
           refine gv_nil <| gv_sub [6, 7, 8, 9, 83] (σ' := [(6, (.int .i64 (IntKind.i64.wrap (((x3).toNat : Int))))), (7, (.int .i64 r7)), (8, (.int .i64 r12)), (9, (.int .i64 r19)), (83, (.bool false))]) (by kernel_rfl) ?_
           refine gv_goal fun a hd hs hok => ⟨rfl, hd, hs, ?_⟩
           obtain ⟨q6, q7, q8, q9, q83, _⟩ := hok
           exact ⟨q6, q7, q8, q9, (by rw [hc54, hc55, hc56]; exact q83), trivial⟩
         ·skip
          refine gv_pureN 12 [83, 91, 92, 93, 94, 95, 96, 97, 98, 99, 100, 101] [(83, (.bool false))] (by kernel_rfl) ?_
          refine gv_sub [6, 7, 8, 9, 83] (σ' := [(6, (.int .i64 (IntKind.i64.wrap (((x3).toNat : Int))))), (7, (.int .i64 r7)), (8, (.int .i64 r12)), (9, (.int .i64 r19)), (83, (.bool false))]) (by kernel_rfl) ?_
          refine gv_nil <| gv_sub [6, 7, 8, 9, 83] (σ' := [(6, (.int .i64 (IntKind.i64.wrap (((x3).toNat : Int))))), (7, (.int .i64 r7)), (8, (.int .i64 r12)), (9, (.int .i64 r19)), (83, (.bool false))]) (by kernel_rfl) ?_
          refine gv_goal fun a hd hs hok => ⟨rfl, hd, hs, ?_⟩
          obtain ⟨q6, q7, q8, q9, q83, _⟩ := hok
          exact ⟨q6, q7, q8, q9, (by rw [hc54, hc55]; exact q83), trivial⟩
        ·skip
         refine gv_pureN 16 [83, 87, 88, 89, 90, 91, 92, 93, 94, 95, 96, 97, 98, 99, 100, 101] [(83, (.bool false))] (by kernel_rfl) ?_
         refine gv_nil <| gv_sub [6, 7, 8, 9, 83] (σ' := [(6, (.int .i64 (IntKind.i64.wrap (((x3).toNat : Int))))), (7, (.int .i64 r7)), (8, (.int .i64 r12)), (9, (.int .i64 r19)), (83, (.bool false))]) (by kernel_rfl) ?_
         refine gv_goal fun a hd hs hok => ⟨rfl, hd, hs, ?_⟩
         obtain ⟨q6, q7, q8, q9, q83, _⟩ := hok
         exact ⟨q6, q7, q8, q9, (by rw [hc54]; exact q83), trivial⟩
       ·rintro a w53 ⟨e, hd, hs, hok⟩; subst e
        refine gv_in ?_ hd hs hok
        clear hd hs hok
        refine gv_cond (b := ((decide ((IntKind.i64.wrap (((x3).toNat : Int))) ≥ 240)) && ((decide ((IntKind.i64.wrap (((x3).toNat : Int))) < 245)) && ((decide (r7 ≥ 0)) && ((decide (r12 ≥ 0)) && (decide (r19 ≥ 0))))))) (by kernel_rfl) (fun hc58 => ?_) (fun hc58 => ?_)
        ·replace h1 := ite_t hc58 h1
         refine gv_seq <| gv_region <| gv_pureN 12 [11, 102, 103, 104, 105, 106, 107, 108, 109, 110, 111, 112] [(11, (.int .i64 (IntKind.i64.wrap ((IntKind.i64.wrap ((IntKind.i64.wrap ((IntKind.i64.wrap ((IntKind.i64.wrap ((IntKind.i64.wrap (((x3).toNat : Int))) - 240)) * 262144)) + (IntKind.i64.wrap (r7 * 4096)))) + (IntKind.i64.wrap (r12 * 64)))) + r19))))] (by kernel_rfl) ?_
         refine bindE h1 ?_; clear h1; intro n59 hn60 h1
         refine gv_name (s := 11) (v := (.int .i64 (IntKind.i64.wrap ((IntKind.i64.wrap ((IntKind.i64.wrap ((IntKind.i64.wrap ((IntKind.i64.wrap ((IntKind.i64.wrap (((x3).toNat : Int))) - 240)) * 262144)) + (IntKind.i64.wrap (r7 * 4096)))) + (IntKind.i64.wrap (r12 * 64)))) + r19)))) (v' := (.int .i64 n59)) (by kernel_rfl) (congrArg (Value.int .i64) (sj hn60)) ?_
         refine gv_nil <| gv_seq <| gv_region <| gv_cut_ops (J := fun a w61 => w22 = w61 ∧ a.defers = [] ∧ a.tmps.size = 120 ∧ Ok [(11, (.int .i64 n59)), (118, (.bool ((decide (n59 ≥ 65536)) && (decide (n59 ≤ 1114111)))))] a.tmps) ?_ ?_
         ·skip
          refine gv_pureN 3 [113, 114, 115] [(115, (.bool (decide (n59 ≥ 65536))))] (by kernel_rfl) ?_
          refine gv_split (s := 115) (g := (decide (n59 ≥ 65536))) (by kernel_rfl) (fun hc62 => ?_) (fun hc62 => ?_)
          ·skip
           refine gv_pureN 3 [116, 117, 118] [(118, (.bool (decide (n59 ≤ 1114111))))] (by kernel_rfl) ?_
           refine gv_sub [11, 118] (σ' := [(11, (.int .i64 n59)), (118, (.bool (decide (n59 ≤ 1114111))))]) (by kernel_rfl) ?_
           refine gv_nil <| gv_sub [11, 118] (σ' := [(11, (.int .i64 n59)), (118, (.bool (decide (n59 ≤ 1114111))))]) (by kernel_rfl) ?_
           refine gv_goal fun a hd hs hok => ⟨rfl, hd, hs, ?_⟩
           obtain ⟨q11, q118, _⟩ := hok
           exact ⟨q11, (by rw [hc62]; exact q118), trivial⟩
          ·skip
           refine gv_pureN 3 [116, 117, 118] [(118, (.bool false))] (by kernel_rfl) ?_
           refine gv_sub [11, 118] (σ' := [(11, (.int .i64 n59)), (118, (.bool false))]) (by kernel_rfl) ?_
           refine gv_nil <| gv_sub [11, 118] (σ' := [(11, (.int .i64 n59)), (118, (.bool false))]) (by kernel_rfl) ?_
           refine gv_goal fun a hd hs hok => ⟨rfl, hd, hs, ?_⟩
           obtain ⟨q11, q118, _⟩ := hok
           exact ⟨q11, (by rw [hc62]; exact q118), trivial⟩
         ·rintro a w61 ⟨e, hd, hs, hok⟩; subst e
          refine gv_in ?_ hd hs hok
          clear hd hs hok
          refine gv_cond (b := ((decide (n59 ≥ 65536)) && (decide (n59 ≤ 1114111)))) (by kernel_rfl) (fun hc63 => ?_) (fun hc63 => ?_)
          ·replace h1 := ite_t hc63 h1
           refine gv_seq <| gv_region <| gv_pureN 3 [4, 5, 119] [(4, (.int .i64 n59)), (5, (.int .i64 4))] (by kernel_rfl) ?_
           refine gv_nil <| gv_cret ?_
           have e := sj h1; subst e
           replace h0 := cont_inr h0
           have e := sj h0; subst e
           refine gv_ret (gv_done [(.int .i64 n59), (.int .i64 4)] rfl ⟨(by kernel_rfl), (by kernel_rfl), trivial⟩ ?_)
           have hB64 := bg hB21 hg23 nb
           exact ⟨grown_of_below hB64, rfl⟩
          ·replace h1 := ite_f hc63 h1
           refine gv_skip ?_
           have e := sj h1; subst e
           refine gv_goal fun a hd hs hok => ?_
           have hB65 := bg hB21 hg23 nb
           exact ⟨(), rfl, hB65, (Nat.le_refl _), hd, hs, ok_pick [] hok (by kernel_rfl)⟩
        ·replace h1 := ite_f hc58 h1
         refine gv_skip ?_
         have e := sj h1; subst e
         refine gv_goal fun a hd hs hok => ?_
         have hB66 := bg hB21 hg23 nb
         exact ⟨(), rfl, hB66, (Nat.le_refl _), hd, hs, ok_pick [] hok (by kernel_rfl)⟩
     ·rintro a w43 ⟨s42, e, hB67, hz68, hd, hs, hok⟩
      subst e
      refine gv_in ?_ hd hs hok
      clear hd hs hok
      replace h0 := cont_inl h0
      clear hc33 hc28 hn27 hC25 hg23 hB21 hr20 hC18 hg16 hB14 hr13 hg10 hr8 hC6 hB5 hx4 hg2
      refine gv_blk <| gv_seq <| gv_region <| gv_pureN 2 [4, 5] [(4, (.int .i64 0)), (5, (.int .i64 0))] (by kernel_rfl) ?_
      refine gv_nil <| gv_cret ?_
      have e := sj h0; subst e
      refine gv_ret (gv_done [(.int .i64 0), (.int .i64 0)] rfl ⟨(by kernel_rfl), (by kernel_rfl), trivial⟩ ?_)
      exact ⟨grown_of_below hB67, rfl⟩

theorem ref4_Points_ok (fuel : Nat) (s_0 : ByteArray) (w0 : World)  (r0 : ((List Int) × Bool)) (h0 : ref4_Points fuel s_0 = some r0) :
    Calls Tryd.prog 24 ([(.string s_0)] : List Value).toArray w0 (Ret fun v w' => w0.grownBy w' none ∧ ∃ (a0_0r : Option Addr) (c0_0r : Nat), v = tup [(.slice a0_0r (List.length r0.1) c0_0r), (.bool r0.2)] ∧ Gv.Own (iE .i64) 3 w' (fun _ => False) a0_0r c0_0r r0.1 ∧ (∀ g, blk a0_0r = some g → w0.heap.size ≤ g)) := by
 have hB0 : Below w0.heap.size w0 w0 := Below.refl _ _
 unfold ref4_Points at h0
 refine calls_run Tryd.func24 rfl Tryd.ntmps24 (by kernel_rfl) ?_
 refine gv_sub [0] (σ' := [(0, (.string s_0))]) (by kernel_rfl) ?_
 refine gv_seq <| gv_region <| gv_pureN 2 [2, 3] [] (by kernel_rfl) ?_
 refine gv_nil <| gv_seq <| gv_region <| gv_pureN 1 [4] [(4, (.slice none (List.length ([] : List Int)) 0))] (by kernel_rfl) ?_
 refine gv_nil <| gv_seq <| gv_seq <| gv_region <| gv_pureN 1 [5] [(5, (.int .i64 0))] (by kernel_rfl) ?_
 refine gv_nil <| bindE h0 ?_; clear h0; intro j1 h1 h0
 refine gv_cut_code (J := fun a w3 => ∃ s2 : (List Int), j1 = .inl s2 ∧ ∃ (a4_0j : Option Addr) (c4_0j : Nat), Below w0.heap.size w0 w3 ∧ w0.heap.size ≤ w3.heap.size ∧ Gv.Own (iE .i64) 3 w3 (fun _ => False) a4_0j c4_0j s2 ∧ (∀ g, blk a4_0j = some g → w0.heap.size ≤ g) ∧ a.defers = [] ∧ a.tmps.size = 29 ∧ Ok [(4, (.slice a4_0j (List.length s2) c4_0j))] a.tmps) ?_ ?_
 ·skip
  refine gv_block <| gv_loop (A := fun (s4 : ((List Int) × Int)) a w5 => ∃ (a4_0j : Option Addr) (c4_0j : Nat), Below w0.heap.size w0 w5 ∧ w0.heap.size ≤ w5.heap.size ∧ Gv.Own (iE .i64) 3 w5 (fun _ => False) a4_0j c4_0j s4.1 ∧ (∀ g, blk a4_0j = some g → w0.heap.size ≤ g) ∧ a.defers = [] ∧ a.tmps.size = 29 ∧ Ok [(0, (.string s_0)), (4, (.slice a4_0j (List.length s4.1) c4_0j)), (5, (.int .i64 s4.2))] a.tmps) h1 ?_ ?_
  ·intro a hd hs hok
   exact ⟨none, 0, hB0, (Nat.le_refl _), (Gv.Own.nil (iE .i64) 3 w0 (fun _ => False)), (fun _ h => by cases h), hd, hs, ok_pick [0, 4, 5] hok (by kernel_rfl)⟩
  ·rintro s4 r2 h2 hR2 a w5 ⟨a8, c9, hB6, hz7, ho10, hl11, hd, hs, hok⟩
   refine gv_in ?_ hd hs hok
   clear hd hs hok
   refine gv_seq <| gv_seq <| gv_region <| gv_pureN 4 [8, 9, 10, 11] [(11, (.bool (decide (s4.2 < ((ByteArray.size s_0 : Nat) : Int)))))] (by kernel_rfl) ?_
   refine gv_nil <| gv_cond (b := (decide (s4.2 < ((ByteArray.size s_0 : Nat) : Int)))) (by kernel_rfl) (fun hc12 => ?_) (fun hc12 => ?_)
   ·replace h2 := ite_t hc12 h2
    refine gv_skip <| gv_block <| gv_seq <| gv_region <| gv_pureN 1 [13] [(13, (.string s_0))] (by kernel_rfl) ?_
    refine gv_s2b (src := 9) (dst := 82) (e := 5) (s := s_0) (by decide) rfl rfl (by kernel_rfl) (by kernel_rfl) Tryd.underlying9 Tryd.underlying82 Tryd.underlying5 ?_
    rintro a13 c14 w15 hg16 hr17 hz19
    refine ⟨(fun e => by cases e), ?_⟩
    have hx20 : ∀ k, k = w5.heap.size → k < w15.heap.size := lts hz19
    have hx21 : ∀ k, k = w5.heap.size → (fun _ => False) k ∨ w0.heap.size ≤ k := fun k hk => .inr (lowe hB6.size k hk)
    refine gv_pureN 1 [15] [(15, (.int .i64 s4.2))] (by kernel_rfl) ?_
    refine bindE h2 ?_; clear h2; intro r22 hr23 h2
    refine gv_call0 (by kernel_rfl) rfl (by kernel_rfl) enters67 (ref4_unit_ok fuel a13 c14 (bytesOf s_0) s4.2 w15 (fun k => (· = w5.heap.size) k) (fun k hk => hx20 k hk) (hr17.wide (fun k hk => hk)) r22 hr23) ?_
    rintro v26 w24 ⟨hg25, rfl⟩
    refine gv_pureN 5 [6, 7, 12, 17, 18] [(6, (.int .i64 r22.1)), (7, (.int .i64 r22.2))] (by kernel_rfl) ?_
    refine gv_nil <| gv_seq <| gv_seq <| gv_region <| gv_pureN 2 [19, 20] [(20, (.bool (r22.2 == 0)))] (by kernel_rfl) ?_
    refine gv_nil <| gv_cond (b := (r22.2 == 0)) (by kernel_rfl) (fun hc27 => ?_) (fun hc27 => ?_)
    ·replace h2 := ite_t hc27 h2
     refine gv_seq <| gv_region <| gv_pureN 2 [2, 3] [(2, (.slice none (List.length ([] : List Int)) 0)), (3, (.bool false))] (by kernel_rfl) ?_
     refine gv_nil <| gv_cret ?_
     have e := sj h2; subst e
     replace h1 := congrArg some (hR2 _ rfl)
     have e := sj h1; subst e
     replace h0 := cont_inr h0
     have e := sj h0; subst e
     refine gv_ret (gv_done [(.slice none (List.length ([] : List Int)) 0), (.bool false)] rfl ⟨(by kernel_rfl), (by kernel_rfl), trivial⟩ ?_)
     have hg28 := (grown_trans hg16 hg25)
     have hB29 := bg hB6 hg28 nb
     exact ⟨grown_of_below hB29, none, 0, rfl, (Gv.Own.nil (iE .i64) 3 w24 (fun _ => False)), (fun _ h => by cases h)⟩
    ·replace h2 := ite_f hc27 h2
     refine gv_skip <| gv_seq <| gv_region <| gv_pureN 2 [21, 22] [(21, (.slice a8 (List.length s4.1) c9)), (22, (.int .i64 r22.1))] (by kernel_rfl) ?_
     refine gv_new0 (fun b => .slice (some ⟨b, 0, none⟩) 1 1) #[(.int .i64 r22.1)] 3 (by kernel_rfl) (by kernel_rfl) ?_
     intro b30 w31 hg32 hb33 hbe34 hz35
     have ho36 : Gv.Own (iE .i64) 3 w31 (fun _ => False) (some ⟨b30, 0, none⟩) 1 ([r22.1] : List Int) := Box.ownE hb33 ⟨[(.int .i64 r22.1)], [], rfl, rfl, rfl⟩ (show 1 ≤ maxLen by decide) (fun h => h)
     have hg41 := (grown_trans hg16 hg25)
     have hB42 := bg hB6 hg41 nb
     have hl37 : ∀ g, blk (some ⟨b30, 0, none⟩) = some g → w0.heap.size ≤ g := loo hbe34 hB42.size
     refine bindE h2 ?_; clear h2; intro l43 hx44 h2
     have hg51 := (grown_trans hg41 hg32)
     have hk52 := ho10.grown hg51 (fun _ h => h.elim) nb
     refine gv_append (iE .i64) (t := 38) (ty := 38) (e := 3) (a := a8) (ax := (some ⟨b30, 0, none⟩)) (cap := c9) (cx := 1) (xs := s4.1) (ys := ([r22.1] : List Int)) l43 (X := (fun _ => False)) (Y := (fun k => blk (some ⟨b30, 0, none⟩) = some k)) (by decide) rfl rfl (by kernel_rfl) (by kernel_rfl) Tryd.underlying38 info3 hk52 (ho36.rd (Y := fun k => blk (some ⟨b30, 0, none⟩) = some k) (fun _ h => h.elim) (fun g e => e)) hx44 (.inr fun _ _ _ _ _ h => h) (fun _ h => h.elim) ?_
     intro a45 c46 w47 hg48 ho49 hk50
     refine ⟨(fun e => by cases e), ?_⟩
     have hB54 := bg hB42 hg32 nb
     have hl53 : ∀ g, blk a45 = some g → w0.heap.size ≤ g := blk_step hk50 hl11 hB54.size
     have ap56 : ∀ g, blk a8 = some g → ¬ (· = w5.heap.size) g := fun g e hx => nl ((lowe (Nat.le_refl w5.heap.size)) _ hx) ((fun k (hk : blk a8 = some k) => ho10.lt k hk) g e)
     have hg57 := (grown_trans hg25 hg32)
     have hx58 := ltx hx20 hg57.size
     have ap55 : ∀ g, blk a45 = some g → ¬ (· = w5.heap.size) g := blk_neX hk50 ap56 hx58
     have hk60 := ho10.grown hg41 (fun _ h => h.elim) nb
     have ap61 : ∀ g, blk a8 = some g → ¬ (fun k => blk (some ⟨b30, 0, none⟩) = some k) g := fun g e hx => nl ((lowo hbe34) _ hx) ((fun k (hk : blk a8 = some k) => hk60.lt k hk) g e)
     have ap59 : ∀ g, blk a45 = some g → ¬ (fun k => blk (some ⟨b30, 0, none⟩) = some k) g := blk_neX hk50 ap61 (fun k (hk : blk (some ⟨b30, 0, none⟩) = some k) => ho36.lt k hk)
     have ap63 : ∀ g, blk (some ⟨b30, 0, none⟩) = some g → ¬ (fun k => blk a8 = some k) g := fun g e hx => nl ((lowo hbe34) g e) ((fun k (hk : blk a8 = some k) => hk60.lt k hk) _ hx)
     have ap62 : ∀ g, blk (some ⟨b30, 0, none⟩) = some g → ¬ (fun k => blk a45 = some k) g := fun g e h => blk_rev hk50 (fun h => ((ap63) g e) h) (ho36.lt g e) h
     refine gv_pureN 1 [4] [(4, (.slice a45 (List.length l43) c46))] (by kernel_rfl) ?_
     refine gv_nil <| gv_region <| gv_pureN 4 [5, 25, 26, 27] [(5, (.int .i64 (IntKind.i64.wrap (s4.2 + r22.2))))] (by kernel_rfl) ?_
     refine gv_nil <| gv_blk ?_
     have e := sj h2; subst e
     refine gv_goal fun a hd hs hok => ?_
     have hB64 := bg hB54 hg48 hl11
     have hz65 := (nt (nt (nt (nt hz7 hg16.size) hg25.size) hg32.size) hg48.size)
     exact ⟨(l43, (IntKind.i64.wrap (s4.2 + r22.2))), rfl, a45, c46, hB64, hz65, ho49, hl53, hd, hs, ok_pick [0, 4, 5] hok (by kernel_rfl)⟩
   ·replace h2 := ite_f hc12 h2
    refine gv_cexit <| gv_exit rfl ?_
    have e := sj h2; subst e
    replace h1 := congrArg some (hR2 _ rfl)
    have e := sj h1; subst e
    refine gv_goal fun a hd hs hok => ?_
    have hz66 := hz7
    exact ⟨s4.1, rfl, a8, c9, hB6, hz66, ho10, hl11, hd, hs, ok_pick [4] hok (by kernel_rfl)⟩
 ·rintro a w3 ⟨s2, e, a69, c70, hB67, hz68, ho71, hl72, hd, hs, hok⟩
  subst e
  refine gv_in ?_ hd hs hok
  clear hd hs hok
  replace h0 := cont_inl h0
  refine gv_seq <| gv_region <| gv_pureN 3 [2, 3, 28] [(2, (.slice a69 (List.length s2) c70)), (3, (.bool true))] (by kernel_rfl) ?_
  refine gv_nil <| gv_cret ?_
  have e := sj h0; subst e
  refine gv_ret (gv_done [(.slice a69 (List.length s2) c70), (.bool true)] rfl ⟨(by kernel_rfl), (by kernel_rfl), trivial⟩ ?_)
  exact ⟨grown_of_below hB67, a69, c70, rfl, ho71, hl72⟩

theorem ref4_TextOk_ok (fuel : Nat) (s_0 : ByteArray) (w0 : World)  (r0 : Bool) (h0 : ref4_TextOk fuel s_0 = some r0) :
    Calls Tryd.prog 31 ([(.string s_0)] : List Value).toArray w0 (Ret fun v w' => w0.grownBy w' none ∧ v = tup [(.bool r0)]) := by
 have hB0 : Below w0.heap.size w0 w0 := Below.refl _ _
 unfold ref4_TextOk at h0
 refine calls_run Tryd.func31 rfl Tryd.ntmps31 (by kernel_rfl) ?_
 refine gv_sub [0] (σ' := [(0, (.string s_0))]) (by kernel_rfl) ?_
 refine gv_seq <| gv_region <| gv_pureN 1 [2] [] (by kernel_rfl) ?_
 refine gv_nil <| gv_seq <| gv_region <| gv_pureN 1 [6] [(6, (.string s_0))] (by kernel_rfl) ?_
 refine bindE h0 ?_; clear h0; intro r1 hr2 h0
 refine gv_call0 (by kernel_rfl) rfl (by kernel_rfl) enters24 (ref4_Points_ok fuel s_0 w0  r1 hr2) ?_
 rintro v5 w3 ⟨hg4, a6, c7, rfl, ho8, hl9⟩
 have hl10 : ∀ g, blk a6 = some g → w0.heap.size ≤ g := fun g e => Nat.le_trans hB0.size (hl9 g e)
 refine gv_pureN 5 [3, 4, 5, 8, 9] [(4, (.bool r1.2))] (by kernel_rfl) ?_
 refine gv_nil <| gv_seq <| gv_region <| gv_cut_ops (J := fun a w11 => w3 = w11 ∧ a.defers = [] ∧ a.tmps.size = 16 ∧ Ok [(2, (.bool (r1.2 && (decide (((ByteArray.size s_0 : Nat) : Int) ≤ 4000)))))] a.tmps) ?_ ?_
 ·skip
  refine gv_pureN 2 [10, 11] [(11, (.bool r1.2))] (by kernel_rfl) ?_
  refine gv_split (s := 11) (g := r1.2) (by kernel_rfl) (fun hc12 => ?_) (fun hc12 => ?_)
  ·skip
   refine gv_pureN 5 [2, 12, 13, 14, 15] [(2, (.bool (decide (((ByteArray.size s_0 : Nat) : Int) ≤ 4000))))] (by kernel_rfl) ?_
   refine gv_nil <| gv_sub [2] (σ' := [(2, (.bool (decide (((ByteArray.size s_0 : Nat) : Int) ≤ 4000))))]) (by kernel_rfl) ?_
   refine gv_goal fun a hd hs hok => ⟨rfl, hd, hs, ?_⟩
   obtain ⟨q2, _⟩ := hok
   exact ⟨(by rw [hc12]; exact q2), trivial⟩
  ·skip
   refine gv_pureN 5 [2, 12, 13, 14, 15] [(2, (.bool false))] (by kernel_rfl) ?_
   refine gv_nil <| gv_sub [2] (σ' := [(2, (.bool false))]) (by kernel_rfl) ?_
   refine gv_goal fun a hd hs hok => ⟨rfl, hd, hs, ?_⟩
   obtain ⟨q2, _⟩ := hok
   exact ⟨(by rw [hc12]; exact q2), trivial⟩
 ·rintro a w11 ⟨e, hd, hs, hok⟩; subst e
  refine gv_in ?_ hd hs hok
  clear hd hs hok
  refine gv_cret ?_
  have e := sj h0; subst e
  refine gv_ret (gv_done [(.bool (r1.2 && (decide (((ByteArray.size s_0 : Nat) : Int) ≤ 4000))))] rfl ⟨(by kernel_rfl), trivial⟩ ?_)
  have hB13 := bg hB0 hg4 nb
  exact ⟨grown_of_below hB13, rfl⟩

theorem ref4_At_ok (fuel : Nat) (code_0 : Int) (index_1 : Int) (w0 : World)  (r0 : (Int × Int)) (h0 : ref4_At fuel code_0 index_1 = some r0) :
    Calls Tryd.prog 29 ([(.int .i64 code_0), (.int .i64 index_1)] : List Value).toArray w0 (Ret fun v w' => w0.grownBy w' none ∧ v = tup [(.agg #[(.int .i64 r0.1), (.int .i64 r0.2)])]) := by
 have hB0 : Below w0.heap.size w0 w0 := Below.refl _ _
 unfold ref4_At at h0
 refine calls_run Tryd.func29 rfl Tryd.ntmps29 (by kernel_rfl) ?_
 refine gv_sub [0, 1] (σ' := [(0, (.int .i64 code_0)), (1, (.int .i64 index_1))]) (by kernel_rfl) ?_
 refine gv_seq <| gv_region <| gv_new0 (fun b => .pointer (some ⟨b, 0, none⟩)) #[(.int .i64 0), (.int .i64 0)] 24 (by kernel_rfl) (by kernel_rfl) ?_
 intro b1 w2 hg3 hb4 hbe5 hz6
 refine gv_nil <| gv_seq <| gv_region <| gv_pureN 3 [5, 6, 7] [(7, (.agg #[(.int .i64 code_0), (.int .i64 index_1)]))] (by kernel_rfl) ?_
 refine gv_store0 24 0 (.agg #[(.int .i64 code_0), (.int .i64 index_1)]) #[(.int .i64 code_0), (.int .i64 index_1)] hb4 (by kernel_rfl) (by kernel_rfl) (by kernel_rfl) ?_
 intro w7 hg8 hb9 hz10
 refine gv_nil <| gv_cret ?_
 have e := sj h0; subst e
 refine gv_ret (gv_done [(.agg #[(.int .i64 code_0), (.int .i64 index_1)])] rfl ⟨⟨⟨b1, 0, none⟩, (by kernel_rfl), run_loadVar_row w7 b1 _ 24 _ _ _ hb9 Tryd.underlying24 rfl (by kernel_rfl)⟩, trivial⟩ ?_)
 have hB11 := bg hB0 hg3 nb
 have hlo12 : w0.heap.size ≤ b1 := lob hbe5 hB0.size
 have hB13 := bg hB11 hg8 (rowlo hlo12)
 exact ⟨grown_of_below hB13, rfl⟩

theorem ref4_TextFaults_ok (fuel : Nat) (pa0_0 : Option Addr) (pc0_0 : Nat) (l_0 : (List ByteArray)) (w0 : World) (X0 : Nat → Prop) (hX0 : ∀ k, X0 k → k < w0.heap.size) (hpa0_0 : Rd sE w0 X0 pa0_0 pc0_0 l_0) (r0 : (Int × Int)) (h0 : ref4_TextFaults fuel l_0 = some r0) :
    Calls Tryd.prog 23 ([(.slice pa0_0 (List.length l_0) pc0_0)] : List Value).toArray w0 (Ret fun v w' => w0.grownBy w' none ∧ v = tup [(.agg #[(.int .i64 r0.1), (.int .i64 r0.2)])]) := by
 have hB0 : Below w0.heap.size w0 w0 := Below.refl _ _
 unfold ref4_TextFaults at h0
 refine calls_run Tryd.func23 rfl Tryd.ntmps23 (by kernel_rfl) ?_
 refine gv_sub [0] (σ' := [(0, (.slice pa0_0 (List.length l_0) pc0_0))]) (by kernel_rfl) ?_
 refine gv_seq <| gv_region <| gv_new0 (fun b => .pointer (some ⟨b, 0, none⟩)) #[(.int .i64 0), (.int .i64 0)] 24 (by kernel_rfl) (by kernel_rfl) ?_
 intro b1 w2 hg3 hb4 hbe5 hz6
 refine gv_nil <| gv_seq <| gv_seq <| gv_region <| gv_pureN 1 [3] [(3, (.int .i64 0))] (by kernel_rfl) ?_
 refine gv_nil <| bindE h0 ?_; clear h0; intro j7 h1 h0
 refine gv_cut_code (J := fun a w9 => ∃ s8 : (Int × Int), j7 = .inl s8 ∧ Below w0.heap.size w0 w9 ∧ w2.heap.size ≤ w9.heap.size ∧ Box w9 b1 24 #[(.int .i64 s8.1), (.int .i64 s8.2)] ∧ a.defers = [] ∧ a.tmps.size = 20 ∧ Ok [(2, (bp b1))] a.tmps) ?_ ?_
 ·skip
  refine gv_block <| gv_loop (A := fun (s10 : (Int × (Int × Int))) a w11 => Below w0.heap.size w0 w11 ∧ w2.heap.size ≤ w11.heap.size ∧ Box w11 b1 24 #[(.int .i64 s10.2.1), (.int .i64 s10.2.2)] ∧ a.defers = [] ∧ a.tmps.size = 20 ∧ Ok [(0, (.slice pa0_0 (List.length l_0) pc0_0)), (2, (bp b1)), (3, (.int .i64 s10.1))] a.tmps) h1 ?_ ?_
  ·intro a hd hs hok
   have hB12 := bg hB0 hg3 nb
   exact ⟨hB12, (Nat.le_refl _), hb4, hd, hs, ok_pick [0, 2, 3] hok (by kernel_rfl)⟩
  ·rintro s10 r2 h2 hR2 a w11 ⟨hB13, hz14, hb15, hd, hs, hok⟩
   refine gv_in ?_ hd hs hok
   clear hd hs hok
   refine gv_seq <| gv_seq <| gv_region <| gv_pureN 4 [4, 5, 6, 7] [(7, (.bool (decide (s10.1 < ((List.length l_0 : Nat) : Int)))))] (by kernel_rfl) ?_
   refine gv_nil <| gv_cond (b := (decide (s10.1 < ((List.length l_0 : Nat) : Int)))) (by kernel_rfl) (fun hc16 => ?_) (fun hc16 => ?_)
   ·replace h2 := ite_t hc16 h2
    refine gv_skip <| gv_seq <| gv_block <| gv_seq <| gv_region <| gv_pureN 2 [10, 11] [(10, (.slice pa0_0 (List.length l_0) pc0_0)), (11, (.int .i64 s10.1))] (by kernel_rfl) ?_
    refine bindE h2 ?_; clear h2; intro x17 hx18 h2
    refine gv_idxaddr (t := 22) (e := 9) (a := pa0_0) (len := List.length l_0) (cap := pc0_0) (kk := .i64) (i := s10.1) (sz := 1) [] (fun e => by cases e) rfl rfl rfl (by kernel_rfl) (by kernel_rfl) Tryd.underlying22 (by kernel_rfl) ((hpa0_0.below hB13 hX0).has hx18) (idx_spec hx18).1 (idx_spec hx18).2.1 rfl ?_
    refine gv_load (t := 9) (A := (elemAddr pa0_0 ((s10.1 : Int).toNat * 1))) (.string x17) [] (fun e => by cases e) rfl rfl rfl (by kernel_rfl) (by kernel_rfl) (by kernel_rfl) (inw0 ((hpa0_0.below hB13 hX0).cell hx18)) rfl ?_
    refine bindE h2 ?_; clear h2; intro r19 hr20 h2
    refine gv_call0 (by kernel_rfl) rfl (by kernel_rfl) enters31 (ref4_TextOk_ok fuel x17 w11  r19 hr20) ?_
    rintro v23 w21 ⟨hg22, rfl⟩
    refine gv_pureN 1 [15] [(15, (.bool (!r19)))] (by kernel_rfl) ?_
    refine gv_nil <| gv_cond (b := (!r19)) (by kernel_rfl) (fun hc24 => ?_) (fun hc24 => ?_)
    ·replace h2 := ite_t hc24 h2
     refine gv_seq <| gv_region <| gv_pureN 2 [16, 17] [(17, (.int .i64 (IntKind.i64.wrap ((-1) - s10.1))))] (by kernel_rfl) ?_
     refine bindE h2 ?_; clear h2; intro r25 hr26 h2
     refine gv_call0 (by kernel_rfl) rfl (by kernel_rfl) enters29 (ref4_At_ok fuel 6 (IntKind.i64.wrap ((-1) - s10.1)) w21  r25 hr26) ?_
     rintro v29 w27 ⟨hg28, rfl⟩
     have hg34 := (grown_trans hg22 hg28)
     have hk35 := hb15.grown hg34 nb
     refine gv_store0 24 0 (.agg #[(.int .i64 r25.1), (.int .i64 r25.2)]) #[(.int .i64 r25.1), (.int .i64 r25.2)] hk35 (by kernel_rfl) (by kernel_rfl) (by kernel_rfl) ?_
     intro w30 hg31 hb32 hz33
     refine gv_nil <| gv_cret ?_
     have e := sj h2; subst e
     replace h1 := congrArg some (hR2 _ rfl)
     have e := sj h1; subst e
     replace h0 := cont_inr h0
     have e := sj h0; subst e
     refine gv_ret (gv_done [(.agg #[(.int .i64 r25.1), (.int .i64 r25.2)])] rfl ⟨⟨⟨b1, 0, none⟩, (by kernel_rfl), run_loadVar_row w30 b1 _ 24 _ _ _ hb32 Tryd.underlying24 rfl (by kernel_rfl)⟩, trivial⟩ ?_)
     have hB36 := bg hB13 hg34 nb
     have hlo37 : w0.heap.size ≤ b1 := lob hbe5 hB0.size
     have hB38 := bg hB36 hg31 (rowlo hlo37)
     exact ⟨grown_of_below hB38, rfl⟩
    ·replace h2 := ite_f hc24 h2
     refine gv_skip <| gv_blk <| gv_region <| gv_pureN 3 [3, 8, 9] [(3, (.int .i64 (IntKind.i64.wrap (s10.1 + 1))))] (by kernel_rfl) ?_
     refine gv_nil ?_
     have e := sj h2; subst e
     refine gv_goal fun a hd hs hok => ?_
     have hB39 := bg hB13 hg22 nb
     have hz40 := (nt hz14 hg22.size)
     have hk41 := hb15.grown hg22 nb
     exact ⟨((IntKind.i64.wrap (s10.1 + 1)), (s10.2.1, s10.2.2)), rfl, hB39, hz40, hk41, hd, hs, ok_pick [0, 2, 3] hok (by kernel_rfl)⟩
   ·replace h2 := ite_f hc16 h2
    refine gv_cexit <| gv_exit rfl ?_
    have e := sj h2; subst e
    replace h1 := congrArg some (hR2 _ rfl)
    have e := sj h1; subst e
    refine gv_goal fun a hd hs hok => ?_
    have hz42 := hz14
    exact ⟨(s10.2.1, s10.2.2), rfl, hB13, hz42, hb15, hd, hs, ok_pick [2] hok (by kernel_rfl)⟩
 ·rintro a w9 ⟨s8, e, hB43, hz44, hb45, hd, hs, hok⟩
  subst e
  refine gv_in ?_ hd hs hok
  clear hd hs hok
  replace h0 := cont_inl h0
  clear hz44 hz6 hb4 hg3
  refine gv_seq <| gv_region <| gv_pureN 1 [19] [(19, (.agg #[(.int .i64 0), (.int .i64 0)]))] (by kernel_rfl) ?_
  refine gv_store0 24 0 (.agg #[(.int .i64 0), (.int .i64 0)]) #[(.int .i64 0), (.int .i64 0)] hb45 (by kernel_rfl) (by kernel_rfl) (by kernel_rfl) ?_
  intro w46 hg47 hb48 hz49
  refine gv_nil <| gv_cret ?_
  have e := sj h0; subst e
  refine gv_ret (gv_done [(.agg #[(.int .i64 0), (.int .i64 0)])] rfl ⟨⟨⟨b1, 0, none⟩, (by kernel_rfl), run_loadVar_row w46 b1 _ 24 _ _ _ hb48 Tryd.underlying24 rfl (by kernel_rfl)⟩, trivial⟩ ?_)
  have hlo50 : w0.heap.size ≤ b1 := lob hbe5 hB0.size
  have hB51 := bg hB43 hg47 (rowlo hlo50)
  exact ⟨grown_of_below hB51, rfl⟩

theorem ref4_Encoded_ok (fuel : Nat) (pa0_0 : Option Addr) (pc0_0 : Nat) (l_0 : (List Int)) (w0 : World) (X0 : Nat → Prop) (hX0 : ∀ k, X0 k → k < w0.heap.size) (hpa0_0 : Rd (iE .i64) w0 X0 pa0_0 pc0_0 l_0) (r0 : (List UInt8)) (h0 : ref4_Encoded fuel l_0 = some r0) :
    Calls Tryd.prog 68 ([(.slice pa0_0 (List.length l_0) pc0_0)] : List Value).toArray w0 (Ret fun v w' => w0.grownBy w' none ∧ ∃ (a0_0r : Option Addr) (c0_0r : Nat), v = tup [(.slice a0_0r (List.length r0) c0_0r)] ∧ Gv.Own bE 5 w' (fun _ => False) a0_0r c0_0r r0 ∧ (∀ g, blk a0_0r = some g → w0.heap.size ≤ g)) := by
 have hB0 : Below w0.heap.size w0 w0 := Below.refl _ _
 unfold ref4_Encoded at h0
 refine calls_run Tryd.func68 rfl Tryd.ntmps68 (by kernel_rfl) ?_
 refine gv_sub [0] (σ' := [(0, (.slice pa0_0 (List.length l_0) pc0_0))]) (by kernel_rfl) ?_
 refine gv_seq <| gv_region <| gv_pureN 1 [2] [] (by kernel_rfl) ?_
 refine gv_nil <| gv_seq <| gv_region <| gv_pureN 1 [3] [(3, (.slice none (List.length ([] : List UInt8)) 0))] (by kernel_rfl) ?_
 refine gv_nil <| gv_seq <| gv_seq <| gv_region <| gv_pureN 1 [4] [(4, (.int .i64 0))] (by kernel_rfl) ?_
 refine gv_nil <| bindE h0 ?_; clear h0; intro j1 h1 h0
 refine gv_cut_code (J := fun a w2 => ∃ (a3_0j : Option Addr) (c3_0j : Nat), Below w0.heap.size w0 w2 ∧ w0.heap.size ≤ w2.heap.size ∧ Gv.Own bE 5 w2 (fun _ => False) a3_0j c3_0j j1 ∧ (∀ g, blk a3_0j = some g → w0.heap.size ≤ g) ∧ a.defers = [] ∧ a.tmps.size = 79 ∧ Ok [(3, (.slice a3_0j (List.length j1) c3_0j))] a.tmps) ?_ ?_
 ·skip
  refine gv_block <| gv_loop (A := fun (s3 : ((List UInt8) × Int)) a w4 => ∃ (a3_0j : Option Addr) (c3_0j : Nat), Below w0.heap.size w0 w4 ∧ w0.heap.size ≤ w4.heap.size ∧ Gv.Own bE 5 w4 (fun _ => False) a3_0j c3_0j s3.1 ∧ (∀ g, blk a3_0j = some g → w0.heap.size ≤ g) ∧ a.defers = [] ∧ a.tmps.size = 79 ∧ Ok [(0, (.slice pa0_0 (List.length l_0) pc0_0)), (3, (.slice a3_0j (List.length s3.1) c3_0j)), (4, (.int .i64 s3.2))] a.tmps) h1 ?_ ?_
  ·intro a hd hs hok
   exact ⟨none, 0, hB0, (Nat.le_refl _), (Gv.Own.nil bE 5 w0 (fun _ => False)), (fun _ h => by cases h), hd, hs, ok_pick [0, 3, 4] hok (by kernel_rfl)⟩
  ·rintro s3 r2 h2 hR2 a w4 ⟨a7, c8, hB5, hz6, ho9, hl10, hd, hs, hok⟩
   refine gv_in ?_ hd hs hok
   clear hd hs hok
   refine gv_seq <| gv_seq <| gv_region <| gv_pureN 4 [6, 7, 8, 9] [(9, (.bool (decide (s3.2 < ((List.length l_0 : Nat) : Int)))))] (by kernel_rfl) ?_
   refine gv_nil <| gv_cond (b := (decide (s3.2 < ((List.length l_0 : Nat) : Int)))) (by kernel_rfl) (fun hc11 => ?_) (fun hc11 => ?_)
   ·replace h2 := ite_t hc11 h2
    refine gv_skip <| gv_seq <| gv_block <| gv_seq <| gv_region <| gv_pureN 2 [12, 13] [(12, (.slice pa0_0 (List.length l_0) pc0_0)), (13, (.int .i64 s3.2))] (by kernel_rfl) ?_
    refine bindE h2 ?_; clear h2; intro x12 hx13 h2
    refine gv_idxaddr (t := 38) (e := 3) (a := pa0_0) (len := List.length l_0) (cap := pc0_0) (kk := .i64) (i := s3.2) (sz := 1) [] (fun e => by cases e) rfl rfl rfl (by kernel_rfl) (by kernel_rfl) Tryd.underlying38 (by kernel_rfl) ((hpa0_0.below hB5 hX0).has hx13) (idx_spec hx13).1 (idx_spec hx13).2.1 rfl ?_
    refine gv_load (t := 3) (A := (elemAddr pa0_0 ((s3.2 : Int).toNat * 1))) (.int .i64 x12) [] (fun e => by cases e) rfl rfl rfl (by kernel_rfl) (by kernel_rfl) (by kernel_rfl) (inw0 ((hpa0_0.below hB5 hX0).cell hx13)) rfl ?_
    refine gv_pureN 1 [5] [(5, (.int .i64 x12))] (by kernel_rfl) ?_
    refine gv_nil <| gv_block <| gv_seq <| gv_region <| gv_pureN 3 [37, 38, 39] [(37, (.bool (decide (x12 < 128))))] (by kernel_rfl) ?_
    refine gv_nil <| bindE h2 ?_; clear h2; intro j14 h3 h2
    refine gv_cut_code (J := fun a w15 => ∃ (a3_0j : Option Addr) (c3_0j : Nat), Below w0.heap.size w0 w15 ∧ w4.heap.size ≤ w15.heap.size ∧ Gv.Own bE 5 w15 (fun _ => False) a3_0j c3_0j j14 ∧ (∀ g, blk a3_0j = some g → w0.heap.size ≤ g) ∧ a.defers = [] ∧ a.tmps.size = 79 ∧ Ok [(0, (.slice pa0_0 (List.length l_0) pc0_0)), (3, (.slice a3_0j (List.length j14) c3_0j)), (4, (.int .i64 s3.2))] a.tmps) ?_ ?_
    ·skip
     refine gv_cond (b := (decide (x12 < 128))) (by kernel_rfl) (fun hc16 => ?_) (fun hc16 => ?_)
     ·replace h3 := ite_t hc16 h3
      refine gv_region <| gv_pureN 3 [40, 41, 42] [(40, (.slice a7 (List.length s3.1) c8)), (42, (.int .u8 (IntKind.u8.wrap (x12))))] (by kernel_rfl) ?_
      refine bindE h3 ?_; clear h3; intro b17 hb18 h3
      have hu19 := u8_spec hb18
      refine gv_new0 (fun b => .slice (some ⟨b, 0, none⟩) 1 1) #[(.int .u8 (IntKind.u8.wrap (x12)))] 5 (by kernel_rfl) (by kernel_rfl) ?_
      intro b20 w21 hg22 hb23 hbe24 hz25
      have ho26 : Gv.Own bE 5 w21 (fun _ => False) (some ⟨b20, 0, none⟩) 1 ([b17] : List UInt8) := Box.ownE hb23 ⟨[(.int .u8 (IntKind.u8.wrap (x12)))], [], rfl, (by simp only [bE, flat, hu19]), rfl⟩ (show 1 ≤ maxLen by decide) (fun h => h)
      have hl27 : ∀ g, blk (some ⟨b20, 0, none⟩) = some g → w0.heap.size ≤ g := loo hbe24 hB5.size
      refine bindE h3 ?_; clear h3; intro l31 hx32 h3
      have hk39 := ho9.grown hg22 (fun _ h => h.elim) nb
      refine gv_append bE (t := 82) (ty := 82) (e := 5) (a := a7) (ax := (some ⟨b20, 0, none⟩)) (cap := c8) (cx := 1) (xs := s3.1) (ys := ([b17] : List UInt8)) l31 (X := (fun _ => False)) (Y := (fun k => blk (some ⟨b20, 0, none⟩) = some k)) (by decide) rfl rfl (by kernel_rfl) (by kernel_rfl) Tryd.underlying82 info5 hk39 (ho26.rd (Y := fun k => blk (some ⟨b20, 0, none⟩) = some k) (fun _ h => h.elim) (fun g e => e)) hx32 (.inr fun _ _ _ _ _ h => h) (fun _ h => h.elim) ?_
      intro a33 c34 w35 hg36 ho37 hk38
      refine ⟨(fun e => by cases e), ?_⟩
      have hB41 := bg hB5 hg22 nb
      have hl40 : ∀ g, blk a33 = some g → w0.heap.size ≤ g := blk_step hk38 hl10 hB41.size
      have ap43 : ∀ g, blk a7 = some g → ¬ (fun k => blk (some ⟨b20, 0, none⟩) = some k) g := fun g e hx => nl ((lowo hbe24) _ hx) ((fun k (hk : blk a7 = some k) => ho9.lt k hk) g e)
      have ap42 : ∀ g, blk a33 = some g → ¬ (fun k => blk (some ⟨b20, 0, none⟩) = some k) g := blk_neX hk38 ap43 (fun k (hk : blk (some ⟨b20, 0, none⟩) = some k) => ho26.lt k hk)
      have ap45 : ∀ g, blk (some ⟨b20, 0, none⟩) = some g → ¬ (fun k => blk a7 = some k) g := fun g e hx => nl ((lowo hbe24) g e) ((fun k (hk : blk a7 = some k) => ho9.lt k hk) _ hx)
      have ap44 : ∀ g, blk (some ⟨b20, 0, none⟩) = some g → ¬ (fun k => blk a33 = some k) g := fun g e h => blk_rev hk38 (fun h => ((ap45) g e) h) (ho26.lt g e) h
      refine gv_pureN 1 [3] [(3, (.slice a33 (List.length l31) c34))] (by kernel_rfl) ?_
      refine gv_nil ?_
      have e := sj h3; subst e
      refine gv_goal fun a hd hs hok => ?_
      have hB46 := bg hB41 hg36 hl10
      have hz47 := (nt hg22.size hg36.size)
      exact ⟨a33, c34, hB46, hz47, ho37, hl40, hd, hs, ok_pick [0, 3, 4] hok (by kernel_rfl)⟩
     ·replace h3 := ite_f hc16 h3
      refine gv_seq <| gv_region <| gv_pureN 3 [45, 46, 47] [(45, (.bool (decide (x12 < 2048))))] (by kernel_rfl) ?_
      refine gv_nil <| gv_cond (b := (decide (x12 < 2048))) (by kernel_rfl) (fun hc48 => ?_) (fun hc48 => ?_)
      ·replace h3 := ite_t hc48 h3
       refine gv_region <| gv_pureN 9 [48, 49, 50, 51, 52, 53, 54, 55, 56] [(48, (.slice a7 (List.length s3.1) c8)), (52, (.int .u8 (IntKind.u8.wrap ((IntKind.i64.wrap (192 + (IntKind.i64.wrap ((x12).tdiv 64)))))))), (56, (.int .u8 (IntKind.u8.wrap ((IntKind.i64.wrap (128 + ((x12).tmod 64)))))))] (by kernel_rfl) ?_
       refine bindE h3 ?_; clear h3; intro b49 hb50 h3
       have hu51 := u8_spec hb50
       refine bindE h3 ?_; clear h3; intro b52 hb53 h3
       have hu54 := u8_spec hb53
       refine gv_new0 (fun b => .slice (some ⟨b, 0, none⟩) 2 2) #[(.int .u8 (IntKind.u8.wrap ((IntKind.i64.wrap (192 + (IntKind.i64.wrap ((x12).tdiv 64))))))), (.int .u8 (IntKind.u8.wrap ((IntKind.i64.wrap (128 + ((x12).tmod 64))))))] 5 (by kernel_rfl) (by kernel_rfl) ?_
       intro b55 w56 hg57 hb58 hbe59 hz60
       have ho61 : Gv.Own bE 5 w56 (fun _ => False) (some ⟨b55, 0, none⟩) 2 ([b49, b52] : List UInt8) := Box.ownE hb58 ⟨[(.int .u8 (IntKind.u8.wrap ((IntKind.i64.wrap (192 + (IntKind.i64.wrap ((x12).tdiv 64)))))))], [(.int .u8 (IntKind.u8.wrap ((IntKind.i64.wrap (128 + ((x12).tmod 64))))))], rfl, (by simp only [bE, flat, hu51]), ⟨[(.int .u8 (IntKind.u8.wrap ((IntKind.i64.wrap (128 + ((x12).tmod 64))))))], [], rfl, (by simp only [bE, flat, hu54]), rfl⟩⟩ (show 2 ≤ maxLen by decide) (fun h => h)
       have hl62 : ∀ g, blk (some ⟨b55, 0, none⟩) = some g → w0.heap.size ≤ g := loo hbe59 hB5.size
       refine bindE h3 ?_; clear h3; intro l66 hx67 h3
       have hk74 := ho9.grown hg57 (fun _ h => h.elim) nb
       refine gv_append bE (t := 82) (ty := 82) (e := 5) (a := a7) (ax := (some ⟨b55, 0, none⟩)) (cap := c8) (cx := 2) (xs := s3.1) (ys := ([b49, b52] : List UInt8)) l66 (X := (fun _ => False)) (Y := (fun k => blk (some ⟨b55, 0, none⟩) = some k)) (by decide) rfl rfl (by kernel_rfl) (by kernel_rfl) Tryd.underlying82 info5 hk74 (ho61.rd (Y := fun k => blk (some ⟨b55, 0, none⟩) = some k) (fun _ h => h.elim) (fun g e => e)) hx67 (.inr fun _ _ _ _ _ h => h) (fun _ h => h.elim) ?_
       intro a68 c69 w70 hg71 ho72 hk73
       refine ⟨(fun e => by cases e), ?_⟩
       have hB76 := bg hB5 hg57 nb
       have hl75 : ∀ g, blk a68 = some g → w0.heap.size ≤ g := blk_step hk73 hl10 hB76.size
       have ap78 : ∀ g, blk a7 = some g → ¬ (fun k => blk (some ⟨b55, 0, none⟩) = some k) g := fun g e hx => nl ((lowo hbe59) _ hx) ((fun k (hk : blk a7 = some k) => ho9.lt k hk) g e)
       have ap77 : ∀ g, blk a68 = some g → ¬ (fun k => blk (some ⟨b55, 0, none⟩) = some k) g := blk_neX hk73 ap78 (fun k (hk : blk (some ⟨b55, 0, none⟩) = some k) => ho61.lt k hk)
       have ap80 : ∀ g, blk (some ⟨b55, 0, none⟩) = some g → ¬ (fun k => blk a7 = some k) g := fun g e hx => nl ((lowo hbe59) g e) ((fun k (hk : blk a7 = some k) => ho9.lt k hk) _ hx)
       have ap79 : ∀ g, blk (some ⟨b55, 0, none⟩) = some g → ¬ (fun k => blk a68 = some k) g := fun g e h => blk_rev hk73 (fun h => ((ap80) g e) h) (ho61.lt g e) h
       refine gv_pureN 1 [3] [(3, (.slice a68 (List.length l66) c69))] (by kernel_rfl) ?_
       refine gv_nil ?_
       have e := sj h3; subst e
       refine gv_goal fun a hd hs hok => ?_
       have hB81 := bg hB76 hg71 hl10
       have hz82 := (nt hg57.size hg71.size)
       exact ⟨a68, c69, hB81, hz82, ho72, hl75, hd, hs, ok_pick [0, 3, 4] hok (by kernel_rfl)⟩
      ·replace h3 := ite_f hc48 h3
       refine gv_seq <| gv_region <| gv_pureN 3 [59, 60, 61] [(59, (.bool (decide (x12 < 65536))))] (by kernel_rfl) ?_
       refine gv_nil <| gv_cond (b := (decide (x12 < 65536))) (by kernel_rfl) (fun hc83 => ?_) (fun hc83 => ?_)
       ·replace h3 := ite_t hc83 h3
        refine gv_region <| gv_pureN 14 [62, 63, 64, 65, 66, 67, 68, 69, 70, 71, 72, 73, 74, 75] [(62, (.slice a7 (List.length s3.1) c8)), (66, (.int .u8 (IntKind.u8.wrap ((IntKind.i64.wrap (224 + (IntKind.i64.wrap ((x12).tdiv 4096)))))))), (71, (.int .u8 (IntKind.u8.wrap ((IntKind.i64.wrap (128 + (((IntKind.i64.wrap ((x12).tdiv 64))).tmod 64))))))), (75, (.int .u8 (IntKind.u8.wrap ((IntKind.i64.wrap (128 + ((x12).tmod 64)))))))] (by kernel_rfl) ?_
        refine bindE h3 ?_; clear h3; intro b84 hb85 h3
        have hu86 := u8_spec hb85
        refine bindE h3 ?_; clear h3; intro b87 hb88 h3
        have hu89 := u8_spec hb88
        refine bindE h3 ?_; clear h3; intro b90 hb91 h3
        have hu92 := u8_spec hb91
        refine gv_new0 (fun b => .slice (some ⟨b, 0, none⟩) 3 3) #[(.int .u8 (IntKind.u8.wrap ((IntKind.i64.wrap (224 + (IntKind.i64.wrap ((x12).tdiv 4096))))))), (.int .u8 (IntKind.u8.wrap ((IntKind.i64.wrap (128 + (((IntKind.i64.wrap ((x12).tdiv 64))).tmod 64)))))), (.int .u8 (IntKind.u8.wrap ((IntKind.i64.wrap (128 + ((x12).tmod 64))))))] 5 (by kernel_rfl) (by kernel_rfl) ?_
        intro b93 w94 hg95 hb96 hbe97 hz98
        have ho99 : Gv.Own bE 5 w94 (fun _ => False) (some ⟨b93, 0, none⟩) 3 ([b84, b87, b90] : List UInt8) := Box.ownE hb96 ⟨[(.int .u8 (IntKind.u8.wrap ((IntKind.i64.wrap (224 + (IntKind.i64.wrap ((x12).tdiv 4096)))))))], [(.int .u8 (IntKind.u8.wrap ((IntKind.i64.wrap (128 + (((IntKind.i64.wrap ((x12).tdiv 64))).tmod 64)))))), (.int .u8 (IntKind.u8.wrap ((IntKind.i64.wrap (128 + ((x12).tmod 64))))))], rfl, (by simp only [bE, flat, hu86]), ⟨[(.int .u8 (IntKind.u8.wrap ((IntKind.i64.wrap (128 + (((IntKind.i64.wrap ((x12).tdiv 64))).tmod 64))))))], [(.int .u8 (IntKind.u8.wrap ((IntKind.i64.wrap (128 + ((x12).tmod 64))))))], rfl, (by simp only [bE, flat, hu89]), ⟨[(.int .u8 (IntKind.u8.wrap ((IntKind.i64.wrap (128 + ((x12).tmod 64))))))], [], rfl, (by simp only [bE, flat, hu92]), rfl⟩⟩⟩ (show 3 ≤ maxLen by decide) (fun h => h)
        have hl100 : ∀ g, blk (some ⟨b93, 0, none⟩) = some g → w0.heap.size ≤ g := loo hbe97 hB5.size
        refine bindE h3 ?_; clear h3; intro l104 hx105 h3
        have hk112 := ho9.grown hg95 (fun _ h => h.elim) nb
        refine gv_append bE (t := 82) (ty := 82) (e := 5) (a := a7) (ax := (some ⟨b93, 0, none⟩)) (cap := c8) (cx := 3) (xs := s3.1) (ys := ([b84, b87, b90] : List UInt8)) l104 (X := (fun _ => False)) (Y := (fun k => blk (some ⟨b93, 0, none⟩) = some k)) (by decide) rfl rfl (by kernel_rfl) (by kernel_rfl) Tryd.underlying82 info5 hk112 (ho99.rd (Y := fun k => blk (some ⟨b93, 0, none⟩) = some k) (fun _ h => h.elim) (fun g e => e)) hx105 (.inr fun _ _ _ _ _ h => h) (fun _ h => h.elim) ?_
        intro a106 c107 w108 hg109 ho110 hk111
        refine ⟨(fun e => by cases e), ?_⟩
        have hB114 := bg hB5 hg95 nb
        have hl113 : ∀ g, blk a106 = some g → w0.heap.size ≤ g := blk_step hk111 hl10 hB114.size
        have ap116 : ∀ g, blk a7 = some g → ¬ (fun k => blk (some ⟨b93, 0, none⟩) = some k) g := fun g e hx => nl ((lowo hbe97) _ hx) ((fun k (hk : blk a7 = some k) => ho9.lt k hk) g e)
        have ap115 : ∀ g, blk a106 = some g → ¬ (fun k => blk (some ⟨b93, 0, none⟩) = some k) g := blk_neX hk111 ap116 (fun k (hk : blk (some ⟨b93, 0, none⟩) = some k) => ho99.lt k hk)
        have ap118 : ∀ g, blk (some ⟨b93, 0, none⟩) = some g → ¬ (fun k => blk a7 = some k) g := fun g e hx => nl ((lowo hbe97) g e) ((fun k (hk : blk a7 = some k) => ho9.lt k hk) _ hx)
        have ap117 : ∀ g, blk (some ⟨b93, 0, none⟩) = some g → ¬ (fun k => blk a106 = some k) g := fun g e h => blk_rev hk111 (fun h => ((ap118) g e) h) (ho99.lt g e) h
        refine gv_pureN 1 [3] [(3, (.slice a106 (List.length l104) c107))] (by kernel_rfl) ?_
        refine gv_nil ?_
        have e := sj h3; subst e
        refine gv_goal fun a hd hs hok => ?_
        have hB119 := bg hB114 hg109 hl10
        have hz120 := (nt hg95.size hg109.size)
        exact ⟨a106, c107, hB119, hz120, ho110, hl113, hd, hs, ok_pick [0, 3, 4] hok (by kernel_rfl)⟩
       ·replace h3 := ite_f hc83 h3
        refine gv_region <| gv_pureN 19 [16, 17, 18, 19, 20, 21, 22, 23, 24, 25, 26, 27, 28, 29, 30, 31, 32, 33, 34] [(16, (.slice a7 (List.length s3.1) c8)), (20, (.int .u8 (IntKind.u8.wrap ((IntKind.i64.wrap (240 + (IntKind.i64.wrap ((x12).tdiv 262144)))))))), (25, (.int .u8 (IntKind.u8.wrap ((IntKind.i64.wrap (128 + (((IntKind.i64.wrap ((x12).tdiv 4096))).tmod 64))))))), (30, (.int .u8 (IntKind.u8.wrap ((IntKind.i64.wrap (128 + (((IntKind.i64.wrap ((x12).tdiv 64))).tmod 64))))))), (34, (.int .u8 (IntKind.u8.wrap ((IntKind.i64.wrap (128 + ((x12).tmod 64)))))))] (by kernel_rfl) ?_
        refine bindE h3 ?_; clear h3; intro b121 hb122 h3
        have hu123 := u8_spec hb122
        refine bindE h3 ?_; clear h3; intro b124 hb125 h3
        have hu126 := u8_spec hb125
        refine bindE h3 ?_; clear h3; intro b127 hb128 h3
        have hu129 := u8_spec hb128
        refine bindE h3 ?_; clear h3; intro b130 hb131 h3
        have hu132 := u8_spec hb131
        refine gv_new0 (fun b => .slice (some ⟨b, 0, none⟩) 4 4) #[(.int .u8 (IntKind.u8.wrap ((IntKind.i64.wrap (240 + (IntKind.i64.wrap ((x12).tdiv 262144))))))), (.int .u8 (IntKind.u8.wrap ((IntKind.i64.wrap (128 + (((IntKind.i64.wrap ((x12).tdiv 4096))).tmod 64)))))), (.int .u8 (IntKind.u8.wrap ((IntKind.i64.wrap (128 + (((IntKind.i64.wrap ((x12).tdiv 64))).tmod 64)))))), (.int .u8 (IntKind.u8.wrap ((IntKind.i64.wrap (128 + ((x12).tmod 64))))))] 5 (by kernel_rfl) (by kernel_rfl) ?_
        intro b133 w134 hg135 hb136 hbe137 hz138
        have ho139 : Gv.Own bE 5 w134 (fun _ => False) (some ⟨b133, 0, none⟩) 4 ([b121, b124, b127, b130] : List UInt8) := Box.ownE hb136 ⟨[(.int .u8 (IntKind.u8.wrap ((IntKind.i64.wrap (240 + (IntKind.i64.wrap ((x12).tdiv 262144)))))))], [(.int .u8 (IntKind.u8.wrap ((IntKind.i64.wrap (128 + (((IntKind.i64.wrap ((x12).tdiv 4096))).tmod 64)))))), (.int .u8 (IntKind.u8.wrap ((IntKind.i64.wrap (128 + (((IntKind.i64.wrap ((x12).tdiv 64))).tmod 64)))))), (.int .u8 (IntKind.u8.wrap ((IntKind.i64.wrap (128 + ((x12).tmod 64))))))], rfl, (by simp only [bE, flat, hu123]), ⟨[(.int .u8 (IntKind.u8.wrap ((IntKind.i64.wrap (128 + (((IntKind.i64.wrap ((x12).tdiv 4096))).tmod 64))))))], [(.int .u8 (IntKind.u8.wrap ((IntKind.i64.wrap (128 + (((IntKind.i64.wrap ((x12).tdiv 64))).tmod 64)))))), (.int .u8 (IntKind.u8.wrap ((IntKind.i64.wrap (128 + ((x12).tmod 64))))))], rfl, (by simp only [bE, flat, hu126]), ⟨[(.int .u8 (IntKind.u8.wrap ((IntKind.i64.wrap (128 + (((IntKind.i64.wrap ((x12).tdiv 64))).tmod 64))))))], [(.int .u8 (IntKind.u8.wrap ((IntKind.i64.wrap (128 + ((x12).tmod 64))))))], rfl, (by simp only [bE, flat, hu129]), ⟨[(.int .u8 (IntKind.u8.wrap ((IntKind.i64.wrap (128 + ((x12).tmod 64))))))], [], rfl, (by simp only [bE, flat, hu132]), rfl⟩⟩⟩⟩ (show 4 ≤ maxLen by decide) (fun h => h)
        have hl140 : ∀ g, blk (some ⟨b133, 0, none⟩) = some g → w0.heap.size ≤ g := loo hbe137 hB5.size
        refine bindE h3 ?_; clear h3; intro l144 hx145 h3
        have hk152 := ho9.grown hg135 (fun _ h => h.elim) nb
        refine gv_append bE (t := 82) (ty := 82) (e := 5) (a := a7) (ax := (some ⟨b133, 0, none⟩)) (cap := c8) (cx := 4) (xs := s3.1) (ys := ([b121, b124, b127, b130] : List UInt8)) l144 (X := (fun _ => False)) (Y := (fun k => blk (some ⟨b133, 0, none⟩) = some k)) (by decide) rfl rfl (by kernel_rfl) (by kernel_rfl) Tryd.underlying82 info5 hk152 (ho139.rd (Y := fun k => blk (some ⟨b133, 0, none⟩) = some k) (fun _ h => h.elim) (fun g e => e)) hx145 (.inr fun _ _ _ _ _ h => h) (fun _ h => h.elim) ?_
        intro a146 c147 w148 hg149 ho150 hk151
        refine ⟨(fun e => by cases e), ?_⟩
        have hB154 := bg hB5 hg135 nb
        have hl153 : ∀ g, blk a146 = some g → w0.heap.size ≤ g := blk_step hk151 hl10 hB154.size
        have ap156 : ∀ g, blk a7 = some g → ¬ (fun k => blk (some ⟨b133, 0, none⟩) = some k) g := fun g e hx => nl ((lowo hbe137) _ hx) ((fun k (hk : blk a7 = some k) => ho9.lt k hk) g e)
        have ap155 : ∀ g, blk a146 = some g → ¬ (fun k => blk (some ⟨b133, 0, none⟩) = some k) g := blk_neX hk151 ap156 (fun k (hk : blk (some ⟨b133, 0, none⟩) = some k) => ho139.lt k hk)
        have ap158 : ∀ g, blk (some ⟨b133, 0, none⟩) = some g → ¬ (fun k => blk a7 = some k) g := fun g e hx => nl ((lowo hbe137) g e) ((fun k (hk : blk a7 = some k) => ho9.lt k hk) _ hx)
        have ap157 : ∀ g, blk (some ⟨b133, 0, none⟩) = some g → ¬ (fun k => blk a146 = some k) g := fun g e h => blk_rev hk151 (fun h => ((ap158) g e) h) (ho139.lt g e) h
        have hz159 := (nt hg135.size hg149.size)
        clear ap157 ap158 ap155 ap156 hk151 hk152 hx145 hl140 ho139 hz138 hbe137 hb136 hg135 hu132 hb131 hu129 hb128 hu126 hb125 hu123 hb122 hc83 hc48 hc16 hx13 hc11 ho9 hB5
        refine gv_pureN 1 [3] [(3, (.slice a146 (List.length l144) c147))] (by kernel_rfl) ?_
        refine gv_nil ?_
        have e := sj h3; subst e
        refine gv_goal fun a hd hs hok => ?_
        have hB160 := bg hB154 hg149 hl10
        have hz161 := hz159
        exact ⟨a146, c147, hB160, hz161, ho150, hl153, hd, hs, ok_pick [0, 3, 4] hok (by kernel_rfl)⟩
    ·rintro a w15 ⟨a164, c165, hB162, hz163, ho166, hl167, hd, hs, hok⟩
     refine gv_in ?_ hd hs hok
     clear hd hs hok
     have hz168 := (nt hz6 hz163)
     clear hz163 hx13 hc11 hl10 ho9 hz6 hB5
     refine gv_blk <| gv_blk <| gv_region <| gv_pureN 3 [4, 10, 11] [(4, (.int .i64 (IntKind.i64.wrap (s3.2 + 1))))] (by kernel_rfl) ?_
     refine gv_nil ?_
     have e := sj h2; subst e
     refine gv_goal fun a hd hs hok => ?_
     have hz169 := hz168
     exact ⟨(j14, (IntKind.i64.wrap (s3.2 + 1))), rfl, a164, c165, hB162, hz169, ho166, hl167, hd, hs, ok_pick [0, 3, 4] hok (by kernel_rfl)⟩
   ·replace h2 := ite_f hc11 h2
    refine gv_cexit <| gv_exit rfl ?_
    have e := sj h2; subst e
    replace h1 := congrArg some (hR2 _ rfl)
    have e := sj h1; subst e
    refine gv_goal fun a hd hs hok => ?_
    have hz170 := hz6
    exact ⟨a7, c8, hB5, hz170, ho9, hl10, hd, hs, ok_pick [3] hok (by kernel_rfl)⟩
 ·rintro a w2 ⟨a173, c174, hB171, hz172, ho175, hl176, hd, hs, hok⟩
  refine gv_in ?_ hd hs hok
  clear hd hs hok
  refine gv_seq <| gv_region <| gv_pureN 2 [2, 78] [(2, (.slice a173 (List.length j1) c174))] (by kernel_rfl) ?_
  refine gv_nil <| gv_cret ?_
  have e := sj h0; subst e
  refine gv_ret (gv_done [(.slice a173 (List.length j1) c174)] rfl ⟨(by kernel_rfl), trivial⟩ ?_)
  exact ⟨grown_of_below hB171, a173, c174, rfl, ho175, hl176⟩

theorem ref4_String_ok (fuel : Nat) (pa0_0 : Option Addr) (pc0_0 : Nat) (l_0 : (List Int)) (w0 : World) (X0 : Nat → Prop) (hX0 : ∀ k, X0 k → k < w0.heap.size) (hpa0_0 : Rd (iE .i64) w0 X0 pa0_0 pc0_0 l_0) (r0 : ByteArray) (h0 : ref4_String fuel l_0 = some r0) :
    Calls Tryd.prog 26 ([(.slice pa0_0 (List.length l_0) pc0_0)] : List Value).toArray w0 (Ret fun v w' => w0.grownBy w' none ∧ v = tup [(.string r0)]) := by
 have hB0 : Below w0.heap.size w0 w0 := Below.refl _ _
 unfold ref4_String at h0
 refine calls_run Tryd.func26 rfl Tryd.ntmps26 (by kernel_rfl) ?_
 refine gv_sub [0] (σ' := [(0, (.slice pa0_0 (List.length l_0) pc0_0))]) (by kernel_rfl) ?_
 refine gv_seq <| gv_region <| gv_pureN 1 [2] [] (by kernel_rfl) ?_
 refine gv_nil <| gv_seq <| gv_region <| gv_pureN 1 [3] [(3, (.slice pa0_0 (List.length l_0) pc0_0))] (by kernel_rfl) ?_
 refine bindE h0 ?_; clear h0; intro r1 hr2 h0
 refine gv_call0 (by kernel_rfl) rfl (by kernel_rfl) enters68 (ref4_Encoded_ok fuel pa0_0 pc0_0 l_0 w0 (fun k => X0 k) (fun k hk => (fun k (hk : X0 k) => ltl (hX0 k hk) hB0.size) k hk) ((hpa0_0.below hB0 hX0).wide (fun k hk => hk)) r1 hr2) ?_
 rintro v5 w3 ⟨hg4, a6, c7, rfl, ho8, hl9⟩
 have hl10 : ∀ g, blk a6 = some g → w0.heap.size ≤ g := fun g e => Nat.le_trans hB0.size (hl9 g e)
 refine gv_b2s (src := 82) (dst := 9) (e := 5) (xs := r1) (a := a6) (cap := c7) (X := (fun k => blk a6 = some k)) [] (fun e => by cases e) rfl rfl rfl (by kernel_rfl) (by kernel_rfl) Tryd.underlying82 Tryd.underlying5 Tryd.underlying9 (inw0 (ho8.rd (Y := fun k => blk a6 = some k) (fun _ h => h.elim) (fun g e => e))) rfl ?_
 refine gv_pureN 1 [2] [(2, (.string (strOf r1)))] (by kernel_rfl) ?_
 refine gv_nil <| gv_cret ?_
 have e := sj h0; subst e
 refine gv_ret (gv_done [(.string (strOf r1))] rfl ⟨(by kernel_rfl), trivial⟩ ?_)
 have hB11 := bg hB0 hg4 nb
 exact ⟨grown_of_below hB11, rfl⟩

theorem law4_text_ok (fuel : Nat) (s_0 : ByteArray) (f_1 : (Int × Int)) (want_2 : ByteArray) (w_3 : (Int × Int)) (w0 : World)  (r0 : Bool) (h0 : law4_text fuel s_0 f_1 want_2 w_3 = some r0) :
    Calls Tryd.prog 25 ([(.string s_0), (.agg #[(.int .i64 f_1.1), (.int .i64 f_1.2)]), (.string want_2), (.agg #[(.int .i64 w_3.1), (.int .i64 w_3.2)])] : List Value).toArray w0 (Ret fun v w' => w0.grownBy w' none ∧ v = tup [(.bool r0)]) := by
 have hB0 : Below w0.heap.size w0 w0 := Below.refl _ _
 unfold law4_text at h0
 refine calls_run Tryd.func25 rfl Tryd.ntmps25 (by kernel_rfl) ?_
 refine gv_sub [0, 1, 2, 3] (σ' := [(0, (.string s_0)), (1, (.agg #[(.int .i64 f_1.1), (.int .i64 f_1.2)])), (2, (.string want_2)), (3, (.agg #[(.int .i64 w_3.1), (.int .i64 w_3.2)]))]) (by kernel_rfl) ?_
 refine gv_seq <| gv_region <| gv_new0 (fun b => .pointer (some ⟨b, 0, none⟩)) #[(.int .i64 f_1.1), (.int .i64 f_1.2)] 24 (by kernel_rfl) (by kernel_rfl) ?_
 intro b1 w2 hg3 hb4 hbe5 hz6
 refine gv_new0 (fun b => .pointer (some ⟨b, 0, none⟩)) #[(.int .i64 w_3.1), (.int .i64 w_3.2)] 24 (by kernel_rfl) (by kernel_rfl) ?_
 intro b7 w8 hg9 hb10 hbe11 hz12
 refine gv_pureN 1 [8] [] (by kernel_rfl) ?_
 refine gv_nil <| gv_seq <| gv_seq <| gv_region <| bindE h0 ?_; clear h0; intro j13 h1 h0
 refine gv_cut_ops (J := fun a w14 => Below w0.heap.size w0 w14 ∧ w8.heap.size ≤ w14.heap.size ∧ Box w14 b1 24 #[(.int .i64 f_1.1), (.int .i64 f_1.2)] ∧ Box w14 b7 24 #[(.int .i64 w_3.1), (.int .i64 w_3.2)] ∧ a.defers = [] ∧ a.tmps.size = 36 ∧ Ok [(0, (.string s_0)), (2, (.string want_2)), (5, (bp b1)), (7, (bp b7)), (16, (.bool j13))] a.tmps) ?_ ?_
 ·skip
  refine gv_pureN 1 [9] [(9, (bp b7))] (by kernel_rfl) ?_
  refine gv_load (t := 3) (A := ⟨b7, 0, none⟩) (.int .i64 w_3.1) [] (fun e => by cases e) rfl rfl rfl (by kernel_rfl) (by kernel_rfl) (by kernel_rfl) (inw0 (hb10.cell 0 rfl)) rfl ?_
  refine gv_pureN 2 [11, 12] [(12, (.bool (w_3.1 == 0)))] (by kernel_rfl) ?_
  refine gv_split (s := 12) (g := (w_3.1 == 0)) (by kernel_rfl) (fun hc15 => ?_) (fun hc15 => ?_)
  ·skip
   replace h1 := ite_t hc15 h1
   refine gv_pureN 4 [13, 14, 15, 16] [(16, (.bool (decide (((ByteArray.size want_2 : Nat) : Int) > 4000))))] (by kernel_rfl) ?_
   refine gv_nil ?_
   have e := sj h1; subst e
   refine gv_goal fun a hd hs hok => ?_
   have hg16 := (grown_trans hg3 hg9)
   have hB17 := bg hB0 hg16 nb
   have hk18 := hb4.grown hg9 nb
   exact ⟨hB17, (Nat.le_refl _), hk18, hb10, hd, hs, ok_pick [0, 2, 5, 7, 16] hok (by kernel_rfl)⟩
  ·skip
   replace h1 := ite_f hc15 h1
   refine gv_pureN 4 [13, 14, 15, 16] [(16, (.bool false))] (by kernel_rfl) ?_
   refine gv_nil ?_
   have e := sj h1; subst e
   refine gv_goal fun a hd hs hok => ?_
   have hg19 := (grown_trans hg3 hg9)
   have hB20 := bg hB0 hg19 nb
   have hk21 := hb4.grown hg9 nb
   exact ⟨hB20, (Nat.le_refl _), hk21, hb10, hd, hs, ok_pick [0, 2, 5, 7, 16] hok (by kernel_rfl)⟩
 ·rintro a w14 ⟨hB22, hz23, hb24, hb25, hd, hs, hok⟩
  refine gv_in ?_ hd hs hok
  clear hd hs hok
  clear hz23 hz12 hb10 hg9 hz6
  refine bindE h0 ?_; clear h0; intro j26 h1 h0
  refine gv_cut_code (J := fun a w27 => Below w0.heap.size w0 w27 ∧ w14.heap.size ≤ w27.heap.size ∧ Box w27 b1 24 #[(.int .i64 f_1.1), (.int .i64 f_1.2)] ∧ Box w27 b7 24 #[(.int .i64 j26.1), (.int .i64 j26.2)] ∧ a.defers = [] ∧ a.tmps.size = 36 ∧ Ok [(0, (.string s_0)), (2, (.string want_2)), (5, (bp b1)), (7, (bp b7))] a.tmps) ?_ ?_
  ·skip
   refine gv_cond (b := j13) (by kernel_rfl) (fun hc28 => ?_) (fun hc28 => ?_)
   ·replace h1 := ite_t hc28 h1
    refine gv_region <| bindE h1 ?_; clear h1; intro r29 hr30 h1
    refine gv_call0 (by kernel_rfl) rfl (by kernel_rfl) enters29 (ref4_At_ok fuel 3 (-1) w14  r29 hr30) ?_
    rintro v33 w31 ⟨hg32, rfl⟩
    have hk38 := hb25.grown hg32 nb
    refine gv_store0 24 0 (.agg #[(.int .i64 r29.1), (.int .i64 r29.2)]) #[(.int .i64 r29.1), (.int .i64 r29.2)] hk38 (by kernel_rfl) (by kernel_rfl) (by kernel_rfl) ?_
    intro w34 hg35 hb36 hz37
    refine gv_nil ?_
    have e := sj h1; subst e
    refine gv_goal fun a hd hs hok => ?_
    have hB39 := bg hB22 hg32 nb
    have hB40 := bg hB0 hg3 nb
    have hlo41 : w0.heap.size ≤ b7 := lob hbe11 hB40.size
    have hB42 := bg hB39 hg35 (rowlo hlo41)
    have hz43 := (nt hg32.size hg35.size)
    have lt44 := ltl ((ltb hb4) _ rfl) ((lowb hbe11) _ rfl)
    have hk45 := (hb24.grown hg32 nb).grown hg35 (rowne (ng lt44))
    exact ⟨hB42, hz43, hk45, hb36, hd, hs, ok_pick [0, 2, 5, 7] hok (by kernel_rfl)⟩
   ·replace h1 := ite_f hc28 h1
    refine gv_skip ?_
    have e := sj h1; subst e
    refine gv_goal fun a hd hs hok => ?_
    exact ⟨hB22, (Nat.le_refl _), hb24, hb25, hd, hs, ok_pick [0, 2, 5, 7] hok (by kernel_rfl)⟩
  ·rintro a w27 ⟨hB46, hz47, hb48, hb49, hd, hs, hok⟩
   refine gv_in ?_ hd hs hok
   clear hd hs hok
   clear hz47 hb25 hb24 hB22
   refine gv_seq <| gv_seq <| gv_region <| gv_pureN 1 [18] [(18, (bp b7))] (by kernel_rfl) ?_
   refine gv_load (t := 3) (A := ⟨b7, 0, none⟩) (.int .i64 j26.1) [] (fun e => by cases e) rfl rfl rfl (by kernel_rfl) (by kernel_rfl) (by kernel_rfl) (inw0 (hb49.cell 0 rfl)) rfl ?_
   refine gv_pureN 1 [20] [(20, (.bool (j26.1 != 0)))] (by kernel_rfl) ?_
   refine gv_nil <| gv_cond (b := (j26.1 != 0)) (by kernel_rfl) (fun hc50 => ?_) (fun hc50 => ?_)
   ·replace h0 := ite_t hc50 h0
    refine gv_seq <| gv_region <| bindE h0 ?_; clear h0; intro j51 h1 h0
    refine gv_cut_ops (J := fun a w52 => Below w0.heap.size w0 w52 ∧ w27.heap.size ≤ w52.heap.size ∧ a.defers = [] ∧ a.tmps.size = 36 ∧ Ok [(8, (.bool j51))] a.tmps) ?_ ?_
    ·skip
     refine gv_loadBox (t := 24) (b := b1) (t' := 24) (fr := (0, 0)) #[(.int .i64 f_1.1), (.int .i64 f_1.2)] [] (fun e => by cases e) rfl rfl rfl (by kernel_rfl) (by kernel_rfl) (by kernel_rfl) (by kernel_rfl) (inw0 hb48) rfl ?_
     refine gv_loadBox (t := 24) (b := b7) (t' := 24) (fr := (0, 0)) #[(.int .i64 j26.1), (.int .i64 j26.2)] [] (fun e => by cases e) rfl rfl rfl (by kernel_rfl) (by kernel_rfl) (by kernel_rfl) (by kernel_rfl) (inw0 hb49) rfl ?_
     refine gv_eqs (t := 24) (op := .eql) (x := (.tmp 21)) (y := (.tmp 22)) (xs := #[(.int .i64 f_1.1), (.int .i64 f_1.2)]) (ys := #[(.int .i64 j26.1), (.int .i64 j26.2)]) ((f_1.1 == j26.1) && (f_1.2 == j26.2)) [] (fun e => by cases e) rfl rfl rfl (by kernel_rfl) (by kernel_rfl) (fun w' => eqs24eql f_1.1 f_1.2 j26.1 j26.2 _ _ w') rfl ?_
     refine gv_pureN 1 [24] [(24, (.bool ((f_1.1 == j26.1) && (f_1.2 == j26.2))))] (by kernel_rfl) ?_
     refine gv_split (s := 24) (g := ((f_1.1 == j26.1) && (f_1.2 == j26.2))) (by kernel_rfl) (fun hc53 => ?_) (fun hc53 => ?_)
     ·skip
      replace h1 := ite_t hc53 h1
      refine gv_pureN 4 [8, 25, 26, 27] [(8, (.bool (s_0.toList == (strOf []).toList)))] (by kernel_rfl) ?_
      refine gv_nil ?_
      have e := sj h1; subst e
      refine gv_goal fun a hd hs hok => ?_
      exact ⟨hB46, (Nat.le_refl _), hd, hs, ok_pick [8] hok (by kernel_rfl)⟩
     ·skip
      replace h1 := ite_f hc53 h1
      refine gv_pureN 4 [8, 25, 26, 27] [(8, (.bool false))] (by kernel_rfl) ?_
      refine gv_nil ?_
      have e := sj h1; subst e
      refine gv_goal fun a hd hs hok => ?_
      exact ⟨hB46, (Nat.le_refl _), hd, hs, ok_pick [8] hok (by kernel_rfl)⟩
    ·rintro a w52 ⟨hB54, hz55, hd, hs, hok⟩
     refine gv_in ?_ hd hs hok
     clear hd hs hok
     clear hz55 hc50 hb49 hb48 hB46 hbe11 hbe5 hb4 hg3
     refine gv_cret ?_
     have e := sj h0; subst e
     refine gv_ret (gv_done [(.bool j51)] rfl ⟨(by kernel_rfl), trivial⟩ ?_)
     exact ⟨grown_of_below hB54, rfl⟩
   ·replace h0 := ite_f hc50 h0
    refine gv_skip <| gv_seq <| gv_region <| bindE h0 ?_; clear h0; intro j56 h1 h0
    refine gv_cut_ops (J := fun a w57 => Below w0.heap.size w0 w57 ∧ w27.heap.size ≤ w57.heap.size ∧ a.defers = [] ∧ a.tmps.size = 36 ∧ Ok [(8, (.bool j56))] a.tmps) ?_ ?_
    ·skip
     refine gv_loadBox (t := 24) (b := b1) (t' := 24) (fr := (0, 0)) #[(.int .i64 f_1.1), (.int .i64 f_1.2)] [] (fun e => by cases e) rfl rfl rfl (by kernel_rfl) (by kernel_rfl) (by kernel_rfl) (by kernel_rfl) (inw0 hb48) rfl ?_
     refine gv_loadBox (t := 24) (b := b7) (t' := 24) (fr := (0, 0)) #[(.int .i64 j26.1), (.int .i64 j26.2)] [] (fun e => by cases e) rfl rfl rfl (by kernel_rfl) (by kernel_rfl) (by kernel_rfl) (by kernel_rfl) (inw0 hb49) rfl ?_
     refine gv_eqs (t := 24) (op := .eql) (x := (.tmp 28)) (y := (.tmp 29)) (xs := #[(.int .i64 f_1.1), (.int .i64 f_1.2)]) (ys := #[(.int .i64 j26.1), (.int .i64 j26.2)]) ((f_1.1 == j26.1) && (f_1.2 == j26.2)) [] (fun e => by cases e) rfl rfl rfl (by kernel_rfl) (by kernel_rfl) (fun w' => eqs24eql f_1.1 f_1.2 j26.1 j26.2 _ _ w') rfl ?_
     refine gv_pureN 1 [31] [(31, (.bool ((f_1.1 == j26.1) && (f_1.2 == j26.2))))] (by kernel_rfl) ?_
     refine gv_split (s := 31) (g := ((f_1.1 == j26.1) && (f_1.2 == j26.2))) (by kernel_rfl) (fun hc58 => ?_) (fun hc58 => ?_)
     ·skip
      replace h1 := ite_t hc58 h1
      refine gv_pureN 5 [8, 32, 33, 34, 35] [(8, (.bool (s_0.toList == want_2.toList)))] (by kernel_rfl) ?_
      refine gv_nil ?_
      have e := sj h1; subst e
      refine gv_goal fun a hd hs hok => ?_
      exact ⟨hB46, (Nat.le_refl _), hd, hs, ok_pick [8] hok (by kernel_rfl)⟩
     ·skip
      replace h1 := ite_f hc58 h1
      refine gv_pureN 5 [8, 32, 33, 34, 35] [(8, (.bool false))] (by kernel_rfl) ?_
      refine gv_nil ?_
      have e := sj h1; subst e
      refine gv_goal fun a hd hs hok => ?_
      exact ⟨hB46, (Nat.le_refl _), hd, hs, ok_pick [8] hok (by kernel_rfl)⟩
    ·rintro a w57 ⟨hB59, hz60, hd, hs, hok⟩
     refine gv_in ?_ hd hs hok
     clear hd hs hok
     clear hz60 hc50 hb49 hb48 hB46 hbe11 hbe5 hb4 hg3
     refine gv_cret ?_
     have e := sj h0; subst e
     refine gv_ret (gv_done [(.bool j56)] rfl ⟨(by kernel_rfl), trivial⟩ ?_)
     exact ⟨grown_of_below hB59, rfl⟩

theorem ref4_Numbers_ok (fuel : Nat) (pa0_0 : Option Addr) (pc0_0 : Nat) (a_0 : (List Int)) (pa1_0 : Option Addr) (pc1_0 : Nat) (b_1 : (List Int)) (w0 : World) (X0 : Nat → Prop) (hX0 : ∀ k, X0 k → k < w0.heap.size) (hpa0_0 : Rd (iE .i64) w0 X0 pa0_0 pc0_0 a_0) (hpa1_0 : Rd (iE .i64) w0 X0 pa1_0 pc1_0 b_1) (r0 : Bool) (h0 : ref4_Numbers fuel a_0 b_1 = some r0) :
    Calls Tryd.prog 97 ([(.slice pa0_0 (List.length a_0) pc0_0), (.slice pa1_0 (List.length b_1) pc1_0)] : List Value).toArray w0 (Ret fun v w' => w0.grownBy w' none ∧ v = tup [(.bool r0)]) := by
 have hB0 : Below w0.heap.size w0 w0 := Below.refl _ _
 unfold ref4_Numbers at h0
 refine calls_run Tryd.func97 rfl Tryd.ntmps97 (by kernel_rfl) ?_
 refine gv_sub [0, 1] (σ' := [(0, (.slice pa0_0 (List.length a_0) pc0_0)), (1, (.slice pa1_0 (List.length b_1) pc1_0))]) (by kernel_rfl) ?_
 refine gv_seq <| gv_region <| gv_pureN 1 [4] [] (by kernel_rfl) ?_
 refine gv_nil <| gv_seq <| gv_seq <| gv_region <| gv_pureN 5 [6, 7, 8, 9, 10] [(10, (.bool (((List.length a_0 : Nat) : Int) != ((List.length b_1 : Nat) : Int))))] (by kernel_rfl) ?_
 refine gv_nil <| gv_cond (b := (((List.length a_0 : Nat) : Int) != ((List.length b_1 : Nat) : Int))) (by kernel_rfl) (fun hc1 => ?_) (fun hc1 => ?_)
 ·replace h0 := ite_t hc1 h0
  refine gv_seq <| gv_region <| gv_pureN 1 [4] [(4, (.bool false))] (by kernel_rfl) ?_
  refine gv_nil <| gv_cret ?_
  have e := sj h0; subst e
  refine gv_ret (gv_done [(.bool false)] rfl ⟨(by kernel_rfl), trivial⟩ ?_)
  exact ⟨grown_of_below hB0, rfl⟩
 ·replace h0 := ite_f hc1 h0
  refine gv_skip <| gv_seq <| gv_seq <| gv_region <| gv_pureN 1 [5] [(5, (.int .i64 0))] (by kernel_rfl) ?_
  refine gv_nil <| bindE h0 ?_; clear h0; intro j2 h1 h0
  refine gv_cut_code (J := fun a w4 => ∃ s3 : Unit, j2 = .inl s3 ∧ Below w0.heap.size w0 w4 ∧ w0.heap.size ≤ w4.heap.size ∧ a.defers = [] ∧ a.tmps.size = 26 ∧ Ok [] a.tmps) ?_ ?_
  ·skip
   refine gv_block <| gv_loop (A := fun (s5 : Int) a w6 => Below w0.heap.size w0 w6 ∧ w0.heap.size ≤ w6.heap.size ∧ a.defers = [] ∧ a.tmps.size = 26 ∧ Ok [(0, (.slice pa0_0 (List.length a_0) pc0_0)), (1, (.slice pa1_0 (List.length b_1) pc1_0)), (5, (.int .i64 s5))] a.tmps) h1 ?_ ?_
   ·intro a hd hs hok
    exact ⟨hB0, (Nat.le_refl _), hd, hs, ok_pick [0, 1, 5] hok (by kernel_rfl)⟩
   ·rintro s5 r2 h2 hR2 a w6 ⟨hB7, hz8, hd, hs, hok⟩
    refine gv_in ?_ hd hs hok
    clear hd hs hok
    refine gv_seq <| gv_seq <| gv_region <| gv_pureN 4 [11, 12, 13, 14] [(14, (.bool (decide (s5 < ((List.length a_0 : Nat) : Int)))))] (by kernel_rfl) ?_
    refine gv_nil <| gv_cond (b := (decide (s5 < ((List.length a_0 : Nat) : Int)))) (by kernel_rfl) (fun hc9 => ?_) (fun hc9 => ?_)
    ·replace h2 := ite_t hc9 h2
     refine gv_skip <| gv_seq <| gv_block <| gv_seq <| gv_drawA (by kernel_rfl) ?_
     intro w10 hg11
     refine gv_pre [0, 1, 2, 4, 5, 6] (bA 9 [0, 1, 2, 4, 5, 6]) 3 (by kernel_rfl) (by kernel_rfl) ?_
     refine gv_pureN 2 [17, 18] [(17, (.slice pa0_0 (List.length a_0) pc0_0)), (18, (.int .i64 s5))] (by kernel_rfl) ?_
     refine bindE h2 ?_; clear h2; intro x12 hx13 h2
     have hB14 := bg hB7 hg11 nb
     refine gv_idxaddr (t := 38) (e := 3) (a := pa0_0) (len := List.length a_0) (cap := pc0_0) (kk := .i64) (i := s5) (sz := 1) [] (fun e => by cases e) rfl rfl rfl (by kernel_rfl) (by kernel_rfl) Tryd.underlying38 (by kernel_rfl) ((hpa0_0.below hB14 hX0).has hx13) (idx_spec hx13).1 (idx_spec hx13).2.1 rfl ?_
     refine gv_pureN 2 [21, 22] [(21, (.slice pa1_0 (List.length b_1) pc1_0)), (22, (.int .i64 s5))] (by kernel_rfl) ?_
     refine bindE h2 ?_; clear h2; intro x15 hx16 h2
     refine gv_idxaddr (t := 38) (e := 3) (a := pa1_0) (len := List.length b_1) (cap := pc1_0) (kk := .i64) (i := s5) (sz := 1) [] (fun e => by cases e) rfl rfl rfl (by kernel_rfl) (by kernel_rfl) Tryd.underlying38 (by kernel_rfl) ((hpa1_0.below hB14 hX0).has hx16) (idx_spec hx16).1 (idx_spec hx16).2.1 rfl ?_
     refine gv_nil <| gv_goA ?_
     refine gv_stage (Cls w10 []) [0, 1, 2, 3, 4, 5, 6, 7] [(3, some true), (7, some true)] (bA 9 [0, 1, 2, 3, 4, 5, 6, 7]) 1 (by kernel_rfl) (by kernel_rfl) (Cls.refl _ _) ?_
     have hC17 := Cls.refl w10 []
     refine gv_load (t := 3) (A := (elemAddr pa0_0 ((s5 : Int).toNat * 1))) (.int .i64 x12) [] (fun e => by cases e) rfl rfl rfl (by kernel_rfl) (by kernel_rfl) (by kernel_rfl) (inw1 fun w' hC' => ((hC'.rd (hpa0_0.below hB14 hX0) (fun k (hk : X0 k) => ltl (hX0 k hk) hB14.size) nmx_nil).cell hx13)) rfl ?_
     refine gv_load (t := 3) (A := (elemAddr pa1_0 ((s5 : Int).toNat * 1))) (.int .i64 x15) [] (fun e => by cases e) rfl rfl rfl (by kernel_rfl) (by kernel_rfl) (by kernel_rfl) (inw1 fun w' hC' => ((hC'.rd (hpa1_0.below hB14 hX0) (fun k (hk : X0 k) => ltl (hX0 k hk) hB14.size) nmx_nil).cell hx16)) rfl ?_
     refine gv_nil <| gv_goA ?_
     refine gv_pre [8] (bA 9 [0, 1, 2, 3, 4, 5, 6, 7, 8]) 0 (by kernel_rfl) (by kernel_rfl) ?_
     refine gv_pureN 1 [25] [(25, (.bool (x12 != x15)))] (by kernel_rfl) ?_
     refine gv_nil <| gv_goA ?_
     refine gv_stageE (by kernel_rfl) ?_
     refine gv_cond (b := (x12 != x15)) (by kernel_rfl) (fun hc18 => ?_) (fun hc18 => ?_)
     ·replace h2 := ite_t hc18 h2
      refine gv_seq <| gv_region <| gv_pureN 1 [4] [(4, (.bool false))] (by kernel_rfl) ?_
      refine gv_nil <| gv_cret ?_
      have e := sj h2; subst e
      replace h1 := congrArg some (hR2 _ rfl)
      have e := sj h1; subst e
      replace h0 := cont_inr h0
      have e := sj h0; subst e
      refine gv_ret (gv_done [(.bool false)] rfl ⟨(by kernel_rfl), trivial⟩ ?_)
      exact ⟨grown_of_below hB14, rfl⟩
     ·replace h2 := ite_f hc18 h2
      refine gv_skip <| gv_blk <| gv_region <| gv_pureN 3 [5, 15, 16] [(5, (.int .i64 (IntKind.i64.wrap (s5 + 1))))] (by kernel_rfl) ?_
      refine gv_nil ?_
      have e := sj h2; subst e
      refine gv_goal fun a hd hs hok => ?_
      have hz19 := (nt hz8 hg11.size)
      exact ⟨(IntKind.i64.wrap (s5 + 1)), rfl, hB14, hz19, hd, hs, ok_pick [0, 1, 5] hok (by kernel_rfl)⟩
    ·replace h2 := ite_f hc9 h2
     refine gv_cexit <| gv_exit rfl ?_
     have e := sj h2; subst e
     replace h1 := congrArg some (hR2 _ rfl)
     have e := sj h1; subst e
     refine gv_goal fun a hd hs hok => ?_
     have hz20 := hz8
     exact ⟨(), rfl, hB7, hz20, hd, hs, ok_pick [] hok (by kernel_rfl)⟩
  ·rintro a w4 ⟨s3, e, hB21, hz22, hd, hs, hok⟩
   subst e
   refine gv_in ?_ hd hs hok
   clear hd hs hok
   replace h0 := cont_inl h0
   refine gv_seq <| gv_region <| gv_pureN 1 [4] [(4, (.bool true))] (by kernel_rfl) ?_
   refine gv_nil <| gv_cret ?_
   have e := sj h0; subst e
   refine gv_ret (gv_done [(.bool true)] rfl ⟨(by kernel_rfl), trivial⟩ ?_)
   exact ⟨grown_of_below hB21, rfl⟩

theorem ref4_here_ok (fuel : Nat) (pa0_0 : Option Addr) (pc0_0 : Nat) (l_0 : (List Int)) (pa1_0 : Option Addr) (pc1_0 : Nat) (sub_1 : (List Int)) (at_2 : Int) (w0 : World) (X0 : Nat → Prop) (hX0 : ∀ k, X0 k → k < w0.heap.size) (hpa0_0 : Rd (iE .i64) w0 X0 pa0_0 pc0_0 l_0) (hpa1_0 : Rd (iE .i64) w0 X0 pa1_0 pc1_0 sub_1) (r0 : Bool) (h0 : ref4_here fuel l_0 sub_1 at_2 = some r0) :
    Calls Tryd.prog 75 ([(.slice pa0_0 (List.length l_0) pc0_0), (.slice pa1_0 (List.length sub_1) pc1_0), (.int .i64 at_2)] : List Value).toArray w0 (Ret fun v w' => w0.grownBy w' none ∧ v = tup [(.bool r0)]) := by
 have hB0 : Below w0.heap.size w0 w0 := Below.refl _ _
 unfold ref4_here at h0
 refine calls_run Tryd.func75 rfl Tryd.ntmps75 (by kernel_rfl) ?_
 refine gv_sub [0, 1, 2] (σ' := [(0, (.slice pa0_0 (List.length l_0) pc0_0)), (1, (.slice pa1_0 (List.length sub_1) pc1_0)), (2, (.int .i64 at_2))]) (by kernel_rfl) ?_
 refine gv_seq <| gv_region <| gv_pureN 1 [6] [] (by kernel_rfl) ?_
 refine gv_nil <| gv_seq <| gv_region <| bindE h0 ?_; clear h0; intro j1 h1 h0
 refine gv_cut_ops (J := fun a w2 => Below w0.heap.size w0 w2 ∧ w0.heap.size ≤ w2.heap.size ∧ a.defers = [] ∧ a.tmps.size = 29 ∧ Ok [(6, (.bool j1))] a.tmps) ?_ ?_
 ·skip
  refine gv_pureN 3 [7, 8, 9] [(9, (.bool (decide (at_2 ≥ 0))))] (by kernel_rfl) ?_
  refine gv_split (s := 9) (g := (decide (at_2 ≥ 0))) (by kernel_rfl) (fun hc3 => ?_) (fun hc3 => ?_)
  ·skip
   replace h1 := ite_t hc3 h1
   refine gv_pureN 9 [10, 11, 12, 13, 14, 15, 16, 17, 18] [(18, (.bool (decide ((IntKind.i64.wrap (at_2 + ((List.length sub_1 : Nat) : Int))) ≤ ((List.length l_0 : Nat) : Int)))))] (by kernel_rfl) ?_
   refine gv_split (s := 18) (g := (decide ((IntKind.i64.wrap (at_2 + ((List.length sub_1 : Nat) : Int))) ≤ ((List.length l_0 : Nat) : Int)))) (by kernel_rfl) (fun hc4 => ?_) (fun hc4 => ?_)
   ·skip
    replace h1 := ite_t hc4 h1
    refine gv_pureN 6 [19, 20, 21, 22, 23, 24] [(19, (.slice pa0_0 (List.length l_0) pc0_0)), (20, (.int .i64 at_2)), (24, (.int .i64 (IntKind.i64.wrap (at_2 + ((List.length sub_1 : Nat) : Int)))))] (by kernel_rfl) ?_
    refine bindE h1 ?_; clear h1; intro x5 hx6 h1
    refine gv_ssl2 (iE .i64) (t := 38) (e := 3) (xs := l_0) (a := pa0_0) (cap := pc0_0) (lo := (some (.int .i64 at_2))) (hi := (some (.int .i64 (IntKind.i64.wrap (at_2 + ((List.length sub_1 : Nat) : Int)))))) at_2 (IntKind.i64.wrap (at_2 + ((List.length sub_1 : Nat) : Int))) x5 (fun e => by cases e) rfl rfl rfl (by kernel_rfl) (by kernel_rfl) Tryd.underlying38 (by kernel_rfl) (.inr ⟨_, rfl⟩) (.inr ⟨_, rfl⟩) hx6 (hpa0_0.below hB0 hX0).1 ?_
    intro a7 c8 hsub9
    have hp10 := hsub9 _ _ hpa0_0
    refine gv_pureN 1 [26] [(26, (.slice pa1_0 (List.length sub_1) pc1_0))] (by kernel_rfl) ?_
    refine bindE h1 ?_; clear h1; intro r11 hr12 h1
    refine gv_call0 (by kernel_rfl) rfl (by kernel_rfl) enters97 (ref4_Numbers_ok fuel a7 c8 x5 pa1_0 pc1_0 sub_1 w0 (fun k => X0 k ∨ X0 k) (fun k hk => (hk).elim (fun h => (fun k (hk : X0 k) => ltl (hX0 k hk) hB0.size) k h) (fun h => (fun k (hk : X0 k) => ltl (hX0 k hk) hB0.size) k h)) ((hp10.below hB0 hX0).wide (fun k hk => (.inl hk))) ((hpa1_0.below hB0 hX0).wide (fun k hk => (.inr hk))) r11 hr12) ?_
    rintro v15 w13 ⟨hg14, rfl⟩
    refine gv_pureN 2 [6, 28] [(6, (.bool r11))] (by kernel_rfl) ?_
    refine gv_nil ?_
    have e := sj h1; subst e
    refine gv_goal fun a hd hs hok => ?_
    have hB16 := bg hB0 hg14 nb
    have hz17 := hg14.size
    exact ⟨hB16, hz17, hd, hs, ok_pick [6] hok (by kernel_rfl)⟩
   ·skip
    replace h1 := ite_f hc4 h1
    refine gv_pureN 11 [6, 19, 20, 21, 22, 23, 24, 25, 26, 27, 28] [(6, (.bool false))] (by kernel_rfl) ?_
    refine gv_nil ?_
    have e := sj h1; subst e
    refine gv_goal fun a hd hs hok => ?_
    exact ⟨hB0, (Nat.le_refl _), hd, hs, ok_pick [6] hok (by kernel_rfl)⟩
  ·skip
   replace h1 := ite_f hc3 h1
   refine gv_pureN 20 [6, 10, 11, 12, 13, 14, 15, 16, 17, 18, 19, 20, 21, 22, 23, 24, 25, 26, 27, 28] [(6, (.bool false))] (by kernel_rfl) ?_
   refine gv_nil ?_
   have e := sj h1; subst e
   refine gv_goal fun a hd hs hok => ?_
   exact ⟨hB0, (Nat.le_refl _), hd, hs, ok_pick [6] hok (by kernel_rfl)⟩
 ·rintro a w2 ⟨hB18, hz19, hd, hs, hok⟩
  refine gv_in ?_ hd hs hok
  clear hd hs hok
  refine gv_cret ?_
  have e := sj h0; subst e
  refine gv_ret (gv_done [(.bool j1)] rfl ⟨(by kernel_rfl), trivial⟩ ?_)
  exact ⟨grown_of_below hB18, rfl⟩

theorem ref4_Places_ok (fuel : Nat) (pa0_0 : Option Addr) (pc0_0 : Nat) (l_0 : (List Int)) (pa1_0 : Option Addr) (pc1_0 : Nat) (sub_1 : (List Int)) (w0 : World) (X0 : Nat → Prop) (hX0 : ∀ k, X0 k → k < w0.heap.size) (hpa0_0 : Rd (iE .i64) w0 X0 pa0_0 pc0_0 l_0) (hpa1_0 : Rd (iE .i64) w0 X0 pa1_0 pc1_0 sub_1) (r0 : (List Int)) (h0 : ref4_Places fuel l_0 sub_1 = some r0) :
    Calls Tryd.prog 39 ([(.slice pa0_0 (List.length l_0) pc0_0), (.slice pa1_0 (List.length sub_1) pc1_0)] : List Value).toArray w0 (Ret fun v w' => w0.grownBy w' none ∧ ∃ (a0_0r : Option Addr) (c0_0r : Nat), v = tup [(.slice a0_0r (List.length r0) c0_0r)] ∧ Gv.Own (iE .i64) 3 w' (fun _ => False) a0_0r c0_0r r0 ∧ (∀ g, blk a0_0r = some g → w0.heap.size ≤ g)) := by
 have hB0 : Below w0.heap.size w0 w0 := Below.refl _ _
 unfold ref4_Places at h0
 refine calls_run Tryd.func39 rfl Tryd.ntmps39 (by kernel_rfl) ?_
 refine gv_sub [0, 1] (σ' := [(0, (.slice pa0_0 (List.length l_0) pc0_0)), (1, (.slice pa1_0 (List.length sub_1) pc1_0))]) (by kernel_rfl) ?_
 refine gv_seq <| gv_region <| gv_pureN 1 [4] [] (by kernel_rfl) ?_
 refine gv_nil <| gv_seq <| gv_region <| gv_pureN 1 [5] [(5, (.slice none (List.length ([] : List Int)) 0))] (by kernel_rfl) ?_
 refine gv_nil <| gv_seq <| gv_seq <| gv_region <| gv_pureN 1 [6] [(6, (.int .i64 0))] (by kernel_rfl) ?_
 refine gv_nil <| bindE h0 ?_; clear h0; intro j1 h1 h0
 refine gv_cut_code (J := fun a w2 => ∃ (a5_0j : Option Addr) (c5_0j : Nat), Below w0.heap.size w0 w2 ∧ w0.heap.size ≤ w2.heap.size ∧ Gv.Own (iE .i64) 3 w2 (fun _ => False) a5_0j c5_0j j1 ∧ (∀ g, blk a5_0j = some g → w0.heap.size ≤ g) ∧ a.defers = [] ∧ a.tmps.size = 35 ∧ Ok [(5, (.slice a5_0j (List.length j1) c5_0j))] a.tmps) ?_ ?_
 ·skip
  refine gv_block <| gv_loop (A := fun (s3 : ((List Int) × Int)) a w4 => ∃ (a5_0j : Option Addr) (c5_0j : Nat), Below w0.heap.size w0 w4 ∧ w0.heap.size ≤ w4.heap.size ∧ Gv.Own (iE .i64) 3 w4 (fun _ => False) a5_0j c5_0j s3.1 ∧ (∀ g, blk a5_0j = some g → w0.heap.size ≤ g) ∧ a.defers = [] ∧ a.tmps.size = 35 ∧ Ok [(0, (.slice pa0_0 (List.length l_0) pc0_0)), (1, (.slice pa1_0 (List.length sub_1) pc1_0)), (5, (.slice a5_0j (List.length s3.1) c5_0j)), (6, (.int .i64 s3.2))] a.tmps) h1 ?_ ?_
  ·intro a hd hs hok
   exact ⟨none, 0, hB0, (Nat.le_refl _), (Gv.Own.nil (iE .i64) 3 w0 (fun _ => False)), (fun _ h => by cases h), hd, hs, ok_pick [0, 1, 5, 6] hok (by kernel_rfl)⟩
  ·rintro s3 r2 h2 hR2 a w4 ⟨a7, c8, hB5, hz6, ho9, hl10, hd, hs, hok⟩
   refine gv_in ?_ hd hs hok
   clear hd hs hok
   refine gv_seq <| gv_seq <| gv_region <| gv_pureN 7 [7, 8, 9, 10, 11, 12, 13] [(13, (.bool (decide ((IntKind.i64.wrap (s3.2 + ((List.length sub_1 : Nat) : Int))) ≤ ((List.length l_0 : Nat) : Int)))))] (by kernel_rfl) ?_
   refine gv_nil <| gv_cond (b := (decide ((IntKind.i64.wrap (s3.2 + ((List.length sub_1 : Nat) : Int))) ≤ ((List.length l_0 : Nat) : Int)))) (by kernel_rfl) (fun hc11 => ?_) (fun hc11 => ?_)
   ·replace h2 := ite_t hc11 h2
    refine gv_skip <| gv_block <| gv_seq <| gv_seq <| gv_region <| gv_pureN 3 [14, 15, 16] [(14, (.slice pa0_0 (List.length l_0) pc0_0)), (15, (.slice pa1_0 (List.length sub_1) pc1_0)), (16, (.int .i64 s3.2))] (by kernel_rfl) ?_
    refine bindE h2 ?_; clear h2; intro r12 hr13 h2
    refine gv_call0 (by kernel_rfl) rfl (by kernel_rfl) enters75 (ref4_here_ok fuel pa0_0 pc0_0 l_0 pa1_0 pc1_0 sub_1 s3.2 w4 (fun k => X0 k ∨ X0 k) (fun k hk => (hk).elim (fun h => (fun k (hk : X0 k) => ltl (hX0 k hk) hB5.size) k h) (fun h => (fun k (hk : X0 k) => ltl (hX0 k hk) hB5.size) k h)) ((hpa0_0.below hB5 hX0).wide (fun k hk => (.inl hk))) ((hpa1_0.below hB5 hX0).wide (fun k hk => (.inr hk))) r12 hr13) ?_
    rintro v16 w14 ⟨hg15, rfl⟩
    refine gv_pureN 1 [18] [(18, (.bool (!r12)))] (by kernel_rfl) ?_
    refine gv_nil <| gv_cond (b := (!r12)) (by kernel_rfl) (fun hc17 => ?_) (fun hc17 => ?_)
    ·replace h2 := ite_t hc17 h2
     refine gv_seq <| gv_region <| gv_pureN 3 [6, 19, 20] [(6, (.int .i64 (IntKind.i64.wrap (s3.2 + 1))))] (by kernel_rfl) ?_
     refine gv_nil <| gv_cexit <| gv_exit rfl ?_
     have e := sj h2; subst e
     refine gv_goal fun a hd hs hok => ?_
     have hB18 := bg hB5 hg15 nb
     have hz19 := (nt hz6 hg15.size)
     have hk20 := ho9.grown hg15 (fun _ h => h.elim) nb
     exact ⟨(s3.1, (IntKind.i64.wrap (s3.2 + 1))), rfl, a7, c8, hB18, hz19, hk20, hl10, hd, hs, ok_pick [0, 1, 5, 6] hok (by kernel_rfl)⟩
    ·replace h2 := ite_f hc17 h2
     refine gv_skip <| gv_seq <| gv_region <| gv_pureN 2 [21, 22] [(21, (.slice a7 (List.length s3.1) c8)), (22, (.int .i64 s3.2))] (by kernel_rfl) ?_
     refine gv_new0 (fun b => .slice (some ⟨b, 0, none⟩) 1 1) #[(.int .i64 s3.2)] 3 (by kernel_rfl) (by kernel_rfl) ?_
     intro b21 w22 hg23 hb24 hbe25 hz26
     have ho27 : Gv.Own (iE .i64) 3 w22 (fun _ => False) (some ⟨b21, 0, none⟩) 1 ([s3.2] : List Int) := Box.ownE hb24 ⟨[(.int .i64 s3.2)], [], rfl, rfl, rfl⟩ (show 1 ≤ maxLen by decide) (fun h => h)
     have hB32 := bg hB5 hg15 nb
     have hl28 : ∀ g, blk (some ⟨b21, 0, none⟩) = some g → w0.heap.size ≤ g := loo hbe25 hB32.size
     refine bindE h2 ?_; clear h2; intro l33 hx34 h2
     have hg41 := (grown_trans hg15 hg23)
     have hk42 := ho9.grown hg41 (fun _ h => h.elim) nb
     refine gv_append (iE .i64) (t := 38) (ty := 38) (e := 3) (a := a7) (ax := (some ⟨b21, 0, none⟩)) (cap := c8) (cx := 1) (xs := s3.1) (ys := ([s3.2] : List Int)) l33 (X := (fun _ => False)) (Y := (fun k => blk (some ⟨b21, 0, none⟩) = some k)) (by decide) rfl rfl (by kernel_rfl) (by kernel_rfl) Tryd.underlying38 info3 hk42 (ho27.rd (Y := fun k => blk (some ⟨b21, 0, none⟩) = some k) (fun _ h => h.elim) (fun g e => e)) hx34 (.inr fun _ _ _ _ _ h => h) (fun _ h => h.elim) ?_
     intro a35 c36 w37 hg38 ho39 hk40
     refine ⟨(fun e => by cases e), ?_⟩
     have hB44 := bg hB32 hg23 nb
     have hl43 : ∀ g, blk a35 = some g → w0.heap.size ≤ g := blk_step hk40 hl10 hB44.size
     have hk46 := ho9.grown hg15 (fun _ h => h.elim) nb
     have ap47 : ∀ g, blk a7 = some g → ¬ (fun k => blk (some ⟨b21, 0, none⟩) = some k) g := fun g e hx => nl ((lowo hbe25) _ hx) ((fun k (hk : blk a7 = some k) => hk46.lt k hk) g e)
     have ap45 : ∀ g, blk a35 = some g → ¬ (fun k => blk (some ⟨b21, 0, none⟩) = some k) g := blk_neX hk40 ap47 (fun k (hk : blk (some ⟨b21, 0, none⟩) = some k) => ho27.lt k hk)
     have ap49 : ∀ g, blk (some ⟨b21, 0, none⟩) = some g → ¬ (fun k => blk a7 = some k) g := fun g e hx => nl ((lowo hbe25) g e) ((fun k (hk : blk a7 = some k) => hk46.lt k hk) _ hx)
     have ap48 : ∀ g, blk (some ⟨b21, 0, none⟩) = some g → ¬ (fun k => blk a35 = some k) g := fun g e h => blk_rev hk40 (fun h => ((ap49) g e) h) (ho27.lt g e) h
     refine gv_pureN 1 [5] [(5, (.slice a35 (List.length l33) c36))] (by kernel_rfl) ?_
     refine gv_nil <| gv_seq <| gv_region <| gv_pureN 5 [6, 25, 26, 27, 28] [(6, (.int .i64 (IntKind.i64.wrap (s3.2 + ((List.length sub_1 : Nat) : Int)))))] (by kernel_rfl) ?_
     refine bindE h2 ?_; clear h2; intro n50 hn51 h2
     refine gv_name (s := 6) (v := (.int .i64 (IntKind.i64.wrap (s3.2 + ((List.length sub_1 : Nat) : Int))))) (v' := (.int .i64 n50)) (by kernel_rfl) (congrArg (Value.int .i64) (sj hn51)) ?_
     refine gv_nil <| gv_seq <| gv_region <| gv_pureN 3 [29, 30, 31] [(31, (.bool (((List.length sub_1 : Nat) : Int) == 0)))] (by kernel_rfl) ?_
     refine gv_nil <| bindE h2 ?_; clear h2; intro j52 h3 h2
     refine gv_cut_code (J := fun a w53 => Below w0.heap.size w0 w53 ∧ w37.heap.size ≤ w53.heap.size ∧ Gv.Own (iE .i64) 3 w53 (fun _ => False) a35 c36 l33 ∧ a.defers = [] ∧ a.tmps.size = 35 ∧ Ok [(0, (.slice pa0_0 (List.length l_0) pc0_0)), (1, (.slice pa1_0 (List.length sub_1) pc1_0)), (5, (.slice a35 (List.length l33) c36)), (6, (.int .i64 j52))] a.tmps) ?_ ?_
     ·skip
      refine gv_cond (b := (((List.length sub_1 : Nat) : Int) == 0)) (by kernel_rfl) (fun hc54 => ?_) (fun hc54 => ?_)
      ·replace h3 := ite_t hc54 h3
       refine gv_region <| gv_pureN 3 [6, 32, 33] [(6, (.int .i64 (IntKind.i64.wrap (n50 + 1))))] (by kernel_rfl) ?_
       refine gv_nil ?_
       have e := sj h3; subst e
       refine gv_goal fun a hd hs hok => ?_
       have hB55 := bg hB44 hg38 hl10
       exact ⟨hB55, (Nat.le_refl _), ho39, hd, hs, ok_pick [0, 1, 5, 6] hok (by kernel_rfl)⟩
      ·replace h3 := ite_f hc54 h3
       refine gv_skip ?_
       have e := sj h3; subst e
       refine gv_goal fun a hd hs hok => ?_
       have hB56 := bg hB44 hg38 hl10
       exact ⟨hB56, (Nat.le_refl _), ho39, hd, hs, ok_pick [0, 1, 5, 6] hok (by kernel_rfl)⟩
     ·rintro a w53 ⟨hB57, hz58, hk59, hd, hs, hok⟩
      refine gv_in ?_ hd hs hok
      clear hd hs hok
      have hz60 := (nt (nt (nt (nt hz6 hg15.size) hg23.size) hg38.size) hz58)
      clear hz58 hn51 ap48 ap49 ap45 ap47 hk46 hB44 hk40 ho39 hg38 hk42 hg41 hx34 hl28 hB32 ho27 hz26 hbe25 hb24 hg23 hc17 hg15 hr13 hc11 hl10 ho9 hz6 hB5
      refine gv_blk ?_
      have e := sj h2; subst e
      refine gv_goal fun a hd hs hok => ?_
      have hz61 := hz60
      exact ⟨(l33, j52), rfl, a35, c36, hB57, hz61, hk59, hl43, hd, hs, ok_pick [0, 1, 5, 6] hok (by kernel_rfl)⟩
   ·replace h2 := ite_f hc11 h2
    refine gv_cexit <| gv_exit rfl ?_
    have e := sj h2; subst e
    replace h1 := congrArg some (hR2 _ rfl)
    have e := sj h1; subst e
    refine gv_goal fun a hd hs hok => ?_
    have hz62 := hz6
    exact ⟨a7, c8, hB5, hz62, ho9, hl10, hd, hs, ok_pick [5] hok (by kernel_rfl)⟩
 ·rintro a w2 ⟨a65, c66, hB63, hz64, ho67, hl68, hd, hs, hok⟩
  refine gv_in ?_ hd hs hok
  clear hd hs hok
  refine gv_seq <| gv_region <| gv_pureN 2 [4, 34] [(4, (.slice a65 (List.length j1) c66))] (by kernel_rfl) ?_
  refine gv_nil <| gv_cret ?_
  have e := sj h0; subst e
  refine gv_ret (gv_done [(.slice a65 (List.length j1) c66)] rfl ⟨(by kernel_rfl), trivial⟩ ?_)
  exact ⟨grown_of_below hB63, a65, c66, rfl, ho67, hl68⟩

theorem textstr_Join_ok (fuel : Nat) (pa0_0 : Option Addr) (pc0_0 : Nat) (l_0 : (List ByteArray)) (sep_1 : ByteArray) (w0 : World) (X0 : Nat → Prop) (hX0 : ∀ k, X0 k → k < w0.heap.size) (hpa0_0 : Rd sE w0 X0 pa0_0 pc0_0 l_0) (hG1 : Rd bE w0 X0 (some ⟨1, 0, none⟩) 256 utf8First) (hG2 : Rd (prE (iE .u8) (iE .u8)) w0 X0 (some ⟨2, 0, none⟩) 16 utf8Acc) (r0 : (ByteArray × (Int × Int))) (h0 : textstr_Join fuel l_0 sep_1 = some r0) :
    Calls Tryd.prog 41 ([(.slice pa0_0 (List.length l_0) pc0_0), (.string sep_1)] : List Value).toArray w0 (Ret fun v w' => w0.grownBy w' none ∧ v = tup [(.string r0.1), (.agg #[(.int .i64 r0.2.1), (.int .i64 r0.2.2)])]) := by
 have hB0 : Below w0.heap.size w0 w0 := Below.refl _ _
 unfold textstr_Join at h0
 refine calls_run Tryd.func41 rfl Tryd.ntmps41 (by kernel_rfl) ?_
 refine gv_sub [0, 1] (σ' := [(0, (.slice pa0_0 (List.length l_0) pc0_0)), (1, (.string sep_1))]) (by kernel_rfl) ?_
 refine gv_seq <| gv_region <| gv_pureN 1 [4] [] (by kernel_rfl) ?_
 refine gv_new0 (fun b => .pointer (some ⟨b, 0, none⟩)) #[(.int .i64 0), (.int .i64 0)] 24 (by kernel_rfl) (by kernel_rfl) ?_
 intro b1 w2 hg3 hb4 hbe5 hz6
 refine gv_nil <| gv_seq <| gv_region <| gv_pureN 1 [6] [(6, (.int .i64 0))] (by kernel_rfl) ?_
 refine gv_nil <| gv_seq <| gv_seq <| gv_region <| gv_pureN 3 [9, 10, 11] [(9, (.slice pa0_0 (List.length l_0) pc0_0)), (10, (.int .i64 ((List.length l_0 : Nat) : Int))), (11, (.int .i64 0))] (by kernel_rfl) ?_
 refine gv_nil <| bindE h0 ?_; clear h0; intro j7 h1 h0
 refine gv_cut_code (J := fun a w9 => ∃ s8 : (Int × (Int × Int)), j7 = .inl s8 ∧ Below w0.heap.size w0 w9 ∧ w2.heap.size ≤ w9.heap.size ∧ Box w9 b1 24 #[(.int .i64 s8.2.1), (.int .i64 s8.2.2)] ∧ a.defers = [] ∧ a.tmps.size = 45 ∧ Ok [(0, (.slice pa0_0 (List.length l_0) pc0_0)), (1, (.string sep_1)), (5, (bp b1)), (6, (.int .i64 s8.1))] a.tmps) ?_ ?_
 ·skip
  refine gv_block <| gv_loop (A := fun (s10 : (Int × Int × (Int × Int))) a w11 => Below w0.heap.size w0 w11 ∧ w2.heap.size ≤ w11.heap.size ∧ Box w11 b1 24 #[(.int .i64 s10.2.2.1), (.int .i64 s10.2.2.2)] ∧ a.defers = [] ∧ a.tmps.size = 45 ∧ Ok [(0, (.slice pa0_0 (List.length l_0) pc0_0)), (1, (.string sep_1)), (5, (bp b1)), (6, (.int .i64 s10.1)), (9, (.slice pa0_0 (List.length l_0) pc0_0)), (10, (.int .i64 ((List.length l_0 : Nat) : Int))), (11, (.int .i64 s10.2.1))] a.tmps) h1 ?_ ?_
  ·intro a hd hs hok
   have hB12 := bg hB0 hg3 nb
   exact ⟨hB12, (Nat.le_refl _), hb4, hd, hs, ok_pick [0, 1, 5, 6, 9, 10, 11] hok (by kernel_rfl)⟩
  ·rintro s10 r2 h2 hR2 a w11 ⟨hB13, hz14, hb15, hd, hs, hok⟩
   refine gv_in ?_ hd hs hok
   clear hd hs hok
   refine gv_seq <| gv_region <| gv_pureN 1 [12] [(12, (.bool (decide (s10.2.1 < ((List.length l_0 : Nat) : Int)))))] (by kernel_rfl) ?_
   refine gv_nil <| gv_seq <| gv_cond (b := (decide (s10.2.1 < ((List.length l_0 : Nat) : Int)))) (by kernel_rfl) (fun hc16 => ?_) (fun hc16 => ?_)
   ·replace h2 := ite_t hc16 h2
    refine gv_skip <| gv_seq <| gv_block <| gv_seq <| gv_region <| gv_pureN 1 [13] [(13, (.int .i64 s10.2.1))] (by kernel_rfl) ?_
    refine bindE h2 ?_; clear h2; intro x17 hx18 h2
    refine gv_idxaddr (t := 22) (e := 9) (a := pa0_0) (len := List.length l_0) (cap := pc0_0) (kk := .i64) (i := s10.2.1) (sz := 1) [] (fun e => by cases e) rfl rfl rfl (by kernel_rfl) (by kernel_rfl) Tryd.underlying22 (by kernel_rfl) ((hpa0_0.below hB13 hX0).has hx18) (idx_spec hx18).1 (idx_spec hx18).2.1 rfl ?_
    refine gv_load (t := 9) (A := (elemAddr pa0_0 ((s10.2.1 : Int).toNat * 1))) (.string x17) [] (fun e => by cases e) rfl rfl rfl (by kernel_rfl) (by kernel_rfl) (by kernel_rfl) (inw0 ((hpa0_0.below hB13 hX0).cell hx18)) rfl ?_
    refine gv_pureN 2 [7, 8] [(7, (.int .i64 s10.2.1)), (8, (.string x17))] (by kernel_rfl) ?_
    refine gv_nil <| gv_seq <| gv_seq <| gv_region <| gv_pureN 1 [16] [(16, (.string x17))] (by kernel_rfl) ?_
    refine bindE h2 ?_; clear h2; intro r19 hr20 h2
    refine gv_call0 (by kernel_rfl) rfl (by kernel_rfl) enters76 (textstr_Valid_ok fuel x17 w11 (fun k => X0 k ∨ X0 k) (fun k hk => (hk).elim (fun h => (fun k (hk : X0 k) => ltl (hX0 k hk) hB13.size) k h) (fun h => (fun k (hk : X0 k) => ltl (hX0 k hk) hB13.size) k h)) ((hG1.below hB13 hX0).wide (fun k hk => (.inl hk))) ((hG2.below hB13 hX0).wide (fun k hk => (.inr hk))) r19 hr20) ?_
    rintro v23 w21 ⟨hg22, rfl⟩
    refine gv_pureN 1 [18] [(18, (.bool (!r19)))] (by kernel_rfl) ?_
    refine gv_nil <| gv_cond (b := (!r19)) (by kernel_rfl) (fun hc24 => ?_) (fun hc24 => ?_)
    ·replace h2 := ite_t hc24 h2
     refine gv_seq <| gv_region <| gv_pureN 1 [19] [(19, (.int .i64 s10.2.1))] (by kernel_rfl) ?_
     refine bindE h2 ?_; clear h2; intro r25 hr26 h2
     refine gv_call0 (by kernel_rfl) rfl (by kernel_rfl) enters56 (textstr_at_ok fuel 6 s10.2.1 w21  r25 hr26) ?_
     rintro v29 w27 ⟨hg28, rfl⟩
     refine gv_pureN 1 [4] [(4, (.string (strOf [])))] (by kernel_rfl) ?_
     have hg34 := (grown_trans hg22 hg28)
     have hk35 := hb15.grown hg34 nb
     refine gv_store0 24 0 (.agg #[(.int .i64 r25.1), (.int .i64 r25.2)]) #[(.int .i64 r25.1), (.int .i64 r25.2)] hk35 (by kernel_rfl) (by kernel_rfl) (by kernel_rfl) ?_
     intro w30 hg31 hb32 hz33
     refine gv_nil <| gv_cret ?_
     have e := sj h2; subst e
     replace h1 := congrArg some (hR2 _ rfl)
     have e := sj h1; subst e
     replace h0 := cont_inr h0
     have e := sj h0; subst e
     refine gv_ret (gv_done [(.string (strOf [])), (.agg #[(.int .i64 r25.1), (.int .i64 r25.2)])] rfl ⟨(by kernel_rfl), ⟨⟨b1, 0, none⟩, (by kernel_rfl), run_loadVar_row w30 b1 _ 24 _ _ _ hb32 Tryd.underlying24 rfl (by kernel_rfl)⟩, trivial⟩ ?_)
     have hB36 := bg hB13 hg34 nb
     have hlo37 : w0.heap.size ≤ b1 := lob hbe5 hB0.size
     have hB38 := bg hB36 hg31 (rowlo hlo37)
     exact ⟨grown_of_below hB38, rfl⟩
    ·replace h2 := ite_f hc24 h2
     refine gv_skip <| gv_region <| gv_pureN 5 [6, 21, 22, 23, 24] [(6, (.int .i64 (IntKind.i64.wrap (s10.1 + ((ByteArray.size x17 : Nat) : Int)))))] (by kernel_rfl) ?_
     refine bindE h2 ?_; clear h2; intro n39 hn40 h2
     refine gv_name (s := 6) (v := (.int .i64 (IntKind.i64.wrap (s10.1 + ((ByteArray.size x17 : Nat) : Int))))) (v' := (.int .i64 n39)) (by kernel_rfl) (congrArg (Value.int .i64) (sj hn40)) ?_
     refine gv_nil <| gv_blk <| gv_region <| gv_pureN 2 [11, 25] [(11, (.int .i64 (IntKind.i64.wrap (s10.2.1 + 1))))] (by kernel_rfl) ?_
     refine gv_nil ?_
     have e := sj h2; subst e
     refine gv_goal fun a hd hs hok => ?_
     have hB41 := bg hB13 hg22 nb
     have hz42 := (nt hz14 hg22.size)
     have hk43 := hb15.grown hg22 nb
     exact ⟨(n39, (IntKind.i64.wrap (s10.2.1 + 1)), (s10.2.2.1, s10.2.2.2)), rfl, hB41, hz42, hk43, hd, hs, ok_pick [0, 1, 5, 6, 9, 10, 11] hok (by kernel_rfl)⟩
   ·replace h2 := ite_f hc16 h2
    refine gv_cexit <| gv_exit rfl ?_
    have e := sj h2; subst e
    replace h1 := congrArg some (hR2 _ rfl)
    have e := sj h1; subst e
    refine gv_goal fun a hd hs hok => ?_
    have hz44 := hz14
    exact ⟨(s10.1, (s10.2.2.1, s10.2.2.2)), rfl, hB13, hz44, hb15, hd, hs, ok_pick [0, 1, 5, 6] hok (by kernel_rfl)⟩
 ·rintro a w9 ⟨s8, e, hB45, hz46, hb47, hd, hs, hok⟩
  subst e
  refine gv_in ?_ hd hs hok
  clear hd hs hok
  replace h0 := cont_inl h0
  clear hz46 hz6 hb4 hg3
  refine gv_seq <| gv_seq <| gv_region <| gv_pureN 1 [26] [(26, (.string sep_1))] (by kernel_rfl) ?_
  refine bindE h0 ?_; clear h0; intro r48 hr49 h0
  refine gv_call0 (by kernel_rfl) rfl (by kernel_rfl) enters76 (textstr_Valid_ok fuel sep_1 w9 (fun k => X0 k ∨ X0 k) (fun k hk => (hk).elim (fun h => (fun k (hk : X0 k) => ltl (hX0 k hk) hB45.size) k h) (fun h => (fun k (hk : X0 k) => ltl (hX0 k hk) hB45.size) k h)) ((hG1.below hB45 hX0).wide (fun k hk => (.inl hk))) ((hG2.below hB45 hX0).wide (fun k hk => (.inr hk))) r48 hr49) ?_
  rintro v52 w50 ⟨hg51, rfl⟩
  refine gv_pureN 1 [28] [(28, (.bool (!r48)))] (by kernel_rfl) ?_
  refine gv_nil <| gv_cond (b := (!r48)) (by kernel_rfl) (fun hc53 => ?_) (fun hc53 => ?_)
  ·replace h0 := ite_t hc53 h0
   refine gv_seq <| gv_region <| bindE h0 ?_; clear h0; intro r54 hr55 h0
   refine gv_call0 (by kernel_rfl) rfl (by kernel_rfl) enters56 (textstr_at_ok fuel 6 (-2) w50  r54 hr55) ?_
   rintro v58 w56 ⟨hg57, rfl⟩
   refine gv_pureN 1 [4] [(4, (.string (strOf [])))] (by kernel_rfl) ?_
   have hg63 := (grown_trans hg51 hg57)
   have hk64 := hb47.grown hg63 nb
   refine gv_store0 24 0 (.agg #[(.int .i64 r54.1), (.int .i64 r54.2)]) #[(.int .i64 r54.1), (.int .i64 r54.2)] hk64 (by kernel_rfl) (by kernel_rfl) (by kernel_rfl) ?_
   intro w59 hg60 hb61 hz62
   refine gv_nil <| gv_cret ?_
   have e := sj h0; subst e
   refine gv_ret (gv_done [(.string (strOf [])), (.agg #[(.int .i64 r54.1), (.int .i64 r54.2)])] rfl ⟨(by kernel_rfl), ⟨⟨b1, 0, none⟩, (by kernel_rfl), run_loadVar_row w59 b1 _ 24 _ _ _ hb61 Tryd.underlying24 rfl (by kernel_rfl)⟩, trivial⟩ ?_)
   have hB65 := bg hB45 hg63 nb
   have hlo66 : w0.heap.size ≤ b1 := lob hbe5 hB0.size
   have hB67 := bg hB65 hg60 (rowlo hlo66)
   exact ⟨grown_of_below hB67, rfl⟩
  ·replace h0 := ite_f hc53 h0
   refine gv_skip <| gv_seq <| gv_seq <| gv_region <| gv_pureN 10 [30, 31, 32, 33, 34, 35, 36, 37, 38, 39] [(39, (.bool (decide ((IntKind.i64.wrap (s8.1 + (IntKind.i64.wrap ((if 0 < (IntKind.i64.wrap (((List.length l_0 : Nat) : Int) - 1)) then (IntKind.i64.wrap (((List.length l_0 : Nat) : Int) - 1)) else 0) * ((ByteArray.size sep_1 : Nat) : Int))))) > 4000))))] (by kernel_rfl) ?_
   refine gv_nil <| gv_cond (b := (decide ((IntKind.i64.wrap (s8.1 + (IntKind.i64.wrap ((if 0 < (IntKind.i64.wrap (((List.length l_0 : Nat) : Int) - 1)) then (IntKind.i64.wrap (((List.length l_0 : Nat) : Int) - 1)) else 0) * ((ByteArray.size sep_1 : Nat) : Int))))) > 4000))) (by kernel_rfl) (fun hc68 => ?_) (fun hc68 => ?_)
   ·replace h0 := ite_t hc68 h0
    refine gv_seq <| gv_region <| bindE h0 ?_; clear h0; intro r69 hr70 h0
    refine gv_call0 (by kernel_rfl) rfl (by kernel_rfl) enters56 (textstr_at_ok fuel 3 (-1) w50  r69 hr70) ?_
    rintro v73 w71 ⟨hg72, rfl⟩
    clear hr70 hc68 hc53 hr49
    refine gv_pureN 1 [4] [(4, (.string (strOf [])))] (by kernel_rfl) ?_
    have hg78 := (grown_trans hg51 hg72)
    have hk79 := hb47.grown hg78 nb
    refine gv_store0 24 0 (.agg #[(.int .i64 r69.1), (.int .i64 r69.2)]) #[(.int .i64 r69.1), (.int .i64 r69.2)] hk79 (by kernel_rfl) (by kernel_rfl) (by kernel_rfl) ?_
    intro w74 hg75 hb76 hz77
    refine gv_nil <| gv_cret ?_
    have e := sj h0; subst e
    refine gv_ret (gv_done [(.string (strOf [])), (.agg #[(.int .i64 r69.1), (.int .i64 r69.2)])] rfl ⟨(by kernel_rfl), ⟨⟨b1, 0, none⟩, (by kernel_rfl), run_loadVar_row w74 b1 _ 24 _ _ _ hb76 Tryd.underlying24 rfl (by kernel_rfl)⟩, trivial⟩ ?_)
    have hB80 := bg hB45 hg78 nb
    have hlo81 : w0.heap.size ≤ b1 := lob hbe5 hB0.size
    have hB82 := bg hB80 hg75 (rowlo hlo81)
    exact ⟨grown_of_below hB82, rfl⟩
   ·replace h0 := ite_f hc68 h0
    refine gv_skip <| gv_seq <| gv_region <| gv_pureN 2 [41, 42] [(41, (.slice pa0_0 (List.length l_0) pc0_0)), (42, (.string sep_1))] (by kernel_rfl) ?_
    refine bindE h0 ?_; clear h0; intro r83 hr84 h0
    have hB85 := bg hB45 hg51 nb
    refine gv_call0 (by kernel_rfl) rfl (by kernel_rfl) enters77 (strings_Join_ok fuel pa0_0 pc0_0 l_0 sep_1 w50 (fun k => X0 k) (fun k hk => (fun k (hk : X0 k) => ltl (hX0 k hk) hB85.size) k hk) ((hpa0_0.below hB85 hX0).wide (fun k hk => hk)) r83 hr84) ?_
    rintro v88 w86 ⟨hg87, rfl⟩
    refine gv_pureN 2 [4, 44] [(4, (.string r83)), (44, (.agg #[(.int .i64 0), (.int .i64 0)]))] (by kernel_rfl) ?_
    have hg93 := (grown_trans hg51 hg87)
    have hk94 := hb47.grown hg93 nb
    refine gv_store0 24 0 (.agg #[(.int .i64 0), (.int .i64 0)]) #[(.int .i64 0), (.int .i64 0)] hk94 (by kernel_rfl) (by kernel_rfl) (by kernel_rfl) ?_
    intro w89 hg90 hb91 hz92
    refine gv_nil <| gv_cret ?_
    have e := sj h0; subst e
    refine gv_ret (gv_done [(.string r83), (.agg #[(.int .i64 0), (.int .i64 0)])] rfl ⟨(by kernel_rfl), ⟨⟨b1, 0, none⟩, (by kernel_rfl), run_loadVar_row w89 b1 _ 24 _ _ _ hb91 Tryd.underlying24 rfl (by kernel_rfl)⟩, trivial⟩ ?_)
    have hB95 := bg hB85 hg87 nb
    have hlo96 : w0.heap.size ≤ b1 := lob hbe5 hB0.size
    have hB97 := bg hB95 hg90 (rowlo hlo96)
    exact ⟨grown_of_below hB97, rfl⟩

theorem textstr_Replace_ok (fuel : Nat) (s_0 : ByteArray) (old_1 : ByteArray) (with_2 : ByteArray) (most_3 : Int) (w0 : World) (X0 : Nat → Prop) (hX0 : ∀ k, X0 k → k < w0.heap.size) {gmx : Int} (hG0 : Rd (iE .i64) w0 X0 (some ⟨0, 0, none⟩) 1 [gmx]) (hG1 : Rd bE w0 X0 (some ⟨1, 0, none⟩) 256 utf8First) (hG2 : Rd (prE (iE .u8) (iE .u8)) w0 X0 (some ⟨2, 0, none⟩) 16 utf8Acc) (r0 : (ByteArray × (Int × Int))) (h0 : textstr_Replace fuel s_0 old_1 with_2 most_3 = some r0) :
    Calls Tryd.prog 42 ([(.string s_0), (.string old_1), (.string with_2), (.int .i64 most_3)] : List Value).toArray w0 (Ret fun v w' => w0.grownBy w' none ∧ v = tup [(.string r0.1), (.agg #[(.int .i64 r0.2.1), (.int .i64 r0.2.2)])]) := by
 have hB0 : Below w0.heap.size w0 w0 := Below.refl _ _
 unfold textstr_Replace at h0
 refine calls_run Tryd.func42 rfl Tryd.ntmps42 (by kernel_rfl) ?_
 refine gv_sub [0, 1, 2, 3] (σ' := [(0, (.string s_0)), (1, (.string old_1)), (2, (.string with_2)), (3, (.int .i64 most_3))]) (by kernel_rfl) ?_
 refine gv_seq <| gv_region <| gv_pureN 1 [8] [] (by kernel_rfl) ?_
 refine gv_new0 (fun b => .pointer (some ⟨b, 0, none⟩)) #[(.int .i64 0), (.int .i64 0)] 24 (by kernel_rfl) (by kernel_rfl) ?_
 intro b1 w2 hg3 hb4 hbe5 hz6
 refine gv_nil <| gv_seq <| gv_seq <| gv_region <| gv_pureN 3 [12, 13, 14] [(12, (.string s_0)), (13, (.string old_1)), (14, (.string with_2))] (by kernel_rfl) ?_
 refine gv_new0 (fun b => .slice (some ⟨b, 0, none⟩) 3 3) #[(.string s_0), (.string old_1), (.string with_2)] 9 (by kernel_rfl) (by kernel_rfl) ?_
 intro b7 w8 hg9 hb10 hbe11 hz12
 have ho13 : Gv.Own sE 9 w8 (fun _ => False) (some ⟨b7, 0, none⟩) 3 ([s_0, old_1, with_2] : List ByteArray) := Box.ownE hb10 ⟨[(.string s_0)], [(.string old_1), (.string with_2)], rfl, rfl, ⟨[(.string old_1)], [(.string with_2)], rfl, rfl, ⟨[(.string with_2)], [], rfl, rfl, rfl⟩⟩⟩ (show 3 ≤ maxLen by decide) (fun h => h)
 have hB18 := bg hB0 hg3 nb
 have hl14 : ∀ g, blk (some ⟨b7, 0, none⟩) = some g → w0.heap.size ≤ g := loo hbe11 hB18.size
 refine bindE h0 ?_; clear h0; intro r19 hr20 h0
 have hB21 := bg hB18 hg9 nb
 refine gv_call0 (by kernel_rfl) rfl (by kernel_rfl) enters58 (textstr_check_ok fuel (some ⟨b7, 0, none⟩) 3 ([s_0, old_1, with_2] : List ByteArray) w8 (fun k => (fun k => blk (some ⟨b7, 0, none⟩) = some k) k ∨ X0 k ∨ X0 k) (fun k hk => (hk).elim (fun h => (fun k (hk : blk (some ⟨b7, 0, none⟩) = some k) => ho13.lt k hk) k h) (fun h => (h).elim (fun h => (fun k (hk : X0 k) => ltl (hX0 k hk) hB21.size) k h) (fun h => (fun k (hk : X0 k) => ltl (hX0 k hk) hB21.size) k h))) ((ho13.rd (Y := fun k => blk (some ⟨b7, 0, none⟩) = some k) (fun _ h => h.elim) (fun g e => e)).wide (fun k hk => (.inl hk))) ((hG1.below hB21 hX0).wide (fun k hk => (.inr (.inl hk)))) ((hG2.below hB21 hX0).wide (fun k hk => (.inr (.inr hk)))) r19 hr20) ?_
 rintro v24 w22 ⟨hg23, rfl⟩
 refine gv_new0 (fun b => .pointer (some ⟨b, 0, none⟩)) #[(.int .i64 0), (.int .i64 0)] 24 (by kernel_rfl) (by kernel_rfl) ?_
 intro b25 w26 hg27 hb28 hbe29 hz30
 refine gv_store0 24 0 (.agg #[(.int .i64 r19.1), (.int .i64 r19.2)]) #[(.int .i64 r19.1), (.int .i64 r19.2)] hb28 (by kernel_rfl) (by kernel_rfl) (by kernel_rfl) ?_
 intro w31 hg32 hb33 hz34
 refine gv_nil <| gv_seq <| gv_region <| gv_pureN 1 [17] [(17, (bp b25))] (by kernel_rfl) ?_
 refine gv_load (t := 3) (A := ⟨b25, 0, none⟩) (.int .i64 r19.1) [] (fun e => by cases e) rfl rfl rfl (by kernel_rfl) (by kernel_rfl) (by kernel_rfl) (inw0 (hb33.cell 0 rfl)) rfl ?_
 refine gv_pureN 1 [19] [(19, (.bool (r19.1 != 0)))] (by kernel_rfl) ?_
 refine gv_nil <| gv_cond (b := (r19.1 != 0)) (by kernel_rfl) (fun hc35 => ?_) (fun hc35 => ?_)
 ·replace h0 := ite_t hc35 h0
  refine gv_seq <| gv_drawA (by kernel_rfl) ?_
  intro w36 hg37
  refine gv_pre [1] (bA 3 [1]) 2 (by kernel_rfl) (by kernel_rfl) ?_
  refine gv_pureN 1 [8] [(8, (.string (strOf [])))] (by kernel_rfl) ?_
  refine gv_nil <| gv_goA ?_
  refine gv_stage (Cls w36 []) [0, 1] [(0, some true)] (bA 3 [0, 1]) 1 (by kernel_rfl) (by kernel_rfl) (Cls.refl _ _) ?_
  have hC38 := Cls.refl w36 []
  have hk39 := hb33.grown hg37 nb
  refine gv_loadBox (t := 24) (b := b25) (t' := 24) (fr := (0, 0)) #[(.int .i64 r19.1), (.int .i64 r19.2)] [] (fun e => by cases e) rfl rfl rfl (by kernel_rfl) (by kernel_rfl) (by kernel_rfl) (by kernel_rfl) (inw1 fun w' hC' => (hC'.box hk39 nm_nil)) rfl ?_
  refine gv_nil <| gv_goA ?_
  refine gv_stage (fun _ => True) [0, 1, 2] [(2, some false)] (bA 3 [0, 1, 2]) 0 (by kernel_rfl) (by kernel_rfl) trivial ?_
  have hg44 := (grown_trans (grown_trans hg9 hg23) hg27)
  have hg45 := (grown_trans hg9 hg23)
  have hk46 := hb4.grown hg45 nb
  have lt47 := ltl ((ltb hk46) _ rfl) ((lowb hbe29) _ rfl)
  have hk48 := ((hb4.grown hg44 nb).grown hg32 (rowne (ng lt47))).grown hg37 nb
  refine gv_store (t := 24) (b := b1) (off := 0) (v := (.agg #[(.int .i64 r19.1), (.int .i64 r19.2)])) (t' := 24) (cs := #[(.int .i64 0), (.int .i64 0)]) #[(.int .i64 r19.1), (.int .i64 r19.2)] (by decide) rfl rfl (by kernel_rfl) (by kernel_rfl) (by kernel_rfl) (by intro u hu; simp [Value.cells] at hu; rcases hu with rfl | rfl <;> rfl) (show 0 + 2 ≤ 2 by decide) (by rfl) hk48 ?_
  intro w40 hg41 hb42 hz43
  refine ⟨(fun _ => trivial), ?_⟩
  refine gv_nil <| gv_goA ?_
  refine gv_stageE (by kernel_rfl) ?_
  refine gv_cret ?_
  have e := sj h0; subst e
  refine gv_ret (gv_done [(.string (strOf [])), (.agg #[(.int .i64 r19.1), (.int .i64 r19.2)])] rfl ⟨(by kernel_rfl), ⟨⟨b1, 0, none⟩, (by kernel_rfl), run_loadVar_row w40 b1 _ 24 _ _ _ hb42 Tryd.underlying24 rfl (by kernel_rfl)⟩, trivial⟩ ?_)
  have hg49 := (grown_trans hg23 hg27)
  have hB50 := bg hB21 hg49 nb
  have hB51 := bg hB21 hg23 nb
  have hlo52 : w0.heap.size ≤ b25 := lob hbe29 hB51.size
  have hB53 := bg hB50 hg32 (rowlo hlo52)
  have hB54 := bg hB53 hg37 nb
  have hlo55 : w0.heap.size ≤ b1 := lob hbe5 hB0.size
  have hB56 := bg hB54 hg41 (rowlo hlo55)
  exact ⟨grown_of_below hB56, rfl⟩
 ·replace h0 := ite_f hc35 h0
  refine gv_skip <| gv_seq <| gv_seq <| gv_region <| gv_pureN 2 [21, 22] [(22, (.bool (old_1.toList == (strOf []).toList)))] (by kernel_rfl) ?_
  refine gv_nil <| gv_cond (b := (old_1.toList == (strOf []).toList)) (by kernel_rfl) (fun hc57 => ?_) (fun hc57 => ?_)
  ·replace h0 := ite_t hc57 h0
   refine gv_seq <| gv_region <| bindE h0 ?_; clear h0; intro r58 hr59 h0
   refine gv_call0 (by kernel_rfl) rfl (by kernel_rfl) enters56 (textstr_at_ok fuel 10 (-2) w31  r58 hr59) ?_
   rintro v62 w60 ⟨hg61, rfl⟩
   clear hr59 hc57 hc35 hz34 hb33 hz30 hb28 hr20 hl14 hB18 ho13 hz12 hbe11 hb10 hz6 hg3
   refine gv_pureN 1 [8] [(8, (.string (strOf [])))] (by kernel_rfl) ?_
   have hg67 := (grown_trans (grown_trans hg9 hg23) hg27)
   have hg68 := (grown_trans hg9 hg23)
   have hk69 := hb4.grown hg68 nb
   have lt70 := ltl ((ltb hk69) _ rfl) ((lowb hbe29) _ rfl)
   have hk71 := ((hb4.grown hg67 nb).grown hg32 (rowne (ng lt70))).grown hg61 nb
   refine gv_store0 24 0 (.agg #[(.int .i64 r58.1), (.int .i64 r58.2)]) #[(.int .i64 r58.1), (.int .i64 r58.2)] hk71 (by kernel_rfl) (by kernel_rfl) (by kernel_rfl) ?_
   intro w63 hg64 hb65 hz66
   refine gv_nil <| gv_cret ?_
   have e := sj h0; subst e
   refine gv_ret (gv_done [(.string (strOf [])), (.agg #[(.int .i64 r58.1), (.int .i64 r58.2)])] rfl ⟨(by kernel_rfl), ⟨⟨b1, 0, none⟩, (by kernel_rfl), run_loadVar_row w63 b1 _ 24 _ _ _ hb65 Tryd.underlying24 rfl (by kernel_rfl)⟩, trivial⟩ ?_)
   have hg72 := (grown_trans hg23 hg27)
   have hB73 := bg hB21 hg72 nb
   have hB74 := bg hB21 hg23 nb
   have hlo75 : w0.heap.size ≤ b25 := lob hbe29 hB74.size
   have hB76 := bg hB73 hg32 (rowlo hlo75)
   have hB77 := bg hB76 hg61 nb
   have hlo78 : w0.heap.size ≤ b1 := lob hbe5 hB0.size
   have hB79 := bg hB77 hg64 (rowlo hlo78)
   exact ⟨grown_of_below hB79, rfl⟩
  ·replace h0 := ite_f hc57 h0
   refine gv_skip <| gv_seq <| gv_region <| gv_pureN 2 [24, 25] [(24, (.string s_0)), (25, (.string old_1))] (by kernel_rfl) ?_
   refine bindE h0 ?_; clear h0; intro r80 hr81 h0
   have hg82 := (grown_trans hg23 hg27)
   have hB83 := bg hB21 hg82 nb
   have hB84 := bg hB21 hg23 nb
   have hlo85 : w0.heap.size ≤ b25 := lob hbe29 hB84.size
   have hB86 := bg hB83 hg32 (rowlo hlo85)
   refine gv_call0 (by kernel_rfl) rfl (by kernel_rfl) enters74 (strings_CountA_ok fuel s_0 old_1 w31 (fun k => X0 k) (fun k hk => (fun k (hk : X0 k) => ltl (hX0 k hk) hB86.size) k hk) ((hG0.below hB86 hX0).wide (fun k hk => hk)) r80 hr81) ?_
   rintro v89 w87 ⟨hg88, rfl⟩
   refine gv_pureN 1 [11] [(11, (.int .i64 r80))] (by kernel_rfl) ?_
   refine gv_sub [0, 1, 2, 3, 9, 11] (σ' := [(0, (.string s_0)), (1, (.string old_1)), (2, (.string with_2)), (3, (.int .i64 most_3)), (9, (bp b1)), (11, (.int .i64 r80))]) (by kernel_rfl) ?_
   refine gv_nil <| gv_seq <| gv_seq <| gv_region <| gv_pureN 2 [27, 28] [(28, (.bool (decide (most_3 ≥ 0))))] (by kernel_rfl) ?_
   refine gv_nil <| bindE h0 ?_; clear h0; intro j90 h1 h0
   refine gv_cut_code (J := fun a w91 => Below w0.heap.size w0 w91 ∧ w87.heap.size ≤ w91.heap.size ∧ Box w91 b1 24 #[(.int .i64 0), (.int .i64 0)] ∧ a.defers = [] ∧ a.tmps.size = 50 ∧ Ok [(0, (.string s_0)), (1, (.string old_1)), (2, (.string with_2)), (9, (bp b1)), (11, (.int .i64 j90))] a.tmps) ?_ ?_
   ·skip
    refine gv_cond (b := (decide (most_3 ≥ 0))) (by kernel_rfl) (fun hc92 => ?_) (fun hc92 => ?_)
    ·replace h1 := ite_t hc92 h1
     refine gv_region <| gv_pureN 4 [11, 29, 30, 31] [(11, (.int .i64 (if most_3 < r80 then most_3 else r80)))] (by kernel_rfl) ?_
     refine gv_nil ?_
     have e := sj h1; subst e
     refine gv_goal fun a hd hs hok => ?_
     have hB93 := bg hB86 hg88 nb
     have hg94 := (grown_trans hg9 hg82)
     have hg95 := (grown_trans hg9 hg23)
     have hk96 := hb4.grown hg95 nb
     have lt97 := ltl ((ltb hk96) _ rfl) ((lowb hbe29) _ rfl)
     have hk98 := ((hb4.grown hg94 nb).grown hg32 (rowne (ng lt97))).grown hg88 nb
     exact ⟨hB93, (Nat.le_refl _), hk98, hd, hs, ok_pick [0, 1, 2, 9, 11] hok (by kernel_rfl)⟩
    ·replace h1 := ite_f hc92 h1
     refine gv_skip ?_
     have e := sj h1; subst e
     refine gv_goal fun a hd hs hok => ?_
     have hB99 := bg hB86 hg88 nb
     have hg100 := (grown_trans hg9 hg82)
     have hg101 := (grown_trans hg9 hg23)
     have hk102 := hb4.grown hg101 nb
     have lt103 := ltl ((ltb hk102) _ rfl) ((lowb hbe29) _ rfl)
     have hk104 := ((hb4.grown hg100 nb).grown hg32 (rowne (ng lt103))).grown hg88 nb
     exact ⟨hB99, (Nat.le_refl _), hk104, hd, hs, ok_pick [0, 1, 2, 9, 11] hok (by kernel_rfl)⟩
   ·rintro a w91 ⟨hB105, hz106, hb107, hd, hs, hok⟩
    refine gv_in ?_ hd hs hok
    clear hd hs hok
    clear hz106 hg88 hB86 hlo85 hB84 hB83 hg82 hr81 hc57 hc35 hz34 hb33 hg32 hz30 hbe29 hb28 hg27 hg23 hB21 hr20 hl14 hB18 ho13 hz12 hbe11 hb10 hg9 hz6 hb4 hg3
    refine gv_seq <| gv_seq <| gv_region <| gv_pureN 11 [32, 33, 34, 35, 36, 37, 38, 39, 40, 41, 42] [(42, (.bool (decide ((IntKind.i64.wrap (((ByteArray.size s_0 : Nat) : Int) + (IntKind.i64.wrap (j90 * (IntKind.i64.wrap (((ByteArray.size with_2 : Nat) : Int) - ((ByteArray.size old_1 : Nat) : Int))))))) > 4000))))] (by kernel_rfl) ?_
    refine gv_nil <| gv_cond (b := (decide ((IntKind.i64.wrap (((ByteArray.size s_0 : Nat) : Int) + (IntKind.i64.wrap (j90 * (IntKind.i64.wrap (((ByteArray.size with_2 : Nat) : Int) - ((ByteArray.size old_1 : Nat) : Int))))))) > 4000))) (by kernel_rfl) (fun hc108 => ?_) (fun hc108 => ?_)
    ·replace h0 := ite_t hc108 h0
     refine gv_seq <| gv_region <| bindE h0 ?_; clear h0; intro r109 hr110 h0
     refine gv_call0 (by kernel_rfl) rfl (by kernel_rfl) enters56 (textstr_at_ok fuel 3 (-1) w91  r109 hr110) ?_
     rintro v113 w111 ⟨hg112, rfl⟩
     refine gv_pureN 1 [8] [(8, (.string (strOf [])))] (by kernel_rfl) ?_
     have hk118 := hb107.grown hg112 nb
     refine gv_store0 24 0 (.agg #[(.int .i64 r109.1), (.int .i64 r109.2)]) #[(.int .i64 r109.1), (.int .i64 r109.2)] hk118 (by kernel_rfl) (by kernel_rfl) (by kernel_rfl) ?_
     intro w114 hg115 hb116 hz117
     refine gv_nil <| gv_cret ?_
     have e := sj h0; subst e
     refine gv_ret (gv_done [(.string (strOf [])), (.agg #[(.int .i64 r109.1), (.int .i64 r109.2)])] rfl ⟨(by kernel_rfl), ⟨⟨b1, 0, none⟩, (by kernel_rfl), run_loadVar_row w114 b1 _ 24 _ _ _ hb116 Tryd.underlying24 rfl (by kernel_rfl)⟩, trivial⟩ ?_)
     have hB119 := bg hB105 hg112 nb
     have hlo120 : w0.heap.size ≤ b1 := lob hbe5 hB0.size
     have hB121 := bg hB119 hg115 (rowlo hlo120)
     exact ⟨grown_of_below hB121, rfl⟩
    ·replace h0 := ite_f hc108 h0
     refine gv_skip <| gv_seq <| gv_region <| gv_pureN 4 [44, 45, 46, 47] [(44, (.string s_0)), (45, (.string old_1)), (46, (.string with_2)), (47, (.int .i64 j90))] (by kernel_rfl) ?_
     refine bindE h0 ?_; clear h0; intro r122 hr123 h0
     refine gv_call0 (by kernel_rfl) rfl (by kernel_rfl) enters78 (strings_Replace_ok fuel s_0 old_1 with_2 j90 w91 (fun k => X0 k ∨ X0 k ∨ X0 k) (fun k hk => (hk).elim (fun h => (fun k (hk : X0 k) => ltl (hX0 k hk) hB105.size) k h) (fun h => (h).elim (fun h => (fun k (hk : X0 k) => ltl (hX0 k hk) hB105.size) k h) (fun h => (fun k (hk : X0 k) => ltl (hX0 k hk) hB105.size) k h))) ((hG0.below hB105 hX0).wide (fun k hk => (.inl hk))) ((hG1.below hB105 hX0).wide (fun k hk => (.inr (.inl hk)))) ((hG2.below hB105 hX0).wide (fun k hk => (.inr (.inr hk)))) r122 hr123) ?_
     rintro v126 w124 ⟨hg125, rfl⟩
     refine gv_pureN 2 [8, 49] [(8, (.string r122)), (49, (.agg #[(.int .i64 0), (.int .i64 0)]))] (by kernel_rfl) ?_
     have hk131 := hb107.grown hg125 nb
     refine gv_store0 24 0 (.agg #[(.int .i64 0), (.int .i64 0)]) #[(.int .i64 0), (.int .i64 0)] hk131 (by kernel_rfl) (by kernel_rfl) (by kernel_rfl) ?_
     intro w127 hg128 hb129 hz130
     refine gv_nil <| gv_cret ?_
     have e := sj h0; subst e
     refine gv_ret (gv_done [(.string r122), (.agg #[(.int .i64 0), (.int .i64 0)])] rfl ⟨(by kernel_rfl), ⟨⟨b1, 0, none⟩, (by kernel_rfl), run_loadVar_row w127 b1 _ 24 _ _ _ hb129 Tryd.underlying24 rfl (by kernel_rfl)⟩, trivial⟩ ?_)
     have hB132 := bg hB105 hg125 nb
     have hlo133 : w0.heap.size ≤ b1 := lob hbe5 hB0.size
     have hB134 := bg hB132 hg128 (rowlo hlo133)
     exact ⟨grown_of_below hB134, rfl⟩

theorem textstr_Repeat_ok (fuel : Nat) (s_0 : ByteArray) (n_1 : Int) (w0 : World) (X0 : Nat → Prop) (hX0 : ∀ k, X0 k → k < w0.heap.size) (hG1 : Rd bE w0 X0 (some ⟨1, 0, none⟩) 256 utf8First) (hG2 : Rd (prE (iE .u8) (iE .u8)) w0 X0 (some ⟨2, 0, none⟩) 16 utf8Acc) (r0 : (ByteArray × (Int × Int))) (h0 : textstr_Repeat fuel s_0 n_1 = some r0) :
    Calls Tryd.prog 43 ([(.string s_0), (.int .i64 n_1)] : List Value).toArray w0 (Ret fun v w' => w0.grownBy w' none ∧ v = tup [(.string r0.1), (.agg #[(.int .i64 r0.2.1), (.int .i64 r0.2.2)])]) := by
 have hB0 : Below w0.heap.size w0 w0 := Below.refl _ _
 unfold textstr_Repeat at h0
 refine calls_run Tryd.func43 rfl Tryd.ntmps43 (by kernel_rfl) ?_
 refine gv_sub [0, 1] (σ' := [(0, (.string s_0)), (1, (.int .i64 n_1))]) (by kernel_rfl) ?_
 refine gv_seq <| gv_region <| gv_pureN 1 [4] [] (by kernel_rfl) ?_
 refine gv_new0 (fun b => .pointer (some ⟨b, 0, none⟩)) #[(.int .i64 0), (.int .i64 0)] 24 (by kernel_rfl) (by kernel_rfl) ?_
 intro b1 w2 hg3 hb4 hbe5 hz6
 refine gv_nil <| gv_seq <| gv_seq <| gv_region <| gv_pureN 1 [7] [(7, (.string s_0))] (by kernel_rfl) ?_
 refine gv_new0 (fun b => .slice (some ⟨b, 0, none⟩) 1 1) #[(.string s_0)] 9 (by kernel_rfl) (by kernel_rfl) ?_
 intro b7 w8 hg9 hb10 hbe11 hz12
 have ho13 : Gv.Own sE 9 w8 (fun _ => False) (some ⟨b7, 0, none⟩) 1 ([s_0] : List ByteArray) := Box.ownE hb10 ⟨[(.string s_0)], [], rfl, rfl, rfl⟩ (show 1 ≤ maxLen by decide) (fun h => h)
 have hB18 := bg hB0 hg3 nb
 have hl14 : ∀ g, blk (some ⟨b7, 0, none⟩) = some g → w0.heap.size ≤ g := loo hbe11 hB18.size
 refine bindE h0 ?_; clear h0; intro r19 hr20 h0
 have hB21 := bg hB18 hg9 nb
 refine gv_call0 (by kernel_rfl) rfl (by kernel_rfl) enters58 (textstr_check_ok fuel (some ⟨b7, 0, none⟩) 1 ([s_0] : List ByteArray) w8 (fun k => (fun k => blk (some ⟨b7, 0, none⟩) = some k) k ∨ X0 k ∨ X0 k) (fun k hk => (hk).elim (fun h => (fun k (hk : blk (some ⟨b7, 0, none⟩) = some k) => ho13.lt k hk) k h) (fun h => (h).elim (fun h => (fun k (hk : X0 k) => ltl (hX0 k hk) hB21.size) k h) (fun h => (fun k (hk : X0 k) => ltl (hX0 k hk) hB21.size) k h))) ((ho13.rd (Y := fun k => blk (some ⟨b7, 0, none⟩) = some k) (fun _ h => h.elim) (fun g e => e)).wide (fun k hk => (.inl hk))) ((hG1.below hB21 hX0).wide (fun k hk => (.inr (.inl hk)))) ((hG2.below hB21 hX0).wide (fun k hk => (.inr (.inr hk)))) r19 hr20) ?_
 rintro v24 w22 ⟨hg23, rfl⟩
 refine gv_new0 (fun b => .pointer (some ⟨b, 0, none⟩)) #[(.int .i64 0), (.int .i64 0)] 24 (by kernel_rfl) (by kernel_rfl) ?_
 intro b25 w26 hg27 hb28 hbe29 hz30
 refine gv_store0 24 0 (.agg #[(.int .i64 r19.1), (.int .i64 r19.2)]) #[(.int .i64 r19.1), (.int .i64 r19.2)] hb28 (by kernel_rfl) (by kernel_rfl) (by kernel_rfl) ?_
 intro w31 hg32 hb33 hz34
 refine gv_nil <| gv_seq <| gv_region <| gv_pureN 1 [10] [(10, (bp b25))] (by kernel_rfl) ?_
 refine gv_load (t := 3) (A := ⟨b25, 0, none⟩) (.int .i64 r19.1) [] (fun e => by cases e) rfl rfl rfl (by kernel_rfl) (by kernel_rfl) (by kernel_rfl) (inw0 (hb33.cell 0 rfl)) rfl ?_
 refine gv_pureN 1 [12] [(12, (.bool (r19.1 != 0)))] (by kernel_rfl) ?_
 refine gv_nil <| gv_cond (b := (r19.1 != 0)) (by kernel_rfl) (fun hc35 => ?_) (fun hc35 => ?_)
 ·replace h0 := ite_t hc35 h0
  refine gv_seq <| gv_drawA (by kernel_rfl) ?_
  intro w36 hg37
  refine gv_pre [1] (bA 3 [1]) 2 (by kernel_rfl) (by kernel_rfl) ?_
  refine gv_pureN 1 [4] [(4, (.string (strOf [])))] (by kernel_rfl) ?_
  refine gv_nil <| gv_goA ?_
  refine gv_stage (Cls w36 []) [0, 1] [(0, some true)] (bA 3 [0, 1]) 1 (by kernel_rfl) (by kernel_rfl) (Cls.refl _ _) ?_
  have hC38 := Cls.refl w36 []
  have hk39 := hb33.grown hg37 nb
  refine gv_loadBox (t := 24) (b := b25) (t' := 24) (fr := (0, 0)) #[(.int .i64 r19.1), (.int .i64 r19.2)] [] (fun e => by cases e) rfl rfl rfl (by kernel_rfl) (by kernel_rfl) (by kernel_rfl) (by kernel_rfl) (inw1 fun w' hC' => (hC'.box hk39 nm_nil)) rfl ?_
  refine gv_nil <| gv_goA ?_
  refine gv_stage (fun _ => True) [0, 1, 2] [(2, some false)] (bA 3 [0, 1, 2]) 0 (by kernel_rfl) (by kernel_rfl) trivial ?_
  have hg44 := (grown_trans (grown_trans hg9 hg23) hg27)
  have hg45 := (grown_trans hg9 hg23)
  have hk46 := hb4.grown hg45 nb
  have lt47 := ltl ((ltb hk46) _ rfl) ((lowb hbe29) _ rfl)
  have hk48 := ((hb4.grown hg44 nb).grown hg32 (rowne (ng lt47))).grown hg37 nb
  refine gv_store (t := 24) (b := b1) (off := 0) (v := (.agg #[(.int .i64 r19.1), (.int .i64 r19.2)])) (t' := 24) (cs := #[(.int .i64 0), (.int .i64 0)]) #[(.int .i64 r19.1), (.int .i64 r19.2)] (by decide) rfl rfl (by kernel_rfl) (by kernel_rfl) (by kernel_rfl) (by intro u hu; simp [Value.cells] at hu; rcases hu with rfl | rfl <;> rfl) (show 0 + 2 ≤ 2 by decide) (by rfl) hk48 ?_
  intro w40 hg41 hb42 hz43
  refine ⟨(fun _ => trivial), ?_⟩
  refine gv_nil <| gv_goA ?_
  refine gv_stageE (by kernel_rfl) ?_
  refine gv_cret ?_
  have e := sj h0; subst e
  refine gv_ret (gv_done [(.string (strOf [])), (.agg #[(.int .i64 r19.1), (.int .i64 r19.2)])] rfl ⟨(by kernel_rfl), ⟨⟨b1, 0, none⟩, (by kernel_rfl), run_loadVar_row w40 b1 _ 24 _ _ _ hb42 Tryd.underlying24 rfl (by kernel_rfl)⟩, trivial⟩ ?_)
  have hg49 := (grown_trans hg23 hg27)
  have hB50 := bg hB21 hg49 nb
  have hB51 := bg hB21 hg23 nb
  have hlo52 : w0.heap.size ≤ b25 := lob hbe29 hB51.size
  have hB53 := bg hB50 hg32 (rowlo hlo52)
  have hB54 := bg hB53 hg37 nb
  have hlo55 : w0.heap.size ≤ b1 := lob hbe5 hB0.size
  have hB56 := bg hB54 hg41 (rowlo hlo55)
  exact ⟨grown_of_below hB56, rfl⟩
 ·replace h0 := ite_f hc35 h0
  refine gv_skip <| gv_seq <| gv_seq <| gv_region <| gv_cut_ops (J := fun a w57 => w31 = w57 ∧ a.defers = [] ∧ a.tmps.size = 31 ∧ Ok [(0, (.string s_0)), (1, (.int .i64 n_1)), (5, (bp b1)), (19, (.bool ((decide (n_1 ≤ 0)) || (s_0.toList == (strOf []).toList))))] a.tmps) ?_ ?_
  ·skip
   refine gv_pureN 3 [14, 15, 16] [(16, (.bool (decide (n_1 ≤ 0))))] (by kernel_rfl) ?_
   refine gv_split (s := 16) (g := (decide (n_1 ≤ 0))) (by kernel_rfl) (fun hc58 => ?_) (fun hc58 => ?_)
   ·skip
    refine gv_pureN 3 [17, 18, 19] [(19, (.bool true))] (by kernel_rfl) ?_
    refine gv_nil <| gv_sub [0, 1, 5, 19] (σ' := [(0, (.string s_0)), (1, (.int .i64 n_1)), (5, (bp b1)), (19, (.bool true))]) (by kernel_rfl) ?_
    refine gv_goal fun a hd hs hok => ⟨rfl, hd, hs, ?_⟩
    obtain ⟨q0, q1, q5, q19, _⟩ := hok
    exact ⟨q0, q1, q5, (by rw [hc58]; exact q19), trivial⟩
   ·skip
    refine gv_pureN 3 [17, 18, 19] [(19, (.bool (s_0.toList == (strOf []).toList)))] (by kernel_rfl) ?_
    refine gv_nil <| gv_sub [0, 1, 5, 19] (σ' := [(0, (.string s_0)), (1, (.int .i64 n_1)), (5, (bp b1)), (19, (.bool (s_0.toList == (strOf []).toList)))]) (by kernel_rfl) ?_
    refine gv_goal fun a hd hs hok => ⟨rfl, hd, hs, ?_⟩
    obtain ⟨q0, q1, q5, q19, _⟩ := hok
    exact ⟨q0, q1, q5, (by rw [hc58]; exact q19), trivial⟩
  ·rintro a w57 ⟨e, hd, hs, hok⟩; subst e
   refine gv_in ?_ hd hs hok
   clear hd hs hok
   refine gv_cond (b := ((decide (n_1 ≤ 0)) || (s_0.toList == (strOf []).toList))) (by kernel_rfl) (fun hc59 => ?_) (fun hc59 => ?_)
   ·replace h0 := ite_t hc59 h0
    refine gv_seq <| gv_region <| gv_pureN 2 [4, 20] [(4, (.string (strOf []))), (20, (.agg #[(.int .i64 0), (.int .i64 0)]))] (by kernel_rfl) ?_
    have hg64 := (grown_trans (grown_trans hg9 hg23) hg27)
    have hg65 := (grown_trans hg9 hg23)
    have hk66 := hb4.grown hg65 nb
    have lt67 := ltl ((ltb hk66) _ rfl) ((lowb hbe29) _ rfl)
    have hk68 := (hb4.grown hg64 nb).grown hg32 (rowne (ng lt67))
    refine gv_store0 24 0 (.agg #[(.int .i64 0), (.int .i64 0)]) #[(.int .i64 0), (.int .i64 0)] hk68 (by kernel_rfl) (by kernel_rfl) (by kernel_rfl) ?_
    intro w60 hg61 hb62 hz63
    clear hz63 hk68 lt67 hk66 hg65 hg64 hc59 hc35 hz34 hb33 hz30 hb28 hr20 hl14 hB18 ho13 hz12 hbe11 hb10 hg9 hz6 hb4 hg3
    refine gv_nil <| gv_cret ?_
    have e := sj h0; subst e
    refine gv_ret (gv_done [(.string (strOf [])), (.agg #[(.int .i64 0), (.int .i64 0)])] rfl ⟨(by kernel_rfl), ⟨⟨b1, 0, none⟩, (by kernel_rfl), run_loadVar_row w60 b1 _ 24 _ _ _ hb62 Tryd.underlying24 rfl (by kernel_rfl)⟩, trivial⟩ ?_)
    have hg69 := (grown_trans hg23 hg27)
    have hB70 := bg hB21 hg69 nb
    have hB71 := bg hB21 hg23 nb
    have hlo72 : w0.heap.size ≤ b25 := lob hbe29 hB71.size
    have hB73 := bg hB70 hg32 (rowlo hlo72)
    have hlo74 : w0.heap.size ≤ b1 := lob hbe5 hB0.size
    have hB75 := bg hB73 hg61 (rowlo hlo74)
    exact ⟨grown_of_below hB75, rfl⟩
   ·replace h0 := ite_f hc59 h0
    refine gv_skip <| gv_seq <| gv_seq <| gv_region <| gv_pureN 3 [21, 22, 23] [(21, (.int .i64 n_1)), (23, (.int .i64 ((ByteArray.size s_0 : Nat) : Int)))] (by kernel_rfl) ?_
    refine bindE h0 ?_; clear h0; intro _ hx76 h0
    refine gv_quo (t := 3) (kk := .i64) (x := 4000) (y := ((ByteArray.size s_0 : Nat) : Int)) [] (fun e => by cases e) rfl rfl rfl (by kernel_rfl) (by kernel_rfl) (nz_spec hx76) rfl ?_
    refine gv_pureN 1 [25] [(25, (.bool (decide (n_1 > (IntKind.i64.wrap ((4000 : Int).tdiv ((ByteArray.size s_0 : Nat) : Int)))))))] (by kernel_rfl) ?_
    refine gv_nil <| gv_cond (b := (decide (n_1 > (IntKind.i64.wrap ((4000 : Int).tdiv ((ByteArray.size s_0 : Nat) : Int)))))) (by kernel_rfl) (fun hc77 => ?_) (fun hc77 => ?_)
    ·replace h0 := ite_t hc77 h0
     refine gv_seq <| gv_region <| bindE h0 ?_; clear h0; intro r78 hr79 h0
     refine gv_call0 (by kernel_rfl) rfl (by kernel_rfl) enters56 (textstr_at_ok fuel 3 (-1) w31  r78 hr79) ?_
     rintro v82 w80 ⟨hg81, rfl⟩
     refine gv_pureN 1 [4] [(4, (.string (strOf [])))] (by kernel_rfl) ?_
     refine gv_sub [4, 5, 26] (σ' := [(4, (.string (strOf []))), (5, (bp b1)), (26, (.agg #[(.int .i64 r78.1), (.int .i64 r78.2)]))]) (by kernel_rfl) ?_
     have hg87 := (grown_trans (grown_trans hg9 hg23) hg27)
     have hg88 := (grown_trans hg9 hg23)
     have hk89 := hb4.grown hg88 nb
     have lt90 := ltl ((ltb hk89) _ rfl) ((lowb hbe29) _ rfl)
     have hk91 := ((hb4.grown hg87 nb).grown hg32 (rowne (ng lt90))).grown hg81 nb
     refine gv_store0 24 0 (.agg #[(.int .i64 r78.1), (.int .i64 r78.2)]) #[(.int .i64 r78.1), (.int .i64 r78.2)] hk91 (by kernel_rfl) (by kernel_rfl) (by kernel_rfl) ?_
     intro w83 hg84 hb85 hz86
     refine gv_nil <| gv_cret ?_
     have e := sj h0; subst e
     refine gv_ret (gv_done [(.string (strOf [])), (.agg #[(.int .i64 r78.1), (.int .i64 r78.2)])] rfl ⟨(by kernel_rfl), ⟨⟨b1, 0, none⟩, (by kernel_rfl), run_loadVar_row w83 b1 _ 24 _ _ _ hb85 Tryd.underlying24 rfl (by kernel_rfl)⟩, trivial⟩ ?_)
     have hg92 := (grown_trans hg23 hg27)
     have hB93 := bg hB21 hg92 nb
     have hB94 := bg hB21 hg23 nb
     have hlo95 : w0.heap.size ≤ b25 := lob hbe29 hB94.size
     have hB96 := bg hB93 hg32 (rowlo hlo95)
     have hB97 := bg hB96 hg81 nb
     have hlo98 : w0.heap.size ≤ b1 := lob hbe5 hB0.size
     have hB99 := bg hB97 hg84 (rowlo hlo98)
     exact ⟨grown_of_below hB99, rfl⟩
    ·replace h0 := ite_f hc77 h0
     refine gv_skip <| gv_seq <| gv_region <| gv_pureN 2 [27, 28] [(27, (.string s_0)), (28, (.int .i64 n_1))] (by kernel_rfl) ?_
     refine gv_sub [5, 27, 28] (σ' := [(5, (bp b1)), (27, (.string s_0)), (28, (.int .i64 n_1))]) (by kernel_rfl) ?_
     refine bindE h0 ?_; clear h0; intro r100 hr101 h0
     refine gv_call0 (by kernel_rfl) rfl (by kernel_rfl) enters79 (strings_Repeat_ok fuel s_0 n_1 w31  r100 hr101) ?_
     rintro v104 w102 ⟨hg103, rfl⟩
     refine gv_pureN 2 [4, 30] [(4, (.string r100)), (30, (.agg #[(.int .i64 0), (.int .i64 0)]))] (by kernel_rfl) ?_
     have hg109 := (grown_trans (grown_trans hg9 hg23) hg27)
     have hg110 := (grown_trans hg9 hg23)
     have hk111 := hb4.grown hg110 nb
     have lt112 := ltl ((ltb hk111) _ rfl) ((lowb hbe29) _ rfl)
     have hk113 := ((hb4.grown hg109 nb).grown hg32 (rowne (ng lt112))).grown hg103 nb
     refine gv_store0 24 0 (.agg #[(.int .i64 0), (.int .i64 0)]) #[(.int .i64 0), (.int .i64 0)] hk113 (by kernel_rfl) (by kernel_rfl) (by kernel_rfl) ?_
     intro w105 hg106 hb107 hz108
     refine gv_nil <| gv_cret ?_
     have e := sj h0; subst e
     refine gv_ret (gv_done [(.string r100), (.agg #[(.int .i64 0), (.int .i64 0)])] rfl ⟨(by kernel_rfl), ⟨⟨b1, 0, none⟩, (by kernel_rfl), run_loadVar_row w105 b1 _ 24 _ _ _ hb107 Tryd.underlying24 rfl (by kernel_rfl)⟩, trivial⟩ ?_)
     have hg114 := (grown_trans hg23 hg27)
     have hB115 := bg hB21 hg114 nb
     have hB116 := bg hB21 hg23 nb
     have hlo117 : w0.heap.size ≤ b25 := lob hbe29 hB116.size
     have hB118 := bg hB115 hg32 (rowlo hlo117)
     have hB119 := bg hB118 hg103 nb
     have hlo120 : w0.heap.size ≤ b1 := lob hbe5 hB0.size
     have hB121 := bg hB119 hg106 (rowlo hlo120)
     exact ⟨grown_of_below hB121, rfl⟩

theorem ref4_FirstOf_ok (fuel : Nat) (pa0_0 : Option Addr) (pc0_0 : Nat) (l_0 : (List Int)) (most_1 : Int) (w0 : World) (X0 : Nat → Prop) (hX0 : ∀ k, X0 k → k < w0.heap.size) (hpa0_0 : Rd (iE .i64) w0 X0 pa0_0 pc0_0 l_0) (r0 : (List Int)) (h0 : ref4_FirstOf fuel l_0 most_1 = some r0) :
    Calls Tryd.prog 44 ([(.slice pa0_0 (List.length l_0) pc0_0), (.int .i64 most_1)] : List Value).toArray w0 (Ret fun v w' => w0.grownBy w' none ∧ ∃ (a0_0r : Option Addr) (c0_0r : Nat), ∃ (X0_0r : Nat → Prop), v = tup [(.slice a0_0r (List.length r0) c0_0r)] ∧ Rd (iE .i64) w' X0_0r a0_0r c0_0r r0 ∧ (∀ k, X0_0r k → k < w'.heap.size ∧ (X0 k ∨ w0.heap.size ≤ k))) := by
 have hB0 : Below w0.heap.size w0 w0 := Below.refl _ _
 unfold ref4_FirstOf at h0
 refine calls_run Tryd.func44 rfl Tryd.ntmps44 (by kernel_rfl) ?_
 refine gv_sub [0, 1] (σ' := [(0, (.slice pa0_0 (List.length l_0) pc0_0)), (1, (.int .i64 most_1))]) (by kernel_rfl) ?_
 refine gv_seq <| gv_region <| gv_pureN 1 [4] [] (by kernel_rfl) ?_
 refine gv_nil <| gv_seq <| gv_seq <| gv_region <| gv_cut_ops (J := fun a w1 => w0 = w1 ∧ a.defers = [] ∧ a.tmps.size = 17 ∧ Ok [(0, (.slice pa0_0 (List.length l_0) pc0_0)), (1, (.int .i64 most_1)), (12, (.bool ((decide (most_1 ≥ 0)) && (decide (most_1 < ((List.length l_0 : Nat) : Int))))))] a.tmps) ?_ ?_
 ·skip
  refine gv_pureN 3 [5, 6, 7] [(7, (.bool (decide (most_1 ≥ 0))))] (by kernel_rfl) ?_
  refine gv_split (s := 7) (g := (decide (most_1 ≥ 0))) (by kernel_rfl) (fun hc2 => ?_) (fun hc2 => ?_)
  ·skip
   refine gv_pureN 5 [8, 9, 10, 11, 12] [(12, (.bool (decide (most_1 < ((List.length l_0 : Nat) : Int)))))] (by kernel_rfl) ?_
   refine gv_nil <| gv_sub [0, 1, 12] (σ' := [(0, (.slice pa0_0 (List.length l_0) pc0_0)), (1, (.int .i64 most_1)), (12, (.bool (decide (most_1 < ((List.length l_0 : Nat) : Int)))))]) (by kernel_rfl) ?_
   refine gv_goal fun a hd hs hok => ⟨rfl, hd, hs, ?_⟩
   obtain ⟨q0, q1, q12, _⟩ := hok
   exact ⟨q0, q1, (by rw [hc2]; exact q12), trivial⟩
  ·skip
   refine gv_pureN 5 [8, 9, 10, 11, 12] [(12, (.bool false))] (by kernel_rfl) ?_
   refine gv_nil <| gv_sub [0, 1, 12] (σ' := [(0, (.slice pa0_0 (List.length l_0) pc0_0)), (1, (.int .i64 most_1)), (12, (.bool false))]) (by kernel_rfl) ?_
   refine gv_goal fun a hd hs hok => ⟨rfl, hd, hs, ?_⟩
   obtain ⟨q0, q1, q12, _⟩ := hok
   exact ⟨q0, q1, (by rw [hc2]; exact q12), trivial⟩
 ·rintro a w1 ⟨e, hd, hs, hok⟩; subst e
  refine gv_in ?_ hd hs hok
  clear hd hs hok
  refine gv_cond (b := ((decide (most_1 ≥ 0)) && (decide (most_1 < ((List.length l_0 : Nat) : Int))))) (by kernel_rfl) (fun hc3 => ?_) (fun hc3 => ?_)
  ·replace h0 := ite_t hc3 h0
   refine gv_seq <| gv_region <| gv_pureN 2 [13, 14] [(13, (.slice pa0_0 (List.length l_0) pc0_0)), (14, (.int .i64 most_1))] (by kernel_rfl) ?_
   refine bindE h0 ?_; clear h0; intro x4 hx5 h0
   refine gv_ssl2 (iE .i64) (t := 38) (e := 3) (xs := l_0) (a := pa0_0) (cap := pc0_0) (lo := none) (hi := (some (.int .i64 most_1))) 0 most_1 x4 (fun e => by cases e) rfl rfl rfl (by kernel_rfl) (by kernel_rfl) Tryd.underlying38 (by kernel_rfl) (.inl ⟨rfl, rfl⟩) (.inr ⟨_, rfl⟩) hx5 (hpa0_0.below hB0 hX0).1 ?_
   intro a6 c7 hsub8
   have hp9 := hsub8 _ _ hpa0_0
   refine gv_pureN 1 [4] [(4, (.slice a6 (List.length x4) c7))] (by kernel_rfl) ?_
   refine gv_nil <| gv_cret ?_
   have e := sj h0; subst e
   refine gv_ret (gv_done [(.slice a6 (List.length x4) c7)] rfl ⟨(by kernel_rfl), trivial⟩ ?_)
   exact ⟨grown_of_below hB0, a6, c7, X0, rfl, (hp9.below hB0 hX0), (fun k hk => ⟨(fun k (hk : X0 k) => ltl (hX0 k hk) hB0.size) k hk, (fun k (hk : X0 k) => Or.inl hk) k hk⟩)⟩
  ·replace h0 := ite_f hc3 h0
   refine gv_skip <| gv_seq <| gv_region <| gv_pureN 2 [4, 16] [(4, (.slice pa0_0 (List.length l_0) pc0_0))] (by kernel_rfl) ?_
   refine gv_nil <| gv_cret ?_
   have e := sj h0; subst e
   refine gv_ret (gv_done [(.slice pa0_0 (List.length l_0) pc0_0)] rfl ⟨(by kernel_rfl), trivial⟩ ?_)
   exact ⟨grown_of_below hB0, pa0_0, pc0_0, X0, rfl, (hpa0_0.below hB0 hX0), (fun k hk => ⟨(fun k (hk : X0 k) => ltl (hX0 k hk) hB0.size) k hk, (fun k (hk : X0 k) => Or.inl hk) k hk⟩)⟩

theorem ref4_Divide_ok (fuel : Nat) (pa0_0 : Option Addr) (pc0_0 : Nat) (l_0 : (List Int)) (pa1_0 : Option Addr) (pc1_0 : Nat) (places_1 : (List Int)) (length_2 : Int) (w0 : World) (X0 : Nat → Prop) (hX0 : ∀ k, X0 k → k < w0.heap.size) (hpa0_0 : Rd (iE .i64) w0 X0 pa0_0 pc0_0 l_0) (hpa1_0 : Rd (iE .i64) w0 X0 pa1_0 pc1_0 places_1) (r0 : (List ByteArray)) (h0 : ref4_Divide fuel l_0 places_1 length_2 = some r0) :
    Calls Tryd.prog 45 ([(.slice pa0_0 (List.length l_0) pc0_0), (.slice pa1_0 (List.length places_1) pc1_0), (.int .i64 length_2)] : List Value).toArray w0 (Ret fun v w' => w0.grownBy w' none ∧ ∃ (a0_0r : Option Addr) (c0_0r : Nat), v = tup [(.slice a0_0r (List.length r0) c0_0r)] ∧ Gv.Own sE 9 w' (fun _ => False) a0_0r c0_0r r0 ∧ (∀ g, blk a0_0r = some g → w0.heap.size ≤ g)) := by
 have hB0 : Below w0.heap.size w0 w0 := Below.refl _ _
 unfold ref4_Divide at h0
 refine calls_run Tryd.func45 rfl Tryd.ntmps45 (by kernel_rfl) ?_
 refine gv_sub [0, 1, 2] (σ' := [(0, (.slice pa0_0 (List.length l_0) pc0_0)), (1, (.slice pa1_0 (List.length places_1) pc1_0)), (2, (.int .i64 length_2))]) (by kernel_rfl) ?_
 refine gv_seq <| gv_region <| gv_pureN 1 [6] [] (by kernel_rfl) ?_
 refine gv_nil <| gv_seq <| gv_region <| gv_pureN 1 [7] [(7, (.slice none (List.length ([] : List ByteArray)) 0))] (by kernel_rfl) ?_
 refine gv_nil <| gv_seq <| gv_region <| gv_pureN 1 [8] [(8, (.int .i64 0))] (by kernel_rfl) ?_
 refine gv_nil <| gv_seq <| gv_seq <| gv_region <| gv_pureN 1 [9] [(9, (.int .i64 0))] (by kernel_rfl) ?_
 refine gv_nil <| bindE h0 ?_; clear h0; intro j1 h1 h0
 refine gv_cut_code (J := fun a w2 => ∃ (a7_0j : Option Addr) (c7_0j : Nat), Below w0.heap.size w0 w2 ∧ w0.heap.size ≤ w2.heap.size ∧ Gv.Own sE 9 w2 (fun _ => False) a7_0j c7_0j j1.1 ∧ (∀ g, blk a7_0j = some g → w0.heap.size ≤ g) ∧ a.defers = [] ∧ a.tmps.size = 40 ∧ Ok [(0, (.slice pa0_0 (List.length l_0) pc0_0)), (7, (.slice a7_0j (List.length j1.1) c7_0j)), (8, (.int .i64 j1.2))] a.tmps) ?_ ?_
 ·skip
  refine gv_block <| gv_loop (A := fun (s3 : ((List ByteArray) × Int × Int)) a w4 => ∃ (a7_0j : Option Addr) (c7_0j : Nat), Below w0.heap.size w0 w4 ∧ w0.heap.size ≤ w4.heap.size ∧ Gv.Own sE 9 w4 (fun _ => False) a7_0j c7_0j s3.1 ∧ (∀ g, blk a7_0j = some g → w0.heap.size ≤ g) ∧ a.defers = [] ∧ a.tmps.size = 40 ∧ Ok [(0, (.slice pa0_0 (List.length l_0) pc0_0)), (1, (.slice pa1_0 (List.length places_1) pc1_0)), (2, (.int .i64 length_2)), (7, (.slice a7_0j (List.length s3.1) c7_0j)), (8, (.int .i64 s3.2.1)), (9, (.int .i64 s3.2.2))] a.tmps) h1 ?_ ?_
  ·intro a hd hs hok
   exact ⟨none, 0, hB0, (Nat.le_refl _), (Gv.Own.nil sE 9 w0 (fun _ => False)), (fun _ h => by cases h), hd, hs, ok_pick [0, 1, 2, 7, 8, 9] hok (by kernel_rfl)⟩
  ·rintro s3 r2 h2 hR2 a w4 ⟨a7, c8, hB5, hz6, ho9, hl10, hd, hs, hok⟩
   refine gv_in ?_ hd hs hok
   clear hd hs hok
   refine gv_seq <| gv_seq <| gv_region <| gv_pureN 4 [10, 11, 12, 13] [(13, (.bool (decide (s3.2.2 < ((List.length places_1 : Nat) : Int)))))] (by kernel_rfl) ?_
   refine gv_nil <| gv_cond (b := (decide (s3.2.2 < ((List.length places_1 : Nat) : Int)))) (by kernel_rfl) (fun hc11 => ?_) (fun hc11 => ?_)
   ·replace h2 := ite_t hc11 h2
    refine gv_skip <| gv_seq <| gv_block <| gv_seq <| gv_region <| gv_pureN 5 [16, 17, 18, 19, 20] [(16, (.slice a7 (List.length s3.1) c8)), (17, (.slice pa0_0 (List.length l_0) pc0_0)), (18, (.int .i64 s3.2.1)), (19, (.slice pa1_0 (List.length places_1) pc1_0)), (20, (.int .i64 s3.2.2))] (by kernel_rfl) ?_
    refine bindE h2 ?_; clear h2; intro x12 hx13 h2
    refine gv_idxaddr (t := 38) (e := 3) (a := pa1_0) (len := List.length places_1) (cap := pc1_0) (kk := .i64) (i := s3.2.2) (sz := 1) [] (fun e => by cases e) rfl rfl rfl (by kernel_rfl) (by kernel_rfl) Tryd.underlying38 (by kernel_rfl) ((hpa1_0.below hB5 hX0).has hx13) (idx_spec hx13).1 (idx_spec hx13).2.1 rfl ?_
    refine gv_load (t := 3) (A := (elemAddr pa1_0 ((s3.2.2 : Int).toNat * 1))) (.int .i64 x12) [] (fun e => by cases e) rfl rfl rfl (by kernel_rfl) (by kernel_rfl) (by kernel_rfl) (inw0 ((hpa1_0.below hB5 hX0).cell hx13)) rfl ?_
    refine bindE h2 ?_; clear h2; intro x14 hx15 h2
    refine gv_ssl2 (iE .i64) (t := 38) (e := 3) (xs := l_0) (a := pa0_0) (cap := pc0_0) (lo := (some (.int .i64 s3.2.1))) (hi := (some (.int .i64 x12))) s3.2.1 x12 x14 (fun e => by cases e) rfl rfl rfl (by kernel_rfl) (by kernel_rfl) Tryd.underlying38 (by kernel_rfl) (.inr ⟨_, rfl⟩) (.inr ⟨_, rfl⟩) hx15 (hpa0_0.below hB5 hX0).1 ?_
    intro a16 c17 hsub18
    have hp19 := hsub18 _ _ hpa0_0
    refine bindE h2 ?_; clear h2; intro r20 hr21 h2
    refine gv_call0 (by kernel_rfl) rfl (by kernel_rfl) enters26 (ref4_String_ok fuel a16 c17 x14 w4 (fun k => X0 k) (fun k hk => (fun k (hk : X0 k) => ltl (hX0 k hk) hB5.size) k hk) ((hp19.below hB5 hX0).wide (fun k hk => hk)) r20 hr21) ?_
    rintro v24 w22 ⟨hg23, rfl⟩
    refine gv_new0 (fun b => .slice (some ⟨b, 0, none⟩) 1 1) #[(.string r20)] 9 (by kernel_rfl) (by kernel_rfl) ?_
    intro b25 w26 hg27 hb28 hbe29 hz30
    have ho31 : Gv.Own sE 9 w26 (fun _ => False) (some ⟨b25, 0, none⟩) 1 ([r20] : List ByteArray) := Box.ownE hb28 ⟨[(.string r20)], [], rfl, rfl, rfl⟩ (show 1 ≤ maxLen by decide) (fun h => h)
    have hB36 := bg hB5 hg23 nb
    have hl32 : ∀ g, blk (some ⟨b25, 0, none⟩) = some g → w0.heap.size ≤ g := loo hbe29 hB36.size
    refine bindE h2 ?_; clear h2; intro l37 hx38 h2
    have hg45 := (grown_trans hg23 hg27)
    have hk46 := ho9.grown hg45 (fun _ h => h.elim) nb
    refine gv_append sE (t := 22) (ty := 22) (e := 9) (a := a7) (ax := (some ⟨b25, 0, none⟩)) (cap := c8) (cx := 1) (xs := s3.1) (ys := ([r20] : List ByteArray)) l37 (X := (fun _ => False)) (Y := (fun k => blk (some ⟨b25, 0, none⟩) = some k)) (by decide) rfl rfl (by kernel_rfl) (by kernel_rfl) Tryd.underlying22 info9 hk46 (ho31.rd (Y := fun k => blk (some ⟨b25, 0, none⟩) = some k) (fun _ h => h.elim) (fun g e => e)) hx38 (.inr fun _ _ _ _ _ h => h) (fun _ h => h.elim) ?_
    intro a39 c40 w41 hg42 ho43 hk44
    refine ⟨(fun e => by cases e), ?_⟩
    have hB48 := bg hB36 hg27 nb
    have hl47 : ∀ g, blk a39 = some g → w0.heap.size ≤ g := blk_step hk44 hl10 hB48.size
    have hk50 := ho9.grown hg23 (fun _ h => h.elim) nb
    have ap51 : ∀ g, blk a7 = some g → ¬ (fun k => blk (some ⟨b25, 0, none⟩) = some k) g := fun g e hx => nl ((lowo hbe29) _ hx) ((fun k (hk : blk a7 = some k) => hk50.lt k hk) g e)
    have ap49 : ∀ g, blk a39 = some g → ¬ (fun k => blk (some ⟨b25, 0, none⟩) = some k) g := blk_neX hk44 ap51 (fun k (hk : blk (some ⟨b25, 0, none⟩) = some k) => ho31.lt k hk)
    have ap53 : ∀ g, blk (some ⟨b25, 0, none⟩) = some g → ¬ (fun k => blk a7 = some k) g := fun g e hx => nl ((lowo hbe29) g e) ((fun k (hk : blk a7 = some k) => hk50.lt k hk) _ hx)
    have ap52 : ∀ g, blk (some ⟨b25, 0, none⟩) = some g → ¬ (fun k => blk a39 = some k) g := fun g e h => blk_rev hk44 (fun h => ((ap53) g e) h) (ho31.lt g e) h
    refine gv_pureN 1 [7] [(7, (.slice a39 (List.length l37) c40))] (by kernel_rfl) ?_
    refine gv_nil <| gv_region <| gv_pureN 2 [27, 28] [(27, (.slice pa1_0 (List.length places_1) pc1_0)), (28, (.int .i64 s3.2.2))] (by kernel_rfl) ?_
    refine bindE h2 ?_; clear h2; intro x54 hx55 h2
    have hB56 := bg hB48 hg42 hl10
    refine gv_idxaddr (t := 38) (e := 3) (a := pa1_0) (len := List.length places_1) (cap := pc1_0) (kk := .i64) (i := s3.2.2) (sz := 1) [] (fun e => by cases e) rfl rfl rfl (by kernel_rfl) (by kernel_rfl) Tryd.underlying38 (by kernel_rfl) ((hpa1_0.below hB56 hX0).has hx55) (idx_spec hx55).1 (idx_spec hx55).2.1 rfl ?_
    refine gv_load (t := 3) (A := (elemAddr pa1_0 ((s3.2.2 : Int).toNat * 1))) (.int .i64 x54) [] (fun e => by cases e) rfl rfl rfl (by kernel_rfl) (by kernel_rfl) (by kernel_rfl) (inw0 ((hpa1_0.below hB56 hX0).cell hx55)) rfl ?_
    refine gv_pureN 3 [8, 31, 32] [(8, (.int .i64 (IntKind.i64.wrap (x54 + length_2))))] (by kernel_rfl) ?_
    refine gv_nil <| gv_blk <| gv_region <| gv_pureN 3 [9, 14, 15] [(9, (.int .i64 (IntKind.i64.wrap (s3.2.2 + 1))))] (by kernel_rfl) ?_
    refine gv_sub [0, 1, 2, 7, 8, 9] (σ' := [(0, (.slice pa0_0 (List.length l_0) pc0_0)), (1, (.slice pa1_0 (List.length places_1) pc1_0)), (2, (.int .i64 length_2)), (7, (.slice a39 (List.length l37) c40)), (8, (.int .i64 (IntKind.i64.wrap (x54 + length_2)))), (9, (.int .i64 (IntKind.i64.wrap (s3.2.2 + 1))))]) (by kernel_rfl) ?_
    refine gv_nil ?_
    have e := sj h2; subst e
    refine gv_goal fun a hd hs hok => ?_
    have hz57 := (nt (nt (nt hz6 hg23.size) hg27.size) hg42.size)
    exact ⟨(l37, (IntKind.i64.wrap (x54 + length_2)), (IntKind.i64.wrap (s3.2.2 + 1))), rfl, a39, c40, hB56, hz57, ho43, hl47, hd, hs, ok_pick [0, 1, 2, 7, 8, 9] hok (by kernel_rfl)⟩
   ·replace h2 := ite_f hc11 h2
    refine gv_cexit <| gv_exit rfl ?_
    have e := sj h2; subst e
    replace h1 := congrArg some (hR2 _ rfl)
    have e := sj h1; subst e
    refine gv_goal fun a hd hs hok => ?_
    have hz58 := hz6
    exact ⟨a7, c8, hB5, hz58, ho9, hl10, hd, hs, ok_pick [0, 7, 8] hok (by kernel_rfl)⟩
 ·rintro a w2 ⟨a61, c62, hB59, hz60, ho63, hl64, hd, hs, hok⟩
  refine gv_in ?_ hd hs hok
  clear hd hs hok
  refine gv_seq <| gv_region <| gv_pureN 3 [33, 34, 35] [(33, (.slice a61 (List.length j1.1) c62)), (34, (.slice pa0_0 (List.length l_0) pc0_0)), (35, (.int .i64 j1.2))] (by kernel_rfl) ?_
  refine bindE h0 ?_; clear h0; intro x65 hx66 h0
  refine gv_ssl2 (iE .i64) (t := 38) (e := 3) (xs := l_0) (a := pa0_0) (cap := pc0_0) (lo := (some (.int .i64 j1.2))) (hi := none) j1.2 ((List.length l_0 : Nat) : Int) x65 (fun e => by cases e) rfl rfl rfl (by kernel_rfl) (by kernel_rfl) Tryd.underlying38 (by kernel_rfl) (.inr ⟨_, rfl⟩) (.inl ⟨rfl, rfl⟩) hx66 (hpa0_0.below hB59 hX0).1 ?_
  intro a67 c68 hsub69
  have hp70 := hsub69 _ _ hpa0_0
  refine bindE h0 ?_; clear h0; intro r71 hr72 h0
  refine gv_call0 (by kernel_rfl) rfl (by kernel_rfl) enters26 (ref4_String_ok fuel a67 c68 x65 w2 (fun k => X0 k) (fun k hk => (fun k (hk : X0 k) => ltl (hX0 k hk) hB59.size) k hk) ((hp70.below hB59 hX0).wide (fun k hk => hk)) r71 hr72) ?_
  rintro v75 w73 ⟨hg74, rfl⟩
  refine gv_new0 (fun b => .slice (some ⟨b, 0, none⟩) 1 1) #[(.string r71)] 9 (by kernel_rfl) (by kernel_rfl) ?_
  intro b76 w77 hg78 hb79 hbe80 hz81
  have ho82 : Gv.Own sE 9 w77 (fun _ => False) (some ⟨b76, 0, none⟩) 1 ([r71] : List ByteArray) := Box.ownE hb79 ⟨[(.string r71)], [], rfl, rfl, rfl⟩ (show 1 ≤ maxLen by decide) (fun h => h)
  have hB87 := bg hB59 hg74 nb
  have hl83 : ∀ g, blk (some ⟨b76, 0, none⟩) = some g → w0.heap.size ≤ g := loo hbe80 hB87.size
  refine bindE h0 ?_; clear h0; intro l88 hx89 h0
  have hg96 := (grown_trans hg74 hg78)
  have hk97 := ho63.grown hg96 (fun _ h => h.elim) nb
  refine gv_append sE (t := 22) (ty := 22) (e := 9) (a := a61) (ax := (some ⟨b76, 0, none⟩)) (cap := c62) (cx := 1) (xs := j1.1) (ys := ([r71] : List ByteArray)) l88 (X := (fun _ => False)) (Y := (fun k => blk (some ⟨b76, 0, none⟩) = some k)) (by decide) rfl rfl (by kernel_rfl) (by kernel_rfl) Tryd.underlying22 info9 hk97 (ho82.rd (Y := fun k => blk (some ⟨b76, 0, none⟩) = some k) (fun _ h => h.elim) (fun g e => e)) hx89 (.inr fun _ _ _ _ _ h => h) (fun _ h => h.elim) ?_
  intro a90 c91 w92 hg93 ho94 hk95
  refine ⟨(fun e => by cases e), ?_⟩
  have hB99 := bg hB87 hg78 nb
  have hl98 : ∀ g, blk a90 = some g → w0.heap.size ≤ g := blk_step hk95 hl64 hB99.size
  have hk101 := ho63.grown hg74 (fun _ h => h.elim) nb
  have ap102 : ∀ g, blk a61 = some g → ¬ (fun k => blk (some ⟨b76, 0, none⟩) = some k) g := fun g e hx => nl ((lowo hbe80) _ hx) ((fun k (hk : blk a61 = some k) => hk101.lt k hk) g e)
  have ap100 : ∀ g, blk a90 = some g → ¬ (fun k => blk (some ⟨b76, 0, none⟩) = some k) g := blk_neX hk95 ap102 (fun k (hk : blk (some ⟨b76, 0, none⟩) = some k) => ho82.lt k hk)
  have ap104 : ∀ g, blk (some ⟨b76, 0, none⟩) = some g → ¬ (fun k => blk a61 = some k) g := fun g e hx => nl ((lowo hbe80) g e) ((fun k (hk : blk a61 = some k) => hk101.lt k hk) _ hx)
  have ap103 : ∀ g, blk (some ⟨b76, 0, none⟩) = some g → ¬ (fun k => blk a90 = some k) g := fun g e h => blk_rev hk95 (fun h => ((ap104) g e) h) (ho82.lt g e) h
  refine gv_pureN 1 [6] [(6, (.slice a90 (List.length l88) c91))] (by kernel_rfl) ?_
  refine gv_nil <| gv_cret ?_
  have e := sj h0; subst e
  refine gv_ret (gv_done [(.slice a90 (List.length l88) c91)] rfl ⟨(by kernel_rfl), trivial⟩ ?_)
  have hB105 := bg hB99 hg93 hl64
  exact ⟨grown_of_below hB105, a90, c91, rfl, ho94, hl98⟩

theorem law4_TextstrJoins_ok (fuel : Nat) (pa0_0 : Option Addr) (pc0_0 : Nat) (l_0 : (List ByteArray)) (s_1 : ByteArray) (old_2 : ByteArray) (with_3 : ByteArray) (most_4 : Int) (n_5 : Int) (w0 : World) (X0 : Nat → Prop) (hX0 : ∀ k, X0 k → k < w0.heap.size) (hpa0_0 : Rd sE w0 X0 pa0_0 pc0_0 l_0) {gmx : Int} (hG0 : Rd (iE .i64) w0 X0 (some ⟨0, 0, none⟩) 1 [gmx]) (hG1 : Rd bE w0 X0 (some ⟨1, 0, none⟩) 256 utf8First) (hG2 : Rd (prE (iE .u8) (iE .u8)) w0 X0 (some ⟨2, 0, none⟩) 16 utf8Acc) (r0 : Bool) (h0 : law4_TextstrJoins fuel l_0 s_1 old_2 with_3 most_4 n_5 = some r0) :
    Calls Tryd.prog 9 ([(.slice pa0_0 (List.length l_0) pc0_0), (.string s_1), (.string old_2), (.string with_3), (.int .i64 most_4), (.int .i64 n_5)] : List Value).toArray w0 (Ret fun v w' => w0.grownBy w' none ∧ v = tup [(.bool r0)]) := by
 have hB0 : Below w0.heap.size w0 w0 := Below.refl _ _
 unfold law4_TextstrJoins at h0
 refine calls_run Tryd.func9 rfl Tryd.ntmps9 (by kernel_rfl) ?_
 refine gv_sub [0, 1, 2, 3, 4, 5] (σ' := [(0, (.slice pa0_0 (List.length l_0) pc0_0)), (1, (.string s_1)), (2, (.string old_2)), (3, (.string with_3)), (4, (.int .i64 most_4)), (5, (.int .i64 n_5))]) (by kernel_rfl) ?_
 refine gv_seq <| gv_region <| gv_pureN 1 [12] [] (by kernel_rfl) ?_
 refine gv_nil <| gv_seq <| gv_region <| gv_pureN 2 [35, 36] [(35, (.slice pa0_0 (List.length l_0) pc0_0)), (36, (.string old_2))] (by kernel_rfl) ?_
 refine bindE h0 ?_; clear h0; intro r1 hr2 h0
 refine gv_call0 (by kernel_rfl) rfl (by kernel_rfl) enters41 (textstr_Join_ok fuel pa0_0 pc0_0 l_0 old_2 w0 (fun k => X0 k ∨ X0 k ∨ X0 k) (fun k hk => (hk).elim (fun h => (fun k (hk : X0 k) => ltl (hX0 k hk) hB0.size) k h) (fun h => (h).elim (fun h => (fun k (hk : X0 k) => ltl (hX0 k hk) hB0.size) k h) (fun h => (fun k (hk : X0 k) => ltl (hX0 k hk) hB0.size) k h))) ((hpa0_0.below hB0 hX0).wide (fun k hk => (.inl hk))) ((hG1.below hB0 hX0).wide (fun k hk => (.inr (.inl hk)))) ((hG2.below hB0 hX0).wide (fun k hk => (.inr (.inr hk)))) r1 hr2) ?_
 rintro v5 w3 ⟨hg4, rfl⟩
 refine gv_pureN 3 [34, 38, 39] [(38, (.string r1.1)), (39, (.agg #[(.int .i64 r1.2.1), (.int .i64 r1.2.2)]))] (by kernel_rfl) ?_
 refine gv_new0 (fun b => .pointer (some ⟨b, 0, none⟩)) #[(.int .i64 0), (.int .i64 0)] 24 (by kernel_rfl) (by kernel_rfl) ?_
 intro b6 w7 hg8 hb9 hbe10 hz11
 refine gv_pureN 1 [13] [(13, (.string r1.1))] (by kernel_rfl) ?_
 refine gv_store0 24 0 (.agg #[(.int .i64 r1.2.1), (.int .i64 r1.2.2)]) #[(.int .i64 r1.2.1), (.int .i64 r1.2.2)] hb9 (by kernel_rfl) (by kernel_rfl) (by kernel_rfl) ?_
 intro w12 hg13 hb14 hz15
 refine gv_nil <| gv_seq <| gv_region <| gv_pureN 4 [41, 42, 43, 44] [(41, (.string s_1)), (42, (.string old_2)), (43, (.string with_3)), (44, (.int .i64 most_4))] (by kernel_rfl) ?_
 refine bindE h0 ?_; clear h0; intro r16 hr17 h0
 have hg18 := (grown_trans hg4 hg8)
 have hB19 := bg hB0 hg18 nb
 have hB20 := bg hB0 hg4 nb
 have hlo21 : w0.heap.size ≤ b6 := lob hbe10 hB20.size
 have hB22 := bg hB19 hg13 (rowlo hlo21)
 refine gv_call0 (by kernel_rfl) rfl (by kernel_rfl) enters42 (textstr_Replace_ok fuel s_1 old_2 with_3 most_4 w12 (fun k => X0 k ∨ X0 k ∨ X0 k) (fun k hk => (hk).elim (fun h => (fun k (hk : X0 k) => ltl (hX0 k hk) hB22.size) k h) (fun h => (h).elim (fun h => (fun k (hk : X0 k) => ltl (hX0 k hk) hB22.size) k h) (fun h => (fun k (hk : X0 k) => ltl (hX0 k hk) hB22.size) k h))) ((hG0.below hB22 hX0).wide (fun k hk => (.inl hk))) ((hG1.below hB22 hX0).wide (fun k hk => (.inr (.inl hk)))) ((hG2.below hB22 hX0).wide (fun k hk => (.inr (.inr hk)))) r16 hr17) ?_
 rintro v25 w23 ⟨hg24, rfl⟩
 refine gv_pureN 3 [40, 46, 47] [(46, (.string r16.1)), (47, (.agg #[(.int .i64 r16.2.1), (.int .i64 r16.2.2)]))] (by kernel_rfl) ?_
 refine gv_new0 (fun b => .pointer (some ⟨b, 0, none⟩)) #[(.int .i64 0), (.int .i64 0)] 24 (by kernel_rfl) (by kernel_rfl) ?_
 intro b26 w27 hg28 hb29 hbe30 hz31
 refine gv_pureN 1 [15] [(15, (.string r16.1))] (by kernel_rfl) ?_
 refine gv_store0 24 0 (.agg #[(.int .i64 r16.2.1), (.int .i64 r16.2.2)]) #[(.int .i64 r16.2.1), (.int .i64 r16.2.2)] hb29 (by kernel_rfl) (by kernel_rfl) (by kernel_rfl) ?_
 intro w32 hg33 hb34 hz35
 refine gv_nil <| gv_seq <| gv_region <| gv_pureN 2 [49, 50] [(49, (.string s_1)), (50, (.int .i64 n_5))] (by kernel_rfl) ?_
 refine gv_sub [0, 1, 2, 3, 4, 5, 13, 14, 15, 16, 49, 50] (σ' := [(0, (.slice pa0_0 (List.length l_0) pc0_0)), (1, (.string s_1)), (2, (.string old_2)), (3, (.string with_3)), (4, (.int .i64 most_4)), (5, (.int .i64 n_5)), (13, (.string r1.1)), (14, (bp b6)), (15, (.string r16.1)), (16, (bp b26)), (49, (.string s_1)), (50, (.int .i64 n_5))]) (by kernel_rfl) ?_
 refine bindE h0 ?_; clear h0; intro r36 hr37 h0
 have hg38 := (grown_trans hg24 hg28)
 have hB39 := bg hB22 hg38 nb
 have hB40 := bg hB22 hg24 nb
 have hlo41 : w0.heap.size ≤ b26 := lob hbe30 hB40.size
 have hB42 := bg hB39 hg33 (rowlo hlo41)
 refine gv_call0 (by kernel_rfl) rfl (by kernel_rfl) enters43 (textstr_Repeat_ok fuel s_1 n_5 w32 (fun k => X0 k ∨ X0 k) (fun k hk => (hk).elim (fun h => (fun k (hk : X0 k) => ltl (hX0 k hk) hB42.size) k h) (fun h => (fun k (hk : X0 k) => ltl (hX0 k hk) hB42.size) k h)) ((hG1.below hB42 hX0).wide (fun k hk => (.inl hk))) ((hG2.below hB42 hX0).wide (fun k hk => (.inr hk))) r36 hr37) ?_
 rintro v45 w43 ⟨hg44, rfl⟩
 refine gv_pureN 3 [48, 52, 53] [(52, (.string r36.1)), (53, (.agg #[(.int .i64 r36.2.1), (.int .i64 r36.2.2)]))] (by kernel_rfl) ?_
 refine gv_new0 (fun b => .pointer (some ⟨b, 0, none⟩)) #[(.int .i64 0), (.int .i64 0)] 24 (by kernel_rfl) (by kernel_rfl) ?_
 intro b46 w47 hg48 hb49 hbe50 hz51
 clear hz51 hB40 hB39 hg38 hr37 hz35 hz31 hb29 hB22 hB20 hB19 hg18 hr17 hz15 hg13 hz11 hbe10 hb9 hg8 hg4 hr2
 refine gv_pureN 1 [17] [(17, (.string r36.1))] (by kernel_rfl) ?_
 refine gv_store0 24 0 (.agg #[(.int .i64 r36.2.1), (.int .i64 r36.2.2)]) #[(.int .i64 r36.2.1), (.int .i64 r36.2.2)] hb49 (by kernel_rfl) (by kernel_rfl) (by kernel_rfl) ?_
 intro w52 hg53 hb54 hz55
 refine gv_nil <| gv_seq <| gv_seq <| gv_region <| bindE h0 ?_; clear h0; intro r56 hr57 h0
 have hg58 := (grown_trans hg44 hg48)
 have hB59 := bg hB42 hg58 nb
 have hB60 := bg hB42 hg44 nb
 have hlo61 : w0.heap.size ≤ b46 := lob hbe50 hB60.size
 have hB62 := bg hB59 hg53 (rowlo hlo61)
 refine gv_call0 (by kernel_rfl) rfl (by kernel_rfl) enters15 (law4_letters_ok fuel  w52 (fun k => X0 k ∨ X0 k ∨ X0 k) (fun k hk => (hk).elim (fun h => (fun k (hk : X0 k) => ltl (hX0 k hk) hB62.size) k h) (fun h => (h).elim (fun h => (fun k (hk : X0 k) => ltl (hX0 k hk) hB62.size) k h) (fun h => (fun k (hk : X0 k) => ltl (hX0 k hk) hB62.size) k h))) ((hG0.below hB62 hX0).wide (fun k hk => (.inl hk))) ((hG1.below hB62 hX0).wide (fun k hk => (.inr (.inl hk)))) ((hG2.below hB62 hX0).wide (fun k hk => (.inr (.inr hk)))) r56 hr57) ?_
 rintro v65 w63 ⟨hg64, rfl⟩
 refine gv_pureN 1 [55] [(55, (.bool (!r56)))] (by kernel_rfl) ?_
 refine gv_nil <| gv_cond (b := (!r56)) (by kernel_rfl) (fun hc66 => ?_) (fun hc66 => ?_)
 ·replace h0 := ite_t hc66 h0
  refine gv_seq <| gv_region <| gv_pureN 1 [12] [(12, (.bool false))] (by kernel_rfl) ?_
  refine gv_nil <| gv_cret ?_
  have e := sj h0; subst e
  refine gv_ret (gv_done [(.bool false)] rfl ⟨(by kernel_rfl), trivial⟩ ?_)
  have hB67 := bg hB62 hg64 nb
  exact ⟨grown_of_below hB67, rfl⟩
 ·replace h0 := ite_f hc66 h0
  refine gv_skip <| gv_seq <| gv_region <| gv_pureN 1 [56] [(56, (.agg #[(.int .i64 0), (.int .i64 0)]))] (by kernel_rfl) ?_
  refine gv_new0 (fun b => .pointer (some ⟨b, 0, none⟩)) #[(.int .i64 0), (.int .i64 0)] 24 (by kernel_rfl) (by kernel_rfl) ?_
  intro b68 w69 hg70 hb71 hbe72 hz73
  refine gv_store0 24 0 (.agg #[(.int .i64 0), (.int .i64 0)]) #[(.int .i64 0), (.int .i64 0)] hb71 (by kernel_rfl) (by kernel_rfl) (by kernel_rfl) ?_
  intro w74 hg75 hb76 hz77
  refine gv_nil <| gv_seq <| gv_seq <| gv_region <| gv_pureN 1 [20] [(20, (.int .i64 0))] (by kernel_rfl) ?_
  refine gv_nil <| bindE h0 ?_; clear h0; intro j78 h1 h0
  refine gv_cut_code (J := fun a w79 => Below w0.heap.size w0 w79 ∧ w74.heap.size ≤ w79.heap.size ∧ Box w79 b6 24 #[(.int .i64 r1.2.1), (.int .i64 r1.2.2)] ∧ Box w79 b26 24 #[(.int .i64 r16.2.1), (.int .i64 r16.2.2)] ∧ Box w79 b46 24 #[(.int .i64 r36.2.1), (.int .i64 r36.2.2)] ∧ Box w79 b68 24 #[(.int .i64 j78.1), (.int .i64 j78.2)] ∧ a.defers = [] ∧ a.tmps.size = 251 ∧ Ok [(0, (.slice pa0_0 (List.length l_0) pc0_0)), (1, (.string s_1)), (2, (.string old_2)), (3, (.string with_3)), (4, (.int .i64 most_4)), (5, (.int .i64 n_5)), (13, (.string r1.1)), (14, (bp b6)), (15, (.string r16.1)), (16, (bp b26)), (17, (.string r36.1)), (18, (bp b46)), (19, (bp b68))] a.tmps) ?_ ?_
  ·skip
   refine gv_block <| gv_loop (A := fun (s80 : (Int × (Int × Int))) a w81 => Below w0.heap.size w0 w81 ∧ w74.heap.size ≤ w81.heap.size ∧ Box w81 b6 24 #[(.int .i64 r1.2.1), (.int .i64 r1.2.2)] ∧ Box w81 b26 24 #[(.int .i64 r16.2.1), (.int .i64 r16.2.2)] ∧ Box w81 b46 24 #[(.int .i64 r36.2.1), (.int .i64 r36.2.2)] ∧ Box w81 b68 24 #[(.int .i64 s80.2.1), (.int .i64 s80.2.2)] ∧ a.defers = [] ∧ a.tmps.size = 251 ∧ Ok [(0, (.slice pa0_0 (List.length l_0) pc0_0)), (1, (.string s_1)), (2, (.string old_2)), (3, (.string with_3)), (4, (.int .i64 most_4)), (5, (.int .i64 n_5)), (13, (.string r1.1)), (14, (bp b6)), (15, (.string r16.1)), (16, (bp b26)), (17, (.string r36.1)), (18, (bp b46)), (19, (bp b68)), (20, (.int .i64 s80.1))] a.tmps) h1 ?_ ?_
   ·intro a hd hs hok
    have hg82 := (grown_trans hg64 hg70)
    have hB83 := bg hB62 hg82 nb
    have hB84 := bg hB62 hg64 nb
    have hlo85 : w0.heap.size ≤ b68 := lob hbe72 hB84.size
    have hB86 := bg hB83 hg75 (rowlo hlo85)
    have hg87 := (grown_trans hg24 hg28)
    have hk88 := hb14.grown hg24 nb
    have lt89 := ltl ((ltb hk88) _ rfl) ((lowb hbe30) _ rfl)
    have hk90 := hb34.grown hg44 nb
    have lt91 := ltl ((ltb hk90) _ rfl) ((lowb hbe50) _ rfl)
    have lt92 := ltt lt89 lt91
    have hk93 := hb54.grown hg64 nb
    have lt94 := ltl ((ltb hk93) _ rfl) ((lowb hbe72) _ rfl)
    have lt95 := ltt lt92 lt94
    have hk96 := (((((hb14.grown hg87 nb).grown hg33 (rowne (ng lt89))).grown hg58 nb).grown hg53 (rowne (ng lt92))).grown hg82 nb).grown hg75 (rowne (ng lt95))
    have lt97 := ltt lt91 lt94
    have hk98 := (((hk90.grown hg48 nb).grown hg53 (rowne (ng lt91))).grown hg82 nb).grown hg75 (rowne (ng lt97))
    have hk99 := (hk93.grown hg70 nb).grown hg75 (rowne (ng lt94))
    exact ⟨hB86, (Nat.le_refl _), hk96, hk98, hk99, hb76, hd, hs, ok_pick [0, 1, 2, 3, 4, 5, 13, 14, 15, 16, 17, 18, 19, 20] hok (by kernel_rfl)⟩
   ·rintro s80 r2 h2 hR2 a w81 ⟨hB100, hz101, hb102, hb103, hb104, hb105, hd, hs, hok⟩
    refine gv_in ?_ hd hs hok
    clear hd hs hok
    clear hz77 hb76 hg75 hz73 hb71 hg70 hc66 hB60 hB59 hg58 hr57 hz55 hg53 hb49 hg48 hB42 hg33 hg28
    refine gv_seq <| gv_seq <| gv_region <| bindE h2 ?_; clear h2; intro j106 h3 h2
    refine gv_cut_ops (J := fun a w107 => Below w0.heap.size w0 w107 ∧ w81.heap.size ≤ w107.heap.size ∧ Box w107 b6 24 #[(.int .i64 r1.2.1), (.int .i64 r1.2.2)] ∧ Box w107 b26 24 #[(.int .i64 r16.2.1), (.int .i64 r16.2.2)] ∧ Box w107 b46 24 #[(.int .i64 r36.2.1), (.int .i64 r36.2.2)] ∧ Box w107 b68 24 #[(.int .i64 s80.2.1), (.int .i64 s80.2.2)] ∧ a.defers = [] ∧ a.tmps.size = 251 ∧ Ok [(0, (.slice pa0_0 (List.length l_0) pc0_0)), (1, (.string s_1)), (2, (.string old_2)), (3, (.string with_3)), (4, (.int .i64 most_4)), (5, (.int .i64 n_5)), (13, (.string r1.1)), (14, (bp b6)), (15, (.string r16.1)), (16, (bp b26)), (17, (.string r36.1)), (18, (bp b46)), (19, (bp b68)), (20, (.int .i64 s80.1)), (65, (.bool j106))] a.tmps) ?_ ?_
    ·skip
     refine gv_pureN 5 [57, 58, 59, 60, 61] [(61, (.bool (decide (s80.1 < ((List.length l_0 : Nat) : Int)))))] (by kernel_rfl) ?_
     refine gv_split (s := 61) (g := (decide (s80.1 < ((List.length l_0 : Nat) : Int)))) (by kernel_rfl) (fun hc108 => ?_) (fun hc108 => ?_)
     ·skip
      replace h3 := ite_t hc108 h3
      refine gv_pureN 1 [62] [(62, (bp b68))] (by kernel_rfl) ?_
      refine gv_load (t := 3) (A := ⟨b68, 0, none⟩) (.int .i64 s80.2.1) [] (fun e => by cases e) rfl rfl rfl (by kernel_rfl) (by kernel_rfl) (by kernel_rfl) (inw0 (hb105.cell 0 rfl)) rfl ?_
      refine gv_pureN 2 [64, 65] [(65, (.bool (s80.2.1 == 0)))] (by kernel_rfl) ?_
      refine gv_nil ?_
      have e := sj h3; subst e
      refine gv_goal fun a hd hs hok => ?_
      exact ⟨hB100, (Nat.le_refl _), hb102, hb103, hb104, hb105, hd, hs, ok_pick [0, 1, 2, 3, 4, 5, 13, 14, 15, 16, 17, 18, 19, 20, 65] hok (by kernel_rfl)⟩
     ·skip
      replace h3 := ite_f hc108 h3
      refine gv_pureN 4 [62, 63, 64, 65] [(65, (.bool false))] (by kernel_rfl) ?_
      refine gv_nil ?_
      have e := sj h3; subst e
      refine gv_goal fun a hd hs hok => ?_
      exact ⟨hB100, (Nat.le_refl _), hb102, hb103, hb104, hb105, hd, hs, ok_pick [0, 1, 2, 3, 4, 5, 13, 14, 15, 16, 17, 18, 19, 20, 65] hok (by kernel_rfl)⟩
    ·rintro a w107 ⟨hB109, hz110, hb111, hb112, hb113, hb114, hd, hs, hok⟩
     refine gv_in ?_ hd hs hok
     clear hd hs hok
     have hz115 := (nt hz101 hz110)
     clear hz110 hb105 hb104 hb103 hb102 hz101 hB100
     refine gv_cond (b := j106) (by kernel_rfl) (fun hc116 => ?_) (fun hc116 => ?_)
     ·replace h2 := ite_t hc116 h2
      refine gv_skip <| gv_seq <| gv_block <| gv_seq <| gv_region <| gv_pureN 2 [68, 69] [(68, (.slice pa0_0 (List.length l_0) pc0_0)), (69, (.int .i64 s80.1))] (by kernel_rfl) ?_
      refine bindE h2 ?_; clear h2; intro x117 hx118 h2
      refine gv_idxaddr (t := 22) (e := 9) (a := pa0_0) (len := List.length l_0) (cap := pc0_0) (kk := .i64) (i := s80.1) (sz := 1) [] (fun e => by cases e) rfl rfl rfl (by kernel_rfl) (by kernel_rfl) Tryd.underlying22 (by kernel_rfl) ((hpa0_0.below hB109 hX0).has hx118) (idx_spec hx118).1 (idx_spec hx118).2.1 rfl ?_
      refine gv_load (t := 9) (A := (elemAddr pa0_0 ((s80.1 : Int).toNat * 1))) (.string x117) [] (fun e => by cases e) rfl rfl rfl (by kernel_rfl) (by kernel_rfl) (by kernel_rfl) (inw0 ((hpa0_0.below hB109 hX0).cell hx118)) rfl ?_
      refine bindE h2 ?_; clear h2; intro r119 hr120 h2
      refine gv_call0 (by kernel_rfl) rfl (by kernel_rfl) enters31 (ref4_TextOk_ok fuel x117 w107  r119 hr120) ?_
      rintro v123 w121 ⟨hg122, rfl⟩
      refine gv_pureN 1 [73] [(73, (.bool (!r119)))] (by kernel_rfl) ?_
      refine gv_nil <| bindE h2 ?_; clear h2; intro j124 h3 h2
      refine gv_cut_code (J := fun a w125 => Below w0.heap.size w0 w125 ∧ w121.heap.size ≤ w125.heap.size ∧ Box w125 b6 24 #[(.int .i64 r1.2.1), (.int .i64 r1.2.2)] ∧ Box w125 b26 24 #[(.int .i64 r16.2.1), (.int .i64 r16.2.2)] ∧ Box w125 b46 24 #[(.int .i64 r36.2.1), (.int .i64 r36.2.2)] ∧ Box w125 b68 24 #[(.int .i64 j124.1), (.int .i64 j124.2)] ∧ a.defers = [] ∧ a.tmps.size = 251 ∧ Ok [(0, (.slice pa0_0 (List.length l_0) pc0_0)), (1, (.string s_1)), (2, (.string old_2)), (3, (.string with_3)), (4, (.int .i64 most_4)), (5, (.int .i64 n_5)), (13, (.string r1.1)), (14, (bp b6)), (15, (.string r16.1)), (16, (bp b26)), (17, (.string r36.1)), (18, (bp b46)), (19, (bp b68)), (20, (.int .i64 s80.1))] a.tmps) ?_ ?_
      ·skip
       refine gv_cond (b := (!r119)) (by kernel_rfl) (fun hc126 => ?_) (fun hc126 => ?_)
       ·replace h3 := ite_t hc126 h3
        refine gv_region <| gv_pureN 1 [74] [(74, (.int .i64 s80.1))] (by kernel_rfl) ?_
        refine bindE h3 ?_; clear h3; intro r127 hr128 h3
        refine gv_call0 (by kernel_rfl) rfl (by kernel_rfl) enters29 (ref4_At_ok fuel 6 s80.1 w121  r127 hr128) ?_
        rintro v131 w129 ⟨hg130, rfl⟩
        have hg136 := (grown_trans hg122 hg130)
        have hk137 := hb114.grown hg136 nb
        refine gv_store0 24 0 (.agg #[(.int .i64 r127.1), (.int .i64 r127.2)]) #[(.int .i64 r127.1), (.int .i64 r127.2)] hk137 (by kernel_rfl) (by kernel_rfl) (by kernel_rfl) ?_
        intro w132 hg133 hb134 hz135
        refine gv_nil ?_
        have e := sj h3; subst e
        refine gv_goal fun a hd hs hok => ?_
        have hB138 := bg hB109 hg136 nb
        have hB139 := bg hB62 hg64 nb
        have hlo140 : w0.heap.size ≤ b68 := lob hbe72 hB139.size
        have hB141 := bg hB138 hg133 (rowlo hlo140)
        have hz142 := (nt hg130.size hg133.size)
        have hk143 := hb14.grown hg24 nb
        have lt144 := ltl ((ltb hk143) _ rfl) ((lowb hbe30) _ rfl)
        have hk145 := hb34.grown hg44 nb
        have lt146 := ltl ((ltb hk145) _ rfl) ((lowb hbe50) _ rfl)
        have lt147 := ltt lt144 lt146
        have hk148 := hb54.grown hg64 nb
        have lt149 := ltl ((ltb hk148) _ rfl) ((lowb hbe72) _ rfl)
        have lt150 := ltt lt147 lt149
        have hk151 := (hb111.grown hg136 nb).grown hg133 (rowne (ng lt150))
        have lt152 := ltt lt146 lt149
        have hk153 := (hb112.grown hg136 nb).grown hg133 (rowne (ng lt152))
        have hk154 := (hb113.grown hg136 nb).grown hg133 (rowne (ng lt149))
        exact ⟨hB141, hz142, hk151, hk153, hk154, hb134, hd, hs, ok_pick [0, 1, 2, 3, 4, 5, 13, 14, 15, 16, 17, 18, 19, 20] hok (by kernel_rfl)⟩
       ·replace h3 := ite_f hc126 h3
        refine gv_skip ?_
        have e := sj h3; subst e
        refine gv_goal fun a hd hs hok => ?_
        have hB155 := bg hB109 hg122 nb
        have hk156 := hb111.grown hg122 nb
        have hk157 := hb112.grown hg122 nb
        have hk158 := hb113.grown hg122 nb
        have hk159 := hb114.grown hg122 nb
        exact ⟨hB155, (Nat.le_refl _), hk156, hk157, hk158, hk159, hd, hs, ok_pick [0, 1, 2, 3, 4, 5, 13, 14, 15, 16, 17, 18, 19, 20] hok (by kernel_rfl)⟩
      ·rintro a w125 ⟨hB160, hz161, hb162, hb163, hb164, hb165, hd, hs, hok⟩
       refine gv_in ?_ hd hs hok
       clear hd hs hok
       have hz166 := (nt (nt hz115 hg122.size) hz161)
       clear hz161 hg122 hr120 hx118 hc116 hz115 hb114 hb113 hb112 hb111 hB109
       refine gv_blk <| gv_region <| gv_pureN 3 [20, 66, 67] [(20, (.int .i64 (IntKind.i64.wrap (s80.1 + 1))))] (by kernel_rfl) ?_
       refine gv_nil ?_
       have e := sj h2; subst e
       refine gv_goal fun a hd hs hok => ?_
       have hz167 := hz166
       exact ⟨((IntKind.i64.wrap (s80.1 + 1)), (j124.1, j124.2)), rfl, hB160, hz167, hb162, hb163, hb164, hb165, hd, hs, ok_pick [0, 1, 2, 3, 4, 5, 13, 14, 15, 16, 17, 18, 19, 20] hok (by kernel_rfl)⟩
     ·replace h2 := ite_f hc116 h2
      refine gv_cexit <| gv_exit rfl ?_
      have e := sj h2; subst e
      replace h1 := congrArg some (hR2 _ rfl)
      have e := sj h1; subst e
      refine gv_goal fun a hd hs hok => ?_
      have hz168 := hz115
      exact ⟨hB109, hz168, hb111, hb112, hb113, hb114, hd, hs, ok_pick [0, 1, 2, 3, 4, 5, 13, 14, 15, 16, 17, 18, 19] hok (by kernel_rfl)⟩
  ·rintro a w79 ⟨hB169, hz170, hb171, hb172, hb173, hb174, hd, hs, hok⟩
   refine gv_in ?_ hd hs hok
   clear hd hs hok
   clear hz170 hz77 hb76 hg75 hz73 hb71 hg70 hc66 hB60 hB59 hg58 hr57 hz55 hg53 hb49 hg48 hB42 hg33 hg28
   refine gv_seq <| gv_seq <| gv_region <| bindE h0 ?_; clear h0; intro j175 h1 h0
   refine gv_cut_ops (J := fun a w176 => Below w0.heap.size w0 w176 ∧ w79.heap.size ≤ w176.heap.size ∧ Box w176 b6 24 #[(.int .i64 r1.2.1), (.int .i64 r1.2.2)] ∧ Box w176 b26 24 #[(.int .i64 r16.2.1), (.int .i64 r16.2.2)] ∧ Box w176 b46 24 #[(.int .i64 r36.2.1), (.int .i64 r36.2.2)] ∧ Box w176 b68 24 #[(.int .i64 j78.1), (.int .i64 j78.2)] ∧ a.defers = [] ∧ a.tmps.size = 251 ∧ Ok [(0, (.slice pa0_0 (List.length l_0) pc0_0)), (1, (.string s_1)), (2, (.string old_2)), (3, (.string with_3)), (4, (.int .i64 most_4)), (5, (.int .i64 n_5)), (13, (.string r1.1)), (14, (bp b6)), (15, (.string r16.1)), (16, (bp b26)), (17, (.string r36.1)), (18, (bp b46)), (19, (bp b68)), (83, (.bool j175))] a.tmps) ?_ ?_
   ·skip
    refine gv_pureN 1 [76] [(76, (bp b68))] (by kernel_rfl) ?_
    refine gv_load (t := 3) (A := ⟨b68, 0, none⟩) (.int .i64 j78.1) [] (fun e => by cases e) rfl rfl rfl (by kernel_rfl) (by kernel_rfl) (by kernel_rfl) (inw0 (hb174.cell 0 rfl)) rfl ?_
    refine gv_pureN 2 [78, 79] [(79, (.bool (j78.1 == 0)))] (by kernel_rfl) ?_
    refine gv_split (s := 79) (g := (j78.1 == 0)) (by kernel_rfl) (fun hc177 => ?_) (fun hc177 => ?_)
    ·skip
     replace h1 := ite_t hc177 h1
     refine gv_pureN 1 [80] [(80, (.string old_2))] (by kernel_rfl) ?_
     refine bindE h1 ?_; clear h1; intro r178 hr179 h1
     refine gv_call0 (by kernel_rfl) rfl (by kernel_rfl) enters31 (ref4_TextOk_ok fuel old_2 w79  r178 hr179) ?_
     rintro v182 w180 ⟨hg181, rfl⟩
     refine gv_pureN 2 [82, 83] [(83, (.bool (!r178)))] (by kernel_rfl) ?_
     refine gv_nil ?_
     have e := sj h1; subst e
     refine gv_goal fun a hd hs hok => ?_
     have hB183 := bg hB169 hg181 nb
     have hz184 := hg181.size
     have hk185 := hb171.grown hg181 nb
     have hk186 := hb172.grown hg181 nb
     have hk187 := hb173.grown hg181 nb
     have hk188 := hb174.grown hg181 nb
     exact ⟨hB183, hz184, hk185, hk186, hk187, hk188, hd, hs, ok_pick [0, 1, 2, 3, 4, 5, 13, 14, 15, 16, 17, 18, 19, 83] hok (by kernel_rfl)⟩
    ·skip
     replace h1 := ite_f hc177 h1
     refine gv_pureN 4 [80, 81, 82, 83] [(83, (.bool false))] (by kernel_rfl) ?_
     refine gv_nil ?_
     have e := sj h1; subst e
     refine gv_goal fun a hd hs hok => ?_
     exact ⟨hB169, (Nat.le_refl _), hb171, hb172, hb173, hb174, hd, hs, ok_pick [0, 1, 2, 3, 4, 5, 13, 14, 15, 16, 17, 18, 19, 83] hok (by kernel_rfl)⟩
   ·rintro a w176 ⟨hB189, hz190, hb191, hb192, hb193, hb194, hd, hs, hok⟩
    refine gv_in ?_ hd hs hok
    clear hd hs hok
    clear hz190 hb174 hb173 hb172 hb171 hB169
    refine bindE h0 ?_; clear h0; intro j195 h1 h0
    refine gv_cut_code (J := fun a w196 => Below w0.heap.size w0 w196 ∧ w176.heap.size ≤ w196.heap.size ∧ Box w196 b6 24 #[(.int .i64 r1.2.1), (.int .i64 r1.2.2)] ∧ Box w196 b26 24 #[(.int .i64 r16.2.1), (.int .i64 r16.2.2)] ∧ Box w196 b46 24 #[(.int .i64 r36.2.1), (.int .i64 r36.2.2)] ∧ Box w196 b68 24 #[(.int .i64 j195.1), (.int .i64 j195.2)] ∧ a.defers = [] ∧ a.tmps.size = 251 ∧ Ok [(0, (.slice pa0_0 (List.length l_0) pc0_0)), (1, (.string s_1)), (2, (.string old_2)), (3, (.string with_3)), (4, (.int .i64 most_4)), (5, (.int .i64 n_5)), (13, (.string r1.1)), (14, (bp b6)), (15, (.string r16.1)), (16, (bp b26)), (17, (.string r36.1)), (18, (bp b46)), (19, (bp b68))] a.tmps) ?_ ?_
    ·skip
     refine gv_cond (b := j175) (by kernel_rfl) (fun hc197 => ?_) (fun hc197 => ?_)
     ·replace h1 := ite_t hc197 h1
      refine gv_region <| bindE h1 ?_; clear h1; intro r198 hr199 h1
      refine gv_call0 (by kernel_rfl) rfl (by kernel_rfl) enters29 (ref4_At_ok fuel 6 (-2) w176  r198 hr199) ?_
      rintro v202 w200 ⟨hg201, rfl⟩
      have hk207 := hb194.grown hg201 nb
      refine gv_store0 24 0 (.agg #[(.int .i64 r198.1), (.int .i64 r198.2)]) #[(.int .i64 r198.1), (.int .i64 r198.2)] hk207 (by kernel_rfl) (by kernel_rfl) (by kernel_rfl) ?_
      intro w203 hg204 hb205 hz206
      refine gv_nil ?_
      have e := sj h1; subst e
      refine gv_goal fun a hd hs hok => ?_
      have hB208 := bg hB189 hg201 nb
      have hB209 := bg hB62 hg64 nb
      have hlo210 : w0.heap.size ≤ b68 := lob hbe72 hB209.size
      have hB211 := bg hB208 hg204 (rowlo hlo210)
      have hz212 := (nt hg201.size hg204.size)
      have hk213 := hb14.grown hg24 nb
      have lt214 := ltl ((ltb hk213) _ rfl) ((lowb hbe30) _ rfl)
      have hk215 := hb34.grown hg44 nb
      have lt216 := ltl ((ltb hk215) _ rfl) ((lowb hbe50) _ rfl)
      have lt217 := ltt lt214 lt216
      have hk218 := hb54.grown hg64 nb
      have lt219 := ltl ((ltb hk218) _ rfl) ((lowb hbe72) _ rfl)
      have lt220 := ltt lt217 lt219
      have hk221 := (hb191.grown hg201 nb).grown hg204 (rowne (ng lt220))
      have lt222 := ltt lt216 lt219
      have hk223 := (hb192.grown hg201 nb).grown hg204 (rowne (ng lt222))
      have hk224 := (hb193.grown hg201 nb).grown hg204 (rowne (ng lt219))
      exact ⟨hB211, hz212, hk221, hk223, hk224, hb205, hd, hs, ok_pick [0, 1, 2, 3, 4, 5, 13, 14, 15, 16, 17, 18, 19] hok (by kernel_rfl)⟩
     ·replace h1 := ite_f hc197 h1
      refine gv_skip ?_
      have e := sj h1; subst e
      refine gv_goal fun a hd hs hok => ?_
      exact ⟨hB189, (Nat.le_refl _), hb191, hb192, hb193, hb194, hd, hs, ok_pick [0, 1, 2, 3, 4, 5, 13, 14, 15, 16, 17, 18, 19] hok (by kernel_rfl)⟩
    ·rintro a w196 ⟨hB225, hz226, hb227, hb228, hb229, hb230, hd, hs, hok⟩
     refine gv_in ?_ hd hs hok
     clear hd hs hok
     clear hz226 hb194 hb193 hb192 hb191 hB189
     refine gv_seq <| gv_region <| gv_pureN 1 [21] [(21, (.string (strOf [])))] (by kernel_rfl) ?_
     refine gv_nil <| gv_seq <| gv_seq <| gv_region <| gv_pureN 1 [22] [(22, (.int .i64 0))] (by kernel_rfl) ?_
     refine gv_nil <| bindE h0 ?_; clear h0; intro j231 h1 h0
     refine gv_cut_code (J := fun a w232 => Below w0.heap.size w0 w232 ∧ w196.heap.size ≤ w232.heap.size ∧ Box w232 b6 24 #[(.int .i64 r1.2.1), (.int .i64 r1.2.2)] ∧ Box w232 b26 24 #[(.int .i64 r16.2.1), (.int .i64 r16.2.2)] ∧ Box w232 b46 24 #[(.int .i64 r36.2.1), (.int .i64 r36.2.2)] ∧ Box w232 b68 24 #[(.int .i64 j195.1), (.int .i64 j195.2)] ∧ a.defers = [] ∧ a.tmps.size = 251 ∧ Ok [(1, (.string s_1)), (2, (.string old_2)), (3, (.string with_3)), (4, (.int .i64 most_4)), (5, (.int .i64 n_5)), (13, (.string r1.1)), (14, (bp b6)), (15, (.string r16.1)), (16, (bp b26)), (17, (.string r36.1)), (18, (bp b46)), (19, (bp b68)), (21, (.string j231))] a.tmps) ?_ ?_
     ·skip
      refine gv_block <| gv_loop (A := fun (s233 : (ByteArray × Int)) a w234 => Below w0.heap.size w0 w234 ∧ w196.heap.size ≤ w234.heap.size ∧ Box w234 b6 24 #[(.int .i64 r1.2.1), (.int .i64 r1.2.2)] ∧ Box w234 b26 24 #[(.int .i64 r16.2.1), (.int .i64 r16.2.2)] ∧ Box w234 b46 24 #[(.int .i64 r36.2.1), (.int .i64 r36.2.2)] ∧ Box w234 b68 24 #[(.int .i64 j195.1), (.int .i64 j195.2)] ∧ a.defers = [] ∧ a.tmps.size = 251 ∧ Ok [(0, (.slice pa0_0 (List.length l_0) pc0_0)), (1, (.string s_1)), (2, (.string old_2)), (3, (.string with_3)), (4, (.int .i64 most_4)), (5, (.int .i64 n_5)), (13, (.string r1.1)), (14, (bp b6)), (15, (.string r16.1)), (16, (bp b26)), (17, (.string r36.1)), (18, (bp b46)), (19, (bp b68)), (21, (.string s233.1)), (22, (.int .i64 s233.2))] a.tmps) h1 ?_ ?_
      ·intro a hd hs hok
       exact ⟨hB225, (Nat.le_refl _), hb227, hb228, hb229, hb230, hd, hs, ok_pick [0, 1, 2, 3, 4, 5, 13, 14, 15, 16, 17, 18, 19, 21, 22] hok (by kernel_rfl)⟩
      ·rintro s233 r2 h2 hR2 a w234 ⟨hB235, hz236, hb237, hb238, hb239, hb240, hd, hs, hok⟩
       refine gv_in ?_ hd hs hok
       clear hd hs hok
       clear hb230 hb229 hb228 hb227 hB225
       refine gv_seq <| gv_seq <| gv_region <| bindE h2 ?_; clear h2; intro j241 h3 h2
       refine gv_cut_ops (J := fun a w242 => Below w0.heap.size w0 w242 ∧ w234.heap.size ≤ w242.heap.size ∧ Box w242 b6 24 #[(.int .i64 r1.2.1), (.int .i64 r1.2.2)] ∧ Box w242 b26 24 #[(.int .i64 r16.2.1), (.int .i64 r16.2.2)] ∧ Box w242 b46 24 #[(.int .i64 r36.2.1), (.int .i64 r36.2.2)] ∧ Box w242 b68 24 #[(.int .i64 j195.1), (.int .i64 j195.2)] ∧ a.defers = [] ∧ a.tmps.size = 251 ∧ Ok [(0, (.slice pa0_0 (List.length l_0) pc0_0)), (1, (.string s_1)), (2, (.string old_2)), (3, (.string with_3)), (4, (.int .i64 most_4)), (5, (.int .i64 n_5)), (13, (.string r1.1)), (14, (bp b6)), (15, (.string r16.1)), (16, (bp b26)), (17, (.string r36.1)), (18, (bp b46)), (19, (bp b68)), (21, (.string s233.1)), (22, (.int .i64 s233.2)), (98, (.bool j241))] a.tmps) ?_ ?_
       ·skip
        refine gv_pureN 5 [85, 86, 87, 88, 89] [(89, (.bool (decide (s233.2 < ((List.length l_0 : Nat) : Int)))))] (by kernel_rfl) ?_
        refine gv_split (s := 89) (g := (decide (s233.2 < ((List.length l_0 : Nat) : Int)))) (by kernel_rfl) (fun hc243 => ?_) (fun hc243 => ?_)
        ·skip
         replace h3 := ite_t hc243 h3
         refine gv_pureN 1 [90] [(90, (bp b68))] (by kernel_rfl) ?_
         refine gv_load (t := 3) (A := ⟨b68, 0, none⟩) (.int .i64 j195.1) [] (fun e => by cases e) rfl rfl rfl (by kernel_rfl) (by kernel_rfl) (by kernel_rfl) (inw0 (hb240.cell 0 rfl)) rfl ?_
         refine gv_pureN 3 [92, 93, 94] [(94, (.bool (j195.1 == 0)))] (by kernel_rfl) ?_
         refine gv_split (s := 94) (g := (j195.1 == 0)) (by kernel_rfl) (fun hc244 => ?_) (fun hc244 => ?_)
         ·skip
          replace h3 := ite_t hc244 h3
          refine gv_pureN 4 [95, 96, 97, 98] [(98, (.bool (decide (((ByteArray.size s233.1 : Nat) : Int) ≤ 4000))))] (by kernel_rfl) ?_
          refine gv_nil ?_
          have e := sj h3; subst e
          refine gv_goal fun a hd hs hok => ?_
          exact ⟨hB235, (Nat.le_refl _), hb237, hb238, hb239, hb240, hd, hs, ok_pick [0, 1, 2, 3, 4, 5, 13, 14, 15, 16, 17, 18, 19, 21, 22, 98] hok (by kernel_rfl)⟩
         ·skip
          replace h3 := ite_f hc244 h3
          refine gv_pureN 4 [95, 96, 97, 98] [(98, (.bool false))] (by kernel_rfl) ?_
          refine gv_nil ?_
          have e := sj h3; subst e
          refine gv_goal fun a hd hs hok => ?_
          exact ⟨hB235, (Nat.le_refl _), hb237, hb238, hb239, hb240, hd, hs, ok_pick [0, 1, 2, 3, 4, 5, 13, 14, 15, 16, 17, 18, 19, 21, 22, 98] hok (by kernel_rfl)⟩
        ·skip
         replace h3 := ite_f hc243 h3
         refine gv_pureN 9 [90, 91, 92, 93, 94, 95, 96, 97, 98] [(98, (.bool false))] (by kernel_rfl) ?_
         refine gv_nil ?_
         have e := sj h3; subst e
         refine gv_goal fun a hd hs hok => ?_
         exact ⟨hB235, (Nat.le_refl _), hb237, hb238, hb239, hb240, hd, hs, ok_pick [0, 1, 2, 3, 4, 5, 13, 14, 15, 16, 17, 18, 19, 21, 22, 98] hok (by kernel_rfl)⟩
       ·rintro a w242 ⟨hB245, hz246, hb247, hb248, hb249, hb250, hd, hs, hok⟩
        refine gv_in ?_ hd hs hok
        clear hd hs hok
        have hz251 := (nt hz236 hz246)
        clear hz246 hb240 hb239 hb238 hb237 hz236 hB235
        refine gv_cond (b := j241) (by kernel_rfl) (fun hc252 => ?_) (fun hc252 => ?_)
        ·replace h2 := ite_t hc252 h2
         refine gv_skip <| gv_seq <| gv_block <| gv_seq <| gv_seq <| gv_region <| gv_pureN 2 [101, 102] [(102, (.bool (decide (s233.2 > 0))))] (by kernel_rfl) ?_
         refine gv_nil <| bindE h2 ?_; clear h2; intro j253 h3 h2
         refine gv_cut_code (J := fun a w254 => Below w0.heap.size w0 w254 ∧ w242.heap.size ≤ w254.heap.size ∧ Box w254 b6 24 #[(.int .i64 r1.2.1), (.int .i64 r1.2.2)] ∧ Box w254 b26 24 #[(.int .i64 r16.2.1), (.int .i64 r16.2.2)] ∧ Box w254 b46 24 #[(.int .i64 r36.2.1), (.int .i64 r36.2.2)] ∧ Box w254 b68 24 #[(.int .i64 j195.1), (.int .i64 j195.2)] ∧ a.defers = [] ∧ a.tmps.size = 251 ∧ Ok [(0, (.slice pa0_0 (List.length l_0) pc0_0)), (1, (.string s_1)), (2, (.string old_2)), (3, (.string with_3)), (4, (.int .i64 most_4)), (5, (.int .i64 n_5)), (13, (.string r1.1)), (14, (bp b6)), (15, (.string r16.1)), (16, (bp b26)), (17, (.string r36.1)), (18, (bp b46)), (19, (bp b68)), (21, (.string j253)), (22, (.int .i64 s233.2))] a.tmps) ?_ ?_
         ·skip
          refine gv_cond (b := (decide (s233.2 > 0))) (by kernel_rfl) (fun hc255 => ?_) (fun hc255 => ?_)
          ·replace h3 := ite_t hc255 h3
           refine gv_region <| gv_pureN 2 [103, 104] [(103, (.string s233.1)), (104, (.string old_2))] (by kernel_rfl) ?_
           refine bindE h3 ?_; clear h3; intro x256 hx257 h3
           refine gv_cat (t := 9) (s := s233.1) (u := old_2) x256 [] (fun e => by cases e) rfl rfl rfl (by kernel_rfl) (by kernel_rfl) hx257 rfl ?_
           refine gv_pureN 1 [21] [(21, (.string x256))] (by kernel_rfl) ?_
           refine gv_nil ?_
           have e := sj h3; subst e
           refine gv_goal fun a hd hs hok => ?_
           exact ⟨hB245, (Nat.le_refl _), hb247, hb248, hb249, hb250, hd, hs, ok_pick [0, 1, 2, 3, 4, 5, 13, 14, 15, 16, 17, 18, 19, 21, 22] hok (by kernel_rfl)⟩
          ·replace h3 := ite_f hc255 h3
           refine gv_skip ?_
           have e := sj h3; subst e
           refine gv_goal fun a hd hs hok => ?_
           exact ⟨hB245, (Nat.le_refl _), hb247, hb248, hb249, hb250, hd, hs, ok_pick [0, 1, 2, 3, 4, 5, 13, 14, 15, 16, 17, 18, 19, 21, 22] hok (by kernel_rfl)⟩
         ·rintro a w254 ⟨hB258, hz259, hb260, hb261, hb262, hb263, hd, hs, hok⟩
          refine gv_in ?_ hd hs hok
          clear hd hs hok
          have hz264 := (nt hz251 hz259)
          clear hz259 hc252 hz251 hb250 hb249 hb248 hb247 hB245
          refine gv_region <| gv_pureN 3 [106, 107, 108] [(106, (.string j253)), (107, (.slice pa0_0 (List.length l_0) pc0_0)), (108, (.int .i64 s233.2))] (by kernel_rfl) ?_
          refine bindE h2 ?_; clear h2; intro x265 hx266 h2
          refine gv_idxaddr (t := 22) (e := 9) (a := pa0_0) (len := List.length l_0) (cap := pc0_0) (kk := .i64) (i := s233.2) (sz := 1) [] (fun e => by cases e) rfl rfl rfl (by kernel_rfl) (by kernel_rfl) Tryd.underlying22 (by kernel_rfl) ((hpa0_0.below hB258 hX0).has hx266) (idx_spec hx266).1 (idx_spec hx266).2.1 rfl ?_
          refine gv_load (t := 9) (A := (elemAddr pa0_0 ((s233.2 : Int).toNat * 1))) (.string x265) [] (fun e => by cases e) rfl rfl rfl (by kernel_rfl) (by kernel_rfl) (by kernel_rfl) (inw0 ((hpa0_0.below hB258 hX0).cell hx266)) rfl ?_
          refine bindE h2 ?_; clear h2; intro x267 hx268 h2
          refine gv_cat (t := 9) (s := j253) (u := x265) x267 [] (fun e => by cases e) rfl rfl rfl (by kernel_rfl) (by kernel_rfl) hx268 rfl ?_
          refine gv_pureN 1 [21] [(21, (.string x267))] (by kernel_rfl) ?_
          refine gv_nil <| gv_blk <| gv_region <| gv_pureN 3 [22, 99, 100] [(22, (.int .i64 (IntKind.i64.wrap (s233.2 + 1))))] (by kernel_rfl) ?_
          refine gv_nil ?_
          have e := sj h2; subst e
          refine gv_goal fun a hd hs hok => ?_
          have hz269 := hz264
          exact ⟨(x267, (IntKind.i64.wrap (s233.2 + 1))), rfl, hB258, hz269, hb260, hb261, hb262, hb263, hd, hs, ok_pick [0, 1, 2, 3, 4, 5, 13, 14, 15, 16, 17, 18, 19, 21, 22] hok (by kernel_rfl)⟩
        ·replace h2 := ite_f hc252 h2
         refine gv_cexit <| gv_exit rfl ?_
         have e := sj h2; subst e
         replace h1 := congrArg some (hR2 _ rfl)
         have e := sj h1; subst e
         refine gv_goal fun a hd hs hok => ?_
         have hz270 := hz251
         exact ⟨hB245, hz270, hb247, hb248, hb249, hb250, hd, hs, ok_pick [1, 2, 3, 4, 5, 13, 14, 15, 16, 17, 18, 19, 21] hok (by kernel_rfl)⟩
     ·rintro a w232 ⟨hB271, hz272, hb273, hb274, hb275, hb276, hd, hs, hok⟩
      refine gv_in ?_ hd hs hok
      clear hd hs hok
      clear hz272 hb230 hb229 hb228 hb227 hB225
      refine gv_seq <| gv_seq <| gv_region <| gv_pureN 1 [112] [(112, (.string r1.1))] (by kernel_rfl) ?_
      refine gv_loadBox (t := 24) (b := b6) (t' := 24) (fr := (0, 0)) #[(.int .i64 r1.2.1), (.int .i64 r1.2.2)] [] (fun e => by cases e) rfl rfl rfl (by kernel_rfl) (by kernel_rfl) (by kernel_rfl) (by kernel_rfl) (inw0 hb273) rfl ?_
      refine gv_pureN 1 [114] [(114, (.string j231))] (by kernel_rfl) ?_
      refine gv_loadBox (t := 24) (b := b68) (t' := 24) (fr := (0, 0)) #[(.int .i64 j195.1), (.int .i64 j195.2)] [] (fun e => by cases e) rfl rfl rfl (by kernel_rfl) (by kernel_rfl) (by kernel_rfl) (by kernel_rfl) (inw0 hb276) rfl ?_
      refine bindE h0 ?_; clear h0; intro r277 hr278 h0
      refine gv_call0 (by kernel_rfl) rfl (by kernel_rfl) enters25 (law4_text_ok fuel r1.1 (r1.2.1, r1.2.2) j231 (j195.1, j195.2) w232  r277 hr278) ?_
      rintro v281 w279 ⟨hg280, rfl⟩
      refine gv_pureN 1 [117] [(117, (.bool (!r277)))] (by kernel_rfl) ?_
      refine gv_nil <| gv_cond (b := (!r277)) (by kernel_rfl) (fun hc282 => ?_) (fun hc282 => ?_)
      ·replace h0 := ite_t hc282 h0
       refine gv_seq <| gv_region <| gv_pureN 1 [12] [(12, (.bool false))] (by kernel_rfl) ?_
       refine gv_nil <| gv_cret ?_
       have e := sj h0; subst e
       refine gv_ret (gv_done [(.bool false)] rfl ⟨(by kernel_rfl), trivial⟩ ?_)
       have hB283 := bg hB271 hg280 nb
       exact ⟨grown_of_below hB283, rfl⟩
      ·replace h0 := ite_f hc282 h0
       refine gv_skip <| gv_seq <| gv_region <| gv_pureN 1 [118] [(118, (.string s_1))] (by kernel_rfl) ?_
       refine gv_new0 (fun b => .slice (some ⟨b, 0, none⟩) 1 1) #[(.string s_1)] 9 (by kernel_rfl) (by kernel_rfl) ?_
       intro b284 w285 hg286 hb287 hbe288 hz289
       have ho290 : Gv.Own sE 9 w285 (fun _ => False) (some ⟨b284, 0, none⟩) 1 ([s_1] : List ByteArray) := Box.ownE hb287 ⟨[(.string s_1)], [], rfl, rfl, rfl⟩ (show 1 ≤ maxLen by decide) (fun h => h)
       have hB295 := bg hB271 hg280 nb
       have hl291 : ∀ g, blk (some ⟨b284, 0, none⟩) = some g → w0.heap.size ≤ g := loo hbe288 hB295.size
       refine bindE h0 ?_; clear h0; intro r296 hr297 h0
       refine gv_call0 (by kernel_rfl) rfl (by kernel_rfl) enters23 (ref4_TextFaults_ok fuel (some ⟨b284, 0, none⟩) 1 ([s_1] : List ByteArray) w285 (fun k => (fun k => blk (some ⟨b284, 0, none⟩) = some k) k) (fun k hk => (fun k (hk : blk (some ⟨b284, 0, none⟩) = some k) => ho290.lt k hk) k hk) ((ho290.rd (Y := fun k => blk (some ⟨b284, 0, none⟩) = some k) (fun _ h => h.elim) (fun g e => e)).wide (fun k hk => hk)) r296 hr297) ?_
       rintro v300 w298 ⟨hg299, rfl⟩
       have hg305 := (grown_trans (grown_trans hg280 hg286) hg299)
       have hk306 := hb276.grown hg305 nb
       refine gv_store0 24 0 (.agg #[(.int .i64 r296.1), (.int .i64 r296.2)]) #[(.int .i64 r296.1), (.int .i64 r296.2)] hk306 (by kernel_rfl) (by kernel_rfl) (by kernel_rfl) ?_
       intro w301 hg302 hb303 hz304
       refine gv_nil <| gv_seq <| gv_region <| gv_pureN 1 [23] [(23, (.int .i64 0))] (by kernel_rfl) ?_
       refine gv_nil <| gv_seq <| gv_seq <| gv_region <| gv_cut_ops (J := fun a w307 => w301 = w307 ∧ a.defers = [] ∧ a.tmps.size = 251 ∧ Ok [(1, (.string s_1)), (2, (.string old_2)), (3, (.string with_3)), (4, (.int .i64 most_4)), (5, (.int .i64 n_5)), (15, (.string r16.1)), (16, (bp b26)), (17, (.string r36.1)), (18, (bp b46)), (19, (bp b68)), (23, (.int .i64 0)), (126, (.bool ((decide (n_5 > 0)) && (!(s_1.toList == (strOf []).toList)))))] a.tmps) ?_ ?_
       ·skip
        refine gv_pureN 3 [121, 122, 123] [(123, (.bool (decide (n_5 > 0))))] (by kernel_rfl) ?_
        refine gv_split (s := 123) (g := (decide (n_5 > 0))) (by kernel_rfl) (fun hc308 => ?_) (fun hc308 => ?_)
        ·skip
         refine gv_pureN 3 [124, 125, 126] [(126, (.bool (!(s_1.toList == (strOf []).toList))))] (by kernel_rfl) ?_
         refine gv_nil <| gv_sub [1, 2, 3, 4, 5, 15, 16, 17, 18, 19, 23, 126] (σ' := [(1, (.string s_1)), (2, (.string old_2)), (3, (.string with_3)), (4, (.int .i64 most_4)), (5, (.int .i64 n_5)), (15, (.string r16.1)), (16, (bp b26)), (17, (.string r36.1)), (18, (bp b46)), (19, (bp b68)), (23, (.int .i64 0)), (126, (.bool (!(s_1.toList == (strOf []).toList))))]) (by kernel_rfl) ?_
         refine gv_goal fun a hd hs hok => ⟨rfl, hd, hs, ?_⟩
         obtain ⟨q1, q2, q3, q4, q5, q15, q16, q17, q18, q19, q23, q126, _⟩ := hok
         exact ⟨q1, q2, q3, q4, q5, q15, q16, q17, q18, q19, q23, (by rw [hc308]; exact q126), trivial⟩
        ·skip
         refine gv_pureN 3 [124, 125, 126] [(126, (.bool false))] (by kernel_rfl) ?_
         refine gv_nil <| gv_sub [1, 2, 3, 4, 5, 15, 16, 17, 18, 19, 23, 126] (σ' := [(1, (.string s_1)), (2, (.string old_2)), (3, (.string with_3)), (4, (.int .i64 most_4)), (5, (.int .i64 n_5)), (15, (.string r16.1)), (16, (bp b26)), (17, (.string r36.1)), (18, (bp b46)), (19, (bp b68)), (23, (.int .i64 0)), (126, (.bool false))]) (by kernel_rfl) ?_
         refine gv_goal fun a hd hs hok => ⟨rfl, hd, hs, ?_⟩
         obtain ⟨q1, q2, q3, q4, q5, q15, q16, q17, q18, q19, q23, q126, _⟩ := hok
         exact ⟨q1, q2, q3, q4, q5, q15, q16, q17, q18, q19, q23, (by rw [hc308]; exact q126), trivial⟩
       ·rintro a w307 ⟨e, hd, hs, hok⟩; subst e
        refine gv_in ?_ hd hs hok
        clear hd hs hok
        refine bindE h0 ?_; clear h0; intro j309 h1 h0
        refine gv_cut_code (J := fun a w310 => Below w0.heap.size w0 w310 ∧ w301.heap.size ≤ w310.heap.size ∧ Box w310 b26 24 #[(.int .i64 r16.2.1), (.int .i64 r16.2.2)] ∧ Box w310 b46 24 #[(.int .i64 r36.2.1), (.int .i64 r36.2.2)] ∧ Box w310 b68 24 #[(.int .i64 r296.1), (.int .i64 r296.2)] ∧ a.defers = [] ∧ a.tmps.size = 251 ∧ Ok [(1, (.string s_1)), (2, (.string old_2)), (3, (.string with_3)), (4, (.int .i64 most_4)), (5, (.int .i64 n_5)), (15, (.string r16.1)), (16, (bp b26)), (17, (.string r36.1)), (18, (bp b46)), (19, (bp b68)), (23, (.int .i64 j309))] a.tmps) ?_ ?_
        ·skip
         refine gv_cond (b := ((decide (n_5 > 0)) && (!(s_1.toList == (strOf []).toList)))) (by kernel_rfl) (fun hc311 => ?_) (fun hc311 => ?_)
         ·replace h1 := ite_t hc311 h1
          refine gv_seq <| gv_region <| gv_pureN 1 [23] [(23, (.int .i64 4001))] (by kernel_rfl) ?_
          refine gv_nil <| gv_seq <| gv_region <| gv_pureN 2 [127, 128] [(128, (.bool (decide (n_5 ≤ 4000))))] (by kernel_rfl) ?_
          refine gv_nil <| gv_cond (b := (decide (n_5 ≤ 4000))) (by kernel_rfl) (fun hc312 => ?_) (fun hc312 => ?_)
          ·replace h1 := ite_t hc312 h1
           refine gv_region <| gv_pureN 5 [23, 129, 130, 131, 132] [(23, (.int .i64 (IntKind.i64.wrap (n_5 * ((ByteArray.size s_1 : Nat) : Int)))))] (by kernel_rfl) ?_
           refine gv_sub [1, 2, 3, 4, 5, 15, 16, 17, 18, 19, 23] (σ' := [(1, (.string s_1)), (2, (.string old_2)), (3, (.string with_3)), (4, (.int .i64 most_4)), (5, (.int .i64 n_5)), (15, (.string r16.1)), (16, (bp b26)), (17, (.string r36.1)), (18, (bp b46)), (19, (bp b68)), (23, (.int .i64 (IntKind.i64.wrap (n_5 * ((ByteArray.size s_1 : Nat) : Int)))))]) (by kernel_rfl) ?_
           refine bindE h1 ?_; clear h1; intro n313 hn314 h1
           refine gv_name (s := 23) (v := (.int .i64 (IntKind.i64.wrap (n_5 * ((ByteArray.size s_1 : Nat) : Int))))) (v' := (.int .i64 n313)) (by kernel_rfl) (congrArg (Value.int .i64) (sj hn314)) ?_
           refine gv_nil ?_
           have e := sj h1; subst e
           refine gv_goal fun a hd hs hok => ?_
           have hg315 := (grown_trans hg286 hg299)
           have hB316 := bg hB295 hg315 nb
           have hB317 := bg hB62 hg64 nb
           have hlo318 : w0.heap.size ≤ b68 := lob hbe72 hB317.size
           have hB319 := bg hB316 hg302 (rowlo hlo318)
           have hk320 := hb34.grown hg44 nb
           have lt321 := ltl ((ltb hk320) _ rfl) ((lowb hbe50) _ rfl)
           have hk322 := hb54.grown hg64 nb
           have lt323 := ltl ((ltb hk322) _ rfl) ((lowb hbe72) _ rfl)
           have lt324 := ltt lt321 lt323
           have hk325 := (hb274.grown hg305 nb).grown hg302 (rowne (ng lt324))
           have hk326 := (hb275.grown hg305 nb).grown hg302 (rowne (ng lt323))
           exact ⟨hB319, (Nat.le_refl _), hk325, hk326, hb303, hd, hs, ok_pick [1, 2, 3, 4, 5, 15, 16, 17, 18, 19, 23] hok (by kernel_rfl)⟩
          ·replace h1 := ite_f hc312 h1
           refine gv_skip ?_
           have e := sj h1; subst e
           refine gv_goal fun a hd hs hok => ?_
           have hg327 := (grown_trans hg286 hg299)
           have hB328 := bg hB295 hg327 nb
           have hB329 := bg hB62 hg64 nb
           have hlo330 : w0.heap.size ≤ b68 := lob hbe72 hB329.size
           have hB331 := bg hB328 hg302 (rowlo hlo330)
           have hk332 := hb34.grown hg44 nb
           have lt333 := ltl ((ltb hk332) _ rfl) ((lowb hbe50) _ rfl)
           have hk334 := hb54.grown hg64 nb
           have lt335 := ltl ((ltb hk334) _ rfl) ((lowb hbe72) _ rfl)
           have lt336 := ltt lt333 lt335
           have hk337 := (hb274.grown hg305 nb).grown hg302 (rowne (ng lt336))
           have hk338 := (hb275.grown hg305 nb).grown hg302 (rowne (ng lt335))
           exact ⟨hB331, (Nat.le_refl _), hk337, hk338, hb303, hd, hs, ok_pick [1, 2, 3, 4, 5, 15, 16, 17, 18, 19, 23] hok (by kernel_rfl)⟩
         ·replace h1 := ite_f hc311 h1
          refine gv_skip ?_
          have e := sj h1; subst e
          refine gv_goal fun a hd hs hok => ?_
          have hg339 := (grown_trans hg286 hg299)
          have hB340 := bg hB295 hg339 nb
          have hB341 := bg hB62 hg64 nb
          have hlo342 : w0.heap.size ≤ b68 := lob hbe72 hB341.size
          have hB343 := bg hB340 hg302 (rowlo hlo342)
          have hk344 := hb34.grown hg44 nb
          have lt345 := ltl ((ltb hk344) _ rfl) ((lowb hbe50) _ rfl)
          have hk346 := hb54.grown hg64 nb
          have lt347 := ltl ((ltb hk346) _ rfl) ((lowb hbe72) _ rfl)
          have lt348 := ltt lt345 lt347
          have hk349 := (hb274.grown hg305 nb).grown hg302 (rowne (ng lt348))
          have hk350 := (hb275.grown hg305 nb).grown hg302 (rowne (ng lt347))
          exact ⟨hB343, (Nat.le_refl _), hk349, hk350, hb303, hd, hs, ok_pick [1, 2, 3, 4, 5, 15, 16, 17, 18, 19, 23] hok (by kernel_rfl)⟩
        ·rintro a w310 ⟨hB351, hz352, hb353, hb354, hb355, hd, hs, hok⟩
         refine gv_in ?_ hd hs hok
         clear hd hs hok
         clear hz352 hz304 hb303 hg302 hk306 hg305 hg299 hr297 hl291 hB295 ho290 hz289 hbe288 hb287 hg286 hc282 hg280 hr278 hb276 hb275 hb274 hb273 hB271 hbe30 hg24 hlo21 hb14
         refine gv_seq <| gv_region <| gv_pureN 1 [24] [(24, (.string (strOf [])))] (by kernel_rfl) ?_
         refine gv_nil <| gv_seq <| gv_seq <| gv_region <| gv_pureN 1 [25] [(25, (.int .i64 0))] (by kernel_rfl) ?_
         refine gv_nil <| bindE h0 ?_; clear h0; intro j356 h1 h0
         refine gv_cut_code (J := fun a w357 => Below w0.heap.size w0 w357 ∧ w310.heap.size ≤ w357.heap.size ∧ Box w357 b26 24 #[(.int .i64 r16.2.1), (.int .i64 r16.2.2)] ∧ Box w357 b46 24 #[(.int .i64 r36.2.1), (.int .i64 r36.2.2)] ∧ Box w357 b68 24 #[(.int .i64 r296.1), (.int .i64 r296.2)] ∧ a.defers = [] ∧ a.tmps.size = 251 ∧ Ok [(1, (.string s_1)), (2, (.string old_2)), (3, (.string with_3)), (4, (.int .i64 most_4)), (15, (.string r16.1)), (16, (bp b26)), (17, (.string r36.1)), (18, (bp b46)), (19, (bp b68)), (23, (.int .i64 j309)), (24, (.string j356))] a.tmps) ?_ ?_
         ·skip
          refine gv_block <| gv_loop (A := fun (s358 : (ByteArray × Int)) a w359 => Below w0.heap.size w0 w359 ∧ w310.heap.size ≤ w359.heap.size ∧ Box w359 b26 24 #[(.int .i64 r16.2.1), (.int .i64 r16.2.2)] ∧ Box w359 b46 24 #[(.int .i64 r36.2.1), (.int .i64 r36.2.2)] ∧ Box w359 b68 24 #[(.int .i64 r296.1), (.int .i64 r296.2)] ∧ a.defers = [] ∧ a.tmps.size = 251 ∧ Ok [(1, (.string s_1)), (2, (.string old_2)), (3, (.string with_3)), (4, (.int .i64 most_4)), (5, (.int .i64 n_5)), (15, (.string r16.1)), (16, (bp b26)), (17, (.string r36.1)), (18, (bp b46)), (19, (bp b68)), (23, (.int .i64 j309)), (24, (.string s358.1)), (25, (.int .i64 s358.2))] a.tmps) h1 ?_ ?_
          ·intro a hd hs hok
           exact ⟨hB351, (Nat.le_refl _), hb353, hb354, hb355, hd, hs, ok_pick [1, 2, 3, 4, 5, 15, 16, 17, 18, 19, 23, 24, 25] hok (by kernel_rfl)⟩
          ·rintro s358 r2 h2 hR2 a w359 ⟨hB360, hz361, hb362, hb363, hb364, hd, hs, hok⟩
           refine gv_in ?_ hd hs hok
           clear hd hs hok
           clear hb355 hb354 hb353 hB351
           refine gv_seq <| gv_seq <| gv_region <| bindE h2 ?_; clear h2; intro j365 h3 h2
           refine gv_cut_ops (J := fun a w366 => Below w0.heap.size w0 w366 ∧ w359.heap.size ≤ w366.heap.size ∧ Box w366 b26 24 #[(.int .i64 r16.2.1), (.int .i64 r16.2.2)] ∧ Box w366 b46 24 #[(.int .i64 r36.2.1), (.int .i64 r36.2.2)] ∧ Box w366 b68 24 #[(.int .i64 r296.1), (.int .i64 r296.2)] ∧ a.defers = [] ∧ a.tmps.size = 251 ∧ Ok [(1, (.string s_1)), (2, (.string old_2)), (3, (.string with_3)), (4, (.int .i64 most_4)), (5, (.int .i64 n_5)), (15, (.string r16.1)), (16, (bp b26)), (17, (.string r36.1)), (18, (bp b46)), (19, (bp b68)), (23, (.int .i64 j309)), (24, (.string s358.1)), (25, (.int .i64 s358.2)), (148, (.bool j365))] a.tmps) ?_ ?_
           ·skip
            refine gv_pureN 4 [133, 134, 135, 136] [(136, (.bool (decide (s358.2 < n_5))))] (by kernel_rfl) ?_
            refine gv_split (s := 136) (g := (decide (s358.2 < n_5))) (by kernel_rfl) (fun hc367 => ?_) (fun hc367 => ?_)
            ·skip
             replace h3 := ite_t hc367 h3
             refine gv_pureN 1 [137] [(137, (bp b68))] (by kernel_rfl) ?_
             refine gv_load (t := 3) (A := ⟨b68, 0, none⟩) (.int .i64 r296.1) [] (fun e => by cases e) rfl rfl rfl (by kernel_rfl) (by kernel_rfl) (by kernel_rfl) (inw0 (hb364.cell 0 rfl)) rfl ?_
             refine gv_pureN 3 [139, 140, 141] [(141, (.bool (r296.1 == 0)))] (by kernel_rfl) ?_
             refine gv_split (s := 141) (g := (r296.1 == 0)) (by kernel_rfl) (fun hc368 => ?_) (fun hc368 => ?_)
             ·skip
              replace h3 := ite_t hc368 h3
              refine gv_pureN 4 [142, 143, 144, 145] [(145, (.bool (decide (j309 ≤ 4000))))] (by kernel_rfl) ?_
              refine gv_split (s := 145) (g := (decide (j309 ≤ 4000))) (by kernel_rfl) (fun hc369 => ?_) (fun hc369 => ?_)
              ·skip
               replace h3 := ite_t hc369 h3
               refine gv_pureN 3 [146, 147, 148] [(148, (.bool (!(s_1.toList == (strOf []).toList))))] (by kernel_rfl) ?_
               refine gv_nil ?_
               have e := sj h3; subst e
               refine gv_goal fun a hd hs hok => ?_
               exact ⟨hB360, (Nat.le_refl _), hb362, hb363, hb364, hd, hs, ok_pick [1, 2, 3, 4, 5, 15, 16, 17, 18, 19, 23, 24, 25, 148] hok (by kernel_rfl)⟩
              ·skip
               replace h3 := ite_f hc369 h3
               refine gv_pureN 3 [146, 147, 148] [(148, (.bool false))] (by kernel_rfl) ?_
               refine gv_nil ?_
               have e := sj h3; subst e
               refine gv_goal fun a hd hs hok => ?_
               exact ⟨hB360, (Nat.le_refl _), hb362, hb363, hb364, hd, hs, ok_pick [1, 2, 3, 4, 5, 15, 16, 17, 18, 19, 23, 24, 25, 148] hok (by kernel_rfl)⟩
             ·skip
              replace h3 := ite_f hc368 h3
              refine gv_pureN 7 [142, 143, 144, 145, 146, 147, 148] [(148, (.bool false))] (by kernel_rfl) ?_
              refine gv_nil ?_
              have e := sj h3; subst e
              refine gv_goal fun a hd hs hok => ?_
              exact ⟨hB360, (Nat.le_refl _), hb362, hb363, hb364, hd, hs, ok_pick [1, 2, 3, 4, 5, 15, 16, 17, 18, 19, 23, 24, 25, 148] hok (by kernel_rfl)⟩
            ·skip
             replace h3 := ite_f hc367 h3
             refine gv_pureN 12 [137, 138, 139, 140, 141, 142, 143, 144, 145, 146, 147, 148] [(148, (.bool false))] (by kernel_rfl) ?_
             refine gv_nil ?_
             have e := sj h3; subst e
             refine gv_goal fun a hd hs hok => ?_
             exact ⟨hB360, (Nat.le_refl _), hb362, hb363, hb364, hd, hs, ok_pick [1, 2, 3, 4, 5, 15, 16, 17, 18, 19, 23, 24, 25, 148] hok (by kernel_rfl)⟩
           ·rintro a w366 ⟨hB370, hz371, hb372, hb373, hb374, hd, hs, hok⟩
            refine gv_in ?_ hd hs hok
            clear hd hs hok
            have hz375 := (nt hz361 hz371)
            clear hz371 hb364 hb363 hb362 hz361 hB360
            refine gv_cond (b := j365) (by kernel_rfl) (fun hc376 => ?_) (fun hc376 => ?_)
            ·replace h2 := ite_t hc376 h2
             refine gv_skip <| gv_seq <| gv_block <| gv_region <| gv_pureN 2 [151, 152] [(151, (.string s358.1)), (152, (.string s_1))] (by kernel_rfl) ?_
             refine bindE h2 ?_; clear h2; intro x377 hx378 h2
             refine gv_cat (t := 9) (s := s358.1) (u := s_1) x377 [] (fun e => by cases e) rfl rfl rfl (by kernel_rfl) (by kernel_rfl) hx378 rfl ?_
             refine gv_pureN 1 [24] [(24, (.string x377))] (by kernel_rfl) ?_
             refine gv_nil <| gv_blk <| gv_region <| gv_pureN 3 [25, 149, 150] [(25, (.int .i64 (IntKind.i64.wrap (s358.2 + 1))))] (by kernel_rfl) ?_
             refine gv_nil ?_
             have e := sj h2; subst e
             refine gv_goal fun a hd hs hok => ?_
             have hz379 := hz375
             exact ⟨(x377, (IntKind.i64.wrap (s358.2 + 1))), rfl, hB370, hz379, hb372, hb373, hb374, hd, hs, ok_pick [1, 2, 3, 4, 5, 15, 16, 17, 18, 19, 23, 24, 25] hok (by kernel_rfl)⟩
            ·replace h2 := ite_f hc376 h2
             refine gv_cexit <| gv_exit rfl ?_
             have e := sj h2; subst e
             replace h1 := congrArg some (hR2 _ rfl)
             have e := sj h1; subst e
             refine gv_goal fun a hd hs hok => ?_
             have hz380 := hz375
             exact ⟨hB370, hz380, hb372, hb373, hb374, hd, hs, ok_pick [1, 2, 3, 4, 15, 16, 17, 18, 19, 23, 24] hok (by kernel_rfl)⟩
         ·rintro a w357 ⟨hB381, hz382, hb383, hb384, hb385, hd, hs, hok⟩
          refine gv_in ?_ hd hs hok
          clear hd hs hok
          clear hz382 hb355 hb354 hb353 hB351
          refine gv_seq <| gv_seq <| gv_region <| bindE h0 ?_; clear h0; intro j386 h1 h0
          refine gv_cut_ops (J := fun a w387 => Below w0.heap.size w0 w387 ∧ w357.heap.size ≤ w387.heap.size ∧ Box w387 b26 24 #[(.int .i64 r16.2.1), (.int .i64 r16.2.2)] ∧ Box w387 b46 24 #[(.int .i64 r36.2.1), (.int .i64 r36.2.2)] ∧ Box w387 b68 24 #[(.int .i64 r296.1), (.int .i64 r296.2)] ∧ a.defers = [] ∧ a.tmps.size = 251 ∧ Ok [(1, (.string s_1)), (2, (.string old_2)), (3, (.string with_3)), (4, (.int .i64 most_4)), (15, (.string r16.1)), (16, (bp b26)), (17, (.string r36.1)), (18, (bp b46)), (19, (bp b68)), (24, (.string j356)), (160, (.bool j386))] a.tmps) ?_ ?_
          ·skip
           refine gv_pureN 1 [154] [(154, (bp b68))] (by kernel_rfl) ?_
           refine gv_load (t := 3) (A := ⟨b68, 0, none⟩) (.int .i64 r296.1) [] (fun e => by cases e) rfl rfl rfl (by kernel_rfl) (by kernel_rfl) (by kernel_rfl) (inw0 (hb385.cell 0 rfl)) rfl ?_
           refine gv_pureN 2 [156, 157] [(157, (.bool (r296.1 == 0)))] (by kernel_rfl) ?_
           refine gv_split (s := 157) (g := (r296.1 == 0)) (by kernel_rfl) (fun hc388 => ?_) (fun hc388 => ?_)
           ·skip
            replace h1 := ite_t hc388 h1
            refine gv_pureN 3 [158, 159, 160] [(160, (.bool (decide (j309 > 4000))))] (by kernel_rfl) ?_
            refine gv_nil ?_
            have e := sj h1; subst e
            refine gv_goal fun a hd hs hok => ?_
            exact ⟨hB381, (Nat.le_refl _), hb383, hb384, hb385, hd, hs, ok_pick [1, 2, 3, 4, 15, 16, 17, 18, 19, 24, 160] hok (by kernel_rfl)⟩
           ·skip
            replace h1 := ite_f hc388 h1
            refine gv_pureN 3 [158, 159, 160] [(160, (.bool false))] (by kernel_rfl) ?_
            refine gv_nil ?_
            have e := sj h1; subst e
            refine gv_goal fun a hd hs hok => ?_
            exact ⟨hB381, (Nat.le_refl _), hb383, hb384, hb385, hd, hs, ok_pick [1, 2, 3, 4, 15, 16, 17, 18, 19, 24, 160] hok (by kernel_rfl)⟩
          ·rintro a w387 ⟨hB389, hz390, hb391, hb392, hb393, hd, hs, hok⟩
           refine gv_in ?_ hd hs hok
           clear hd hs hok
           clear hz390 hb385 hb384 hb383 hB381
           refine bindE h0 ?_; clear h0; intro j394 h1 h0
           refine gv_cut_code (J := fun a w395 => Below w0.heap.size w0 w395 ∧ w387.heap.size ≤ w395.heap.size ∧ Box w395 b26 24 #[(.int .i64 r16.2.1), (.int .i64 r16.2.2)] ∧ Box w395 b46 24 #[(.int .i64 r36.2.1), (.int .i64 r36.2.2)] ∧ Box w395 b68 24 #[(.int .i64 j394.1), (.int .i64 j394.2)] ∧ a.defers = [] ∧ a.tmps.size = 251 ∧ Ok [(1, (.string s_1)), (2, (.string old_2)), (3, (.string with_3)), (4, (.int .i64 most_4)), (15, (.string r16.1)), (16, (bp b26)), (17, (.string r36.1)), (18, (bp b46)), (19, (bp b68)), (24, (.string j356))] a.tmps) ?_ ?_
           ·skip
            refine gv_cond (b := j386) (by kernel_rfl) (fun hc396 => ?_) (fun hc396 => ?_)
            ·replace h1 := ite_t hc396 h1
             refine gv_region <| bindE h1 ?_; clear h1; intro r397 hr398 h1
             refine gv_call0 (by kernel_rfl) rfl (by kernel_rfl) enters29 (ref4_At_ok fuel 3 (-1) w387  r397 hr398) ?_
             rintro v401 w399 ⟨hg400, rfl⟩
             have hk406 := hb393.grown hg400 nb
             refine gv_store0 24 0 (.agg #[(.int .i64 r397.1), (.int .i64 r397.2)]) #[(.int .i64 r397.1), (.int .i64 r397.2)] hk406 (by kernel_rfl) (by kernel_rfl) (by kernel_rfl) ?_
             intro w402 hg403 hb404 hz405
             have hz407 := (nt hg400.size hg403.size)
             clear hz405 hk406 hr398 hc396 hb393
             refine gv_nil ?_
             have e := sj h1; subst e
             refine gv_goal fun a hd hs hok => ?_
             have hB408 := bg hB389 hg400 nb
             have hB409 := bg hB62 hg64 nb
             have hlo410 : w0.heap.size ≤ b68 := lob hbe72 hB409.size
             have hB411 := bg hB408 hg403 (rowlo hlo410)
             have hz412 := hz407
             have hk413 := hb34.grown hg44 nb
             have lt414 := ltl ((ltb hk413) _ rfl) ((lowb hbe50) _ rfl)
             have hk415 := hb54.grown hg64 nb
             have lt416 := ltl ((ltb hk415) _ rfl) ((lowb hbe72) _ rfl)
             have lt417 := ltt lt414 lt416
             have hk418 := (hb391.grown hg400 nb).grown hg403 (rowne (ng lt417))
             have hk419 := (hb392.grown hg400 nb).grown hg403 (rowne (ng lt416))
             exact ⟨hB411, hz412, hk418, hk419, hb404, hd, hs, ok_pick [1, 2, 3, 4, 15, 16, 17, 18, 19, 24] hok (by kernel_rfl)⟩
            ·replace h1 := ite_f hc396 h1
             refine gv_skip ?_
             have e := sj h1; subst e
             refine gv_goal fun a hd hs hok => ?_
             exact ⟨hB389, (Nat.le_refl _), hb391, hb392, hb393, hd, hs, ok_pick [1, 2, 3, 4, 15, 16, 17, 18, 19, 24] hok (by kernel_rfl)⟩
           ·rintro a w395 ⟨hB420, hz421, hb422, hb423, hb424, hd, hs, hok⟩
            refine gv_in ?_ hd hs hok
            clear hd hs hok
            clear hz421 hb393 hb392 hb391 hB389
            refine gv_seq <| gv_seq <| gv_region <| gv_pureN 1 [162] [(162, (.string r36.1))] (by kernel_rfl) ?_
            refine gv_loadBox (t := 24) (b := b46) (t' := 24) (fr := (0, 0)) #[(.int .i64 r36.2.1), (.int .i64 r36.2.2)] [] (fun e => by cases e) rfl rfl rfl (by kernel_rfl) (by kernel_rfl) (by kernel_rfl) (by kernel_rfl) (inw0 hb423) rfl ?_
            refine gv_pureN 1 [164] [(164, (.string j356))] (by kernel_rfl) ?_
            refine gv_loadBox (t := 24) (b := b68) (t' := 24) (fr := (0, 0)) #[(.int .i64 j394.1), (.int .i64 j394.2)] [] (fun e => by cases e) rfl rfl rfl (by kernel_rfl) (by kernel_rfl) (by kernel_rfl) (by kernel_rfl) (inw0 hb424) rfl ?_
            refine bindE h0 ?_; clear h0; intro r425 hr426 h0
            refine gv_call0 (by kernel_rfl) rfl (by kernel_rfl) enters25 (law4_text_ok fuel r36.1 (r36.2.1, r36.2.2) j356 (j394.1, j394.2) w395  r425 hr426) ?_
            rintro v429 w427 ⟨hg428, rfl⟩
            refine gv_pureN 1 [167] [(167, (.bool (!r425)))] (by kernel_rfl) ?_
            refine gv_nil <| gv_cond (b := (!r425)) (by kernel_rfl) (fun hc430 => ?_) (fun hc430 => ?_)
            ·replace h0 := ite_t hc430 h0
             refine gv_seq <| gv_region <| gv_pureN 1 [12] [(12, (.bool false))] (by kernel_rfl) ?_
             refine gv_nil <| gv_cret ?_
             have e := sj h0; subst e
             refine gv_ret (gv_done [(.bool false)] rfl ⟨(by kernel_rfl), trivial⟩ ?_)
             have hB431 := bg hB420 hg428 nb
             exact ⟨grown_of_below hB431, rfl⟩
            ·replace h0 := ite_f hc430 h0
             refine gv_skip <| gv_seq <| gv_region <| gv_pureN 3 [168, 169, 170] [(168, (.string s_1)), (169, (.string old_2)), (170, (.string with_3))] (by kernel_rfl) ?_
             refine gv_new0 (fun b => .slice (some ⟨b, 0, none⟩) 3 3) #[(.string s_1), (.string old_2), (.string with_3)] 9 (by kernel_rfl) (by kernel_rfl) ?_
             intro b432 w433 hg434 hb435 hbe436 hz437
             have ho438 : Gv.Own sE 9 w433 (fun _ => False) (some ⟨b432, 0, none⟩) 3 ([s_1, old_2, with_3] : List ByteArray) := Box.ownE hb435 ⟨[(.string s_1)], [(.string old_2), (.string with_3)], rfl, rfl, ⟨[(.string old_2)], [(.string with_3)], rfl, rfl, ⟨[(.string with_3)], [], rfl, rfl, rfl⟩⟩⟩ (show 3 ≤ maxLen by decide) (fun h => h)
             have hB443 := bg hB420 hg428 nb
             have hl439 : ∀ g, blk (some ⟨b432, 0, none⟩) = some g → w0.heap.size ≤ g := loo hbe436 hB443.size
             refine bindE h0 ?_; clear h0; intro r444 hr445 h0
             refine gv_call0 (by kernel_rfl) rfl (by kernel_rfl) enters23 (ref4_TextFaults_ok fuel (some ⟨b432, 0, none⟩) 3 ([s_1, old_2, with_3] : List ByteArray) w433 (fun k => (fun k => blk (some ⟨b432, 0, none⟩) = some k) k) (fun k hk => (fun k (hk : blk (some ⟨b432, 0, none⟩) = some k) => ho438.lt k hk) k hk) ((ho438.rd (Y := fun k => blk (some ⟨b432, 0, none⟩) = some k) (fun _ h => h.elim) (fun g e => e)).wide (fun k hk => hk)) r444 hr445) ?_
             rintro v448 w446 ⟨hg447, rfl⟩
             have hg453 := (grown_trans (grown_trans hg428 hg434) hg447)
             have hk454 := hb424.grown hg453 nb
             refine gv_store0 24 0 (.agg #[(.int .i64 r444.1), (.int .i64 r444.2)]) #[(.int .i64 r444.1), (.int .i64 r444.2)] hk454 (by kernel_rfl) (by kernel_rfl) (by kernel_rfl) ?_
             intro w449 hg450 hb451 hz452
             refine gv_nil <| gv_seq <| gv_seq <| gv_region <| bindE h0 ?_; clear h0; intro j455 h1 h0
             refine gv_cut_ops (J := fun a w456 => Below w0.heap.size w0 w456 ∧ w449.heap.size ≤ w456.heap.size ∧ Box w456 b26 24 #[(.int .i64 r16.2.1), (.int .i64 r16.2.2)] ∧ Box w456 b68 24 #[(.int .i64 r444.1), (.int .i64 r444.2)] ∧ a.defers = [] ∧ a.tmps.size = 251 ∧ Ok [(1, (.string s_1)), (2, (.string old_2)), (3, (.string with_3)), (4, (.int .i64 most_4)), (15, (.string r16.1)), (16, (bp b26)), (19, (bp b68)), (179, (.bool j455))] a.tmps) ?_ ?_
             ·skip
              refine gv_pureN 1 [173] [(173, (bp b68))] (by kernel_rfl) ?_
              refine gv_load (t := 3) (A := ⟨b68, 0, none⟩) (.int .i64 r444.1) [] (fun e => by cases e) rfl rfl rfl (by kernel_rfl) (by kernel_rfl) (by kernel_rfl) (inw0 (hb451.cell 0 rfl)) rfl ?_
              refine gv_pureN 2 [175, 176] [(176, (.bool (r444.1 == 0)))] (by kernel_rfl) ?_
              refine gv_split (s := 176) (g := (r444.1 == 0)) (by kernel_rfl) (fun hc457 => ?_) (fun hc457 => ?_)
              ·skip
               replace h1 := ite_t hc457 h1
               refine gv_pureN 3 [177, 178, 179] [(179, (.bool (old_2.toList == (strOf []).toList)))] (by kernel_rfl) ?_
               refine gv_sub [1, 2, 3, 4, 15, 16, 19, 179] (σ' := [(1, (.string s_1)), (2, (.string old_2)), (3, (.string with_3)), (4, (.int .i64 most_4)), (15, (.string r16.1)), (16, (bp b26)), (19, (bp b68)), (179, (.bool (old_2.toList == (strOf []).toList)))]) (by kernel_rfl) ?_
               refine gv_nil ?_
               have e := sj h1; subst e
               refine gv_goal fun a hd hs hok => ?_
               have hg458 := (grown_trans hg434 hg447)
               have hB459 := bg hB443 hg458 nb
               have hB460 := bg hB62 hg64 nb
               have hlo461 : w0.heap.size ≤ b68 := lob hbe72 hB460.size
               have hB462 := bg hB459 hg450 (rowlo hlo461)
               have hk463 := hb34.grown hg44 nb
               have lt464 := ltl ((ltb hk463) _ rfl) ((lowb hbe50) _ rfl)
               have hk465 := hb54.grown hg64 nb
               have lt466 := ltl ((ltb hk465) _ rfl) ((lowb hbe72) _ rfl)
               have lt467 := ltt lt464 lt466
               have hk468 := (hb422.grown hg453 nb).grown hg450 (rowne (ng lt467))
               exact ⟨hB462, (Nat.le_refl _), hk468, hb451, hd, hs, ok_pick [1, 2, 3, 4, 15, 16, 19, 179] hok (by kernel_rfl)⟩
              ·skip
               replace h1 := ite_f hc457 h1
               refine gv_pureN 3 [177, 178, 179] [(179, (.bool false))] (by kernel_rfl) ?_
               refine gv_sub [1, 2, 3, 4, 15, 16, 19, 179] (σ' := [(1, (.string s_1)), (2, (.string old_2)), (3, (.string with_3)), (4, (.int .i64 most_4)), (15, (.string r16.1)), (16, (bp b26)), (19, (bp b68)), (179, (.bool false))]) (by kernel_rfl) ?_
               refine gv_nil ?_
               have e := sj h1; subst e
               refine gv_goal fun a hd hs hok => ?_
               have hg469 := (grown_trans hg434 hg447)
               have hB470 := bg hB443 hg469 nb
               have hB471 := bg hB62 hg64 nb
               have hlo472 : w0.heap.size ≤ b68 := lob hbe72 hB471.size
               have hB473 := bg hB470 hg450 (rowlo hlo472)
               have hk474 := hb34.grown hg44 nb
               have lt475 := ltl ((ltb hk474) _ rfl) ((lowb hbe50) _ rfl)
               have hk476 := hb54.grown hg64 nb
               have lt477 := ltl ((ltb hk476) _ rfl) ((lowb hbe72) _ rfl)
               have lt478 := ltt lt475 lt477
               have hk479 := (hb422.grown hg453 nb).grown hg450 (rowne (ng lt478))
               exact ⟨hB473, (Nat.le_refl _), hk479, hb451, hd, hs, ok_pick [1, 2, 3, 4, 15, 16, 19, 179] hok (by kernel_rfl)⟩
             ·rintro a w456 ⟨hB480, hz481, hb482, hb483, hd, hs, hok⟩
              refine gv_in ?_ hd hs hok
              clear hd hs hok
              clear hz481 hz452 hb451 hg450 hk454 hg453 hg447 hr445 hl439 hB443 ho438 hz437 hbe436 hb435 hg434 hc430 hg428 hr426 hb424 hb423 hb422 hB420 hlo61
              refine bindE h0 ?_; clear h0; intro j484 h1 h0
              refine gv_cut_code (J := fun a w485 => Below w0.heap.size w0 w485 ∧ w456.heap.size ≤ w485.heap.size ∧ Box w485 b26 24 #[(.int .i64 r16.2.1), (.int .i64 r16.2.2)] ∧ Box w485 b68 24 #[(.int .i64 j484.1), (.int .i64 j484.2)] ∧ a.defers = [] ∧ a.tmps.size = 251 ∧ Ok [(1, (.string s_1)), (2, (.string old_2)), (3, (.string with_3)), (4, (.int .i64 most_4)), (15, (.string r16.1)), (16, (bp b26)), (19, (bp b68))] a.tmps) ?_ ?_
              ·skip
               refine gv_cond (b := j455) (by kernel_rfl) (fun hc486 => ?_) (fun hc486 => ?_)
               ·replace h1 := ite_t hc486 h1
                refine gv_region <| bindE h1 ?_; clear h1; intro r487 hr488 h1
                refine gv_call0 (by kernel_rfl) rfl (by kernel_rfl) enters29 (ref4_At_ok fuel 10 (-2) w456  r487 hr488) ?_
                rintro v491 w489 ⟨hg490, rfl⟩
                have hk496 := hb483.grown hg490 nb
                refine gv_store0 24 0 (.agg #[(.int .i64 r487.1), (.int .i64 r487.2)]) #[(.int .i64 r487.1), (.int .i64 r487.2)] hk496 (by kernel_rfl) (by kernel_rfl) (by kernel_rfl) ?_
                intro w492 hg493 hb494 hz495
                refine gv_nil ?_
                have e := sj h1; subst e
                refine gv_goal fun a hd hs hok => ?_
                have hB497 := bg hB480 hg490 nb
                have hB498 := bg hB62 hg64 nb
                have hlo499 : w0.heap.size ≤ b68 := lob hbe72 hB498.size
                have hB500 := bg hB497 hg493 (rowlo hlo499)
                have hz501 := (nt hg490.size hg493.size)
                have hk502 := hb34.grown hg44 nb
                have lt503 := ltl ((ltb hk502) _ rfl) ((lowb hbe50) _ rfl)
                have hk504 := hb54.grown hg64 nb
                have lt505 := ltl ((ltb hk504) _ rfl) ((lowb hbe72) _ rfl)
                have lt506 := ltt lt503 lt505
                have hk507 := (hb482.grown hg490 nb).grown hg493 (rowne (ng lt506))
                exact ⟨hB500, hz501, hk507, hb494, hd, hs, ok_pick [1, 2, 3, 4, 15, 16, 19] hok (by kernel_rfl)⟩
               ·replace h1 := ite_f hc486 h1
                refine gv_skip ?_
                have e := sj h1; subst e
                refine gv_goal fun a hd hs hok => ?_
                exact ⟨hB480, (Nat.le_refl _), hb482, hb483, hd, hs, ok_pick [1, 2, 3, 4, 15, 16, 19] hok (by kernel_rfl)⟩
              ·rintro a w485 ⟨hB508, hz509, hb510, hb511, hd, hs, hok⟩
               refine gv_in ?_ hd hs hok
               clear hd hs hok
               clear hz509 hb483 hb482 hB480
               refine gv_seq <| gv_seq <| gv_region <| gv_pureN 1 [181] [(181, (bp b68))] (by kernel_rfl) ?_
               refine gv_load (t := 3) (A := ⟨b68, 0, none⟩) (.int .i64 j484.1) [] (fun e => by cases e) rfl rfl rfl (by kernel_rfl) (by kernel_rfl) (by kernel_rfl) (inw0 (hb511.cell 0 rfl)) rfl ?_
               refine gv_pureN 1 [183] [(183, (.bool (j484.1 != 0)))] (by kernel_rfl) ?_
               refine gv_nil <| gv_cond (b := (j484.1 != 0)) (by kernel_rfl) (fun hc512 => ?_) (fun hc512 => ?_)
               ·replace h0 := ite_t hc512 h0
                refine gv_seq <| gv_region <| gv_pureN 1 [184] [(184, (.string r16.1))] (by kernel_rfl) ?_
                refine gv_loadBox (t := 24) (b := b26) (t' := 24) (fr := (0, 0)) #[(.int .i64 r16.2.1), (.int .i64 r16.2.2)] [] (fun e => by cases e) rfl rfl rfl (by kernel_rfl) (by kernel_rfl) (by kernel_rfl) (by kernel_rfl) (inw0 hb510) rfl ?_
                refine gv_loadBox (t := 24) (b := b68) (t' := 24) (fr := (0, 0)) #[(.int .i64 j484.1), (.int .i64 j484.2)] [] (fun e => by cases e) rfl rfl rfl (by kernel_rfl) (by kernel_rfl) (by kernel_rfl) (by kernel_rfl) (inw0 hb511) rfl ?_
                refine bindE h0 ?_; clear h0; intro r513 hr514 h0
                refine gv_call0 (by kernel_rfl) rfl (by kernel_rfl) enters25 (law4_text_ok fuel r16.1 (r16.2.1, r16.2.2) (strOf []) (j484.1, j484.2) w485  r513 hr514) ?_
                rintro v517 w515 ⟨hg516, rfl⟩
                refine gv_pureN 1 [12] [(12, (.bool r513))] (by kernel_rfl) ?_
                refine gv_nil <| gv_cret ?_
                have e := sj h0; subst e
                refine gv_ret (gv_done [(.bool r513)] rfl ⟨(by kernel_rfl), trivial⟩ ?_)
                have hB518 := bg hB508 hg516 nb
                exact ⟨grown_of_below hB518, rfl⟩
               ·replace h0 := ite_f hc512 h0
                refine gv_skip <| gv_seq <| gv_region <| gv_pureN 1 [189] [(189, (.string s_1))] (by kernel_rfl) ?_
                refine bindE h0 ?_; clear h0; intro r519 hr520 h0
                refine gv_call0 (by kernel_rfl) rfl (by kernel_rfl) enters24 (ref4_Points_ok fuel s_1 w485  r519 hr520) ?_
                rintro v523 w521 ⟨hg522, a524, c525, rfl, ho526, hl527⟩
                have hl528 : ∀ g, blk a524 = some g → w0.heap.size ≤ g := fun g e => Nat.le_trans hB508.size (hl527 g e)
                refine gv_pureN 5 [26, 27, 188, 191, 192] [(26, (.slice a524 (List.length r519.1) c525))] (by kernel_rfl) ?_
                refine gv_nil <| gv_seq <| gv_region <| gv_pureN 1 [194] [(194, (.string old_2))] (by kernel_rfl) ?_
                refine bindE h0 ?_; clear h0; intro r529 hr530 h0
                refine gv_call0 (by kernel_rfl) rfl (by kernel_rfl) enters24 (ref4_Points_ok fuel old_2 w521  r529 hr530) ?_
                rintro v533 w531 ⟨hg532, a534, c535, rfl, ho536, hl537⟩
                have hB539 := bg hB508 hg522 nb
                have hl538 : ∀ g, blk a534 = some g → w0.heap.size ≤ g := fun g e => Nat.le_trans hB539.size (hl537 g e)
                refine gv_pureN 5 [28, 29, 193, 196, 197] [(28, (.slice a534 (List.length r529.1) c535))] (by kernel_rfl) ?_
                refine gv_nil <| gv_seq <| gv_region <| gv_pureN 2 [198, 199] [(198, (.slice a524 (List.length r519.1) c525)), (199, (.slice a534 (List.length r529.1) c535))] (by kernel_rfl) ?_
                refine bindE h0 ?_; clear h0; intro r540 hr541 h0
                have hk542 := ho526.grown hg532 (fun _ h => h.elim) nb
                refine gv_call0 (by kernel_rfl) rfl (by kernel_rfl) enters39 (ref4_Places_ok fuel a524 c525 r519.1 a534 c535 r529.1 w531 (fun k => (fun k => blk a524 = some k) k ∨ (fun k => blk a534 = some k) k) (fun k hk => (hk).elim (fun h => (fun k (hk : blk a524 = some k) => hk542.lt k hk) k h) (fun h => (fun k (hk : blk a534 = some k) => ho536.lt k hk) k h)) ((hk542.rd (Y := fun k => blk a524 = some k) (fun _ h => h.elim) (fun g e => e)).wide (fun k hk => (.inl hk))) ((ho536.rd (Y := fun k => blk a534 = some k) (fun _ h => h.elim) (fun g e => e)).wide (fun k hk => (.inr hk))) r540 hr541) ?_
                rintro v545 w543 ⟨hg544, a546, c547, rfl, ho548, hl549⟩
                have hB551 := bg hB539 hg532 nb
                have hl550 : ∀ g, blk a546 = some g → w0.heap.size ≤ g := fun g e => Nat.le_trans hB551.size (hl549 g e)
                refine gv_pureN 1 [201] [(201, (.int .i64 most_4))] (by kernel_rfl) ?_
                refine bindE h0 ?_; clear h0; intro r552 hr553 h0
                refine gv_call0 (by kernel_rfl) rfl (by kernel_rfl) enters44 (ref4_FirstOf_ok fuel a546 c547 r540 most_4 w543 (fun k => (fun k => blk a546 = some k) k) (fun k hk => (fun k (hk : blk a546 = some k) => ho548.lt k hk) k hk) ((ho548.rd (Y := fun k => blk a546 = some k) (fun _ h => h.elim) (fun g e => e)).wide (fun k hk => hk)) r552 hr553) ?_
                rintro v556 w554 ⟨hg555, a557, c558, X560, rfl, ho559, hx561⟩
                have hx562 : ∀ k, X560 k → k < w554.heap.size := fun k hk => (hx561 k hk).1
                have hB564 := bg hB551 hg544 nb
                have hx563 : ∀ k, X560 k → X0 k ∨ w0.heap.size ≤ k := fun k hk => (hx561 k hk).2.elim (fun h => (fun k (hk : blk a546 = some k) => Or.inr (hl550 k hk)) k h) (fun h => .inr (Nat.le_trans hB564.size h))
                refine gv_pureN 1 [30] [(30, (.slice a557 (List.length r552) c558))] (by kernel_rfl) ?_
                refine gv_sub [1, 2, 3, 15, 16, 19, 26, 28, 30] (σ' := [(1, (.string s_1)), (2, (.string old_2)), (3, (.string with_3)), (15, (.string r16.1)), (16, (bp b26)), (19, (bp b68)), (26, (.slice a524 (List.length r519.1) c525)), (28, (.slice a534 (List.length r529.1) c535)), (30, (.slice a557 (List.length r552) c558))]) (by kernel_rfl) ?_
                refine gv_nil <| gv_seq <| gv_region <| gv_pureN 4 [203, 204, 205, 206] [(203, (.slice a524 (List.length r519.1) c525)), (204, (.slice a557 (List.length r552) c558)), (206, (.int .i64 ((List.length r529.1 : Nat) : Int)))] (by kernel_rfl) ?_
                refine bindE h0 ?_; clear h0; intro r565 hr566 h0
                have hg567 := (grown_trans hg544 hg555)
                have hk568 := hk542.grown hg567 (fun _ h => h.elim) nb
                refine gv_call0 (by kernel_rfl) rfl (by kernel_rfl) enters45 (ref4_Divide_ok fuel a524 c525 r519.1 a557 c558 r552 ((List.length r529.1 : Nat) : Int) w554 (fun k => (fun k => blk a524 = some k) k ∨ X560 k) (fun k hk => (hk).elim (fun h => (fun k (hk : blk a524 = some k) => hk568.lt k hk) k h) (fun h => hx562 k h)) ((hk568.rd (Y := fun k => blk a524 = some k) (fun _ h => h.elim) (fun g e => e)).wide (fun k hk => (.inl hk))) (ho559.wide (fun k hk => (.inr hk))) r565 hr566) ?_
                rintro v571 w569 ⟨hg570, a572, c573, rfl, ho574, hl575⟩
                have hB577 := bg hB564 hg555 nb
                have hl576 : ∀ g, blk a572 = some g → w0.heap.size ≤ g := fun g e => Nat.le_trans hB577.size (hl575 g e)
                refine gv_pureN 1 [31] [(31, (.slice a572 (List.length r565) c573))] (by kernel_rfl) ?_
                refine gv_nil <| gv_seq <| gv_region <| gv_pureN 12 [23, 208, 209, 210, 211, 212, 213, 214, 215, 216, 217, 218] [(23, (.int .i64 (IntKind.i64.wrap (((ByteArray.size s_1 : Nat) : Int) + (IntKind.i64.wrap (((List.length r552 : Nat) : Int) * (IntKind.i64.wrap (((ByteArray.size with_3 : Nat) : Int) - ((ByteArray.size old_2 : Nat) : Int)))))))))] (by kernel_rfl) ?_
                refine bindE h0 ?_; clear h0; intro n578 hn579 h0
                refine gv_name (s := 23) (v := (.int .i64 (IntKind.i64.wrap (((ByteArray.size s_1 : Nat) : Int) + (IntKind.i64.wrap (((List.length r552 : Nat) : Int) * (IntKind.i64.wrap (((ByteArray.size with_3 : Nat) : Int) - ((ByteArray.size old_2 : Nat) : Int))))))))) (v' := (.int .i64 n578)) (by kernel_rfl) (congrArg (Value.int .i64) (sj hn579)) ?_
                refine gv_nil <| gv_seq <| gv_region <| gv_pureN 1 [219] [(219, (.slice a572 (List.length r565) c573))] (by kernel_rfl) ?_
                refine bindE h0 ?_; clear h0; intro x580 hx581 h0
                refine gv_idxaddr (t := 22) (e := 9) (a := a572) (len := List.length r565) (cap := c573) (kk := .i64) (i := 0) (sz := 1) [] (fun e => by cases e) rfl rfl rfl (by kernel_rfl) (by kernel_rfl) Tryd.underlying22 (by kernel_rfl) ((ho574.rd (Y := fun k => blk a572 = some k) (fun _ h => h.elim) (fun g e => e)).has hx581) (idx_spec hx581).1 (idx_spec hx581).2.1 rfl ?_
                refine gv_load (t := 9) (A := (elemAddr a572 ((0 : Int).toNat * 1))) (.string x580) [] (fun e => by cases e) rfl rfl rfl (by kernel_rfl) (by kernel_rfl) (by kernel_rfl) (inw0 ((ho574.rd (Y := fun k => blk a572 = some k) (fun _ h => h.elim) (fun g e => e)).cell hx581)) rfl ?_
                refine gv_pureN 1 [32] [(32, (.string x580))] (by kernel_rfl) ?_
                refine gv_nil <| gv_seq <| gv_seq <| gv_region <| gv_pureN 1 [33] [(33, (.int .i64 1))] (by kernel_rfl) ?_
                refine gv_nil <| bindE h0 ?_; clear h0; intro j582 h1 h0
                refine gv_cut_code (J := fun a w583 => Below w0.heap.size w0 w583 ∧ w569.heap.size ≤ w583.heap.size ∧ Box w583 b26 24 #[(.int .i64 r16.2.1), (.int .i64 r16.2.2)] ∧ Box w583 b68 24 #[(.int .i64 j484.1), (.int .i64 j484.2)] ∧ a.defers = [] ∧ a.tmps.size = 251 ∧ Ok [(15, (.string r16.1)), (16, (bp b26)), (19, (bp b68)), (23, (.int .i64 n578)), (32, (.string j582))] a.tmps) ?_ ?_
                ·skip
                 refine gv_block <| gv_loop (A := fun (s584 : (ByteArray × Int)) a w585 => Below w0.heap.size w0 w585 ∧ w569.heap.size ≤ w585.heap.size ∧ Box w585 b26 24 #[(.int .i64 r16.2.1), (.int .i64 r16.2.2)] ∧ Box w585 b68 24 #[(.int .i64 j484.1), (.int .i64 j484.2)] ∧ Gv.Own sE 9 w585 (fun _ => False) a572 c573 r565 ∧ a.defers = [] ∧ a.tmps.size = 251 ∧ Ok [(3, (.string with_3)), (15, (.string r16.1)), (16, (bp b26)), (19, (bp b68)), (23, (.int .i64 n578)), (31, (.slice a572 (List.length r565) c573)), (32, (.string s584.1)), (33, (.int .i64 s584.2))] a.tmps) h1 ?_ ?_
                 ·intro a hd hs hok
                  have hB586 := bg hB577 hg570 nb
                  have hg587 := (grown_trans (grown_trans (grown_trans hg522 hg532) hg567) hg570)
                  have hk588 := hb510.grown hg587 nb
                  have hk589 := hb511.grown hg587 nb
                  exact ⟨hB586, (Nat.le_refl _), hk588, hk589, ho574, hd, hs, ok_pick [3, 15, 16, 19, 23, 31, 32, 33] hok (by kernel_rfl)⟩
                 ·rintro s584 r2 h2 hR2 a w585 ⟨hB590, hz591, hb592, hb593, hk594, hd, hs, hok⟩
                  refine gv_in ?_ hd hs hok
                  clear hd hs hok
                  clear hx581 hn579 hB577 ho574 hg570 hk568 hg567 hr566 hx563 hB564 hx562 hx561 ho559 hr553 hl550 hB551 hl549 ho548 hk542 hr541 hl538 hB539 hl537 ho536 hr530 hl528 hl527 ho526 hr520 hc512 hB508
                  refine gv_seq <| gv_seq <| gv_region <| gv_cut_ops (J := fun a w595 => w585 = w595 ∧ a.defers = [] ∧ a.tmps.size = 251 ∧ Ok [(3, (.string with_3)), (15, (.string r16.1)), (16, (bp b26)), (19, (bp b68)), (23, (.int .i64 n578)), (31, (.slice a572 (List.length r565) c573)), (32, (.string s584.1)), (33, (.int .i64 s584.2)), (229, (.bool ((decide (s584.2 < ((List.length r565 : Nat) : Int))) && (decide (n578 ≤ 4000)))))] a.tmps) ?_ ?_
                  ·skip
                   refine gv_pureN 5 [222, 223, 224, 225, 226] [(226, (.bool (decide (s584.2 < ((List.length r565 : Nat) : Int)))))] (by kernel_rfl) ?_
                   refine gv_split (s := 226) (g := (decide (s584.2 < ((List.length r565 : Nat) : Int)))) (by kernel_rfl) (fun hc596 => ?_) (fun hc596 => ?_)
                   ·skip
                    refine gv_pureN 3 [227, 228, 229] [(229, (.bool (decide (n578 ≤ 4000))))] (by kernel_rfl) ?_
                    refine gv_nil <| gv_sub [3, 15, 16, 19, 23, 31, 32, 33, 229] (σ' := [(3, (.string with_3)), (15, (.string r16.1)), (16, (bp b26)), (19, (bp b68)), (23, (.int .i64 n578)), (31, (.slice a572 (List.length r565) c573)), (32, (.string s584.1)), (33, (.int .i64 s584.2)), (229, (.bool (decide (n578 ≤ 4000))))]) (by kernel_rfl) ?_
                    refine gv_goal fun a hd hs hok => ⟨rfl, hd, hs, ?_⟩
                    obtain ⟨q3, q15, q16, q19, q23, q31, q32, q33, q229, _⟩ := hok
                    exact ⟨q3, q15, q16, q19, q23, q31, q32, q33, (by rw [hc596]; exact q229), trivial⟩
                   ·skip
                    refine gv_pureN 3 [227, 228, 229] [(229, (.bool false))] (by kernel_rfl) ?_
                    refine gv_nil <| gv_sub [3, 15, 16, 19, 23, 31, 32, 33, 229] (σ' := [(3, (.string with_3)), (15, (.string r16.1)), (16, (bp b26)), (19, (bp b68)), (23, (.int .i64 n578)), (31, (.slice a572 (List.length r565) c573)), (32, (.string s584.1)), (33, (.int .i64 s584.2)), (229, (.bool false))]) (by kernel_rfl) ?_
                    refine gv_goal fun a hd hs hok => ⟨rfl, hd, hs, ?_⟩
                    obtain ⟨q3, q15, q16, q19, q23, q31, q32, q33, q229, _⟩ := hok
                    exact ⟨q3, q15, q16, q19, q23, q31, q32, q33, (by rw [hc596]; exact q229), trivial⟩
                  ·rintro a w595 ⟨e, hd, hs, hok⟩; subst e
                   refine gv_in ?_ hd hs hok
                   clear hd hs hok
                   refine gv_cond (b := ((decide (s584.2 < ((List.length r565 : Nat) : Int))) && (decide (n578 ≤ 4000)))) (by kernel_rfl) (fun hc597 => ?_) (fun hc597 => ?_)
                   ·replace h2 := ite_t hc597 h2
                    refine gv_skip <| gv_seq <| gv_block <| gv_region <| gv_pureN 4 [232, 233, 234, 235] [(232, (.string s584.1)), (233, (.string with_3)), (234, (.slice a572 (List.length r565) c573)), (235, (.int .i64 s584.2))] (by kernel_rfl) ?_
                    refine bindE h2 ?_; clear h2; intro x598 hx599 h2
                    refine gv_idxaddr (t := 22) (e := 9) (a := a572) (len := List.length r565) (cap := c573) (kk := .i64) (i := s584.2) (sz := 1) [] (fun e => by cases e) rfl rfl rfl (by kernel_rfl) (by kernel_rfl) Tryd.underlying22 (by kernel_rfl) ((hk594.rd (Y := fun k => blk a572 = some k) (fun _ h => h.elim) (fun g e => e)).has hx599) (idx_spec hx599).1 (idx_spec hx599).2.1 rfl ?_
                    refine gv_load (t := 9) (A := (elemAddr a572 ((s584.2 : Int).toNat * 1))) (.string x598) [] (fun e => by cases e) rfl rfl rfl (by kernel_rfl) (by kernel_rfl) (by kernel_rfl) (inw0 ((hk594.rd (Y := fun k => blk a572 = some k) (fun _ h => h.elim) (fun g e => e)).cell hx599)) rfl ?_
                    refine bindE h2 ?_; clear h2; intro x600 hx601 h2
                    refine gv_cat (t := 9) (s := with_3) (u := x598) x600 [] (fun e => by cases e) rfl rfl rfl (by kernel_rfl) (by kernel_rfl) hx601 rfl ?_
                    refine bindE h2 ?_; clear h2; intro x602 hx603 h2
                    refine gv_cat (t := 9) (s := s584.1) (u := x600) x602 [] (fun e => by cases e) rfl rfl rfl (by kernel_rfl) (by kernel_rfl) hx603 rfl ?_
                    refine gv_pureN 1 [32] [(32, (.string x602))] (by kernel_rfl) ?_
                    refine gv_nil <| gv_blk <| gv_region <| gv_pureN 3 [33, 230, 231] [(33, (.int .i64 (IntKind.i64.wrap (s584.2 + 1))))] (by kernel_rfl) ?_
                    refine gv_nil ?_
                    have e := sj h2; subst e
                    refine gv_goal fun a hd hs hok => ?_
                    have hz604 := hz591
                    exact ⟨(x602, (IntKind.i64.wrap (s584.2 + 1))), rfl, hB590, hz604, hb592, hb593, hk594, hd, hs, ok_pick [3, 15, 16, 19, 23, 31, 32, 33] hok (by kernel_rfl)⟩
                   ·replace h2 := ite_f hc597 h2
                    refine gv_cexit <| gv_exit rfl ?_
                    have e := sj h2; subst e
                    replace h1 := congrArg some (hR2 _ rfl)
                    have e := sj h1; subst e
                    refine gv_goal fun a hd hs hok => ?_
                    have hz605 := hz591
                    exact ⟨hB590, hz605, hb592, hb593, hd, hs, ok_pick [15, 16, 19, 23, 32] hok (by kernel_rfl)⟩
                ·rintro a w583 ⟨hB606, hz607, hb608, hb609, hd, hs, hok⟩
                 refine gv_in ?_ hd hs hok
                 clear hd hs hok
                 clear hz607 hx581 hn579 hl576 hB577 hl575 ho574 hg570 hk568 hg567 hr566 hx563 hB564 hx562 hx561 ho559 hg555 hr553 hl550 hB551 hl549 ho548 hg544 hk542 hr541 hl538 hB539 hl537 ho536 hg532 hr530 hl528 hl527 ho526 hg522 hr520 hc512 hb511 hb510 hB508
                 refine gv_seq <| gv_seq <| gv_region <| gv_pureN 2 [240, 241] [(241, (.bool (decide (n578 > 4000))))] (by kernel_rfl) ?_
                 refine gv_nil <| gv_cond (b := (decide (n578 > 4000))) (by kernel_rfl) (fun hc610 => ?_) (fun hc610 => ?_)
                 ·replace h0 := ite_t hc610 h0
                  refine gv_seq <| gv_drawA (by kernel_rfl) ?_
                  intro w611 hg612
                  refine gv_pre [0] (bA 5 [0]) 4 (by kernel_rfl) (by kernel_rfl) ?_
                  refine gv_pureN 1 [242] [(242, (.string r16.1))] (by kernel_rfl) ?_
                  refine gv_nil <| gv_goA ?_
                  refine gv_stage (Cls w611 []) [0, 1, 2] [(1, some true), (2, some false)] (bA 5 [0, 1, 2]) 2 (by kernel_rfl) (by kernel_rfl) (Cls.refl _ _) ?_
                  have hC613 := Cls.refl w611 []
                  have hk614 := hb608.grown hg612 nb
                  refine gv_loadBox (t := 24) (b := b26) (t' := 24) (fr := (0, 0)) #[(.int .i64 r16.2.1), (.int .i64 r16.2.2)] [] (fun e => by cases e) rfl rfl rfl (by kernel_rfl) (by kernel_rfl) (by kernel_rfl) (by kernel_rfl) (inw1 fun w' hC' => (hC'.box hk614 nm_nil)) rfl ?_
                  refine bindE h0 ?_; clear h0; intro r615 hr616 h0
                  refine gv_call (f := 29) (vs := [(.int .i64 3), (.int .i64 (-1))]) (cap := []) _ (by decide) rfl rfl rfl (by kernel_rfl) (by kernel_rfl) enters29 (ref4_At_ok fuel 3 (-1) w611  r615 hr616) ?_
                  rintro v619 w617 ⟨hg618, rfl⟩
                  refine ⟨(fun _ => hC613.grown hg618 nb), ?_⟩
                  refine gv_nil <| gv_goA ?_
                  refine gv_stage (fun _ => True) [0, 1, 2, 3] [(3, some false)] (bA 5 [0, 1, 2, 3]) 1 (by kernel_rfl) (by kernel_rfl) trivial ?_
                  refine bindE h0 ?_; clear h0; intro r620 hr621 h0
                  refine gv_call (f := 25) (vs := [(.string r16.1), (.agg #[(.int .i64 r16.2.1), (.int .i64 r16.2.2)]), (.string (strOf [])), (.agg #[(.int .i64 r615.1), (.int .i64 r615.2)])]) (cap := []) _ (by decide) rfl rfl rfl (by kernel_rfl) (by kernel_rfl) enters25 (law4_text_ok fuel r16.1 (r16.2.1, r16.2.2) (strOf []) (r615.1, r615.2) w617  r620 hr621) ?_
                  rintro v624 w622 ⟨hg623, rfl⟩
                  refine ⟨(fun _ => trivial), ?_⟩
                  refine gv_nil <| gv_goA ?_
                  refine gv_pre [4] (bA 5 [0, 1, 2, 3, 4]) 0 (by kernel_rfl) (by kernel_rfl) ?_
                  refine gv_pureN 1 [12] [(12, (.bool r620))] (by kernel_rfl) ?_
                  refine gv_nil <| gv_goA ?_
                  refine gv_stageE (by kernel_rfl) ?_
                  refine gv_cret ?_
                  have e := sj h0; subst e
                  refine gv_ret (gv_done [(.bool r620)] rfl ⟨(by kernel_rfl), trivial⟩ ?_)
                  have hg625 := (grown_trans (grown_trans hg612 hg618) hg623)
                  have hB626 := bg hB606 hg625 nb
                  exact ⟨grown_of_below hB626, rfl⟩
                 ·replace h0 := ite_f hc610 h0
                  refine gv_skip <| gv_seq <| gv_region <| gv_pureN 1 [246] [(246, (.string r16.1))] (by kernel_rfl) ?_
                  refine gv_loadBox (t := 24) (b := b26) (t' := 24) (fr := (0, 0)) #[(.int .i64 r16.2.1), (.int .i64 r16.2.2)] [] (fun e => by cases e) rfl rfl rfl (by kernel_rfl) (by kernel_rfl) (by kernel_rfl) (by kernel_rfl) (inw0 hb608) rfl ?_
                  refine gv_pureN 1 [248] [(248, (.string j582))] (by kernel_rfl) ?_
                  refine gv_loadBox (t := 24) (b := b68) (t' := 24) (fr := (0, 0)) #[(.int .i64 j484.1), (.int .i64 j484.2)] [] (fun e => by cases e) rfl rfl rfl (by kernel_rfl) (by kernel_rfl) (by kernel_rfl) (by kernel_rfl) (inw0 hb609) rfl ?_
                  refine bindE h0 ?_; clear h0; intro r627 hr628 h0
                  refine gv_call0 (by kernel_rfl) rfl (by kernel_rfl) enters25 (law4_text_ok fuel r16.1 (r16.2.1, r16.2.2) j582 (j484.1, j484.2) w583  r627 hr628) ?_
                  rintro v631 w629 ⟨hg630, rfl⟩
                  clear hr628 hc610 hb609 hb608 hbe72 hg64 hB62 hb54 hbe50 hg44 hlo41 hb34
                  refine gv_pureN 1 [12] [(12, (.bool r627))] (by kernel_rfl) ?_
                  refine gv_nil <| gv_cret ?_
                  have e := sj h0; subst e
                  refine gv_ret (gv_done [(.bool r627)] rfl ⟨(by kernel_rfl), trivial⟩ ?_)
                  have hB632 := bg hB606 hg630 nb
                  exact ⟨grown_of_below hB632, rfl⟩

end Go.Proofs.YtkmcegicngjhbaaDoor
