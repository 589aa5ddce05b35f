import Derived.Test.YtkmcegicngjhbaaDoorP1
set_option linter.all false
set_option maxHeartbeats 4000000
set_option maxRecDepth 100000
/- Own work, printed by a program of mine: the walk of each function: a call returns what the plain function says. -/
namespace Go.Proofs.YtkmcegicngjhbaaDoor
open Go.Gv Go.Gv.D Go.RowKit
theorem enters15 : Go.Gv.Enters Tryd.prog 15 := ⟨Tryd.f15, Tryd.func15, by kernel_rfl, by kernel_rfl⟩
theorem enters23 : Go.Gv.Enters Tryd.prog 23 := ⟨Tryd.f23, Tryd.func23, by kernel_rfl, by kernel_rfl⟩
theorem enters24 : Go.Gv.Enters Tryd.prog 24 := ⟨Tryd.f24, Tryd.func24, by kernel_rfl, by kernel_rfl⟩
theorem enters26 : Go.Gv.Enters Tryd.prog 26 := ⟨Tryd.f26, Tryd.func26, by kernel_rfl, by kernel_rfl⟩
theorem enters29 : Go.Gv.Enters Tryd.prog 29 := ⟨Tryd.f29, Tryd.func29, by kernel_rfl, by kernel_rfl⟩
theorem enters31 : Go.Gv.Enters Tryd.prog 31 := ⟨Tryd.f31, Tryd.func31, by kernel_rfl, by kernel_rfl⟩
theorem enters32 : Go.Gv.Enters Tryd.prog 32 := ⟨Tryd.f32, Tryd.func32, by kernel_rfl, by kernel_rfl⟩
theorem enters33 : Go.Gv.Enters Tryd.prog 33 := ⟨Tryd.f33, Tryd.func33, by kernel_rfl, by kernel_rfl⟩
theorem enters39 : Go.Gv.Enters Tryd.prog 39 := ⟨Tryd.f39, Tryd.func39, by kernel_rfl, by kernel_rfl⟩
theorem enters44 : Go.Gv.Enters Tryd.prog 44 := ⟨Tryd.f44, Tryd.func44, by kernel_rfl, by kernel_rfl⟩
theorem enters45 : Go.Gv.Enters Tryd.prog 45 := ⟨Tryd.f45, Tryd.func45, by kernel_rfl, by kernel_rfl⟩
theorem enters47 : Go.Gv.Enters Tryd.prog 47 := ⟨Tryd.f47, Tryd.func47, by kernel_rfl, by kernel_rfl⟩
theorem enters48 : Go.Gv.Enters Tryd.prog 48 := ⟨Tryd.f48, Tryd.func48, by kernel_rfl, by kernel_rfl⟩
theorem enters49 : Go.Gv.Enters Tryd.prog 49 := ⟨Tryd.f49, Tryd.func49, by kernel_rfl, by kernel_rfl⟩
theorem enters50 : Go.Gv.Enters Tryd.prog 50 := ⟨Tryd.f50, Tryd.func50, by kernel_rfl, by kernel_rfl⟩
theorem enters54 : Go.Gv.Enters Tryd.prog 54 := ⟨Tryd.f54, Tryd.func54, by kernel_rfl, by kernel_rfl⟩
theorem enters67 : Go.Gv.Enters Tryd.prog 67 := ⟨Tryd.f67, Tryd.func67, by kernel_rfl, by kernel_rfl⟩
theorem enters68 : Go.Gv.Enters Tryd.prog 68 := ⟨Tryd.f68, Tryd.func68, by kernel_rfl, by kernel_rfl⟩
theorem enters72 : Go.Gv.Enters Tryd.prog 72 := ⟨Tryd.f72, Tryd.func72, by kernel_rfl, by kernel_rfl⟩
theorem enters75 : Go.Gv.Enters Tryd.prog 75 := ⟨Tryd.f75, Tryd.func75, by kernel_rfl, by kernel_rfl⟩
theorem enters82 : Go.Gv.Enters Tryd.prog 82 := ⟨Tryd.f82, Tryd.func82, by kernel_rfl, by kernel_rfl⟩
theorem enters83 : Go.Gv.Enters Tryd.prog 83 := ⟨Tryd.f83, Tryd.func83, by kernel_rfl, by kernel_rfl⟩
theorem enters92 : Go.Gv.Enters Tryd.prog 92 := ⟨Tryd.f92, Tryd.func92, by kernel_rfl, by kernel_rfl⟩
theorem enters97 : Go.Gv.Enters Tryd.prog 97 := ⟨Tryd.f97, Tryd.func97, by kernel_rfl, by kernel_rfl⟩
theorem enters107 : Go.Gv.Enters Tryd.prog 107 := ⟨Tryd.f107, Tryd.func107, by kernel_rfl, by kernel_rfl⟩
theorem enters108 : Go.Gv.Enters Tryd.prog 108 := ⟨Tryd.f108, Tryd.func108, by kernel_rfl, by kernel_rfl⟩
theorem enters109 : Go.Gv.Enters Tryd.prog 109 := ⟨Tryd.f109, Tryd.func109, by kernel_rfl, by kernel_rfl⟩
theorem enters118 : Go.Gv.Enters Tryd.prog 118 := ⟨Tryd.f118, Tryd.func118, by kernel_rfl, by kernel_rfl⟩
theorem enters131 : Go.Gv.Enters Tryd.prog 131 := ⟨Tryd.f131, Tryd.func131, by kernel_rfl, by kernel_rfl⟩
theorem native134 : Go.Gv.Native Tryd.prog 134 Extern.BytealgIndexByte.indexByte := ⟨Tryd.f134, Tryd.func134, by kernel_rfl, by kernel_rfl, by kernel_rfl, by kernel_rfl⟩
theorem info3 : InfoOk Tryd.prog 3 1 := infoOk (z := (.int .i64 0)) (bytes := 8) (by kernel_rfl) (by kernel_rfl) (by kernel_rfl) (by kernel_rfl)
theorem info5 : InfoOk Tryd.prog 5 1 := infoOk (z := (.int .u8 0)) (bytes := 1) (by kernel_rfl) (by kernel_rfl) (by kernel_rfl) (by kernel_rfl)
theorem eqs24eql (a0 : Int) (a1 : Int) (b0 : Int) (b1 : Int) (x y : Operand) (w : World) : (do eqGuard .eql 24 x y (.agg #[.int .i64 a0, .int .i64 a1]) (.agg #[.int .i64 b0, .int .i64 b1]); binOp .eql 24 (.agg #[.int .i64 a0, .int .i64 a1]) (.agg #[.int .i64 b0, .int .i64 b1]) : Sem Value).run Tryd.prog w = .ok (.bool ((a0 == b0) && (a1 == b1))) w := by
  have h1 : Tryd.prog.eqGuardType Tryd.prog.depth 24 = false := by kernel_rfl
  have h2 : Tryd.prog.stoodInHeld 24 = false := by kernel_rfl
  have h3 : Tryd.prog.underlying 24 = some (.struct (Tryd.prog.fieldsOf 24)) := by kernel_rfl
  have h4 := Tryd.underlying24
  rw [Sem.run_bind, run_eqGuard_agg w .eql 24 x y _ _ h1, Result.andThen_ok, run_eql_struct, run_equalIn_struct w 9999 24 _ _ h3 h2]
  by_cases g0 : a0 = b0 <;> by_cases g1 : a1 = b1 <;> simp [Program.fieldsOf, h4, Op.eqFields, part, isAgg, run_underlying Tryd.underlying3, run_equalIn_int _ _ _ _ _ _ _ Tryd.underlying3, g0, g1]

theorem stringslite_IndexByte_ok (fuel : Nat) (s_0 : ByteArray) (c_1 : Int) (w0 : World)  (r0 : Int) (h0 : stringslite_IndexByte fuel s_0 c_1 = some r0) :
    Calls Tryd.prog 118 ([(.string s_0), (.int .u8 c_1)] : List Value).toArray w0 (Ret fun v w' => w0.grownBy w' none ∧ v = tup [(.int .i64 r0)]) := by
 have hB0 : Below w0.heap.size w0 w0 := Below.refl _ _
 unfold stringslite_IndexByte at h0
 refine calls_run Tryd.func118 rfl Tryd.ntmps118 (by kernel_rfl) ?_
 refine gv_sub [0, 1] (σ' := [(0, (.string s_0)), (1, (.int .u8 c_1))]) (by kernel_rfl) ?_
 refine gv_seq <| gv_region <| gv_pureN 1 [4] [] (by kernel_rfl) ?_
 refine gv_nil <| gv_seq <| gv_region <| gv_pureN 2 [5, 6] [(5, (.string s_0)), (6, (.int .u8 c_1))] (by kernel_rfl) ?_
 refine gv_nat (f := 134) (vs := [(.string s_0), (.int .u8 c_1)]) (.int .i64 (nIdxB (bytesOf s_0) c_1)) [] (fun e => by cases e) rfl rfl rfl (by kernel_rfl) rfl (by kernel_rfl) (by kernel_rfl) native134 (fun w' _ => nat_idxS _ _ w') rfl ?_
 refine gv_pureN 1 [4] [(4, (.int .i64 (nIdxB (bytesOf s_0) c_1)))] (by kernel_rfl) ?_
 refine gv_nil <| gv_cret ?_
 have e := sj h0; subst e
 refine gv_ret (gv_done [(.int .i64 (nIdxB (bytesOf s_0) c_1))] rfl ⟨(by kernel_rfl), trivial⟩ ?_)
 exact ⟨grown_of_below hB0, rfl⟩

theorem ref4_behind_ok (fuel : Nat) (pa0_0 : Option Addr) (pc0_0 : Nat) (s_0 : (List UInt8)) (i_1 : Int) (w0 : World) (X0 : Nat → Prop) (hX0 : ∀ k, X0 k → k < w0.heap.size) (hpa0_0 : Rd bE w0 X0 pa0_0 pc0_0 s_0) (r0 : Int) (h0 : ref4_behind fuel s_0 i_1 = some r0) :
    Calls Tryd.prog 92 ([(.slice pa0_0 (List.length s_0) pc0_0), (.int .i64 i_1)] : List Value).toArray w0 (Ret fun v w' => w0.grownBy w' none ∧ v = tup [(.int .i64 r0)]) := by
 have hB0 : Below w0.heap.size w0 w0 := Below.refl _ _
 unfold ref4_behind at h0
 refine calls_run Tryd.func92 rfl Tryd.ntmps92 (by kernel_rfl) ?_
 refine gv_sub [0, 1] (σ' := [(0, (.slice pa0_0 (List.length s_0) pc0_0)), (1, (.int .i64 i_1))]) (by kernel_rfl) ?_
 refine gv_seq <| gv_region <| gv_pureN 1 [4] [] (by kernel_rfl) ?_
 refine gv_nil <| gv_seq <| gv_seq <| gv_region <| bindE h0 ?_; clear h0; intro j1 h1 h0
 refine gv_cut_ops (J := fun a w2 => Below w0.heap.size w0 w2 ∧ w0.heap.size ≤ w2.heap.size ∧ a.defers = [] ∧ a.tmps.size = 29 ∧ Ok [(0, (.slice pa0_0 (List.length s_0) pc0_0)), (1, (.int .i64 i_1)), (22, (.bool j1))] a.tmps) ?_ ?_
 ·skip
  refine gv_pureN 5 [5, 6, 7, 8, 9] [(9, (.bool (decide (i_1 < ((List.length s_0 : Nat) : Int)))))] (by kernel_rfl) ?_
  refine gv_split (s := 9) (g := (decide (i_1 < ((List.length s_0 : Nat) : Int)))) (by kernel_rfl) (fun hc3 => ?_) (fun hc3 => ?_)
  ·skip
   replace h1 := ite_t hc3 h1
   refine gv_pureN 2 [10, 11] [(10, (.slice pa0_0 (List.length s_0) pc0_0)), (11, (.int .i64 i_1))] (by kernel_rfl) ?_
   refine bindE h1 ?_; clear h1; intro x4 hx5 h1
   refine gv_idxaddr (t := 82) (e := 5) (a := pa0_0) (len := List.length s_0) (cap := pc0_0) (kk := .i64) (i := i_1) (sz := 1) [] (fun e => by cases e) rfl rfl rfl (by kernel_rfl) (by kernel_rfl) Tryd.underlying82 (by kernel_rfl) ((hpa0_0.below hB0 hX0).has hx5) (idx_spec hx5).1 (idx_spec hx5).2.1 rfl ?_
   refine gv_load (t := 5) (A := (elemAddr pa0_0 ((i_1 : Int).toNat * 1))) (.int .u8 ((x4).toNat : Int)) [] (fun e => by cases e) rfl rfl rfl (by kernel_rfl) (by kernel_rfl) (by kernel_rfl) (inw0 ((hpa0_0.below hB0 hX0).cell hx5)) rfl ?_
   refine gv_pureN 3 [14, 15, 16] [(16, (.bool (decide (((x4).toNat : Int) ≥ 128))))] (by kernel_rfl) ?_
   refine gv_split (s := 16) (g := (decide (((x4).toNat : Int) ≥ 128))) (by kernel_rfl) (fun hc6 => ?_) (fun hc6 => ?_)
   ·skip
    replace h1 := ite_t hc6 h1
    refine gv_pureN 2 [17, 18] [(17, (.slice pa0_0 (List.length s_0) pc0_0)), (18, (.int .i64 i_1))] (by kernel_rfl) ?_
    refine bindE h1 ?_; clear h1; intro x7 hx8 h1
    refine gv_idxaddr (t := 82) (e := 5) (a := pa0_0) (len := List.length s_0) (cap := pc0_0) (kk := .i64) (i := i_1) (sz := 1) [] (fun e => by cases e) rfl rfl rfl (by kernel_rfl) (by kernel_rfl) Tryd.underlying82 (by kernel_rfl) ((hpa0_0.below hB0 hX0).has hx8) (idx_spec hx8).1 (idx_spec hx8).2.1 rfl ?_
    refine gv_load (t := 5) (A := (elemAddr pa0_0 ((i_1 : Int).toNat * 1))) (.int .u8 ((x7).toNat : Int)) [] (fun e => by cases e) rfl rfl rfl (by kernel_rfl) (by kernel_rfl) (by kernel_rfl) (inw0 ((hpa0_0.below hB0 hX0).cell hx8)) rfl ?_
    refine gv_pureN 2 [21, 22] [(22, (.bool (decide (((x7).toNat : Int) < 192))))] (by kernel_rfl) ?_
    refine gv_nil ?_
    have e := sj h1; subst e
    refine gv_goal fun a hd hs hok => ?_
    exact ⟨hB0, (Nat.le_refl _), hd, hs, ok_pick [0, 1, 22] hok (by kernel_rfl)⟩
   ·skip
    replace h1 := ite_f hc6 h1
    refine gv_pureN 6 [17, 18, 19, 20, 21, 22] [(22, (.bool false))] (by kernel_rfl) ?_
    refine gv_nil ?_
    have e := sj h1; subst e
    refine gv_goal fun a hd hs hok => ?_
    exact ⟨hB0, (Nat.le_refl _), hd, hs, ok_pick [0, 1, 22] hok (by kernel_rfl)⟩
  ·skip
   replace h1 := ite_f hc3 h1
   refine gv_pureN 13 [10, 11, 12, 13, 14, 15, 16, 17, 18, 19, 20, 21, 22] [(22, (.bool false))] (by kernel_rfl) ?_
   refine gv_nil ?_
   have e := sj h1; subst e
   refine gv_goal fun a hd hs hok => ?_
   exact ⟨hB0, (Nat.le_refl _), hd, hs, ok_pick [0, 1, 22] hok (by kernel_rfl)⟩
 ·rintro a w2 ⟨hB9, hz10, hd, hs, hok⟩
  refine gv_in ?_ hd hs hok
  clear hd hs hok
  refine gv_cond (b := j1) (by kernel_rfl) (fun hc11 => ?_) (fun hc11 => ?_)
  ·replace h0 := ite_t hc11 h0
   refine gv_seq <| gv_region <| gv_pureN 2 [23, 24] [(23, (.slice pa0_0 (List.length s_0) pc0_0)), (24, (.int .i64 i_1))] (by kernel_rfl) ?_
   refine bindE h0 ?_; clear h0; intro x12 hx13 h0
   refine gv_idxaddr (t := 82) (e := 5) (a := pa0_0) (len := List.length s_0) (cap := pc0_0) (kk := .i64) (i := i_1) (sz := 1) [] (fun e => by cases e) rfl rfl rfl (by kernel_rfl) (by kernel_rfl) Tryd.underlying82 (by kernel_rfl) ((hpa0_0.below hB9 hX0).has hx13) (idx_spec hx13).1 (idx_spec hx13).2.1 rfl ?_
   refine gv_load (t := 5) (A := (elemAddr pa0_0 ((i_1 : Int).toNat * 1))) (.int .u8 ((x12).toNat : Int)) [] (fun e => by cases e) rfl rfl rfl (by kernel_rfl) (by kernel_rfl) (by kernel_rfl) (inw0 ((hpa0_0.below hB9 hX0).cell hx13)) rfl ?_
   refine gv_pureN 3 [4, 27, 28] [(4, (.int .i64 (IntKind.i64.wrap ((IntKind.i64.wrap (((x12).toNat : Int))) - 128))))] (by kernel_rfl) ?_
   refine bindE h0 ?_; clear h0; intro n14 hn15 h0
   refine gv_name (s := 4) (v := (.int .i64 (IntKind.i64.wrap ((IntKind.i64.wrap (((x12).toNat : Int))) - 128)))) (v' := (.int .i64 n14)) (by kernel_rfl) (congrArg (Value.int .i64) (sj hn15)) ?_
   refine gv_nil <| gv_cret ?_
   have e := sj h0; subst e
   refine gv_ret (gv_done [(.int .i64 n14)] rfl ⟨(by kernel_rfl), trivial⟩ ?_)
   exact ⟨grown_of_below hB9, rfl⟩
  ·replace h0 := ite_f hc11 h0
   refine gv_skip <| gv_seq <| gv_region <| gv_pureN 1 [4] [(4, (.int .i64 (-1)))] (by kernel_rfl) ?_
   refine gv_nil <| gv_cret ?_
   have e := sj h0; subst e
   refine gv_ret (gv_done [(.int .i64 (-1))] rfl ⟨(by kernel_rfl), trivial⟩ ?_)
   exact ⟨grown_of_below hB9, rfl⟩

theorem ref4_unit_ok (fuel : Nat) (pa0_0 : Option Addr) (pc0_0 : Nat) (s_0 : (List UInt8)) (at_1 : Int) (w0 : World) (X0 : Nat → Prop) (hX0 : ∀ k, X0 k → k < w0.heap.size) (hpa0_0 : Rd bE w0 X0 pa0_0 pc0_0 s_0) (r0 : (Int × Int)) (h0 : ref4_unit fuel s_0 at_1 = some r0) :
    Calls Tryd.prog 67 ([(.slice pa0_0 (List.length s_0) pc0_0), (.int .i64 at_1)] : List Value).toArray w0 (Ret fun v w' => w0.grownBy w' none ∧ v = tup [(.int .i64 r0.1), (.int .i64 r0.2)]) := by
 have hB0 : Below w0.heap.size w0 w0 := Below.refl _ _
 unfold ref4_unit at h0
 refine calls_run Tryd.func67 rfl Tryd.ntmps67 (by kernel_rfl) ?_
 refine gv_sub [0, 1] (σ' := [(0, (.slice pa0_0 (List.length s_0) pc0_0)), (1, (.int .i64 at_1))]) (by kernel_rfl) ?_
 refine gv_seq <| gv_region <| gv_pureN 2 [4, 5] [] (by kernel_rfl) ?_
 refine gv_nil <| gv_seq <| gv_drawA (by kernel_rfl) ?_
 intro w1 hg2
 refine gv_pre [0, 1, 2, 5, 6, 7, 9, 10, 11, 13, 14, 15] (bA 21 [0, 1, 2, 5, 6, 7, 9, 10, 11, 13, 14, 15]) 9 (by kernel_rfl) (by kernel_rfl) ?_
 refine gv_pureN 2 [12, 13] [(12, (.slice pa0_0 (List.length s_0) pc0_0)), (13, (.int .i64 at_1))] (by kernel_rfl) ?_
 refine bindE h0 ?_; clear h0; intro x3 hx4 h0
 have hB5 := bg hB0 hg2 nb
 refine gv_idxaddr (t := 82) (e := 5) (a := pa0_0) (len := List.length s_0) (cap := pc0_0) (kk := .i64) (i := at_1) (sz := 1) [] (fun e => by cases e) rfl rfl rfl (by kernel_rfl) (by kernel_rfl) Tryd.underlying82 (by kernel_rfl) ((hpa0_0.below hB5 hX0).has hx4) (idx_spec hx4).1 (idx_spec hx4).2.1 rfl ?_
 refine gv_pureN 9 [17, 18, 19, 21, 22, 23, 25, 26, 27] [(17, (.slice pa0_0 (List.length s_0) pc0_0)), (19, (.int .i64 (IntKind.i64.wrap (at_1 + 1)))), (21, (.slice pa0_0 (List.length s_0) pc0_0)), (23, (.int .i64 (IntKind.i64.wrap (at_1 + 2)))), (25, (.slice pa0_0 (List.length s_0) pc0_0)), (27, (.int .i64 (IntKind.i64.wrap (at_1 + 3))))] (by kernel_rfl) ?_
 refine gv_nil <| gv_goA ?_
 refine gv_stage (Cls w1 []) [0, 1, 2, 3, 4, 5, 6, 7, 8, 9, 10, 11, 12, 13, 14, 15, 16] [(3, some true), (4, some true), (8, some false), (12, some false), (16, some false)] (bA 21 [0, 1, 2, 3, 4, 5, 6, 7, 8, 9, 10, 11, 12, 13, 14, 15, 16]) 4 (by kernel_rfl) (by kernel_rfl) (Cls.refl _ _) ?_
 have hC6 := Cls.refl w1 []
 refine gv_load (t := 5) (A := (elemAddr pa0_0 ((at_1 : Int).toNat * 1))) (.int .u8 ((x3).toNat : Int)) [] (fun e => by cases e) rfl rfl rfl (by kernel_rfl) (by kernel_rfl) (by kernel_rfl) (inw1 fun w' hC' => ((hC'.rd (hpa0_0.below hB5 hX0) (fun k (hk : X0 k) => ltl (hX0 k hk) hB5.size) nmx_nil).cell hx4)) rfl ?_
 refine gv_pureN 1 [16] [(16, (.int .i64 (IntKind.i64.wrap (((x3).toNat : Int)))))] (by kernel_rfl) ?_
 refine bindE h0 ?_; clear h0; intro r7 hr8 h0
 refine gv_call (f := 92) (vs := [(.slice pa0_0 (List.length s_0) pc0_0), (.int .i64 (IntKind.i64.wrap (at_1 + 1)))]) (cap := []) _ (by decide) rfl rfl rfl (by kernel_rfl) (by kernel_rfl) enters92 (ref4_behind_ok fuel pa0_0 pc0_0 s_0 (IntKind.i64.wrap (at_1 + 1)) w1 (fun k => X0 k) (fun k hk => (fun k (hk : X0 k) => ltl (hX0 k hk) hB5.size) k hk) ((hpa0_0.below hB5 hX0).wide (fun k hk => hk)) r7 hr8) ?_
 rintro v11 w9 ⟨hg10, rfl⟩
 refine ⟨(fun _ => hC6.grown hg10 nb), ?_⟩
 refine bindE h0 ?_; clear h0; intro r12 hr13 h0
 have hB14 := bg hB5 hg10 nb
 refine gv_call (f := 92) (vs := [(.slice pa0_0 (List.length s_0) pc0_0), (.int .i64 (IntKind.i64.wrap (at_1 + 2)))]) (cap := []) _ (by decide) rfl rfl rfl (by kernel_rfl) (by kernel_rfl) enters92 (ref4_behind_ok fuel pa0_0 pc0_0 s_0 (IntKind.i64.wrap (at_1 + 2)) w9 (fun k => X0 k) (fun k hk => (fun k (hk : X0 k) => ltl (hX0 k hk) hB14.size) k hk) ((hpa0_0.below hB14 hX0).wide (fun k hk => hk)) r12 hr13) ?_
 rintro v17 w15 ⟨hg16, rfl⟩
 have hC18 := hC6.grown hg10 nb
 refine ⟨(fun _ => hC18.grown hg16 nb), ?_⟩
 refine bindE h0 ?_; clear h0; intro r19 hr20 h0
 have hB21 := bg hB14 hg16 nb
 refine gv_call (f := 92) (vs := [(.slice pa0_0 (List.length s_0) pc0_0), (.int .i64 (IntKind.i64.wrap (at_1 + 3)))]) (cap := []) _ (by decide) rfl rfl rfl (by kernel_rfl) (by kernel_rfl) enters92 (ref4_behind_ok fuel pa0_0 pc0_0 s_0 (IntKind.i64.wrap (at_1 + 3)) w15 (fun k => X0 k) (fun k hk => (fun k (hk : X0 k) => ltl (hX0 k hk) hB21.size) k hk) ((hpa0_0.below hB21 hX0).wide (fun k hk => hk)) r19 hr20) ?_
 rintro v24 w22 ⟨hg23, rfl⟩
 have hC25 := hC18.grown hg16 nb
 refine ⟨(fun _ => hC25.grown hg23 nb), ?_⟩
 refine gv_nil <| gv_goA ?_
 refine gv_pre [17, 18, 19, 20] (bA 21 [0, 1, 2, 3, 4, 5, 6, 7, 8, 9, 10, 11, 12, 13, 14, 15, 16, 17, 18, 19, 20]) 0 (by kernel_rfl) (by kernel_rfl) ?_
 refine gv_pureN 4 [6, 7, 8, 9] [(6, (.int .i64 (IntKind.i64.wrap (((x3).toNat : Int))))), (7, (.int .i64 r7)), (8, (.int .i64 r12)), (9, (.int .i64 r19))] (by kernel_rfl) ?_
 refine gv_nil <| gv_goA ?_
 refine gv_stageE (by kernel_rfl) ?_
 refine gv_seq <| gv_block <| gv_seq <| gv_region <| gv_pureN 3 [29, 30, 31] [(29, (.bool (decide ((IntKind.i64.wrap (((x3).toNat : Int))) < 128))))] (by kernel_rfl) ?_
 refine bindE h0 ?_; clear h0; intro n26 hn27 h0
 refine gv_name (s := 29) (v := (.bool (decide ((IntKind.i64.wrap (((x3).toNat : Int))) < 128)))) (v' := (.bool n26)) (by kernel_rfl) (congrArg (Value.bool) (sj hn27)) ?_
 refine gv_nil <| gv_cond (b := n26) (by kernel_rfl) (fun hc28 => ?_) (fun hc28 => ?_)
 ·replace h0 := ite_t hc28 h0
  refine gv_seq <| gv_region <| gv_pureN 3 [4, 5, 32] [(4, (.int .i64 (IntKind.i64.wrap (((x3).toNat : Int))))), (5, (.int .i64 1))] (by kernel_rfl) ?_
  refine gv_nil <| gv_cret ?_
  have e := sj h0; subst e
  refine gv_ret (gv_done [(.int .i64 (IntKind.i64.wrap (((x3).toNat : Int)))), (.int .i64 1)] rfl ⟨(by kernel_rfl), (by kernel_rfl), trivial⟩ ?_)
  have hB29 := bg hB21 hg23 nb
  exact ⟨grown_of_below hB29, rfl⟩
 ·replace h0 := ite_f hc28 h0
  refine gv_seq <| gv_region <| gv_cut_ops (J := fun a w30 => w22 = w30 ∧ a.defers = [] ∧ a.tmps.size = 120 ∧ Ok [(6, (.int .i64 (IntKind.i64.wrap (((x3).toNat : Int))))), (7, (.int .i64 r7)), (8, (.int .i64 r12)), (9, (.int .i64 r19)), (33, (.bool ((decide ((IntKind.i64.wrap (((x3).toNat : Int))) ≥ 194)) && ((decide ((IntKind.i64.wrap (((x3).toNat : Int))) < 224)) && (decide (r7 ≥ 0))))))] a.tmps) ?_ ?_
  ·skip
   refine gv_pureN 3 [34, 35, 36] [(36, (.bool (decide ((IntKind.i64.wrap (((x3).toNat : Int))) ≥ 194))))] (by kernel_rfl) ?_
   refine gv_split (s := 36) (g := (decide ((IntKind.i64.wrap (((x3).toNat : Int))) ≥ 194))) (by kernel_rfl) (fun hc31 => ?_) (fun hc31 => ?_)
   ·skip
    refine gv_pureN 4 [37, 38, 39, 40] [(40, (.bool (decide ((IntKind.i64.wrap (((x3).toNat : Int))) < 224))))] (by kernel_rfl) ?_
    refine gv_split (s := 40) (g := (decide ((IntKind.i64.wrap (((x3).toNat : Int))) < 224))) (by kernel_rfl) (fun hc32 => ?_) (fun hc32 => ?_)
    ·skip
     refine gv_pureN 4 [33, 41, 42, 43] [(33, (.bool (decide (r7 ≥ 0))))] (by kernel_rfl) ?_
     refine gv_sub [6, 7, 8, 9, 33] (σ' := [(6, (.int .i64 (IntKind.i64.wrap (((x3).toNat : Int))))), (7, (.int .i64 r7)), (8, (.int .i64 r12)), (9, (.int .i64 r19)), (33, (.bool (decide (r7 ≥ 0))))]) (by kernel_rfl) ?_
     refine gv_nil <| gv_sub [6, 7, 8, 9, 33] (σ' := [(6, (.int .i64 (IntKind.i64.wrap (((x3).toNat : Int))))), (7, (.int .i64 r7)), (8, (.int .i64 r12)), (9, (.int .i64 r19)), (33, (.bool (decide (r7 ≥ 0))))]) (by kernel_rfl) ?_
     refine gv_goal fun a hd hs hok => ⟨rfl, hd, hs, ?_⟩
     obtain ⟨q6, q7, q8, q9, q33, _⟩ := hok
     exact ⟨q6, q7, q8, q9, (by rw [hc31, hc32]; exact q33), trivial⟩
    ·skip
     refine gv_pureN 4 [33, 41, 42, 43] [(33, (.bool false))] (by kernel_rfl) ?_
     refine gv_sub [6, 7, 8, 9, 33] (σ' := [(6, (.int .i64 (IntKind.i64.wrap (((x3).toNat : Int))))), (7, (.int .i64 r7)), (8, (.int .i64 r12)), (9, (.int .i64 r19)), (33, (.bool false))]) (by kernel_rfl) ?_
     refine gv_nil <| gv_sub [6, 7, 8, 9, 33] (σ' := [(6, (.int .i64 (IntKind.i64.wrap (((x3).toNat : Int))))), (7, (.int .i64 r7)), (8, (.int .i64 r12)), (9, (.int .i64 r19)), (33, (.bool false))]) (by kernel_rfl) ?_
     refine gv_goal fun a hd hs hok => ⟨rfl, hd, hs, ?_⟩
     obtain ⟨q6, q7, q8, q9, q33, _⟩ := hok
     exact ⟨q6, q7, q8, q9, (by rw [hc31, hc32]; exact q33), trivial⟩
   ·skip
    refine gv_pureN 8 [33, 37, 38, 39, 40, 41, 42, 43] [(33, (.bool false))] (by kernel_rfl) ?_
    refine gv_nil <| gv_sub [6, 7, 8, 9, 33] (σ' := [(6, (.int .i64 (IntKind.i64.wrap (((x3).toNat : Int))))), (7, (.int .i64 r7)), (8, (.int .i64 r12)), (9, (.int .i64 r19)), (33, (.bool false))]) (by kernel_rfl) ?_
    refine gv_goal fun a hd hs hok => ⟨rfl, hd, hs, ?_⟩
    obtain ⟨q6, q7, q8, q9, q33, _⟩ := hok
    exact ⟨q6, q7, q8, q9, (by rw [hc31]; exact q33), trivial⟩
  ·rintro a w30 ⟨e, hd, hs, hok⟩; subst e
   refine gv_in ?_ hd hs hok
   clear hd hs hok
   refine gv_cond (b := ((decide ((IntKind.i64.wrap (((x3).toNat : Int))) ≥ 194)) && ((decide ((IntKind.i64.wrap (((x3).toNat : Int))) < 224)) && (decide (r7 ≥ 0))))) (by kernel_rfl) (fun hc33 => ?_) (fun hc33 => ?_)
   ·replace h0 := ite_t hc33 h0
    refine gv_seq <| gv_region <| gv_pureN 7 [4, 5, 44, 45, 46, 47, 48] [(4, (.int .i64 (IntKind.i64.wrap ((IntKind.i64.wrap ((IntKind.i64.wrap ((IntKind.i64.wrap (((x3).toNat : Int))) - 192)) * 64)) + r7)))), (5, (.int .i64 2))] (by kernel_rfl) ?_
    refine bindE h0 ?_; clear h0; intro n34 hn35 h0
    refine gv_name (s := 4) (v := (.int .i64 (IntKind.i64.wrap ((IntKind.i64.wrap ((IntKind.i64.wrap ((IntKind.i64.wrap (((x3).toNat : Int))) - 192)) * 64)) + r7)))) (v' := (.int .i64 n34)) (by kernel_rfl) (congrArg (Value.int .i64) (sj hn35)) ?_
    refine gv_nil <| gv_cret ?_
    have e := sj h0; subst e
    refine gv_ret (gv_done [(.int .i64 n34), (.int .i64 2)] rfl ⟨(by kernel_rfl), (by kernel_rfl), trivial⟩ ?_)
    have hB36 := bg hB21 hg23 nb
    exact ⟨grown_of_below hB36, rfl⟩
   ·replace h0 := ite_f hc33 h0
    refine gv_seq <| gv_region <| gv_cut_ops (J := fun a w37 => w22 = w37 ∧ a.defers = [] ∧ a.tmps.size = 120 ∧ Ok [(6, (.int .i64 (IntKind.i64.wrap (((x3).toNat : Int))))), (7, (.int .i64 r7)), (8, (.int .i64 r12)), (9, (.int .i64 r19)), (49, (.bool ((decide ((IntKind.i64.wrap (((x3).toNat : Int))) ≥ 224)) && ((decide ((IntKind.i64.wrap (((x3).toNat : Int))) < 240)) && ((decide (r7 ≥ 0)) && (decide (r12 ≥ 0)))))))] a.tmps) ?_ ?_
    ·skip
     refine gv_pureN 3 [50, 51, 52] [(52, (.bool (decide ((IntKind.i64.wrap (((x3).toNat : Int))) ≥ 224))))] (by kernel_rfl) ?_
     refine gv_split (s := 52) (g := (decide ((IntKind.i64.wrap (((x3).toNat : Int))) ≥ 224))) (by kernel_rfl) (fun hc38 => ?_) (fun hc38 => ?_)
     ·skip
      refine gv_pureN 4 [53, 54, 55, 56] [(56, (.bool (decide ((IntKind.i64.wrap (((x3).toNat : Int))) < 240))))] (by kernel_rfl) ?_
      refine gv_split (s := 56) (g := (decide ((IntKind.i64.wrap (((x3).toNat : Int))) < 240))) (by kernel_rfl) (fun hc39 => ?_) (fun hc39 => ?_)
      ·skip
       refine gv_pureN 4 [57, 58, 59, 60] [(60, (.bool (decide (r7 ≥ 0))))] (by kernel_rfl) ?_
       refine gv_sub [6, 7, 8, 9, 60] (σ' := [(6, (.int .i64 (IntKind.i64.wrap (((x3).toNat : Int))))), (7, (.int .i64 r7)), (8, (.int .i64 r12)), (9, (.int .i64 r19)), (60, (.bool (decide (r7 ≥ 0))))]) (by kernel_rfl) ?_
       refine gv_split (s := 60) (g := (decide (r7 ≥ 0))) (by kernel_rfl) (fun hc40 => ?_) (fun hc40 => ?_)
       ·skip
        refine gv_pureN 4 [49, 61, 62, 63] [(49, (.bool (decide (r12 ≥ 0))))] (by kernel_rfl) ?_
        refine gv_nil <| gv_sub [6, 7, 8, 9, 49] (σ' := [(6, (.int .i64 (IntKind.i64.wrap (((x3).toNat : Int))))), (7, (.int .i64 r7)), (8, (.int .i64 r12)), (9, (.int .i64 r19)), (49, (.bool (decide (r12 ≥ 0))))]) (by kernel_rfl) ?_
        refine gv_goal fun a hd hs hok => ⟨rfl, hd, hs, ?_⟩
        obtain ⟨q6, q7, q8, q9, q49, _⟩ := hok
        exact ⟨q6, q7, q8, q9, (by rw [hc38, hc39, hc40]; exact q49), trivial⟩
       ·skip
        refine gv_pureN 4 [49, 61, 62, 63] [(49, (.bool false))] (by kernel_rfl) ?_
        refine gv_nil <| gv_sub [6, 7, 8, 9, 49] (σ' := [(6, (.int .i64 (IntKind.i64.wrap (((x3).toNat : Int))))), (7, (.int .i64 r7)), (8, (.int .i64 r12)), (9, (.int .i64 r19)), (49, (.bool false))]) (by kernel_rfl) ?_
        refine gv_goal fun a hd hs hok => ⟨rfl, hd, hs, ?_⟩
        obtain ⟨q6, q7, q8, q9, q49, _⟩ := hok
        exact ⟨q6, q7, q8, q9, (by rw [hc38, hc39, hc40]; exact q49), trivial⟩
      ·skip
       refine gv_pureN 8 [49, 57, 58, 59, 60, 61, 62, 63] [(49, (.bool false))] (by kernel_rfl) ?_
       refine gv_sub [6, 7, 8, 9, 49] (σ' := [(6, (.int .i64 (IntKind.i64.wrap (((x3).toNat : Int))))), (7, (.int .i64 r7)), (8, (.int .i64 r12)), (9, (.int .i64 r19)), (49, (.bool false))]) (by kernel_rfl) ?_
       refine gv_nil <| gv_sub [6, 7, 8, 9, 49] (σ' := [(6, (.int .i64 (IntKind.i64.wrap (((x3).toNat : Int))))), (7, (.int .i64 r7)), (8, (.int .i64 r12)), (9, (.int .i64 r19)), (49, (.bool false))]) (by kernel_rfl) ?_
       refine gv_goal fun a hd hs hok => ⟨rfl, hd, hs, ?_⟩
       obtain ⟨q6, q7, q8, q9, q49, _⟩ := hok
       exact ⟨q6, q7, q8, q9, (by rw [hc38, hc39]; exact q49), trivial⟩
     ·skip
      refine gv_pureN 12 [49, 53, 54, 55, 56, 57, 58, 59, 60, 61, 62, 63] [(49, (.bool false))] (by kernel_rfl) ?_
      refine gv_nil <| gv_sub [6, 7, 8, 9, 49] (σ' := [(6, (.int .i64 (IntKind.i64.wrap (((x3).toNat : Int))))), (7, (.int .i64 r7)), (8, (.int .i64 r12)), (9, (.int .i64 r19)), (49, (.bool false))]) (by kernel_rfl) ?_
      refine gv_goal fun a hd hs hok => ⟨rfl, hd, hs, ?_⟩
      obtain ⟨q6, q7, q8, q9, q49, _⟩ := hok
      exact ⟨q6, q7, q8, q9, (by rw [hc38]; exact q49), trivial⟩
    ·rintro a w37 ⟨e, hd, hs, hok⟩; subst e
     refine gv_in ?_ hd hs hok
     clear hd hs hok
     refine bindE h0 ?_; clear h0; intro j41 h1 h0
     refine gv_cut_code (J := fun a w43 => ∃ s42 : Unit, j41 = .inl s42 ∧ Below w0.heap.size w0 w43 ∧ w22.heap.size ≤ w43.heap.size ∧ a.defers = [] ∧ a.tmps.size = 120 ∧ Ok [] a.tmps) ?_ ?_
     ·skip
      refine gv_cond (b := ((decide ((IntKind.i64.wrap (((x3).toNat : Int))) ≥ 224)) && ((decide ((IntKind.i64.wrap (((x3).toNat : Int))) < 240)) && ((decide (r7 ≥ 0)) && (decide (r12 ≥ 0)))))) (by kernel_rfl) (fun hc44 => ?_) (fun hc44 => ?_)
      ·replace h1 := ite_t hc44 h1
       refine gv_seq <| gv_region <| gv_pureN 9 [10, 64, 65, 66, 67, 68, 69, 70, 71] [(10, (.int .i64 (IntKind.i64.wrap ((IntKind.i64.wrap ((IntKind.i64.wrap ((IntKind.i64.wrap ((IntKind.i64.wrap (((x3).toNat : Int))) - 224)) * 4096)) + (IntKind.i64.wrap (r7 * 64)))) + r12))))] (by kernel_rfl) ?_
       refine bindE h1 ?_; clear h1; intro n45 hn46 h1
       refine gv_name (s := 10) (v := (.int .i64 (IntKind.i64.wrap ((IntKind.i64.wrap ((IntKind.i64.wrap ((IntKind.i64.wrap ((IntKind.i64.wrap (((x3).toNat : Int))) - 224)) * 4096)) + (IntKind.i64.wrap (r7 * 64)))) + r12)))) (v' := (.int .i64 n45)) (by kernel_rfl) (congrArg (Value.int .i64) (sj hn46)) ?_
       refine gv_nil <| gv_seq <| gv_region <| gv_cut_ops (J := fun a w47 => w22 = w47 ∧ a.defers = [] ∧ a.tmps.size = 120 ∧ Ok [(10, (.int .i64 n45)), (81, (.bool ((decide (n45 ≥ 2048)) && ((decide (n45 < 55296)) || (decide (n45 > 57343))))))] a.tmps) ?_ ?_
       ·skip
        refine gv_pureN 3 [72, 73, 74] [(74, (.bool (decide (n45 ≥ 2048))))] (by kernel_rfl) ?_
        refine gv_split (s := 74) (g := (decide (n45 ≥ 2048))) (by kernel_rfl) (fun hc48 => ?_) (fun hc48 => ?_)
        ·skip
         refine gv_pureN 3 [75, 76, 77] [(77, (.bool (decide (n45 < 55296))))] (by kernel_rfl) ?_
         refine gv_sub [10, 74, 77] (σ' := [(10, (.int .i64 n45)), (74, (.bool true)), (77, (.bool (decide (n45 < 55296))))]) (by kernel_rfl) ?_
         refine gv_split (s := 77) (g := (decide (n45 < 55296))) (by kernel_rfl) (fun hc49 => ?_) (fun hc49 => ?_)
         ·skip
          refine gv_pureN 4 [78, 79, 80, 81] [(81, (.bool true))] (by kernel_rfl) ?_
          refine gv_nil <| gv_sub [10, 81] (σ' := [(10, (.int .i64 n45)), (81, (.bool true))]) (by kernel_rfl) ?_
          refine gv_goal fun a hd hs hok => ⟨rfl, hd, hs, ?_⟩
          obtain ⟨q10, q81, _⟩ := hok
          exact ⟨q10, (by rw [hc48, hc49]; exact q81), trivial⟩
         ·skip
          refine gv_pureN 4 [78, 79, 80, 81] [(81, (.bool (decide (n45 > 57343))))] (by kernel_rfl) ?_
          refine gv_nil <| gv_sub [10, 81] (σ' := [(10, (.int .i64 n45)), (81, (.bool (decide (n45 > 57343))))]) (by kernel_rfl) ?_
          refine gv_goal fun a hd hs hok => ⟨rfl, hd, hs, ?_⟩
          obtain ⟨q10, q81, _⟩ := hok
          exact ⟨q10, (by rw [hc48, hc49]; exact q81), trivial⟩
        ·skip
         refine gv_pureN 7 [75, 76, 77, 78, 79, 80, 81] [(81, (.bool false))] (by kernel_rfl) ?_
         refine gv_sub [10, 81] (σ' := [(10, (.int .i64 n45)), (81, (.bool false))]) (by kernel_rfl) ?_
         refine gv_nil <| gv_sub [10, 81] (σ' := [(10, (.int .i64 n45)), (81, (.bool false))]) (by kernel_rfl) ?_
         refine gv_goal fun a hd hs hok => ⟨rfl, hd, hs, ?_⟩
         obtain ⟨q10, q81, _⟩ := hok
         exact ⟨q10, (by rw [hc48]; exact q81), trivial⟩
       ·rintro a w47 ⟨e, hd, hs, hok⟩; subst e
        refine gv_in ?_ hd hs hok
        clear hd hs hok
        refine gv_cond (b := ((decide (n45 ≥ 2048)) && ((decide (n45 < 55296)) || (decide (n45 > 57343))))) (by kernel_rfl) (fun hc50 => ?_) (fun hc50 => ?_)
        ·replace h1 := ite_t hc50 h1
         refine gv_seq <| gv_region <| gv_pureN 3 [4, 5, 82] [(4, (.int .i64 n45)), (5, (.int .i64 3))] (by kernel_rfl) ?_
         refine gv_nil <| gv_cret ?_
         have e := sj h1; subst e
         replace h0 := cont_inr h0
         have e := sj h0; subst e
         refine gv_ret (gv_done [(.int .i64 n45), (.int .i64 3)] rfl ⟨(by kernel_rfl), (by kernel_rfl), trivial⟩ ?_)
         have hB51 := bg hB21 hg23 nb
         exact ⟨grown_of_below hB51, rfl⟩
        ·replace h1 := ite_f hc50 h1
         refine gv_skip ?_
         have e := sj h1; subst e
         refine gv_goal fun a hd hs hok => ?_
         have hB52 := bg hB21 hg23 nb
         exact ⟨(), rfl, hB52, (Nat.le_refl _), hd, hs, ok_pick [] hok (by kernel_rfl)⟩
      ·replace h1 := ite_f hc44 h1
       refine gv_seq <| gv_region <| gv_cut_ops (J := fun a w53 => w22 = w53 ∧ a.defers = [] ∧ a.tmps.size = 120 ∧ Ok [(6, (.int .i64 (IntKind.i64.wrap (((x3).toNat : Int))))), (7, (.int .i64 r7)), (8, (.int .i64 r12)), (9, (.int .i64 r19)), (83, (.bool ((decide ((IntKind.i64.wrap (((x3).toNat : Int))) ≥ 240)) && ((decide ((IntKind.i64.wrap (((x3).toNat : Int))) < 245)) && ((decide (r7 ≥ 0)) && ((decide (r12 ≥ 0)) && (decide (r19 ≥ 0))))))))] a.tmps) ?_ ?_
       ·skip
        refine gv_pureN 3 [84, 85, 86] [(86, (.bool (decide ((IntKind.i64.wrap (((x3).toNat : Int))) ≥ 240))))] (by kernel_rfl) ?_
        refine gv_split (s := 86) (g := (decide ((IntKind.i64.wrap (((x3).toNat : Int))) ≥ 240))) (by kernel_rfl) (fun hc54 => ?_) (fun hc54 => ?_)
        ·skip
         refine gv_pureN 4 [87, 88, 89, 90] [(90, (.bool (decide ((IntKind.i64.wrap (((x3).toNat : Int))) < 245))))] (by kernel_rfl) ?_
         refine gv_split (s := 90) (g := (decide ((IntKind.i64.wrap (((x3).toNat : Int))) < 245))) (by kernel_rfl) (fun hc55 => ?_) (fun hc55 => ?_)
         ·skip
          refine gv_pureN 4 [91, 92, 93, 94] [(94, (.bool (decide (r7 ≥ 0))))] (by kernel_rfl) ?_
          refine gv_sub [6, 7, 8, 9, 94] (σ' := [(6, (.int .i64 (IntKind.i64.wrap (((x3).toNat : Int))))), (7, (.int .i64 r7)), (8, (.int .i64 r12)), (9, (.int .i64 r19)), (94, (.bool (decide (r7 ≥ 0))))]) (by kernel_rfl) ?_
          refine gv_split (s := 94) (g := (decide (r7 ≥ 0))) (by kernel_rfl) (fun hc56 => ?_) (fun hc56 => ?_)
          ·skip
           refine gv_pureN 4 [95, 96, 97, 98] [(98, (.bool (decide (r12 ≥ 0))))] (by kernel_rfl) ?_
           refine gv_split (s := 98) (g := (decide (r12 ≥ 0))) (by kernel_rfl) (fun hc57 => ?_) (fun hc57 => ?_)
           ·skip
            refine gv_pureN 4 [83, 99, 100, 101] [(83, (.bool (decide (r19 ≥ 0))))] (by kernel_rfl) ?_
            refine gv_nil <| gv_sub [6, 7, 8, 9, 83] (σ' := [(6, (.int .i64 (IntKind.i64.wrap (((x3).toNat : Int))))), (7, (.int .i64 r7)), (8, (.int .i64 r12)), (9, (.int .i64 r19)), (83, (.bool (decide (r19 ≥ 0))))]) (by kernel_rfl) ?_
            refine gv_goal fun a hd hs hok => ⟨rfl, hd, hs, ?_⟩
            obtain ⟨q6, q7, q8, q9, q83, _⟩ := hok
            exact ⟨q6, q7, q8, q9, (by rw [hc54, hc55, hc56, hc57]; exact q83), trivial⟩
           ·skip
            refine gv_pureN 4 [83, 99, 100, 101] [(83, (.bool false))] (by kernel_rfl) ?_
            refine gv_nil <| gv_sub [6, 7, 8, 9, 83] (σ' := [(6, (.int .i64 (IntKind.i64.wrap (((x3).toNat : Int))))), (7, (.int .i64 r7)), (8, (.int .i64 r12)), (9, (.int .i64 r19)), (83, (.bool false))]) (by kernel_rfl) ?_
            refine gv_goal fun a hd hs hok => ⟨rfl, hd, hs, ?_⟩
            obtain ⟨q6, q7, q8, q9, q83, _⟩ := hok
            exact ⟨q6, q7, q8, q9, (by rw [hc54, hc55, hc56, hc57]; exact q83), trivial⟩
          ·skip
           refine gv_pureN 8 [83, 95, 96, 97, 98, 99, 100, 101] [(83, (.bool false))] (by kernel_rfl) ?_
           refine gv_nil <| gv_sub [6, 7, 8, 9, 83] (σ' := [(6, (.int .i64 (IntKind.i64.wrap (((x3).toNat : Int))))), (7, (.int .i64 r7)), (8, (.int .i64 r12)), (9, (.int .i64 r19)), (83, (.bool false))]) (by kernel_rfl) ?_
           refine gv_goal fun a hd hs hok => ⟨rfl, hd, hs, ?_⟩
           obtain ⟨q6, q7, q8, q9, q83, _⟩ := hok
           exact ⟨q6, q7, q8, q9, (by rw [hc54, hc55, hc56]; exact q83), trivial⟩
         ·skip
          refine gv_pureN 12 [83, 91, 92, 93, 94, 95, 96, 97, 98, 99, 100, 101] [(83, (.bool false))] (by kernel_rfl) ?_
          refine gv_sub [6, 7, 8, 9, 83] (σ' := [(6, (.int .i64 (IntKind.i64.wrap (((x3).toNat : Int))))), (7, (.int .i64 r7)), (8, (.int .i64 r12)), (9, (.int .i64 r19)), (83, (.bool false))]) (by kernel_rfl) ?_
          refine gv_nil <| gv_sub [6, 7, 8, 9, 83] (σ' := [(6, (.int .i64 (IntKind.i64.wrap (((x3).toNat : Int))))), (7, (.int .i64 r7)), (8, (.int .i64 r12)), (9, (.int .i64 r19)), (83, (.bool false))]) (by kernel_rfl) ?_
          refine gv_goal fun a hd hs hok => ⟨rfl, hd, hs, ?_⟩
          obtain ⟨q6, q7, q8, q9, q83, _⟩ := hok
          exact ⟨q6, q7, q8, q9, (by rw [hc54, hc55]; exact q83), trivial⟩
        ·skip
         refine gv_pureN 16 [83, 87, 88, 89, 90, 91, 92, 93, 94, 95, 96, 97, 98, 99, 100, 101] [(83, (.bool false))] (by kernel_rfl) ?_
         refine gv_nil <| gv_sub [6, 7, 8, 9, 83] (σ' := [(6, (.int .i64 (IntKind.i64.wrap (((x3).toNat : Int))))), (7, (.int .i64 r7)), (8, (.int .i64 r12)), (9, (.int .i64 r19)), (83, (.bool false))]) (by kernel_rfl) ?_
         refine gv_goal fun a hd hs hok => ⟨rfl, hd, hs, ?_⟩
         obtain ⟨q6, q7, q8, q9, q83, _⟩ := hok
         exact ⟨q6, q7, q8, q9, (by rw [hc54]; exact q83), trivial⟩
       ·rintro a w53 ⟨e, hd, hs, hok⟩; subst e
        refine gv_in ?_ hd hs hok
        clear hd hs hok
        refine gv_cond (b := ((decide ((IntKind.i64.wrap (((x3).toNat : Int))) ≥ 240)) && ((decide ((IntKind.i64.wrap (((x3).toNat : Int))) < 245)) && ((decide (r7 ≥ 0)) && ((decide (r12 ≥ 0)) && (decide (r19 ≥ 0))))))) (by kernel_rfl) (fun hc58 => ?_) (fun hc58 => ?_)
        ·replace h1 := ite_t hc58 h1
         refine gv_seq <| gv_region <| gv_pureN 12 [11, 102, 103, 104, 105, 106, 107, 108, 109, 110, 111, 112] [(11, (.int .i64 (IntKind.i64.wrap ((IntKind.i64.wrap ((IntKind.i64.wrap ((IntKind.i64.wrap ((IntKind.i64.wrap ((IntKind.i64.wrap (((x3).toNat : Int))) - 240)) * 262144)) + (IntKind.i64.wrap (r7 * 4096)))) + (IntKind.i64.wrap (r12 * 64)))) + r19))))] (by kernel_rfl) ?_
         refine bindE h1 ?_; clear h1; intro n59 hn60 h1
         refine gv_name (s := 11) (v := (.int .i64 (IntKind.i64.wrap ((IntKind.i64.wrap ((IntKind.i64.wrap ((IntKind.i64.wrap ((IntKind.i64.wrap ((IntKind.i64.wrap (((x3).toNat : Int))) - 240)) * 262144)) + (IntKind.i64.wrap (r7 * 4096)))) + (IntKind.i64.wrap (r12 * 64)))) + r19)))) (v' := (.int .i64 n59)) (by kernel_rfl) (congrArg (Value.int .i64) (sj hn60)) ?_
         refine gv_nil <| gv_seq <| gv_region <| gv_cut_ops (J := fun a w61 => w22 = w61 ∧ a.defers = [] ∧ a.tmps.size = 120 ∧ Ok [(11, (.int .i64 n59)), (118, (.bool ((decide (n59 ≥ 65536)) && (decide (n59 ≤ 1114111)))))] a.tmps) ?_ ?_
         ·skip
          refine gv_pureN 3 [113, 114, 115] [(115, (.bool (decide (n59 ≥ 65536))))] (by kernel_rfl) ?_
          refine gv_split (s := 115) (g := (decide (n59 ≥ 65536))) (by kernel_rfl) (fun hc62 => ?_) (fun hc62 => ?_)
          ·skip
           refine gv_pureN 3 [116, 117, 118] [(118, (.bool (decide (n59 ≤ 1114111))))] (by kernel_rfl) ?_
           refine gv_sub [11, 118] (σ' := [(11, (.int .i64 n59)), (118, (.bool (decide (n59 ≤ 1114111))))]) (by kernel_rfl) ?_
           refine gv_nil <| gv_sub [11, 118] (σ' := [(11, (.int .i64 n59)), (118, (.bool (decide (n59 ≤ 1114111))))]) (by kernel_rfl) ?_
           refine gv_goal fun a hd hs hok => ⟨rfl, hd, hs, ?_⟩
           obtain ⟨q11, q118, _⟩ := hok
           exact ⟨q11, (by rw [hc62]; exact q118), trivial⟩
          ·skip
           refine gv_pureN 3 [116, 117, 118] [(118, (.bool false))] (by kernel_rfl) ?_
           refine gv_sub [11, 118] (σ' := [(11, (.int .i64 n59)), (118, (.bool false))]) (by kernel_rfl) ?_
           refine gv_nil <| gv_sub [11, 118] (σ' := [(11, (.int .i64 n59)), (118, (.bool false))]) (by kernel_rfl) ?_
           refine gv_goal fun a hd hs hok => ⟨rfl, hd, hs, ?_⟩
           obtain ⟨q11, q118, _⟩ := hok
           exact ⟨q11, (by rw [hc62]; exact q118), trivial⟩
         ·rintro a w61 ⟨e, hd, hs, hok⟩; subst e
          refine gv_in ?_ hd hs hok
          clear hd hs hok
          refine gv_cond (b := ((decide (n59 ≥ 65536)) && (decide (n59 ≤ 1114111)))) (by kernel_rfl) (fun hc63 => ?_) (fun hc63 => ?_)
          ·replace h1 := ite_t hc63 h1
           refine gv_seq <| gv_region <| gv_pureN 3 [4, 5, 119] [(4, (.int .i64 n59)), (5, (.int .i64 4))] (by kernel_rfl) ?_
           refine gv_nil <| gv_cret ?_
           have e := sj h1; subst e
           replace h0 := cont_inr h0
           have e := sj h0; subst e
           refine gv_ret (gv_done [(.int .i64 n59), (.int .i64 4)] rfl ⟨(by kernel_rfl), (by kernel_rfl), trivial⟩ ?_)
           have hB64 := bg hB21 hg23 nb
           exact ⟨grown_of_below hB64, rfl⟩
          ·replace h1 := ite_f hc63 h1
           refine gv_skip ?_
           have e := sj h1; subst e
           refine gv_goal fun a hd hs hok => ?_
           have hB65 := bg hB21 hg23 nb
           exact ⟨(), rfl, hB65, (Nat.le_refl _), hd, hs, ok_pick [] hok (by kernel_rfl)⟩
        ·replace h1 := ite_f hc58 h1
         refine gv_skip ?_
         have e := sj h1; subst e
         refine gv_goal fun a hd hs hok => ?_
         have hB66 := bg hB21 hg23 nb
         exact ⟨(), rfl, hB66, (Nat.le_refl _), hd, hs, ok_pick [] hok (by kernel_rfl)⟩
     ·rintro a w43 ⟨s42, e, hB67, hz68, hd, hs, hok⟩
      subst e
      refine gv_in ?_ hd hs hok
      clear hd hs hok
      replace h0 := cont_inl h0
      clear hc33 hc28 hn27 hC25 hg23 hB21 hr20 hC18 hg16 hB14 hr13 hg10 hr8 hC6 hB5 hx4 hg2
      refine gv_blk <| gv_seq <| gv_region <| gv_pureN 2 [4, 5] [(4, (.int .i64 0)), (5, (.int .i64 0))] (by kernel_rfl) ?_
      refine gv_nil <| gv_cret ?_
      have e := sj h0; subst e
      refine gv_ret (gv_done [(.int .i64 0), (.int .i64 0)] rfl ⟨(by kernel_rfl), (by kernel_rfl), trivial⟩ ?_)
      exact ⟨grown_of_below hB67, rfl⟩

theorem ref4_Points_ok (fuel : Nat) (s_0 : ByteArray) (w0 : World)  (r0 : ((List Int) × Bool)) (h0 : ref4_Points fuel s_0 = some r0) :
    Calls Tryd.prog 24 ([(.string s_0)] : List Value).toArray w0 (Ret fun v w' => w0.grownBy w' none ∧ ∃ (a0_0r : Option Addr) (c0_0r : Nat), v = tup [(.slice a0_0r (List.length r0.1) c0_0r), (.bool r0.2)] ∧ Gv.Own (iE .i64) 3 w' (fun _ => False) a0_0r c0_0r r0.1 ∧ (∀ g, blk a0_0r = some g → w0.heap.size ≤ g)) := by
 have hB0 : Below w0.heap.size w0 w0 := Below.refl _ _
 unfold ref4_Points at h0
 refine calls_run Tryd.func24 rfl Tryd.ntmps24 (by kernel_rfl) ?_
 refine gv_sub [0] (σ' := [(0, (.string s_0))]) (by kernel_rfl) ?_
 refine gv_seq <| gv_region <| gv_pureN 2 [2, 3] [] (by kernel_rfl) ?_
 refine gv_nil <| gv_seq <| gv_region <| gv_pureN 1 [4] [(4, (.slice none (List.length ([] : List Int)) 0))] (by kernel_rfl) ?_
 refine gv_nil <| gv_seq <| gv_seq <| gv_region <| gv_pureN 1 [5] [(5, (.int .i64 0))] (by kernel_rfl) ?_
 refine gv_nil <| bindE h0 ?_; clear h0; intro j1 h1 h0
 refine gv_cut_code (J := fun a w3 => ∃ s2 : (List Int), j1 = .inl s2 ∧ ∃ (a4_0j : Option Addr) (c4_0j : Nat), Below w0.heap.size w0 w3 ∧ w0.heap.size ≤ w3.heap.size ∧ Gv.Own (iE .i64) 3 w3 (fun _ => False) a4_0j c4_0j s2 ∧ (∀ g, blk a4_0j = some g → w0.heap.size ≤ g) ∧ a.defers = [] ∧ a.tmps.size = 29 ∧ Ok [(4, (.slice a4_0j (List.length s2) c4_0j))] a.tmps) ?_ ?_
 ·skip
  refine gv_block <| gv_loop (A := fun (s4 : ((List Int) × Int)) a w5 => ∃ (a4_0j : Option Addr) (c4_0j : Nat), Below w0.heap.size w0 w5 ∧ w0.heap.size ≤ w5.heap.size ∧ Gv.Own (iE .i64) 3 w5 (fun _ => False) a4_0j c4_0j s4.1 ∧ (∀ g, blk a4_0j = some g → w0.heap.size ≤ g) ∧ a.defers = [] ∧ a.tmps.size = 29 ∧ Ok [(0, (.string s_0)), (4, (.slice a4_0j (List.length s4.1) c4_0j)), (5, (.int .i64 s4.2))] a.tmps) h1 ?_ ?_
  ·intro a hd hs hok
   exact ⟨none, 0, hB0, (Nat.le_refl _), (Gv.Own.nil (iE .i64) 3 w0 (fun _ => False)), (fun _ h => by cases h), hd, hs, ok_pick [0, 4, 5] hok (by kernel_rfl)⟩
  ·rintro s4 r2 h2 hR2 a w5 ⟨a8, c9, hB6, hz7, ho10, hl11, hd, hs, hok⟩
   refine gv_in ?_ hd hs hok
   clear hd hs hok
   refine gv_seq <| gv_seq <| gv_region <| gv_pureN 4 [8, 9, 10, 11] [(11, (.bool (decide (s4.2 < ((ByteArray.size s_0 : Nat) : Int)))))] (by kernel_rfl) ?_
   refine gv_nil <| gv_cond (b := (decide (s4.2 < ((ByteArray.size s_0 : Nat) : Int)))) (by kernel_rfl) (fun hc12 => ?_) (fun hc12 => ?_)
   ·replace h2 := ite_t hc12 h2
    refine gv_skip <| gv_block <| gv_seq <| gv_region <| gv_pureN 1 [13] [(13, (.string s_0))] (by kernel_rfl) ?_
    refine gv_s2b (src := 9) (dst := 82) (e := 5) (s := s_0) (by decide) rfl rfl (by kernel_rfl) (by kernel_rfl) Tryd.underlying9 Tryd.underlying82 Tryd.underlying5 ?_
    rintro a13 c14 w15 hg16 hr17 hz19
    refine ⟨(fun e => by cases e), ?_⟩
    have hx20 : ∀ k, k = w5.heap.size → k < w15.heap.size := lts hz19
    have hx21 : ∀ k, k = w5.heap.size → (fun _ => False) k ∨ w0.heap.size ≤ k := fun k hk => .inr (lowe hB6.size k hk)
    refine gv_pureN 1 [15] [(15, (.int .i64 s4.2))] (by kernel_rfl) ?_
    refine bindE h2 ?_; clear h2; intro r22 hr23 h2
    refine gv_call0 (by kernel_rfl) rfl (by kernel_rfl) enters67 (ref4_unit_ok fuel a13 c14 (bytesOf s_0) s4.2 w15 (fun k => (· = w5.heap.size) k) (fun k hk => hx20 k hk) (hr17.wide (fun k hk => hk)) r22 hr23) ?_
    rintro v26 w24 ⟨hg25, rfl⟩
    refine gv_pureN 5 [6, 7, 12, 17, 18] [(6, (.int .i64 r22.1)), (7, (.int .i64 r22.2))] (by kernel_rfl) ?_
    refine gv_nil <| gv_seq <| gv_seq <| gv_region <| gv_pureN 2 [19, 20] [(20, (.bool (r22.2 == 0)))] (by kernel_rfl) ?_
    refine gv_nil <| gv_cond (b := (r22.2 == 0)) (by kernel_rfl) (fun hc27 => ?_) (fun hc27 => ?_)
    ·replace h2 := ite_t hc27 h2
     refine gv_seq <| gv_region <| gv_pureN 2 [2, 3] [(2, (.slice none (List.length ([] : List Int)) 0)), (3, (.bool false))] (by kernel_rfl) ?_
     refine gv_nil <| gv_cret ?_
     have e := sj h2; subst e
     replace h1 := congrArg some (hR2 _ rfl)
     have e := sj h1; subst e
     replace h0 := cont_inr h0
     have e := sj h0; subst e
     refine gv_ret (gv_done [(.slice none (List.length ([] : List Int)) 0), (.bool false)] rfl ⟨(by kernel_rfl), (by kernel_rfl), trivial⟩ ?_)
     have hg28 := (grown_trans hg16 hg25)
     have hB29 := bg hB6 hg28 nb
     exact ⟨grown_of_below hB29, none, 0, rfl, (Gv.Own.nil (iE .i64) 3 w24 (fun _ => False)), (fun _ h => by cases h)⟩
    ·replace h2 := ite_f hc27 h2
     refine gv_skip <| gv_seq <| gv_region <| gv_pureN 2 [21, 22] [(21, (.slice a8 (List.length s4.1) c9)), (22, (.int .i64 r22.1))] (by kernel_rfl) ?_
     refine gv_new0 (fun b => .slice (some ⟨b, 0, none⟩) 1 1) #[(.int .i64 r22.1)] 3 (by kernel_rfl) (by kernel_rfl) ?_
     intro b30 w31 hg32 hb33 hbe34 hz35
     have ho36 : Gv.Own (iE .i64) 3 w31 (fun _ => False) (some ⟨b30, 0, none⟩) 1 ([r22.1] : List Int) := Box.ownE hb33 ⟨[(.int .i64 r22.1)], [], rfl, rfl, rfl⟩ (show 1 ≤ maxLen by decide) (fun h => h)
     have hg41 := (grown_trans hg16 hg25)
     have hB42 := bg hB6 hg41 nb
     have hl37 : ∀ g, blk (some ⟨b30, 0, none⟩) = some g → w0.heap.size ≤ g := loo hbe34 hB42.size
     refine bindE h2 ?_; clear h2; intro l43 hx44 h2
     have hg51 := (grown_trans hg41 hg32)
     have hk52 := ho10.grown hg51 (fun _ h => h.elim) nb
     refine gv_append (iE .i64) (t := 38) (ty := 38) (e := 3) (a := a8) (ax := (some ⟨b30, 0, none⟩)) (cap := c9) (cx := 1) (xs := s4.1) (ys := ([r22.1] : List Int)) l43 (X := (fun _ => False)) (Y := (fun k => blk (some ⟨b30, 0, none⟩) = some k)) (by decide) rfl rfl (by kernel_rfl) (by kernel_rfl) Tryd.underlying38 info3 hk52 (ho36.rd (Y := fun k => blk (some ⟨b30, 0, none⟩) = some k) (fun _ h => h.elim) (fun g e => e)) hx44 (.inr fun _ _ _ _ _ h => h) (fun _ h => h.elim) ?_
     intro a45 c46 w47 hg48 ho49 hk50
     refine ⟨(fun e => by cases e), ?_⟩
     have hB54 := bg hB42 hg32 nb
     have hl53 : ∀ g, blk a45 = some g → w0.heap.size ≤ g := blk_step hk50 hl11 hB54.size
     have ap56 : ∀ g, blk a8 = some g → ¬ (· = w5.heap.size) g := fun g e hx => nl ((lowe (Nat.le_refl w5.heap.size)) _ hx) ((fun k (hk : blk a8 = some k) => ho10.lt k hk) g e)
     have hg57 := (grown_trans hg25 hg32)
     have hx58 := ltx hx20 hg57.size
     have ap55 : ∀ g, blk a45 = some g → ¬ (· = w5.heap.size) g := blk_neX hk50 ap56 hx58
     have hk60 := ho10.grown hg41 (fun _ h => h.elim) nb
     have ap61 : ∀ g, blk a8 = some g → ¬ (fun k => blk (some ⟨b30, 0, none⟩) = some k) g := fun g e hx => nl ((lowo hbe34) _ hx) ((fun k (hk : blk a8 = some k) => hk60.lt k hk) g e)
     have ap59 : ∀ g, blk a45 = some g → ¬ (fun k => blk (some ⟨b30, 0, none⟩) = some k) g := blk_neX hk50 ap61 (fun k (hk : blk (some ⟨b30, 0, none⟩) = some k) => ho36.lt k hk)
     have ap63 : ∀ g, blk (some ⟨b30, 0, none⟩) = some g → ¬ (fun k => blk a8 = some k) g := fun g e hx => nl ((lowo hbe34) g e) ((fun k (hk : blk a8 = some k) => hk60.lt k hk) _ hx)
     have ap62 : ∀ g, blk (some ⟨b30, 0, none⟩) = some g → ¬ (fun k => blk a45 = some k) g := fun g e h => blk_rev hk50 (fun h => ((ap63) g e) h) (ho36.lt g e) h
     refine gv_pureN 1 [4] [(4, (.slice a45 (List.length l43) c46))] (by kernel_rfl) ?_
     refine gv_nil <| gv_region <| gv_pureN 4 [5, 25, 26, 27] [(5, (.int .i64 (IntKind.i64.wrap (s4.2 + r22.2))))] (by kernel_rfl) ?_
     refine gv_nil <| gv_blk ?_
     have e := sj h2; subst e
     refine gv_goal fun a hd hs hok => ?_
     have hB64 := bg hB54 hg48 hl11
     have hz65 := (nt (nt (nt (nt hz7 hg16.size) hg25.size) hg32.size) hg48.size)
     exact ⟨(l43, (IntKind.i64.wrap (s4.2 + r22.2))), rfl, a45, c46, hB64, hz65, ho49, hl53, hd, hs, ok_pick [0, 4, 5] hok (by kernel_rfl)⟩
   ·replace h2 := ite_f hc12 h2
    refine gv_cexit <| gv_exit rfl ?_
    have e := sj h2; subst e
    replace h1 := congrArg some (hR2 _ rfl)
    have e := sj h1; subst e
    refine gv_goal fun a hd hs hok => ?_
    have hz66 := hz7
    exact ⟨s4.1, rfl, a8, c9, hB6, hz66, ho10, hl11, hd, hs, ok_pick [4] hok (by kernel_rfl)⟩
 ·rintro a w3 ⟨s2, e, a69, c70, hB67, hz68, ho71, hl72, hd, hs, hok⟩
  subst e
  refine gv_in ?_ hd hs hok
  clear hd hs hok
  replace h0 := cont_inl h0
  refine gv_seq <| gv_region <| gv_pureN 3 [2, 3, 28] [(2, (.slice a69 (List.length s2) c70)), (3, (.bool true))] (by kernel_rfl) ?_
  refine gv_nil <| gv_cret ?_
  have e := sj h0; subst e
  refine gv_ret (gv_done [(.slice a69 (List.length s2) c70), (.bool true)] rfl ⟨(by kernel_rfl), (by kernel_rfl), trivial⟩ ?_)
  exact ⟨grown_of_below hB67, a69, c70, rfl, ho71, hl72⟩

theorem ref4_TextOk_ok (fuel : Nat) (s_0 : ByteArray) (w0 : World)  (r0 : Bool) (h0 : ref4_TextOk fuel s_0 = some r0) :
    Calls Tryd.prog 31 ([(.string s_0)] : List Value).toArray w0 (Ret fun v w' => w0.grownBy w' none ∧ v = tup [(.bool r0)]) := by
 have hB0 : Below w0.heap.size w0 w0 := Below.refl _ _
 unfold ref4_TextOk at h0
 refine calls_run Tryd.func31 rfl Tryd.ntmps31 (by kernel_rfl) ?_
 refine gv_sub [0] (σ' := [(0, (.string s_0))]) (by kernel_rfl) ?_
 refine gv_seq <| gv_region <| gv_pureN 1 [2] [] (by kernel_rfl) ?_
 refine gv_nil <| gv_seq <| gv_region <| gv_pureN 1 [6] [(6, (.string s_0))] (by kernel_rfl) ?_
 refine bindE h0 ?_; clear h0; intro r1 hr2 h0
 refine gv_call0 (by kernel_rfl) rfl (by kernel_rfl) enters24 (ref4_Points_ok fuel s_0 w0  r1 hr2) ?_
 rintro v5 w3 ⟨hg4, a6, c7, rfl, ho8, hl9⟩
 have hl10 : ∀ g, blk a6 = some g → w0.heap.size ≤ g := fun g e => Nat.le_trans hB0.size (hl9 g e)
 refine gv_pureN 5 [3, 4, 5, 8, 9] [(4, (.bool r1.2))] (by kernel_rfl) ?_
 refine gv_nil <| gv_seq <| gv_region <| gv_cut_ops (J := fun a w11 => w3 = w11 ∧ a.defers = [] ∧ a.tmps.size = 16 ∧ Ok [(2, (.bool (r1.2 && (decide (((ByteArray.size s_0 : Nat) : Int) ≤ 4000)))))] a.tmps) ?_ ?_
 ·skip
  refine gv_pureN 2 [10, 11] [(11, (.bool r1.2))] (by kernel_rfl) ?_
  refine gv_split (s := 11) (g := r1.2) (by kernel_rfl) (fun hc12 => ?_) (fun hc12 => ?_)
  ·skip
   refine gv_pureN 5 [2, 12, 13, 14, 15] [(2, (.bool (decide (((ByteArray.size s_0 : Nat) : Int) ≤ 4000))))] (by kernel_rfl) ?_
   refine gv_nil <| gv_sub [2] (σ' := [(2, (.bool (decide (((ByteArray.size s_0 : Nat) : Int) ≤ 4000))))]) (by kernel_rfl) ?_
   refine gv_goal fun a hd hs hok => ⟨rfl, hd, hs, ?_⟩
   obtain ⟨q2, _⟩ := hok
   exact ⟨(by rw [hc12]; exact q2), trivial⟩
  ·skip
   refine gv_pureN 5 [2, 12, 13, 14, 15] [(2, (.bool false))] (by kernel_rfl) ?_
   refine gv_nil <| gv_sub [2] (σ' := [(2, (.bool false))]) (by kernel_rfl) ?_
   refine gv_goal fun a hd hs hok => ⟨rfl, hd, hs, ?_⟩
   obtain ⟨q2, _⟩ := hok
   exact ⟨(by rw [hc12]; exact q2), trivial⟩
 ·rintro a w11 ⟨e, hd, hs, hok⟩; subst e
  refine gv_in ?_ hd hs hok
  clear hd hs hok
  refine gv_cret ?_
  have e := sj h0; subst e
  refine gv_ret (gv_done [(.bool (r1.2 && (decide (((ByteArray.size s_0 : Nat) : Int) ≤ 4000))))] rfl ⟨(by kernel_rfl), trivial⟩ ?_)
  have hB13 := bg hB0 hg4 nb
  exact ⟨grown_of_below hB13, rfl⟩

theorem ref4_At_ok (fuel : Nat) (code_0 : Int) (index_1 : Int) (w0 : World)  (r0 : (Int × Int)) (h0 : ref4_At fuel code_0 index_1 = some r0) :
    Calls Tryd.prog 29 ([(.int .i64 code_0), (.int .i64 index_1)] : List Value).toArray w0 (Ret fun v w' => w0.grownBy w' none ∧ v = tup [(.agg #[(.int .i64 r0.1), (.int .i64 r0.2)])]) := by
 have hB0 : Below w0.heap.size w0 w0 := Below.refl _ _
 unfold ref4_At at h0
 refine calls_run Tryd.func29 rfl Tryd.ntmps29 (by kernel_rfl) ?_
 refine gv_sub [0, 1] (σ' := [(0, (.int .i64 code_0)), (1, (.int .i64 index_1))]) (by kernel_rfl) ?_
 refine gv_seq <| gv_region <| gv_new0 (fun b => .pointer (some ⟨b, 0, none⟩)) #[(.int .i64 0), (.int .i64 0)] 24 (by kernel_rfl) (by kernel_rfl) ?_
 intro b1 w2 hg3 hb4 hbe5 hz6
 refine gv_nil <| gv_seq <| gv_region <| gv_pureN 3 [5, 6, 7] [(7, (.agg #[(.int .i64 code_0), (.int .i64 index_1)]))] (by kernel_rfl) ?_
 refine gv_store0 24 0 (.agg #[(.int .i64 code_0), (.int .i64 index_1)]) #[(.int .i64 code_0), (.int .i64 index_1)] hb4 (by kernel_rfl) (by kernel_rfl) (by kernel_rfl) ?_
 intro w7 hg8 hb9 hz10
 refine gv_nil <| gv_cret ?_
 have e := sj h0; subst e
 refine gv_ret (gv_done [(.agg #[(.int .i64 code_0), (.int .i64 index_1)])] rfl ⟨⟨⟨b1, 0, none⟩, (by kernel_rfl), run_loadVar_row w7 b1 _ 24 _ _ _ hb9 Tryd.underlying24 rfl (by kernel_rfl)⟩, trivial⟩ ?_)
 have hB11 := bg hB0 hg3 nb
 have hlo12 : w0.heap.size ≤ b1 := lob hbe5 hB0.size
 have hB13 := bg hB11 hg8 (rowlo hlo12)
 exact ⟨grown_of_below hB13, rfl⟩

theorem ref4_TextFaults_ok (fuel : Nat) (pa0_0 : Option Addr) (pc0_0 : Nat) (l_0 : (List ByteArray)) (w0 : World) (X0 : Nat → Prop) (hX0 : ∀ k, X0 k → k < w0.heap.size) (hpa0_0 : Rd sE w0 X0 pa0_0 pc0_0 l_0) (r0 : (Int × Int)) (h0 : ref4_TextFaults fuel l_0 = some r0) :
    Calls Tryd.prog 23 ([(.slice pa0_0 (List.length l_0) pc0_0)] : List Value).toArray w0 (Ret fun v w' => w0.grownBy w' none ∧ v = tup [(.agg #[(.int .i64 r0.1), (.int .i64 r0.2)])]) := by
 have hB0 : Below w0.heap.size w0 w0 := Below.refl _ _
 unfold ref4_TextFaults at h0
 refine calls_run Tryd.func23 rfl Tryd.ntmps23 (by kernel_rfl) ?_
 refine gv_sub [0] (σ' := [(0, (.slice pa0_0 (List.length l_0) pc0_0))]) (by kernel_rfl) ?_
 refine gv_seq <| gv_region <| gv_new0 (fun b => .pointer (some ⟨b, 0, none⟩)) #[(.int .i64 0), (.int .i64 0)] 24 (by kernel_rfl) (by kernel_rfl) ?_
 intro b1 w2 hg3 hb4 hbe5 hz6
 refine gv_nil <| gv_seq <| gv_seq <| gv_region <| gv_pureN 1 [3] [(3, (.int .i64 0))] (by kernel_rfl) ?_
 refine gv_nil <| bindE h0 ?_; clear h0; intro j7 h1 h0
 refine gv_cut_code (J := fun a w9 => ∃ s8 : (Int × Int), j7 = .inl s8 ∧ Below w0.heap.size w0 w9 ∧ w2.heap.size ≤ w9.heap.size ∧ Box w9 b1 24 #[(.int .i64 s8.1), (.int .i64 s8.2)] ∧ a.defers = [] ∧ a.tmps.size = 20 ∧ Ok [(2, (bp b1))] a.tmps) ?_ ?_
 ·skip
  refine gv_block <| gv_loop (A := fun (s10 : (Int × (Int × Int))) a w11 => Below w0.heap.size w0 w11 ∧ w2.heap.size ≤ w11.heap.size ∧ Box w11 b1 24 #[(.int .i64 s10.2.1), (.int .i64 s10.2.2)] ∧ a.defers = [] ∧ a.tmps.size = 20 ∧ Ok [(0, (.slice pa0_0 (List.length l_0) pc0_0)), (2, (bp b1)), (3, (.int .i64 s10.1))] a.tmps) h1 ?_ ?_
  ·intro a hd hs hok
   have hB12 := bg hB0 hg3 nb
   exact ⟨hB12, (Nat.le_refl _), hb4, hd, hs, ok_pick [0, 2, 3] hok (by kernel_rfl)⟩
  ·rintro s10 r2 h2 hR2 a w11 ⟨hB13, hz14, hb15, hd, hs, hok⟩
   refine gv_in ?_ hd hs hok
   clear hd hs hok
   refine gv_seq <| gv_seq <| gv_region <| gv_pureN 4 [4, 5, 6, 7] [(7, (.bool (decide (s10.1 < ((List.length l_0 : Nat) : Int)))))] (by kernel_rfl) ?_
   refine gv_nil <| gv_cond (b := (decide (s10.1 < ((List.length l_0 : Nat) : Int)))) (by kernel_rfl) (fun hc16 => ?_) (fun hc16 => ?_)
   ·replace h2 := ite_t hc16 h2
    refine gv_skip <| gv_seq <| gv_block <| gv_seq <| gv_region <| gv_pureN 2 [10, 11] [(10, (.slice pa0_0 (List.length l_0) pc0_0)), (11, (.int .i64 s10.1))] (by kernel_rfl) ?_
    refine bindE h2 ?_; clear h2; intro x17 hx18 h2
    refine gv_idxaddr (t := 22) (e := 9) (a := pa0_0) (len := List.length l_0) (cap := pc0_0) (kk := .i64) (i := s10.1) (sz := 1) [] (fun e => by cases e) rfl rfl rfl (by kernel_rfl) (by kernel_rfl) Tryd.underlying22 (by kernel_rfl) ((hpa0_0.below hB13 hX0).has hx18) (idx_spec hx18).1 (idx_spec hx18).2.1 rfl ?_
    refine gv_load (t := 9) (A := (elemAddr pa0_0 ((s10.1 : Int).toNat * 1))) (.string x17) [] (fun e => by cases e) rfl rfl rfl (by kernel_rfl) (by kernel_rfl) (by kernel_rfl) (inw0 ((hpa0_0.below hB13 hX0).cell hx18)) rfl ?_
    refine bindE h2 ?_; clear h2; intro r19 hr20 h2
    refine gv_call0 (by kernel_rfl) rfl (by kernel_rfl) enters31 (ref4_TextOk_ok fuel x17 w11  r19 hr20) ?_
    rintro v23 w21 ⟨hg22, rfl⟩
    refine gv_pureN 1 [15] [(15, (.bool (!r19)))] (by kernel_rfl) ?_
    refine gv_nil <| gv_cond (b := (!r19)) (by kernel_rfl) (fun hc24 => ?_) (fun hc24 => ?_)
    ·replace h2 := ite_t hc24 h2
     refine gv_seq <| gv_region <| gv_pureN 2 [16, 17] [(17, (.int .i64 (IntKind.i64.wrap ((-1) - s10.1))))] (by kernel_rfl) ?_
     refine bindE h2 ?_; clear h2; intro r25 hr26 h2
     refine gv_call0 (by kernel_rfl) rfl (by kernel_rfl) enters29 (ref4_At_ok fuel 6 (IntKind.i64.wrap ((-1) - s10.1)) w21  r25 hr26) ?_
     rintro v29 w27 ⟨hg28, rfl⟩
     have hg34 := (grown_trans hg22 hg28)
     have hk35 := hb15.grown hg34 nb
     refine gv_store0 24 0 (.agg #[(.int .i64 r25.1), (.int .i64 r25.2)]) #[(.int .i64 r25.1), (.int .i64 r25.2)] hk35 (by kernel_rfl) (by kernel_rfl) (by kernel_rfl) ?_
     intro w30 hg31 hb32 hz33
     refine gv_nil <| gv_cret ?_
     have e := sj h2; subst e
     replace h1 := congrArg some (hR2 _ rfl)
     have e := sj h1; subst e
     replace h0 := cont_inr h0
     have e := sj h0; subst e
     refine gv_ret (gv_done [(.agg #[(.int .i64 r25.1), (.int .i64 r25.2)])] rfl ⟨⟨⟨b1, 0, none⟩, (by kernel_rfl), run_loadVar_row w30 b1 _ 24 _ _ _ hb32 Tryd.underlying24 rfl (by kernel_rfl)⟩, trivial⟩ ?_)
     have hB36 := bg hB13 hg34 nb
     have hlo37 : w0.heap.size ≤ b1 := lob hbe5 hB0.size
     have hB38 := bg hB36 hg31 (rowlo hlo37)
     exact ⟨grown_of_below hB38, rfl⟩
    ·replace h2 := ite_f hc24 h2
     refine gv_skip <| gv_blk <| gv_region <| gv_pureN 3 [3, 8, 9] [(3, (.int .i64 (IntKind.i64.wrap (s10.1 + 1))))] (by kernel_rfl) ?_
     refine gv_nil ?_
     have e := sj h2; subst e
     refine gv_goal fun a hd hs hok => ?_
     have hB39 := bg hB13 hg22 nb
     have hz40 := (nt hz14 hg22.size)
     have hk41 := hb15.grown hg22 nb
     exact ⟨((IntKind.i64.wrap (s10.1 + 1)), (s10.2.1, s10.2.2)), rfl, hB39, hz40, hk41, hd, hs, ok_pick [0, 2, 3] hok (by kernel_rfl)⟩
   ·replace h2 := ite_f hc16 h2
    refine gv_cexit <| gv_exit rfl ?_
    have e := sj h2; subst e
    replace h1 := congrArg some (hR2 _ rfl)
    have e := sj h1; subst e
    refine gv_goal fun a hd hs hok => ?_
    have hz42 := hz14
    exact ⟨(s10.2.1, s10.2.2), rfl, hB13, hz42, hb15, hd, hs, ok_pick [2] hok (by kernel_rfl)⟩
 ·rintro a w9 ⟨s8, e, hB43, hz44, hb45, hd, hs, hok⟩
  subst e
  refine gv_in ?_ hd hs hok
  clear hd hs hok
  replace h0 := cont_inl h0
  clear hz44 hz6 hb4 hg3
  refine gv_seq <| gv_region <| gv_pureN 1 [19] [(19, (.agg #[(.int .i64 0), (.int .i64 0)]))] (by kernel_rfl) ?_
  refine gv_store0 24 0 (.agg #[(.int .i64 0), (.int .i64 0)]) #[(.int .i64 0), (.int .i64 0)] hb45 (by kernel_rfl) (by kernel_rfl) (by kernel_rfl) ?_
  intro w46 hg47 hb48 hz49
  refine gv_nil <| gv_cret ?_
  have e := sj h0; subst e
  refine gv_ret (gv_done [(.agg #[(.int .i64 0), (.int .i64 0)])] rfl ⟨⟨⟨b1, 0, none⟩, (by kernel_rfl), run_loadVar_row w46 b1 _ 24 _ _ _ hb48 Tryd.underlying24 rfl (by kernel_rfl)⟩, trivial⟩ ?_)
  have hlo50 : w0.heap.size ≤ b1 := lob hbe5 hB0.size
  have hB51 := bg hB43 hg47 (rowlo hlo50)
  exact ⟨grown_of_below hB51, rfl⟩

theorem ref4_Blank_ok (fuel : Nat) (c_0 : Int) (w0 : World)  (r0 : Bool) (h0 : ref4_Blank fuel c_0 = some r0) :
    Calls Tryd.prog 54 ([(.int .i64 c_0)] : List Value).toArray w0 (Ret fun v w' => w0.grownBy w' none ∧ v = tup [(.bool r0)]) := by
 have hB0 : Below w0.heap.size w0 w0 := Below.refl _ _
 unfold ref4_Blank at h0
 refine calls_run Tryd.func54 rfl Tryd.ntmps54 (by kernel_rfl) ?_
 refine gv_sub [0] (σ' := [(0, (.int .i64 c_0))]) (by kernel_rfl) ?_
 refine gv_seq <| gv_region <| gv_pureN 1 [2] [] (by kernel_rfl) ?_
 refine gv_nil <| gv_seq <| gv_region <| gv_cut_ops (J := fun a w1 => w0 = w1 ∧ a.defers = [] ∧ a.tmps.size = 13 ∧ Ok [(2, (.bool ((c_0 == 32) || ((c_0 == 9) || (c_0 == 10)))))] a.tmps) ?_ ?_
 ·skip
  refine gv_pureN 3 [3, 4, 5] [(5, (.bool (c_0 == 32)))] (by kernel_rfl) ?_
  refine gv_split (s := 5) (g := (c_0 == 32)) (by kernel_rfl) (fun hc2 => ?_) (fun hc2 => ?_)
  ·skip
   refine gv_pureN 8 [2, 6, 7, 8, 9, 10, 11, 12] [(2, (.bool true))] (by kernel_rfl) ?_
   refine gv_nil <| gv_sub [2] (σ' := [(2, (.bool true))]) (by kernel_rfl) ?_
   refine gv_goal fun a hd hs hok => ⟨rfl, hd, hs, ?_⟩
   obtain ⟨q2, _⟩ := hok
   exact ⟨(by rw [hc2]; exact q2), trivial⟩
  ·skip
   refine gv_pureN 4 [6, 7, 8, 9] [(9, (.bool (c_0 == 9)))] (by kernel_rfl) ?_
   refine gv_split (s := 9) (g := (c_0 == 9)) (by kernel_rfl) (fun hc3 => ?_) (fun hc3 => ?_)
   ·skip
    refine gv_pureN 4 [2, 10, 11, 12] [(2, (.bool true))] (by kernel_rfl) ?_
    refine gv_nil <| gv_sub [2] (σ' := [(2, (.bool true))]) (by kernel_rfl) ?_
    refine gv_goal fun a hd hs hok => ⟨rfl, hd, hs, ?_⟩
    obtain ⟨q2, _⟩ := hok
    exact ⟨(by rw [hc2, hc3]; exact q2), trivial⟩
   ·skip
    refine gv_pureN 4 [2, 10, 11, 12] [(2, (.bool (c_0 == 10)))] (by kernel_rfl) ?_
    refine gv_nil <| gv_sub [2] (σ' := [(2, (.bool (c_0 == 10)))]) (by kernel_rfl) ?_
    refine gv_goal fun a hd hs hok => ⟨rfl, hd, hs, ?_⟩
    obtain ⟨q2, _⟩ := hok
    exact ⟨(by rw [hc2, hc3]; exact q2), trivial⟩
 ·rintro a w1 ⟨e, hd, hs, hok⟩; subst e
  refine gv_in ?_ hd hs hok
  clear hd hs hok
  refine gv_cret ?_
  have e := sj h0; subst e
  refine gv_ret (gv_done [(.bool ((c_0 == 32) || ((c_0 == 9) || (c_0 == 10))))] rfl ⟨(by kernel_rfl), trivial⟩ ?_)
  exact ⟨grown_of_below hB0, rfl⟩

theorem ref4_Encoded_ok (fuel : Nat) (pa0_0 : Option Addr) (pc0_0 : Nat) (l_0 : (List Int)) (w0 : World) (X0 : Nat → Prop) (hX0 : ∀ k, X0 k → k < w0.heap.size) (hpa0_0 : Rd (iE .i64) w0 X0 pa0_0 pc0_0 l_0) (r0 : (List UInt8)) (h0 : ref4_Encoded fuel l_0 = some r0) :
    Calls Tryd.prog 68 ([(.slice pa0_0 (List.length l_0) pc0_0)] : List Value).toArray w0 (Ret fun v w' => w0.grownBy w' none ∧ ∃ (a0_0r : Option Addr) (c0_0r : Nat), v = tup [(.slice a0_0r (List.length r0) c0_0r)] ∧ Gv.Own bE 5 w' (fun _ => False) a0_0r c0_0r r0 ∧ (∀ g, blk a0_0r = some g → w0.heap.size ≤ g)) := by
 have hB0 : Below w0.heap.size w0 w0 := Below.refl _ _
 unfold ref4_Encoded at h0
 refine calls_run Tryd.func68 rfl Tryd.ntmps68 (by kernel_rfl) ?_
 refine gv_sub [0] (σ' := [(0, (.slice pa0_0 (List.length l_0) pc0_0))]) (by kernel_rfl) ?_
 refine gv_seq <| gv_region <| gv_pureN 1 [2] [] (by kernel_rfl) ?_
 refine gv_nil <| gv_seq <| gv_region <| gv_pureN 1 [3] [(3, (.slice none (List.length ([] : List UInt8)) 0))] (by kernel_rfl) ?_
 refine gv_nil <| gv_seq <| gv_seq <| gv_region <| gv_pureN 1 [4] [(4, (.int .i64 0))] (by kernel_rfl) ?_
 refine gv_nil <| bindE h0 ?_; clear h0; intro j1 h1 h0
 refine gv_cut_code (J := fun a w2 => ∃ (a3_0j : Option Addr) (c3_0j : Nat), Below w0.heap.size w0 w2 ∧ w0.heap.size ≤ w2.heap.size ∧ Gv.Own bE 5 w2 (fun _ => False) a3_0j c3_0j j1 ∧ (∀ g, blk a3_0j = some g → w0.heap.size ≤ g) ∧ a.defers = [] ∧ a.tmps.size = 79 ∧ Ok [(3, (.slice a3_0j (List.length j1) c3_0j))] a.tmps) ?_ ?_
 ·skip
  refine gv_block <| gv_loop (A := fun (s3 : ((List UInt8) × Int)) a w4 => ∃ (a3_0j : Option Addr) (c3_0j : Nat), Below w0.heap.size w0 w4 ∧ w0.heap.size ≤ w4.heap.size ∧ Gv.Own bE 5 w4 (fun _ => False) a3_0j c3_0j s3.1 ∧ (∀ g, blk a3_0j = some g → w0.heap.size ≤ g) ∧ a.defers = [] ∧ a.tmps.size = 79 ∧ Ok [(0, (.slice pa0_0 (List.length l_0) pc0_0)), (3, (.slice a3_0j (List.length s3.1) c3_0j)), (4, (.int .i64 s3.2))] a.tmps) h1 ?_ ?_
  ·intro a hd hs hok
   exact ⟨none, 0, hB0, (Nat.le_refl _), (Gv.Own.nil bE 5 w0 (fun _ => False)), (fun _ h => by cases h), hd, hs, ok_pick [0, 3, 4] hok (by kernel_rfl)⟩
  ·rintro s3 r2 h2 hR2 a w4 ⟨a7, c8, hB5, hz6, ho9, hl10, hd, hs, hok⟩
   refine gv_in ?_ hd hs hok
   clear hd hs hok
   refine gv_seq <| gv_seq <| gv_region <| gv_pureN 4 [6, 7, 8, 9] [(9, (.bool (decide (s3.2 < ((List.length l_0 : Nat) : Int)))))] (by kernel_rfl) ?_
   refine gv_nil <| gv_cond (b := (decide (s3.2 < ((List.length l_0 : Nat) : Int)))) (by kernel_rfl) (fun hc11 => ?_) (fun hc11 => ?_)
   ·replace h2 := ite_t hc11 h2
    refine gv_skip <| gv_seq <| gv_block <| gv_seq <| gv_region <| gv_pureN 2 [12, 13] [(12, (.slice pa0_0 (List.length l_0) pc0_0)), (13, (.int .i64 s3.2))] (by kernel_rfl) ?_
    refine bindE h2 ?_; clear h2; intro x12 hx13 h2
    refine gv_idxaddr (t := 38) (e := 3) (a := pa0_0) (len := List.length l_0) (cap := pc0_0) (kk := .i64) (i := s3.2) (sz := 1) [] (fun e => by cases e) rfl rfl rfl (by kernel_rfl) (by kernel_rfl) Tryd.underlying38 (by kernel_rfl) ((hpa0_0.below hB5 hX0).has hx13) (idx_spec hx13).1 (idx_spec hx13).2.1 rfl ?_
    refine gv_load (t := 3) (A := (elemAddr pa0_0 ((s3.2 : Int).toNat * 1))) (.int .i64 x12) [] (fun e => by cases e) rfl rfl rfl (by kernel_rfl) (by kernel_rfl) (by kernel_rfl) (inw0 ((hpa0_0.below hB5 hX0).cell hx13)) rfl ?_
    refine gv_pureN 1 [5] [(5, (.int .i64 x12))] (by kernel_rfl) ?_
    refine gv_nil <| gv_block <| gv_seq <| gv_region <| gv_pureN 3 [37, 38, 39] [(37, (.bool (decide (x12 < 128))))] (by kernel_rfl) ?_
    refine gv_nil <| bindE h2 ?_; clear h2; intro j14 h3 h2
    refine gv_cut_code (J := fun a w15 => ∃ (a3_0j : Option Addr) (c3_0j : Nat), Below w0.heap.size w0 w15 ∧ w4.heap.size ≤ w15.heap.size ∧ Gv.Own bE 5 w15 (fun _ => False) a3_0j c3_0j j14 ∧ (∀ g, blk a3_0j = some g → w0.heap.size ≤ g) ∧ a.defers = [] ∧ a.tmps.size = 79 ∧ Ok [(0, (.slice pa0_0 (List.length l_0) pc0_0)), (3, (.slice a3_0j (List.length j14) c3_0j)), (4, (.int .i64 s3.2))] a.tmps) ?_ ?_
    ·skip
     refine gv_cond (b := (decide (x12 < 128))) (by kernel_rfl) (fun hc16 => ?_) (fun hc16 => ?_)
     ·replace h3 := ite_t hc16 h3
      refine gv_region <| gv_pureN 3 [40, 41, 42] [(40, (.slice a7 (List.length s3.1) c8)), (42, (.int .u8 (IntKind.u8.wrap (x12))))] (by kernel_rfl) ?_
      refine bindE h3 ?_; clear h3; intro b17 hb18 h3
      have hu19 := u8_spec hb18
      refine gv_new0 (fun b => .slice (some ⟨b, 0, none⟩) 1 1) #[(.int .u8 (IntKind.u8.wrap (x12)))] 5 (by kernel_rfl) (by kernel_rfl) ?_
      intro b20 w21 hg22 hb23 hbe24 hz25
      have ho26 : Gv.Own bE 5 w21 (fun _ => False) (some ⟨b20, 0, none⟩) 1 ([b17] : List UInt8) := Box.ownE hb23 ⟨[(.int .u8 (IntKind.u8.wrap (x12)))], [], rfl, (by simp only [bE, flat, hu19]), rfl⟩ (show 1 ≤ maxLen by decide) (fun h => h)
      have hl27 : ∀ g, blk (some ⟨b20, 0, none⟩) = some g → w0.heap.size ≤ g := loo hbe24 hB5.size
      refine bindE h3 ?_; clear h3; intro l31 hx32 h3
      have hk39 := ho9.grown hg22 (fun _ h => h.elim) nb
      refine gv_append bE (t := 82) (ty := 82) (e := 5) (a := a7) (ax := (some ⟨b20, 0, none⟩)) (cap := c8) (cx := 1) (xs := s3.1) (ys := ([b17] : List UInt8)) l31 (X := (fun _ => False)) (Y := (fun k => blk (some ⟨b20, 0, none⟩) = some k)) (by decide) rfl rfl (by kernel_rfl) (by kernel_rfl) Tryd.underlying82 info5 hk39 (ho26.rd (Y := fun k => blk (some ⟨b20, 0, none⟩) = some k) (fun _ h => h.elim) (fun g e => e)) hx32 (.inr fun _ _ _ _ _ h => h) (fun _ h => h.elim) ?_
      intro a33 c34 w35 hg36 ho37 hk38
      refine ⟨(fun e => by cases e), ?_⟩
      have hB41 := bg hB5 hg22 nb
      have hl40 : ∀ g, blk a33 = some g → w0.heap.size ≤ g := blk_step hk38 hl10 hB41.size
      have ap43 : ∀ g, blk a7 = some g → ¬ (fun k => blk (some ⟨b20, 0, none⟩) = some k) g := fun g e hx => nl ((lowo hbe24) _ hx) ((fun k (hk : blk a7 = some k) => ho9.lt k hk) g e)
      have ap42 : ∀ g, blk a33 = some g → ¬ (fun k => blk (some ⟨b20, 0, none⟩) = some k) g := blk_neX hk38 ap43 (fun k (hk : blk (some ⟨b20, 0, none⟩) = some k) => ho26.lt k hk)
      have ap45 : ∀ g, blk (some ⟨b20, 0, none⟩) = some g → ¬ (fun k => blk a7 = some k) g := fun g e hx => nl ((lowo hbe24) g e) ((fun k (hk : blk a7 = some k) => ho9.lt k hk) _ hx)
      have ap44 : ∀ g, blk (some ⟨b20, 0, none⟩) = some g → ¬ (fun k => blk a33 = some k) g := fun g e h => blk_rev hk38 (fun h => ((ap45) g e) h) (ho26.lt g e) h
      refine gv_pureN 1 [3] [(3, (.slice a33 (List.length l31) c34))] (by kernel_rfl) ?_
      refine gv_nil ?_
      have e := sj h3; subst e
      refine gv_goal fun a hd hs hok => ?_
      have hB46 := bg hB41 hg36 hl10
      have hz47 := (nt hg22.size hg36.size)
      exact ⟨a33, c34, hB46, hz47, ho37, hl40, hd, hs, ok_pick [0, 3, 4] hok (by kernel_rfl)⟩
     ·replace h3 := ite_f hc16 h3
      refine gv_seq <| gv_region <| gv_pureN 3 [45, 46, 47] [(45, (.bool (decide (x12 < 2048))))] (by kernel_rfl) ?_
      refine gv_nil <| gv_cond (b := (decide (x12 < 2048))) (by kernel_rfl) (fun hc48 => ?_) (fun hc48 => ?_)
      ·replace h3 := ite_t hc48 h3
       refine gv_region <| gv_pureN 9 [48, 49, 50, 51, 52, 53, 54, 55, 56] [(48, (.slice a7 (List.length s3.1) c8)), (52, (.int .u8 (IntKind.u8.wrap ((IntKind.i64.wrap (192 + (IntKind.i64.wrap ((x12).tdiv 64)))))))), (56, (.int .u8 (IntKind.u8.wrap ((IntKind.i64.wrap (128 + ((x12).tmod 64)))))))] (by kernel_rfl) ?_
       refine bindE h3 ?_; clear h3; intro b49 hb50 h3
       have hu51 := u8_spec hb50
       refine bindE h3 ?_; clear h3; intro b52 hb53 h3
       have hu54 := u8_spec hb53
       refine gv_new0 (fun b => .slice (some ⟨b, 0, none⟩) 2 2) #[(.int .u8 (IntKind.u8.wrap ((IntKind.i64.wrap (192 + (IntKind.i64.wrap ((x12).tdiv 64))))))), (.int .u8 (IntKind.u8.wrap ((IntKind.i64.wrap (128 + ((x12).tmod 64))))))] 5 (by kernel_rfl) (by kernel_rfl) ?_
       intro b55 w56 hg57 hb58 hbe59 hz60
       have ho61 : Gv.Own bE 5 w56 (fun _ => False) (some ⟨b55, 0, none⟩) 2 ([b49, b52] : List UInt8) := Box.ownE hb58 ⟨[(.int .u8 (IntKind.u8.wrap ((IntKind.i64.wrap (192 + (IntKind.i64.wrap ((x12).tdiv 64)))))))], [(.int .u8 (IntKind.u8.wrap ((IntKind.i64.wrap (128 + ((x12).tmod 64))))))], rfl, (by simp only [bE, flat, hu51]), ⟨[(.int .u8 (IntKind.u8.wrap ((IntKind.i64.wrap (128 + ((x12).tmod 64))))))], [], rfl, (by simp only [bE, flat, hu54]), rfl⟩⟩ (show 2 ≤ maxLen by decide) (fun h => h)
       have hl62 : ∀ g, blk (some ⟨b55, 0, none⟩) = some g → w0.heap.size ≤ g := loo hbe59 hB5.size
       refine bindE h3 ?_; clear h3; intro l66 hx67 h3
       have hk74 := ho9.grown hg57 (fun _ h => h.elim) nb
       refine gv_append bE (t := 82) (ty := 82) (e := 5) (a := a7) (ax := (some ⟨b55, 0, none⟩)) (cap := c8) (cx := 2) (xs := s3.1) (ys := ([b49, b52] : List UInt8)) l66 (X := (fun _ => False)) (Y := (fun k => blk (some ⟨b55, 0, none⟩) = some k)) (by decide) rfl rfl (by kernel_rfl) (by kernel_rfl) Tryd.underlying82 info5 hk74 (ho61.rd (Y := fun k => blk (some ⟨b55, 0, none⟩) = some k) (fun _ h => h.elim) (fun g e => e)) hx67 (.inr fun _ _ _ _ _ h => h) (fun _ h => h.elim) ?_
       intro a68 c69 w70 hg71 ho72 hk73
       refine ⟨(fun e => by cases e), ?_⟩
       have hB76 := bg hB5 hg57 nb
       have hl75 : ∀ g, blk a68 = some g → w0.heap.size ≤ g := blk_step hk73 hl10 hB76.size
       have ap78 : ∀ g, blk a7 = some g → ¬ (fun k => blk (some ⟨b55, 0, none⟩) = some k) g := fun g e hx => nl ((lowo hbe59) _ hx) ((fun k (hk : blk a7 = some k) => ho9.lt k hk) g e)
       have ap77 : ∀ g, blk a68 = some g → ¬ (fun k => blk (some ⟨b55, 0, none⟩) = some k) g := blk_neX hk73 ap78 (fun k (hk : blk (some ⟨b55, 0, none⟩) = some k) => ho61.lt k hk)
       have ap80 : ∀ g, blk (some ⟨b55, 0, none⟩) = some g → ¬ (fun k => blk a7 = some k) g := fun g e hx => nl ((lowo hbe59) g e) ((fun k (hk : blk a7 = some k) => ho9.lt k hk) _ hx)
       have ap79 : ∀ g, blk (some ⟨b55, 0, none⟩) = some g → ¬ (fun k => blk a68 = some k) g := fun g e h => blk_rev hk73 (fun h => ((ap80) g e) h) (ho61.lt g e) h
       refine gv_pureN 1 [3] [(3, (.slice a68 (List.length l66) c69))] (by kernel_rfl) ?_
       refine gv_nil ?_
       have e := sj h3; subst e
       refine gv_goal fun a hd hs hok => ?_
       have hB81 := bg hB76 hg71 hl10
       have hz82 := (nt hg57.size hg71.size)
       exact ⟨a68, c69, hB81, hz82, ho72, hl75, hd, hs, ok_pick [0, 3, 4] hok (by kernel_rfl)⟩
      ·replace h3 := ite_f hc48 h3
       refine gv_seq <| gv_region <| gv_pureN 3 [59, 60, 61] [(59, (.bool (decide (x12 < 65536))))] (by kernel_rfl) ?_
       refine gv_nil <| gv_cond (b := (decide (x12 < 65536))) (by kernel_rfl) (fun hc83 => ?_) (fun hc83 => ?_)
       ·replace h3 := ite_t hc83 h3
        refine gv_region <| gv_pureN 14 [62, 63, 64, 65, 66, 67, 68, 69, 70, 71, 72, 73, 74, 75] [(62, (.slice a7 (List.length s3.1) c8)), (66, (.int .u8 (IntKind.u8.wrap ((IntKind.i64.wrap (224 + (IntKind.i64.wrap ((x12).tdiv 4096)))))))), (71, (.int .u8 (IntKind.u8.wrap ((IntKind.i64.wrap (128 + (((IntKind.i64.wrap ((x12).tdiv 64))).tmod 64))))))), (75, (.int .u8 (IntKind.u8.wrap ((IntKind.i64.wrap (128 + ((x12).tmod 64)))))))] (by kernel_rfl) ?_
        refine bindE h3 ?_; clear h3; intro b84 hb85 h3
        have hu86 := u8_spec hb85
        refine bindE h3 ?_; clear h3; intro b87 hb88 h3
        have hu89 := u8_spec hb88
        refine bindE h3 ?_; clear h3; intro b90 hb91 h3
        have hu92 := u8_spec hb91
        refine gv_new0 (fun b => .slice (some ⟨b, 0, none⟩) 3 3) #[(.int .u8 (IntKind.u8.wrap ((IntKind.i64.wrap (224 + (IntKind.i64.wrap ((x12).tdiv 4096))))))), (.int .u8 (IntKind.u8.wrap ((IntKind.i64.wrap (128 + (((IntKind.i64.wrap ((x12).tdiv 64))).tmod 64)))))), (.int .u8 (IntKind.u8.wrap ((IntKind.i64.wrap (128 + ((x12).tmod 64))))))] 5 (by kernel_rfl) (by kernel_rfl) ?_
        intro b93 w94 hg95 hb96 hbe97 hz98
        have ho99 : Gv.Own bE 5 w94 (fun _ => False) (some ⟨b93, 0, none⟩) 3 ([b84, b87, b90] : List UInt8) := Box.ownE hb96 ⟨[(.int .u8 (IntKind.u8.wrap ((IntKind.i64.wrap (224 + (IntKind.i64.wrap ((x12).tdiv 4096)))))))], [(.int .u8 (IntKind.u8.wrap ((IntKind.i64.wrap (128 + (((IntKind.i64.wrap ((x12).tdiv 64))).tmod 64)))))), (.int .u8 (IntKind.u8.wrap ((IntKind.i64.wrap (128 + ((x12).tmod 64))))))], rfl, (by simp only [bE, flat, hu86]), ⟨[(.int .u8 (IntKind.u8.wrap ((IntKind.i64.wrap (128 + (((IntKind.i64.wrap ((x12).tdiv 64))).tmod 64))))))], [(.int .u8 (IntKind.u8.wrap ((IntKind.i64.wrap (128 + ((x12).tmod 64))))))], rfl, (by simp only [bE, flat, hu89]), ⟨[(.int .u8 (IntKind.u8.wrap ((IntKind.i64.wrap (128 + ((x12).tmod 64))))))], [], rfl, (by simp only [bE, flat, hu92]), rfl⟩⟩⟩ (show 3 ≤ maxLen by decide) (fun h => h)
        have hl100 : ∀ g, blk (some ⟨b93, 0, none⟩) = some g → w0.heap.size ≤ g := loo hbe97 hB5.size
        refine bindE h3 ?_; clear h3; intro l104 hx105 h3
        have hk112 := ho9.grown hg95 (fun _ h => h.elim) nb
        refine gv_append bE (t := 82) (ty := 82) (e := 5) (a := a7) (ax := (some ⟨b93, 0, none⟩)) (cap := c8) (cx := 3) (xs := s3.1) (ys := ([b84, b87, b90] : List UInt8)) l104 (X := (fun _ => False)) (Y := (fun k => blk (some ⟨b93, 0, none⟩) = some k)) (by decide) rfl rfl (by kernel_rfl) (by kernel_rfl) Tryd.underlying82 info5 hk112 (ho99.rd (Y := fun k => blk (some ⟨b93, 0, none⟩) = some k) (fun _ h => h.elim) (fun g e => e)) hx105 (.inr fun _ _ _ _ _ h => h) (fun _ h => h.elim) ?_
        intro a106 c107 w108 hg109 ho110 hk111
        refine ⟨(fun e => by cases e), ?_⟩
        have hB114 := bg hB5 hg95 nb
        have hl113 : ∀ g, blk a106 = some g → w0.heap.size ≤ g := blk_step hk111 hl10 hB114.size
        have ap116 : ∀ g, blk a7 = some g → ¬ (fun k => blk (some ⟨b93, 0, none⟩) = some k) g := fun g e hx => nl ((lowo hbe97) _ hx) ((fun k (hk : blk a7 = some k) => ho9.lt k hk) g e)
        have ap115 : ∀ g, blk a106 = some g → ¬ (fun k => blk (some ⟨b93, 0, none⟩) = some k) g := blk_neX hk111 ap116 (fun k (hk : blk (some ⟨b93, 0, none⟩) = some k) => ho99.lt k hk)
        have ap118 : ∀ g, blk (some ⟨b93, 0, none⟩) = some g → ¬ (fun k => blk a7 = some k) g := fun g e hx => nl ((lowo hbe97) g e) ((fun k (hk : blk a7 = some k) => ho9.lt k hk) _ hx)
        have ap117 : ∀ g, blk (some ⟨b93, 0, none⟩) = some g → ¬ (fun k => blk a106 = some k) g := fun g e h => blk_rev hk111 (fun h => ((ap118) g e) h) (ho99.lt g e) h
        refine gv_pureN 1 [3] [(3, (.slice a106 (List.length l104) c107))] (by kernel_rfl) ?_
        refine gv_nil ?_
        have e := sj h3; subst e
        refine gv_goal fun a hd hs hok => ?_
        have hB119 := bg hB114 hg109 hl10
        have hz120 := (nt hg95.size hg109.size)
        exact ⟨a106, c107, hB119, hz120, ho110, hl113, hd, hs, ok_pick [0, 3, 4] hok (by kernel_rfl)⟩
       ·replace h3 := ite_f hc83 h3
        refine gv_region <| gv_pureN 19 [16, 17, 18, 19, 20, 21, 22, 23, 24, 25, 26, 27, 28, 29, 30, 31, 32, 33, 34] [(16, (.slice a7 (List.length s3.1) c8)), (20, (.int .u8 (IntKind.u8.wrap ((IntKind.i64.wrap (240 + (IntKind.i64.wrap ((x12).tdiv 262144)))))))), (25, (.int .u8 (IntKind.u8.wrap ((IntKind.i64.wrap (128 + (((IntKind.i64.wrap ((x12).tdiv 4096))).tmod 64))))))), (30, (.int .u8 (IntKind.u8.wrap ((IntKind.i64.wrap (128 + (((IntKind.i64.wrap ((x12).tdiv 64))).tmod 64))))))), (34, (.int .u8 (IntKind.u8.wrap ((IntKind.i64.wrap (128 + ((x12).tmod 64)))))))] (by kernel_rfl) ?_
        refine bindE h3 ?_; clear h3; intro b121 hb122 h3
        have hu123 := u8_spec hb122
        refine bindE h3 ?_; clear h3; intro b124 hb125 h3
        have hu126 := u8_spec hb125
        refine bindE h3 ?_; clear h3; intro b127 hb128 h3
        have hu129 := u8_spec hb128
        refine bindE h3 ?_; clear h3; intro b130 hb131 h3
        have hu132 := u8_spec hb131
        refine gv_new0 (fun b => .slice (some ⟨b, 0, none⟩) 4 4) #[(.int .u8 (IntKind.u8.wrap ((IntKind.i64.wrap (240 + (IntKind.i64.wrap ((x12).tdiv 262144))))))), (.int .u8 (IntKind.u8.wrap ((IntKind.i64.wrap (128 + (((IntKind.i64.wrap ((x12).tdiv 4096))).tmod 64)))))), (.int .u8 (IntKind.u8.wrap ((IntKind.i64.wrap (128 + (((IntKind.i64.wrap ((x12).tdiv 64))).tmod 64)))))), (.int .u8 (IntKind.u8.wrap ((IntKind.i64.wrap (128 + ((x12).tmod 64))))))] 5 (by kernel_rfl) (by kernel_rfl) ?_
        intro b133 w134 hg135 hb136 hbe137 hz138
        have ho139 : Gv.Own bE 5 w134 (fun _ => False) (some ⟨b133, 0, none⟩) 4 ([b121, b124, b127, b130] : List UInt8) := Box.ownE hb136 ⟨[(.int .u8 (IntKind.u8.wrap ((IntKind.i64.wrap (240 + (IntKind.i64.wrap ((x12).tdiv 262144)))))))], [(.int .u8 (IntKind.u8.wrap ((IntKind.i64.wrap (128 + (((IntKind.i64.wrap ((x12).tdiv 4096))).tmod 64)))))), (.int .u8 (IntKind.u8.wrap ((IntKind.i64.wrap (128 + (((IntKind.i64.wrap ((x12).tdiv 64))).tmod 64)))))), (.int .u8 (IntKind.u8.wrap ((IntKind.i64.wrap (128 + ((x12).tmod 64))))))], rfl, (by simp only [bE, flat, hu123]), ⟨[(.int .u8 (IntKind.u8.wrap ((IntKind.i64.wrap (128 + (((IntKind.i64.wrap ((x12).tdiv 4096))).tmod 64))))))], [(.int .u8 (IntKind.u8.wrap ((IntKind.i64.wrap (128 + (((IntKind.i64.wrap ((x12).tdiv 64))).tmod 64)))))), (.int .u8 (IntKind.u8.wrap ((IntKind.i64.wrap (128 + ((x12).tmod 64))))))], rfl, (by simp only [bE, flat, hu126]), ⟨[(.int .u8 (IntKind.u8.wrap ((IntKind.i64.wrap (128 + (((IntKind.i64.wrap ((x12).tdiv 64))).tmod 64))))))], [(.int .u8 (IntKind.u8.wrap ((IntKind.i64.wrap (128 + ((x12).tmod 64))))))], rfl, (by simp only [bE, flat, hu129]), ⟨[(.int .u8 (IntKind.u8.wrap ((IntKind.i64.wrap (128 + ((x12).tmod 64))))))], [], rfl, (by simp only [bE, flat, hu132]), rfl⟩⟩⟩⟩ (show 4 ≤ maxLen by decide) (fun h => h)
        have hl140 : ∀ g, blk (some ⟨b133, 0, none⟩) = some g → w0.heap.size ≤ g := loo hbe137 hB5.size
        refine bindE h3 ?_; clear h3; intro l144 hx145 h3
        have hk152 := ho9.grown hg135 (fun _ h => h.elim) nb
        refine gv_append bE (t := 82) (ty := 82) (e := 5) (a := a7) (ax := (some ⟨b133, 0, none⟩)) (cap := c8) (cx := 4) (xs := s3.1) (ys := ([b121, b124, b127, b130] : List UInt8)) l144 (X := (fun _ => False)) (Y := (fun k => blk (some ⟨b133, 0, none⟩) = some k)) (by decide) rfl rfl (by kernel_rfl) (by kernel_rfl) Tryd.underlying82 info5 hk152 (ho139.rd (Y := fun k => blk (some ⟨b133, 0, none⟩) = some k) (fun _ h => h.elim) (fun g e => e)) hx145 (.inr fun _ _ _ _ _ h => h) (fun _ h => h.elim) ?_
        intro a146 c147 w148 hg149 ho150 hk151
        refine ⟨(fun e => by cases e), ?_⟩
        have hB154 := bg hB5 hg135 nb
        have hl153 : ∀ g, blk a146 = some g → w0.heap.size ≤ g := blk_step hk151 hl10 hB154.size
        have ap156 : ∀ g, blk a7 = some g → ¬ (fun k => blk (some ⟨b133, 0, none⟩) = some k) g := fun g e hx => nl ((lowo hbe137) _ hx) ((fun k (hk : blk a7 = some k) => ho9.lt k hk) g e)
        have ap155 : ∀ g, blk a146 = some g → ¬ (fun k => blk (some ⟨b133, 0, none⟩) = some k) g := blk_neX hk151 ap156 (fun k (hk : blk (some ⟨b133, 0, none⟩) = some k) => ho139.lt k hk)
        have ap158 : ∀ g, blk (some ⟨b133, 0, none⟩) = some g → ¬ (fun k => blk a7 = some k) g := fun g e hx => nl ((lowo hbe137) g e) ((fun k (hk : blk a7 = some k) => ho9.lt k hk) _ hx)
        have ap157 : ∀ g, blk (some ⟨b133, 0, none⟩) = some g → ¬ (fun k => blk a146 = some k) g := fun g e h => blk_rev hk151 (fun h => ((ap158) g e) h) (ho139.lt g e) h
        have hz159 := (nt hg135.size hg149.size)
        clear ap157 ap158 ap155 ap156 hk151 hk152 hx145 hl140 ho139 hz138 hbe137 hb136 hg135 hu132 hb131 hu129 hb128 hu126 hb125 hu123 hb122 hc83 hc48 hc16 hx13 hc11 ho9 hB5
        refine gv_pureN 1 [3] [(3, (.slice a146 (List.length l144) c147))] (by kernel_rfl) ?_
        refine gv_nil ?_
        have e := sj h3; subst e
        refine gv_goal fun a hd hs hok => ?_
        have hB160 := bg hB154 hg149 hl10
        have hz161 := hz159
        exact ⟨a146, c147, hB160, hz161, ho150, hl153, hd, hs, ok_pick [0, 3, 4] hok (by kernel_rfl)⟩
    ·rintro a w15 ⟨a164, c165, hB162, hz163, ho166, hl167, hd, hs, hok⟩
     refine gv_in ?_ hd hs hok
     clear hd hs hok
     have hz168 := (nt hz6 hz163)
     clear hz163 hx13 hc11 hl10 ho9 hz6 hB5
     refine gv_blk <| gv_blk <| gv_region <| gv_pureN 3 [4, 10, 11] [(4, (.int .i64 (IntKind.i64.wrap (s3.2 + 1))))] (by kernel_rfl) ?_
     refine gv_nil ?_
     have e := sj h2; subst e
     refine gv_goal fun a hd hs hok => ?_
     have hz169 := hz168
     exact ⟨(j14, (IntKind.i64.wrap (s3.2 + 1))), rfl, a164, c165, hB162, hz169, ho166, hl167, hd, hs, ok_pick [0, 3, 4] hok (by kernel_rfl)⟩
   ·replace h2 := ite_f hc11 h2
    refine gv_cexit <| gv_exit rfl ?_
    have e := sj h2; subst e
    replace h1 := congrArg some (hR2 _ rfl)
    have e := sj h1; subst e
    refine gv_goal fun a hd hs hok => ?_
    have hz170 := hz6
    exact ⟨a7, c8, hB5, hz170, ho9, hl10, hd, hs, ok_pick [3] hok (by kernel_rfl)⟩
 ·rintro a w2 ⟨a173, c174, hB171, hz172, ho175, hl176, hd, hs, hok⟩
  refine gv_in ?_ hd hs hok
  clear hd hs hok
  refine gv_seq <| gv_region <| gv_pureN 2 [2, 78] [(2, (.slice a173 (List.length j1) c174))] (by kernel_rfl) ?_
  refine gv_nil <| gv_cret ?_
  have e := sj h0; subst e
  refine gv_ret (gv_done [(.slice a173 (List.length j1) c174)] rfl ⟨(by kernel_rfl), trivial⟩ ?_)
  exact ⟨grown_of_below hB171, a173, c174, rfl, ho175, hl176⟩

theorem ref4_String_ok (fuel : Nat) (pa0_0 : Option Addr) (pc0_0 : Nat) (l_0 : (List Int)) (w0 : World) (X0 : Nat → Prop) (hX0 : ∀ k, X0 k → k < w0.heap.size) (hpa0_0 : Rd (iE .i64) w0 X0 pa0_0 pc0_0 l_0) (r0 : ByteArray) (h0 : ref4_String fuel l_0 = some r0) :
    Calls Tryd.prog 26 ([(.slice pa0_0 (List.length l_0) pc0_0)] : List Value).toArray w0 (Ret fun v w' => w0.grownBy w' none ∧ v = tup [(.string r0)]) := by
 have hB0 : Below w0.heap.size w0 w0 := Below.refl _ _
 unfold ref4_String at h0
 refine calls_run Tryd.func26 rfl Tryd.ntmps26 (by kernel_rfl) ?_
 refine gv_sub [0] (σ' := [(0, (.slice pa0_0 (List.length l_0) pc0_0))]) (by kernel_rfl) ?_
 refine gv_seq <| gv_region <| gv_pureN 1 [2] [] (by kernel_rfl) ?_
 refine gv_nil <| gv_seq <| gv_region <| gv_pureN 1 [3] [(3, (.slice pa0_0 (List.length l_0) pc0_0))] (by kernel_rfl) ?_
 refine bindE h0 ?_; clear h0; intro r1 hr2 h0
 refine gv_call0 (by kernel_rfl) rfl (by kernel_rfl) enters68 (ref4_Encoded_ok fuel pa0_0 pc0_0 l_0 w0 (fun k => X0 k) (fun k hk => (fun k (hk : X0 k) => ltl (hX0 k hk) hB0.size) k hk) ((hpa0_0.below hB0 hX0).wide (fun k hk => hk)) r1 hr2) ?_
 rintro v5 w3 ⟨hg4, a6, c7, rfl, ho8, hl9⟩
 have hl10 : ∀ g, blk a6 = some g → w0.heap.size ≤ g := fun g e => Nat.le_trans hB0.size (hl9 g e)
 refine gv_b2s (src := 82) (dst := 9) (e := 5) (xs := r1) (a := a6) (cap := c7) (X := (fun k => blk a6 = some k)) [] (fun e => by cases e) rfl rfl rfl (by kernel_rfl) (by kernel_rfl) Tryd.underlying82 Tryd.underlying5 Tryd.underlying9 (inw0 (ho8.rd (Y := fun k => blk a6 = some k) (fun _ h => h.elim) (fun g e => e))) rfl ?_
 refine gv_pureN 1 [2] [(2, (.string (strOf r1)))] (by kernel_rfl) ?_
 refine gv_nil <| gv_cret ?_
 have e := sj h0; subst e
 refine gv_ret (gv_done [(.string (strOf r1))] rfl ⟨(by kernel_rfl), trivial⟩ ?_)
 have hB11 := bg hB0 hg4 nb
 exact ⟨grown_of_below hB11, rfl⟩

theorem ref4_WordsOf_ok (fuel : Nat) (pa0_0 : Option Addr) (pc0_0 : Nat) (l_0 : (List Int)) (w0 : World) (X0 : Nat → Prop) (hX0 : ∀ k, X0 k → k < w0.heap.size) (hpa0_0 : Rd (iE .i64) w0 X0 pa0_0 pc0_0 l_0) (r0 : (List ByteArray)) (h0 : ref4_WordsOf fuel l_0 = some r0) :
    Calls Tryd.prog 32 ([(.slice pa0_0 (List.length l_0) pc0_0)] : List Value).toArray w0 (Ret fun v w' => w0.grownBy w' none ∧ ∃ (a0_0r : Option Addr) (c0_0r : Nat), v = tup [(.slice a0_0r (List.length r0) c0_0r)] ∧ Gv.Own sE 9 w' (fun _ => False) a0_0r c0_0r r0 ∧ (∀ g, blk a0_0r = some g → w0.heap.size ≤ g)) := by
 have hB0 : Below w0.heap.size w0 w0 := Below.refl _ _
 unfold ref4_WordsOf at h0
 refine calls_run Tryd.func32 rfl Tryd.ntmps32 (by kernel_rfl) ?_
 refine gv_sub [0] (σ' := [(0, (.slice pa0_0 (List.length l_0) pc0_0))]) (by kernel_rfl) ?_
 refine gv_seq <| gv_region <| gv_pureN 1 [2] [] (by kernel_rfl) ?_
 refine gv_nil <| gv_seq <| gv_region <| gv_pureN 1 [3] [(3, (.slice none (List.length ([] : List ByteArray)) 0))] (by kernel_rfl) ?_
 refine gv_nil <| gv_seq <| gv_seq <| gv_region <| gv_pureN 1 [4] [(4, (.int .i64 0))] (by kernel_rfl) ?_
 refine gv_nil <| bindE h0 ?_; clear h0; intro j1 h1 h0
 refine gv_cut_code (J := fun a w2 => ∃ (a3_0j : Option Addr) (c3_0j : Nat), Below w0.heap.size w0 w2 ∧ w0.heap.size ≤ w2.heap.size ∧ Gv.Own sE 9 w2 (fun _ => False) a3_0j c3_0j j1 ∧ (∀ g, blk a3_0j = some g → w0.heap.size ≤ g) ∧ a.defers = [] ∧ a.tmps.size = 42 ∧ Ok [(3, (.slice a3_0j (List.length j1) c3_0j))] a.tmps) ?_ ?_
 ·skip
  refine gv_block <| gv_loop (A := fun (s3 : ((List ByteArray) × Int)) a w4 => ∃ (a3_0j : Option Addr) (c3_0j : Nat), Below w0.heap.size w0 w4 ∧ w0.heap.size ≤ w4.heap.size ∧ Gv.Own sE 9 w4 (fun _ => False) a3_0j c3_0j s3.1 ∧ (∀ g, blk a3_0j = some g → w0.heap.size ≤ g) ∧ a.defers = [] ∧ a.tmps.size = 42 ∧ Ok [(0, (.slice pa0_0 (List.length l_0) pc0_0)), (3, (.slice a3_0j (List.length s3.1) c3_0j)), (4, (.int .i64 s3.2))] a.tmps) h1 ?_ ?_
  ·intro a hd hs hok
   exact ⟨none, 0, hB0, (Nat.le_refl _), (Gv.Own.nil sE 9 w0 (fun _ => False)), (fun _ h => by cases h), hd, hs, ok_pick [0, 3, 4] hok (by kernel_rfl)⟩
  ·rintro s3 r2 h2 hR2 a w4 ⟨a7, c8, hB5, hz6, ho9, hl10, hd, hs, hok⟩
   refine gv_in ?_ hd hs hok
   clear hd hs hok
   refine gv_seq <| gv_seq <| gv_region <| gv_pureN 4 [6, 7, 8, 9] [(9, (.bool (decide (s3.2 < ((List.length l_0 : Nat) : Int)))))] (by kernel_rfl) ?_
   refine gv_nil <| gv_cond (b := (decide (s3.2 < ((List.length l_0 : Nat) : Int)))) (by kernel_rfl) (fun hc11 => ?_) (fun hc11 => ?_)
   ·replace h2 := ite_t hc11 h2
    refine gv_skip <| gv_seq <| bindE h2 ?_; clear h2; intro j12 h3 h2
    refine gv_cut_code (J := fun a w13 => ∃ (a3_0j : Option Addr) (c3_0j : Nat), Below w0.heap.size w0 w13 ∧ w4.heap.size ≤ w13.heap.size ∧ Gv.Own sE 9 w13 (fun _ => False) a3_0j c3_0j j12.1 ∧ (∀ g, blk a3_0j = some g → w0.heap.size ≤ g) ∧ a.defers = [] ∧ a.tmps.size = 42 ∧ Ok [(0, (.slice pa0_0 (List.length l_0) pc0_0)), (3, (.slice a3_0j (List.length j12.1) c3_0j)), (4, (.int .i64 j12.2))] a.tmps) ?_ ?_
    ·skip
     refine gv_block <| gv_seq <| gv_seq <| gv_region <| gv_pureN 2 [12, 13] [(12, (.slice pa0_0 (List.length l_0) pc0_0)), (13, (.int .i64 s3.2))] (by kernel_rfl) ?_
     refine bindE h3 ?_; clear h3; intro x14 hx15 h3
     refine gv_idxaddr (t := 38) (e := 3) (a := pa0_0) (len := List.length l_0) (cap := pc0_0) (kk := .i64) (i := s3.2) (sz := 1) [] (fun e => by cases e) rfl rfl rfl (by kernel_rfl) (by kernel_rfl) Tryd.underlying38 (by kernel_rfl) ((hpa0_0.below hB5 hX0).has hx15) (idx_spec hx15).1 (idx_spec hx15).2.1 rfl ?_
     refine gv_load (t := 3) (A := (elemAddr pa0_0 ((s3.2 : Int).toNat * 1))) (.int .i64 x14) [] (fun e => by cases e) rfl rfl rfl (by kernel_rfl) (by kernel_rfl) (by kernel_rfl) (inw0 ((hpa0_0.below hB5 hX0).cell hx15)) rfl ?_
     refine bindE h3 ?_; clear h3; intro r16 hr17 h3
     refine gv_call0 (by kernel_rfl) rfl (by kernel_rfl) enters54 (ref4_Blank_ok fuel x14 w4  r16 hr17) ?_
     rintro v20 w18 ⟨hg19, rfl⟩
     refine gv_nil <| gv_cond (b := r16) (by kernel_rfl) (fun hc21 => ?_) (fun hc21 => ?_)
     ·replace h3 := ite_t hc21 h3
      refine gv_cexit <| gv_exit rfl ?_
      have e := sj h3; subst e
      refine gv_goal fun a hd hs hok => ?_
      have hB22 := bg hB5 hg19 nb
      have hz23 := hg19.size
      have hk24 := ho9.grown hg19 (fun _ h => h.elim) nb
      exact ⟨a7, c8, hB22, hz23, hk24, hl10, hd, hs, ok_pick [0, 3, 4] hok (by kernel_rfl)⟩
     ·replace h3 := ite_f hc21 h3
      refine gv_skip <| gv_seq <| gv_region <| gv_pureN 2 [5, 17] [(5, (.int .i64 s3.2))] (by kernel_rfl) ?_
      refine gv_nil <| gv_seq <| bindE h3 ?_; clear h3; intro j25 h4 h3
      refine gv_cut_code (J := fun a w26 => Below w0.heap.size w0 w26 ∧ w18.heap.size ≤ w26.heap.size ∧ Gv.Own sE 9 w26 (fun _ => False) a7 c8 s3.1 ∧ a.defers = [] ∧ a.tmps.size = 42 ∧ Ok [(0, (.slice pa0_0 (List.length l_0) pc0_0)), (3, (.slice a7 (List.length s3.1) c8)), (4, (.int .i64 s3.2)), (5, (.int .i64 j25))] a.tmps) ?_ ?_
      ·skip
       refine gv_block <| gv_loop (A := fun (s27 : Int) a w28 => Below w0.heap.size w0 w28 ∧ w18.heap.size ≤ w28.heap.size ∧ Gv.Own sE 9 w28 (fun _ => False) a7 c8 s3.1 ∧ a.defers = [] ∧ a.tmps.size = 42 ∧ Ok [(0, (.slice pa0_0 (List.length l_0) pc0_0)), (3, (.slice a7 (List.length s3.1) c8)), (4, (.int .i64 s3.2)), (5, (.int .i64 s27))] a.tmps) h4 ?_ ?_
       ·intro a hd hs hok
        have hB29 := bg hB5 hg19 nb
        have hk30 := ho9.grown hg19 (fun _ h => h.elim) nb
        exact ⟨hB29, (Nat.le_refl _), hk30, hd, hs, ok_pick [0, 3, 4, 5] hok (by kernel_rfl)⟩
       ·rintro s27 r5 h5 hR5 a w28 ⟨hB31, hz32, hk33, hd, hs, hok⟩
        refine gv_in ?_ hd hs hok
        clear hd hs hok
        clear hc21 hr17 hx15 hc11 ho9 hB5
        refine gv_seq <| gv_seq <| gv_region <| bindE h5 ?_; clear h5; intro j34 h6 h5
        refine gv_cut_ops (J := fun a w35 => Below w0.heap.size w0 w35 ∧ w28.heap.size ≤ w35.heap.size ∧ Gv.Own sE 9 w35 (fun _ => False) a7 c8 s3.1 ∧ a.defers = [] ∧ a.tmps.size = 42 ∧ Ok [(0, (.slice pa0_0 (List.length l_0) pc0_0)), (3, (.slice a7 (List.length s3.1) c8)), (4, (.int .i64 s3.2)), (5, (.int .i64 s27)), (29, (.bool j34))] a.tmps) ?_ ?_
        ·skip
         refine gv_pureN 5 [18, 19, 20, 21, 22] [(22, (.bool (decide (s27 < ((List.length l_0 : Nat) : Int)))))] (by kernel_rfl) ?_
         refine gv_split (s := 22) (g := (decide (s27 < ((List.length l_0 : Nat) : Int)))) (by kernel_rfl) (fun hc36 => ?_) (fun hc36 => ?_)
         ·skip
          replace h6 := ite_t hc36 h6
          refine gv_pureN 2 [23, 24] [(23, (.slice pa0_0 (List.length l_0) pc0_0)), (24, (.int .i64 s27))] (by kernel_rfl) ?_
          refine bindE h6 ?_; clear h6; intro x37 hx38 h6
          refine gv_idxaddr (t := 38) (e := 3) (a := pa0_0) (len := List.length l_0) (cap := pc0_0) (kk := .i64) (i := s27) (sz := 1) [] (fun e => by cases e) rfl rfl rfl (by kernel_rfl) (by kernel_rfl) Tryd.underlying38 (by kernel_rfl) ((hpa0_0.below hB31 hX0).has hx38) (idx_spec hx38).1 (idx_spec hx38).2.1 rfl ?_
          refine gv_load (t := 3) (A := (elemAddr pa0_0 ((s27 : Int).toNat * 1))) (.int .i64 x37) [] (fun e => by cases e) rfl rfl rfl (by kernel_rfl) (by kernel_rfl) (by kernel_rfl) (inw0 ((hpa0_0.below hB31 hX0).cell hx38)) rfl ?_
          refine bindE h6 ?_; clear h6; intro r39 hr40 h6
          refine gv_call0 (by kernel_rfl) rfl (by kernel_rfl) enters54 (ref4_Blank_ok fuel x37 w28  r39 hr40) ?_
          rintro v43 w41 ⟨hg42, rfl⟩
          refine gv_pureN 2 [28, 29] [(29, (.bool (!r39)))] (by kernel_rfl) ?_
          refine gv_nil ?_
          have e := sj h6; subst e
          refine gv_goal fun a hd hs hok => ?_
          have hB44 := bg hB31 hg42 nb
          have hz45 := hg42.size
          have hk46 := hk33.grown hg42 (fun _ h => h.elim) nb
          exact ⟨hB44, hz45, hk46, hd, hs, ok_pick [0, 3, 4, 5, 29] hok (by kernel_rfl)⟩
         ·skip
          replace h6 := ite_f hc36 h6
          refine gv_pureN 7 [23, 24, 25, 26, 27, 28, 29] [(29, (.bool false))] (by kernel_rfl) ?_
          refine gv_nil ?_
          have e := sj h6; subst e
          refine gv_goal fun a hd hs hok => ?_
          exact ⟨hB31, (Nat.le_refl _), hk33, hd, hs, ok_pick [0, 3, 4, 5, 29] hok (by kernel_rfl)⟩
        ·rintro a w35 ⟨hB47, hz48, hk49, hd, hs, hok⟩
         refine gv_in ?_ hd hs hok
         clear hd hs hok
         have hz50 := (nt hz32 hz48)
         clear hz48 hk33 hz32 hB31
         refine gv_cond (b := j34) (by kernel_rfl) (fun hc51 => ?_) (fun hc51 => ?_)
         ·replace h5 := ite_t hc51 h5
          refine gv_skip <| gv_block <| gv_region <| gv_pureN 3 [5, 30, 31] [(5, (.int .i64 (IntKind.i64.wrap (s27 + 1))))] (by kernel_rfl) ?_
          refine gv_nil <| gv_blk ?_
          have e := sj h5; subst e
          refine gv_goal fun a hd hs hok => ?_
          have hz52 := hz50
          exact ⟨(IntKind.i64.wrap (s27 + 1)), rfl, hB47, hz52, hk49, hd, hs, ok_pick [0, 3, 4, 5] hok (by kernel_rfl)⟩
         ·replace h5 := ite_f hc51 h5
          refine gv_cexit <| gv_exit rfl ?_
          have e := sj h5; subst e
          replace h4 := congrArg some (hR5 _ rfl)
          have e := sj h4; subst e
          refine gv_goal fun a hd hs hok => ?_
          have hz53 := hz50
          exact ⟨hB47, hz53, hk49, hd, hs, ok_pick [0, 3, 4, 5] hok (by kernel_rfl)⟩
      ·rintro a w26 ⟨hB54, hz55, hk56, hd, hs, hok⟩
       refine gv_in ?_ hd hs hok
       clear hd hs hok
       have hz57 := (nt hg19.size hz55)
       clear hz55 hc21 hg19 hr17 hx15 hc11 ho9 hB5
       refine gv_seq <| gv_region <| gv_pureN 4 [32, 33, 34, 35] [(32, (.slice a7 (List.length s3.1) c8)), (33, (.slice pa0_0 (List.length l_0) pc0_0)), (34, (.int .i64 s3.2)), (35, (.int .i64 j25))] (by kernel_rfl) ?_
       refine bindE h3 ?_; clear h3; intro x58 hx59 h3
       refine gv_ssl2 (iE .i64) (t := 38) (e := 3) (xs := l_0) (a := pa0_0) (cap := pc0_0) (lo := (some (.int .i64 s3.2))) (hi := (some (.int .i64 j25))) s3.2 j25 x58 (fun e => by cases e) rfl rfl rfl (by kernel_rfl) (by kernel_rfl) Tryd.underlying38 (by kernel_rfl) (.inr ⟨_, rfl⟩) (.inr ⟨_, rfl⟩) hx59 (hpa0_0.below hB54 hX0).1 ?_
       intro a60 c61 hsub62
       have hp63 := hsub62 _ _ hpa0_0
       refine bindE h3 ?_; clear h3; intro r64 hr65 h3
       refine gv_call0 (by kernel_rfl) rfl (by kernel_rfl) enters26 (ref4_String_ok fuel a60 c61 x58 w26 (fun k => X0 k) (fun k hk => (fun k (hk : X0 k) => ltl (hX0 k hk) hB54.size) k hk) ((hp63.below hB54 hX0).wide (fun k hk => hk)) r64 hr65) ?_
       rintro v68 w66 ⟨hg67, rfl⟩
       refine gv_new0 (fun b => .slice (some ⟨b, 0, none⟩) 1 1) #[(.string r64)] 9 (by kernel_rfl) (by kernel_rfl) ?_
       intro b69 w70 hg71 hb72 hbe73 hz74
       have ho75 : Gv.Own sE 9 w70 (fun _ => False) (some ⟨b69, 0, none⟩) 1 ([r64] : List ByteArray) := Box.ownE hb72 ⟨[(.string r64)], [], rfl, rfl, rfl⟩ (show 1 ≤ maxLen by decide) (fun h => h)
       have hB80 := bg hB54 hg67 nb
       have hl76 : ∀ g, blk (some ⟨b69, 0, none⟩) = some g → w0.heap.size ≤ g := loo hbe73 hB80.size
       refine bindE h3 ?_; clear h3; intro l81 hx82 h3
       have hg89 := (grown_trans hg67 hg71)
       have hk90 := hk56.grown hg89 (fun _ h => h.elim) nb
       refine gv_append sE (t := 22) (ty := 22) (e := 9) (a := a7) (ax := (some ⟨b69, 0, none⟩)) (cap := c8) (cx := 1) (xs := s3.1) (ys := ([r64] : List ByteArray)) l81 (X := (fun _ => False)) (Y := (fun k => blk (some ⟨b69, 0, none⟩) = some k)) (by decide) rfl rfl (by kernel_rfl) (by kernel_rfl) Tryd.underlying22 info9 hk90 (ho75.rd (Y := fun k => blk (some ⟨b69, 0, none⟩) = some k) (fun _ h => h.elim) (fun g e => e)) hx82 (.inr fun _ _ _ _ _ h => h) (fun _ h => h.elim) ?_
       intro a83 c84 w85 hg86 ho87 hk88
       refine ⟨(fun e => by cases e), ?_⟩
       have hB92 := bg hB80 hg71 nb
       have hl91 : ∀ g, blk a83 = some g → w0.heap.size ≤ g := blk_step hk88 hl10 hB92.size
       have hk94 := hk56.grown hg67 (fun _ h => h.elim) nb
       have ap95 : ∀ g, blk a7 = some g → ¬ (fun k => blk (some ⟨b69, 0, none⟩) = some k) g := fun g e hx => nl ((lowo hbe73) _ hx) ((fun k (hk : blk a7 = some k) => hk94.lt k hk) g e)
       have ap93 : ∀ g, blk a83 = some g → ¬ (fun k => blk (some ⟨b69, 0, none⟩) = some k) g := blk_neX hk88 ap95 (fun k (hk : blk (some ⟨b69, 0, none⟩) = some k) => ho75.lt k hk)
       have ap97 : ∀ g, blk (some ⟨b69, 0, none⟩) = some g → ¬ (fun k => blk a7 = some k) g := fun g e hx => nl ((lowo hbe73) g e) ((fun k (hk : blk a7 = some k) => hk94.lt k hk) _ hx)
       have ap96 : ∀ g, blk (some ⟨b69, 0, none⟩) = some g → ¬ (fun k => blk a83 = some k) g := fun g e h => blk_rev hk88 (fun h => ((ap97) g e) h) (ho75.lt g e) h
       refine gv_pureN 1 [3] [(3, (.slice a83 (List.length l81) c84))] (by kernel_rfl) ?_
       refine gv_nil <| gv_region <| gv_pureN 2 [4, 40] [(4, (.int .i64 j25))] (by kernel_rfl) ?_
       refine gv_nil <| gv_blk ?_
       have e := sj h3; subst e
       refine gv_goal fun a hd hs hok => ?_
       have hB98 := bg hB92 hg86 hl10
       have hz99 := (nt (nt (nt hz57 hg67.size) hg71.size) hg86.size)
       exact ⟨a83, c84, hB98, hz99, ho87, hl91, hd, hs, ok_pick [0, 3, 4] hok (by kernel_rfl)⟩
    ·rintro a w13 ⟨a102, c103, hB100, hz101, ho104, hl105, hd, hs, hok⟩
     refine gv_in ?_ hd hs hok
     clear hd hs hok
     have hz106 := (nt hz6 hz101)
     clear hz101 hc11 hl10 ho9 hz6 hB5
     refine gv_region <| gv_pureN 3 [4, 10, 11] [(4, (.int .i64 (IntKind.i64.wrap (j12.2 + 1))))] (by kernel_rfl) ?_
     refine gv_nil ?_
     have e := sj h2; subst e
     refine gv_goal fun a hd hs hok => ?_
     have hz107 := hz106
     exact ⟨(j12.1, (IntKind.i64.wrap (j12.2 + 1))), rfl, a102, c103, hB100, hz107, ho104, hl105, hd, hs, ok_pick [0, 3, 4] hok (by kernel_rfl)⟩
   ·replace h2 := ite_f hc11 h2
    refine gv_cexit <| gv_exit rfl ?_
    have e := sj h2; subst e
    replace h1 := congrArg some (hR2 _ rfl)
    have e := sj h1; subst e
    refine gv_goal fun a hd hs hok => ?_
    have hz108 := hz6
    exact ⟨a7, c8, hB5, hz108, ho9, hl10, hd, hs, ok_pick [3] hok (by kernel_rfl)⟩
 ·rintro a w2 ⟨a111, c112, hB109, hz110, ho113, hl114, hd, hs, hok⟩
  refine gv_in ?_ hd hs hok
  clear hd hs hok
  refine gv_seq <| gv_region <| gv_pureN 2 [2, 41] [(2, (.slice a111 (List.length j1) c112))] (by kernel_rfl) ?_
  refine gv_nil <| gv_cret ?_
  have e := sj h0; subst e
  refine gv_ret (gv_done [(.slice a111 (List.length j1) c112)] rfl ⟨(by kernel_rfl), trivial⟩ ?_)
  exact ⟨grown_of_below hB109, a111, c112, rfl, ho113, hl114⟩

theorem law4_list_ok (fuel : Nat) (pa0_0 : Option Addr) (pc0_0 : Nat) (l_0 : (List ByteArray)) (f_1 : (Int × Int)) (pa2_0 : Option Addr) (pc2_0 : Nat) (want_2 : (List ByteArray)) (w_3 : (Int × Int)) (w0 : World) (X0 : Nat → Prop) (hX0 : ∀ k, X0 k → k < w0.heap.size) (hpa0_0 : Rd sE w0 X0 pa0_0 pc0_0 l_0) (hpa2_0 : Rd sE w0 X0 pa2_0 pc2_0 want_2) (r0 : Bool) (h0 : law4_list fuel l_0 f_1 want_2 w_3 = some r0) :
    Calls Tryd.prog 33 ([(.slice pa0_0 (List.length l_0) pc0_0), (.agg #[(.int .i64 f_1.1), (.int .i64 f_1.2)]), (.slice pa2_0 (List.length want_2) pc2_0), (.agg #[(.int .i64 w_3.1), (.int .i64 w_3.2)])] : List Value).toArray w0 (Ret fun v w' => w0.grownBy w' none ∧ v = tup [(.bool r0)]) := by
 have hB0 : Below w0.heap.size w0 w0 := Below.refl _ _
 unfold law4_list at h0
 refine calls_run Tryd.func33 rfl Tryd.ntmps33 (by kernel_rfl) ?_
 refine gv_sub [0, 1, 2, 3] (σ' := [(0, (.slice pa0_0 (List.length l_0) pc0_0)), (1, (.agg #[(.int .i64 f_1.1), (.int .i64 f_1.2)])), (2, (.slice pa2_0 (List.length want_2) pc2_0)), (3, (.agg #[(.int .i64 w_3.1), (.int .i64 w_3.2)]))]) (by kernel_rfl) ?_
 refine gv_seq <| gv_region <| gv_new0 (fun b => .pointer (some ⟨b, 0, none⟩)) #[(.int .i64 f_1.1), (.int .i64 f_1.2)] 24 (by kernel_rfl) (by kernel_rfl) ?_
 intro b1 w2 hg3 hb4 hbe5 hz6
 refine gv_new0 (fun b => .pointer (some ⟨b, 0, none⟩)) #[(.int .i64 w_3.1), (.int .i64 w_3.2)] 24 (by kernel_rfl) (by kernel_rfl) ?_
 intro b7 w8 hg9 hb10 hbe11 hz12
 refine gv_pureN 1 [8] [] (by kernel_rfl) ?_
 refine gv_nil <| gv_seq <| gv_seq <| gv_region <| bindE h0 ?_; clear h0; intro j13 h1 h0
 refine gv_cut_ops (J := fun a w14 => Below w0.heap.size w0 w14 ∧ w8.heap.size ≤ w14.heap.size ∧ Box w14 b1 24 #[(.int .i64 f_1.1), (.int .i64 f_1.2)] ∧ Box w14 b7 24 #[(.int .i64 w_3.1), (.int .i64 w_3.2)] ∧ a.defers = [] ∧ a.tmps.size = 37 ∧ Ok [(0, (.slice pa0_0 (List.length l_0) pc0_0)), (2, (.slice pa2_0 (List.length want_2) pc2_0)), (5, (bp b1)), (7, (bp b7)), (16, (.bool j13))] a.tmps) ?_ ?_
 ·skip
  refine gv_pureN 1 [9] [(9, (bp b7))] (by kernel_rfl) ?_
  refine gv_load (t := 3) (A := ⟨b7, 0, none⟩) (.int .i64 w_3.1) [] (fun e => by cases e) rfl rfl rfl (by kernel_rfl) (by kernel_rfl) (by kernel_rfl) (inw0 (hb10.cell 0 rfl)) rfl ?_
  refine gv_pureN 2 [11, 12] [(12, (.bool (w_3.1 == 0)))] (by kernel_rfl) ?_
  refine gv_split (s := 12) (g := (w_3.1 == 0)) (by kernel_rfl) (fun hc15 => ?_) (fun hc15 => ?_)
  ·skip
   replace h1 := ite_t hc15 h1
   refine gv_pureN 4 [13, 14, 15, 16] [(16, (.bool (decide (((List.length want_2 : Nat) : Int) > 1000))))] (by kernel_rfl) ?_
   refine gv_nil ?_
   have e := sj h1; subst e
   refine gv_goal fun a hd hs hok => ?_
   have hg16 := (grown_trans hg3 hg9)
   have hB17 := bg hB0 hg16 nb
   have hk18 := hb4.grown hg9 nb
   exact ⟨hB17, (Nat.le_refl _), hk18, hb10, hd, hs, ok_pick [0, 2, 5, 7, 16] hok (by kernel_rfl)⟩
  ·skip
   replace h1 := ite_f hc15 h1
   refine gv_pureN 4 [13, 14, 15, 16] [(16, (.bool false))] (by kernel_rfl) ?_
   refine gv_nil ?_
   have e := sj h1; subst e
   refine gv_goal fun a hd hs hok => ?_
   have hg19 := (grown_trans hg3 hg9)
   have hB20 := bg hB0 hg19 nb
   have hk21 := hb4.grown hg9 nb
   exact ⟨hB20, (Nat.le_refl _), hk21, hb10, hd, hs, ok_pick [0, 2, 5, 7, 16] hok (by kernel_rfl)⟩
 ·rintro a w14 ⟨hB22, hz23, hb24, hb25, hd, hs, hok⟩
  refine gv_in ?_ hd hs hok
  clear hd hs hok
  clear hz23 hz12 hb10 hg9 hz6
  refine bindE h0 ?_; clear h0; intro j26 h1 h0
  refine gv_cut_code (J := fun a w27 => Below w0.heap.size w0 w27 ∧ w14.heap.size ≤ w27.heap.size ∧ Box w27 b1 24 #[(.int .i64 f_1.1), (.int .i64 f_1.2)] ∧ Box w27 b7 24 #[(.int .i64 j26.1), (.int .i64 j26.2)] ∧ a.defers = [] ∧ a.tmps.size = 37 ∧ Ok [(0, (.slice pa0_0 (List.length l_0) pc0_0)), (2, (.slice pa2_0 (List.length want_2) pc2_0)), (5, (bp b1)), (7, (bp b7))] a.tmps) ?_ ?_
  ·skip
   refine gv_cond (b := j13) (by kernel_rfl) (fun hc28 => ?_) (fun hc28 => ?_)
   ·replace h1 := ite_t hc28 h1
    refine gv_region <| bindE h1 ?_; clear h1; intro r29 hr30 h1
    refine gv_call0 (by kernel_rfl) rfl (by kernel_rfl) enters29 (ref4_At_ok fuel 2 (-1) w14  r29 hr30) ?_
    rintro v33 w31 ⟨hg32, rfl⟩
    have hk38 := hb25.grown hg32 nb
    refine gv_store0 24 0 (.agg #[(.int .i64 r29.1), (.int .i64 r29.2)]) #[(.int .i64 r29.1), (.int .i64 r29.2)] hk38 (by kernel_rfl) (by kernel_rfl) (by kernel_rfl) ?_
    intro w34 hg35 hb36 hz37
    refine gv_nil ?_
    have e := sj h1; subst e
    refine gv_goal fun a hd hs hok => ?_
    have hB39 := bg hB22 hg32 nb
    have hB40 := bg hB0 hg3 nb
    have hlo41 : w0.heap.size ≤ b7 := lob hbe11 hB40.size
    have hB42 := bg hB39 hg35 (rowlo hlo41)
    have hz43 := (nt hg32.size hg35.size)
    have lt44 := ltl ((ltb hb4) _ rfl) ((lowb hbe11) _ rfl)
    have hk45 := (hb24.grown hg32 nb).grown hg35 (rowne (ng lt44))
    exact ⟨hB42, hz43, hk45, hb36, hd, hs, ok_pick [0, 2, 5, 7] hok (by kernel_rfl)⟩
   ·replace h1 := ite_f hc28 h1
    refine gv_skip ?_
    have e := sj h1; subst e
    refine gv_goal fun a hd hs hok => ?_
    exact ⟨hB22, (Nat.le_refl _), hb24, hb25, hd, hs, ok_pick [0, 2, 5, 7] hok (by kernel_rfl)⟩
  ·rintro a w27 ⟨hB46, hz47, hb48, hb49, hd, hs, hok⟩
   refine gv_in ?_ hd hs hok
   clear hd hs hok
   clear hz47 hb25 hb24 hB22
   refine gv_seq <| gv_seq <| gv_region <| gv_pureN 1 [18] [(18, (bp b7))] (by kernel_rfl) ?_
   refine gv_load (t := 3) (A := ⟨b7, 0, none⟩) (.int .i64 j26.1) [] (fun e => by cases e) rfl rfl rfl (by kernel_rfl) (by kernel_rfl) (by kernel_rfl) (inw0 (hb49.cell 0 rfl)) rfl ?_
   refine gv_pureN 1 [20] [(20, (.bool (j26.1 != 0)))] (by kernel_rfl) ?_
   refine gv_nil <| gv_cond (b := (j26.1 != 0)) (by kernel_rfl) (fun hc50 => ?_) (fun hc50 => ?_)
   ·replace h0 := ite_t hc50 h0
    refine gv_seq <| gv_region <| bindE h0 ?_; clear h0; intro j51 h1 h0
    refine gv_cut_ops (J := fun a w52 => Below w0.heap.size w0 w52 ∧ w27.heap.size ≤ w52.heap.size ∧ a.defers = [] ∧ a.tmps.size = 37 ∧ Ok [(8, (.bool j51))] a.tmps) ?_ ?_
    ·skip
     refine gv_loadBox (t := 24) (b := b1) (t' := 24) (fr := (0, 0)) #[(.int .i64 f_1.1), (.int .i64 f_1.2)] [] (fun e => by cases e) rfl rfl rfl (by kernel_rfl) (by kernel_rfl) (by kernel_rfl) (by kernel_rfl) (inw0 hb48) rfl ?_
     refine gv_loadBox (t := 24) (b := b7) (t' := 24) (fr := (0, 0)) #[(.int .i64 j26.1), (.int .i64 j26.2)] [] (fun e => by cases e) rfl rfl rfl (by kernel_rfl) (by kernel_rfl) (by kernel_rfl) (by kernel_rfl) (inw0 hb49) rfl ?_
     refine gv_eqs (t := 24) (op := .eql) (x := (.tmp 21)) (y := (.tmp 22)) (xs := #[(.int .i64 f_1.1), (.int .i64 f_1.2)]) (ys := #[(.int .i64 j26.1), (.int .i64 j26.2)]) ((f_1.1 == j26.1) && (f_1.2 == j26.2)) [] (fun e => by cases e) rfl rfl rfl (by kernel_rfl) (by kernel_rfl) (fun w' => eqs24eql f_1.1 f_1.2 j26.1 j26.2 _ _ w') rfl ?_
     refine gv_pureN 1 [24] [(24, (.bool ((f_1.1 == j26.1) && (f_1.2 == j26.2))))] (by kernel_rfl) ?_
     refine gv_split (s := 24) (g := ((f_1.1 == j26.1) && (f_1.2 == j26.2))) (by kernel_rfl) (fun hc53 => ?_) (fun hc53 => ?_)
     ·skip
      replace h1 := ite_t hc53 h1
      refine gv_pureN 5 [8, 25, 26, 27, 28] [(8, (.bool (((List.length l_0 : Nat) : Int) == 0)))] (by kernel_rfl) ?_
      refine gv_nil ?_
      have e := sj h1; subst e
      refine gv_goal fun a hd hs hok => ?_
      exact ⟨hB46, (Nat.le_refl _), hd, hs, ok_pick [8] hok (by kernel_rfl)⟩
     ·skip
      replace h1 := ite_f hc53 h1
      refine gv_pureN 5 [8, 25, 26, 27, 28] [(8, (.bool false))] (by kernel_rfl) ?_
      refine gv_nil ?_
      have e := sj h1; subst e
      refine gv_goal fun a hd hs hok => ?_
      exact ⟨hB46, (Nat.le_refl _), hd, hs, ok_pick [8] hok (by kernel_rfl)⟩
    ·rintro a w52 ⟨hB54, hz55, hd, hs, hok⟩
     refine gv_in ?_ hd hs hok
     clear hd hs hok
     clear hz55 hc50 hb49 hb48 hB46 hbe11 hbe5 hb4 hg3
     refine gv_cret ?_
     have e := sj h0; subst e
     refine gv_ret (gv_done [(.bool j51)] rfl ⟨(by kernel_rfl), trivial⟩ ?_)
     exact ⟨grown_of_below hB54, rfl⟩
   ·replace h0 := ite_f hc50 h0
    refine gv_skip <| gv_seq <| gv_region <| bindE h0 ?_; clear h0; intro j56 h1 h0
    refine gv_cut_ops (J := fun a w57 => Below w0.heap.size w0 w57 ∧ w27.heap.size ≤ w57.heap.size ∧ a.defers = [] ∧ a.tmps.size = 37 ∧ Ok [(8, (.bool j56))] a.tmps) ?_ ?_
    ·skip
     refine gv_loadBox (t := 24) (b := b1) (t' := 24) (fr := (0, 0)) #[(.int .i64 f_1.1), (.int .i64 f_1.2)] [] (fun e => by cases e) rfl rfl rfl (by kernel_rfl) (by kernel_rfl) (by kernel_rfl) (by kernel_rfl) (inw0 hb48) rfl ?_
     refine gv_loadBox (t := 24) (b := b7) (t' := 24) (fr := (0, 0)) #[(.int .i64 j26.1), (.int .i64 j26.2)] [] (fun e => by cases e) rfl rfl rfl (by kernel_rfl) (by kernel_rfl) (by kernel_rfl) (by kernel_rfl) (inw0 hb49) rfl ?_
     refine gv_eqs (t := 24) (op := .eql) (x := (.tmp 29)) (y := (.tmp 30)) (xs := #[(.int .i64 f_1.1), (.int .i64 f_1.2)]) (ys := #[(.int .i64 j26.1), (.int .i64 j26.2)]) ((f_1.1 == j26.1) && (f_1.2 == j26.2)) [] (fun e => by cases e) rfl rfl rfl (by kernel_rfl) (by kernel_rfl) (fun w' => eqs24eql f_1.1 f_1.2 j26.1 j26.2 _ _ w') rfl ?_
     refine gv_pureN 1 [32] [(32, (.bool ((f_1.1 == j26.1) && (f_1.2 == j26.2))))] (by kernel_rfl) ?_
     refine gv_split (s := 32) (g := ((f_1.1 == j26.1) && (f_1.2 == j26.2))) (by kernel_rfl) (fun hc58 => ?_) (fun hc58 => ?_)
     ·skip
      replace h1 := ite_t hc58 h1
      refine gv_pureN 2 [33, 34] [(33, (.slice pa0_0 (List.length l_0) pc0_0)), (34, (.slice pa2_0 (List.length want_2) pc2_0))] (by kernel_rfl) ?_
      refine bindE h1 ?_; clear h1; intro r59 hr60 h1
      refine gv_call0 (by kernel_rfl) rfl (by kernel_rfl) enters18 (ref4_SameTexts_ok fuel pa0_0 pc0_0 l_0 pa2_0 pc2_0 want_2 w27 (fun k => X0 k ∨ X0 k) (fun k hk => (hk).elim (fun h => (fun k (hk : X0 k) => ltl (hX0 k hk) hB46.size) k h) (fun h => (fun k (hk : X0 k) => ltl (hX0 k hk) hB46.size) k h)) ((hpa0_0.below hB46 hX0).wide (fun k hk => (.inl hk))) ((hpa2_0.below hB46 hX0).wide (fun k hk => (.inr hk))) r59 hr60) ?_
      rintro v63 w61 ⟨hg62, rfl⟩
      refine gv_pureN 2 [8, 36] [(8, (.bool r59))] (by kernel_rfl) ?_
      refine gv_nil ?_
      have e := sj h1; subst e
      refine gv_goal fun a hd hs hok => ?_
      have hB64 := bg hB46 hg62 nb
      have hz65 := hg62.size
      exact ⟨hB64, hz65, hd, hs, ok_pick [8] hok (by kernel_rfl)⟩
     ·skip
      replace h1 := ite_f hc58 h1
      refine gv_pureN 5 [8, 33, 34, 35, 36] [(8, (.bool false))] (by kernel_rfl) ?_
      refine gv_nil ?_
      have e := sj h1; subst e
      refine gv_goal fun a hd hs hok => ?_
      exact ⟨hB46, (Nat.le_refl _), hd, hs, ok_pick [8] hok (by kernel_rfl)⟩
    ·rintro a w57 ⟨hB66, hz67, hd, hs, hok⟩
     refine gv_in ?_ hd hs hok
     clear hd hs hok
     clear hz67 hc50 hb49 hb48 hB46 hbe11 hbe5 hb4 hg3
     refine gv_cret ?_
     have e := sj h0; subst e
     refine gv_ret (gv_done [(.bool j56)] rfl ⟨(by kernel_rfl), trivial⟩ ?_)
     exact ⟨grown_of_below hB66, rfl⟩

theorem ref4_Numbers_ok (fuel : Nat) (pa0_0 : Option Addr) (pc0_0 : Nat) (a_0 : (List Int)) (pa1_0 : Option Addr) (pc1_0 : Nat) (b_1 : (List Int)) (w0 : World) (X0 : Nat → Prop) (hX0 : ∀ k, X0 k → k < w0.heap.size) (hpa0_0 : Rd (iE .i64) w0 X0 pa0_0 pc0_0 a_0) (hpa1_0 : Rd (iE .i64) w0 X0 pa1_0 pc1_0 b_1) (r0 : Bool) (h0 : ref4_Numbers fuel a_0 b_1 = some r0) :
    Calls Tryd.prog 97 ([(.slice pa0_0 (List.length a_0) pc0_0), (.slice pa1_0 (List.length b_1) pc1_0)] : List Value).toArray w0 (Ret fun v w' => w0.grownBy w' none ∧ v = tup [(.bool r0)]) := by
 have hB0 : Below w0.heap.size w0 w0 := Below.refl _ _
 unfold ref4_Numbers at h0
 refine calls_run Tryd.func97 rfl Tryd.ntmps97 (by kernel_rfl) ?_
 refine gv_sub [0, 1] (σ' := [(0, (.slice pa0_0 (List.length a_0) pc0_0)), (1, (.slice pa1_0 (List.length b_1) pc1_0))]) (by kernel_rfl) ?_
 refine gv_seq <| gv_region <| gv_pureN 1 [4] [] (by kernel_rfl) ?_
 refine gv_nil <| gv_seq <| gv_seq <| gv_region <| gv_pureN 5 [6, 7, 8, 9, 10] [(10, (.bool (((List.length a_0 : Nat) : Int) != ((List.length b_1 : Nat) : Int))))] (by kernel_rfl) ?_
 refine gv_nil <| gv_cond (b := (((List.length a_0 : Nat) : Int) != ((List.length b_1 : Nat) : Int))) (by kernel_rfl) (fun hc1 => ?_) (fun hc1 => ?_)
 ·replace h0 := ite_t hc1 h0
  refine gv_seq <| gv_region <| gv_pureN 1 [4] [(4, (.bool false))] (by kernel_rfl) ?_
  refine gv_nil <| gv_cret ?_
  have e := sj h0; subst e
  refine gv_ret (gv_done [(.bool false)] rfl ⟨(by kernel_rfl), trivial⟩ ?_)
  exact ⟨grown_of_below hB0, rfl⟩
 ·replace h0 := ite_f hc1 h0
  refine gv_skip <| gv_seq <| gv_seq <| gv_region <| gv_pureN 1 [5] [(5, (.int .i64 0))] (by kernel_rfl) ?_
  refine gv_nil <| bindE h0 ?_; clear h0; intro j2 h1 h0
  refine gv_cut_code (J := fun a w4 => ∃ s3 : Unit, j2 = .inl s3 ∧ Below w0.heap.size w0 w4 ∧ w0.heap.size ≤ w4.heap.size ∧ a.defers = [] ∧ a.tmps.size = 26 ∧ Ok [] a.tmps) ?_ ?_
  ·skip
   refine gv_block <| gv_loop (A := fun (s5 : Int) a w6 => Below w0.heap.size w0 w6 ∧ w0.heap.size ≤ w6.heap.size ∧ a.defers = [] ∧ a.tmps.size = 26 ∧ Ok [(0, (.slice pa0_0 (List.length a_0) pc0_0)), (1, (.slice pa1_0 (List.length b_1) pc1_0)), (5, (.int .i64 s5))] a.tmps) h1 ?_ ?_
   ·intro a hd hs hok
    exact ⟨hB0, (Nat.le_refl _), hd, hs, ok_pick [0, 1, 5] hok (by kernel_rfl)⟩
   ·rintro s5 r2 h2 hR2 a w6 ⟨hB7, hz8, hd, hs, hok⟩
    refine gv_in ?_ hd hs hok
    clear hd hs hok
    refine gv_seq <| gv_seq <| gv_region <| gv_pureN 4 [11, 12, 13, 14] [(14, (.bool (decide (s5 < ((List.length a_0 : Nat) : Int)))))] (by kernel_rfl) ?_
    refine gv_nil <| gv_cond (b := (decide (s5 < ((List.length a_0 : Nat) : Int)))) (by kernel_rfl) (fun hc9 => ?_) (fun hc9 => ?_)
    ·replace h2 := ite_t hc9 h2
     refine gv_skip <| gv_seq <| gv_block <| gv_seq <| gv_drawA (by kernel_rfl) ?_
     intro w10 hg11
     refine gv_pre [0, 1, 2, 4, 5, 6] (bA 9 [0, 1, 2, 4, 5, 6]) 3 (by kernel_rfl) (by kernel_rfl) ?_
     refine gv_pureN 2 [17, 18] [(17, (.slice pa0_0 (List.length a_0) pc0_0)), (18, (.int .i64 s5))] (by kernel_rfl) ?_
     refine bindE h2 ?_; clear h2; intro x12 hx13 h2
     have hB14 := bg hB7 hg11 nb
     refine gv_idxaddr (t := 38) (e := 3) (a := pa0_0) (len := List.length a_0) (cap := pc0_0) (kk := .i64) (i := s5) (sz := 1) [] (fun e => by cases e) rfl rfl rfl (by kernel_rfl) (by kernel_rfl) Tryd.underlying38 (by kernel_rfl) ((hpa0_0.below hB14 hX0).has hx13) (idx_spec hx13).1 (idx_spec hx13).2.1 rfl ?_
     refine gv_pureN 2 [21, 22] [(21, (.slice pa1_0 (List.length b_1) pc1_0)), (22, (.int .i64 s5))] (by kernel_rfl) ?_
     refine bindE h2 ?_; clear h2; intro x15 hx16 h2
     refine gv_idxaddr (t := 38) (e := 3) (a := pa1_0) (len := List.length b_1) (cap := pc1_0) (kk := .i64) (i := s5) (sz := 1) [] (fun e => by cases e) rfl rfl rfl (by kernel_rfl) (by kernel_rfl) Tryd.underlying38 (by kernel_rfl) ((hpa1_0.below hB14 hX0).has hx16) (idx_spec hx16).1 (idx_spec hx16).2.1 rfl ?_
     refine gv_nil <| gv_goA ?_
     refine gv_stage (Cls w10 []) [0, 1, 2, 3, 4, 5, 6, 7] [(3, some true), (7, some true)] (bA 9 [0, 1, 2, 3, 4, 5, 6, 7]) 1 (by kernel_rfl) (by kernel_rfl) (Cls.refl _ _) ?_
     have hC17 := Cls.refl w10 []
     refine gv_load (t := 3) (A := (elemAddr pa0_0 ((s5 : Int).toNat * 1))) (.int .i64 x12) [] (fun e => by cases e) rfl rfl rfl (by kernel_rfl) (by kernel_rfl) (by kernel_rfl) (inw1 fun w' hC' => ((hC'.rd (hpa0_0.below hB14 hX0) (fun k (hk : X0 k) => ltl (hX0 k hk) hB14.size) nmx_nil).cell hx13)) rfl ?_
     refine gv_load (t := 3) (A := (elemAddr pa1_0 ((s5 : Int).toNat * 1))) (.int .i64 x15) [] (fun e => by cases e) rfl rfl rfl (by kernel_rfl) (by kernel_rfl) (by kernel_rfl) (inw1 fun w' hC' => ((hC'.rd (hpa1_0.below hB14 hX0) (fun k (hk : X0 k) => ltl (hX0 k hk) hB14.size) nmx_nil).cell hx16)) rfl ?_
     refine gv_nil <| gv_goA ?_
     refine gv_pre [8] (bA 9 [0, 1, 2, 3, 4, 5, 6, 7, 8]) 0 (by kernel_rfl) (by kernel_rfl) ?_
     refine gv_pureN 1 [25] [(25, (.bool (x12 != x15)))] (by kernel_rfl) ?_
     refine gv_nil <| gv_goA ?_
     refine gv_stageE (by kernel_rfl) ?_
     refine gv_cond (b := (x12 != x15)) (by kernel_rfl) (fun hc18 => ?_) (fun hc18 => ?_)
     ·replace h2 := ite_t hc18 h2
      refine gv_seq <| gv_region <| gv_pureN 1 [4] [(4, (.bool false))] (by kernel_rfl) ?_
      refine gv_nil <| gv_cret ?_
      have e := sj h2; subst e
      replace h1 := congrArg some (hR2 _ rfl)
      have e := sj h1; subst e
      replace h0 := cont_inr h0
      have e := sj h0; subst e
      refine gv_ret (gv_done [(.bool false)] rfl ⟨(by kernel_rfl), trivial⟩ ?_)
      exact ⟨grown_of_below hB14, rfl⟩
     ·replace h2 := ite_f hc18 h2
      refine gv_skip <| gv_blk <| gv_region <| gv_pureN 3 [5, 15, 16] [(5, (.int .i64 (IntKind.i64.wrap (s5 + 1))))] (by kernel_rfl) ?_
      refine gv_nil ?_
      have e := sj h2; subst e
      refine gv_goal fun a hd hs hok => ?_
      have hz19 := (nt hz8 hg11.size)
      exact ⟨(IntKind.i64.wrap (s5 + 1)), rfl, hB14, hz19, hd, hs, ok_pick [0, 1, 5] hok (by kernel_rfl)⟩
    ·replace h2 := ite_f hc9 h2
     refine gv_cexit <| gv_exit rfl ?_
     have e := sj h2; subst e
     replace h1 := congrArg some (hR2 _ rfl)
     have e := sj h1; subst e
     refine gv_goal fun a hd hs hok => ?_
     have hz20 := hz8
     exact ⟨(), rfl, hB7, hz20, hd, hs, ok_pick [] hok (by kernel_rfl)⟩
  ·rintro a w4 ⟨s3, e, hB21, hz22, hd, hs, hok⟩
   subst e
   refine gv_in ?_ hd hs hok
   clear hd hs hok
   replace h0 := cont_inl h0
   refine gv_seq <| gv_region <| gv_pureN 1 [4] [(4, (.bool true))] (by kernel_rfl) ?_
   refine gv_nil <| gv_cret ?_
   have e := sj h0; subst e
   refine gv_ret (gv_done [(.bool true)] rfl ⟨(by kernel_rfl), trivial⟩ ?_)
   exact ⟨grown_of_below hB21, rfl⟩

theorem ref4_here_ok (fuel : Nat) (pa0_0 : Option Addr) (pc0_0 : Nat) (l_0 : (List Int)) (pa1_0 : Option Addr) (pc1_0 : Nat) (sub_1 : (List Int)) (at_2 : Int) (w0 : World) (X0 : Nat → Prop) (hX0 : ∀ k, X0 k → k < w0.heap.size) (hpa0_0 : Rd (iE .i64) w0 X0 pa0_0 pc0_0 l_0) (hpa1_0 : Rd (iE .i64) w0 X0 pa1_0 pc1_0 sub_1) (r0 : Bool) (h0 : ref4_here fuel l_0 sub_1 at_2 = some r0) :
    Calls Tryd.prog 75 ([(.slice pa0_0 (List.length l_0) pc0_0), (.slice pa1_0 (List.length sub_1) pc1_0), (.int .i64 at_2)] : List Value).toArray w0 (Ret fun v w' => w0.grownBy w' none ∧ v = tup [(.bool r0)]) := by
 have hB0 : Below w0.heap.size w0 w0 := Below.refl _ _
 unfold ref4_here at h0
 refine calls_run Tryd.func75 rfl Tryd.ntmps75 (by kernel_rfl) ?_
 refine gv_sub [0, 1, 2] (σ' := [(0, (.slice pa0_0 (List.length l_0) pc0_0)), (1, (.slice pa1_0 (List.length sub_1) pc1_0)), (2, (.int .i64 at_2))]) (by kernel_rfl) ?_
 refine gv_seq <| gv_region <| gv_pureN 1 [6] [] (by kernel_rfl) ?_
 refine gv_nil <| gv_seq <| gv_region <| bindE h0 ?_; clear h0; intro j1 h1 h0
 refine gv_cut_ops (J := fun a w2 => Below w0.heap.size w0 w2 ∧ w0.heap.size ≤ w2.heap.size ∧ a.defers = [] ∧ a.tmps.size = 29 ∧ Ok [(6, (.bool j1))] a.tmps) ?_ ?_
 ·skip
  refine gv_pureN 3 [7, 8, 9] [(9, (.bool (decide (at_2 ≥ 0))))] (by kernel_rfl) ?_
  refine gv_split (s := 9) (g := (decide (at_2 ≥ 0))) (by kernel_rfl) (fun hc3 => ?_) (fun hc3 => ?_)
  ·skip
   replace h1 := ite_t hc3 h1
   refine gv_pureN 9 [10, 11, 12, 13, 14, 15, 16, 17, 18] [(18, (.bool (decide ((IntKind.i64.wrap (at_2 + ((List.length sub_1 : Nat) : Int))) ≤ ((List.length l_0 : Nat) : Int)))))] (by kernel_rfl) ?_
   refine gv_split (s := 18) (g := (decide ((IntKind.i64.wrap (at_2 + ((List.length sub_1 : Nat) : Int))) ≤ ((List.length l_0 : Nat) : Int)))) (by kernel_rfl) (fun hc4 => ?_) (fun hc4 => ?_)
   ·skip
    replace h1 := ite_t hc4 h1
    refine gv_pureN 6 [19, 20, 21, 22, 23, 24] [(19, (.slice pa0_0 (List.length l_0) pc0_0)), (20, (.int .i64 at_2)), (24, (.int .i64 (IntKind.i64.wrap (at_2 + ((List.length sub_1 : Nat) : Int)))))] (by kernel_rfl) ?_
    refine bindE h1 ?_; clear h1; intro x5 hx6 h1
    refine gv_ssl2 (iE .i64) (t := 38) (e := 3) (xs := l_0) (a := pa0_0) (cap := pc0_0) (lo := (some (.int .i64 at_2))) (hi := (some (.int .i64 (IntKind.i64.wrap (at_2 + ((List.length sub_1 : Nat) : Int)))))) at_2 (IntKind.i64.wrap (at_2 + ((List.length sub_1 : Nat) : Int))) x5 (fun e => by cases e) rfl rfl rfl (by kernel_rfl) (by kernel_rfl) Tryd.underlying38 (by kernel_rfl) (.inr ⟨_, rfl⟩) (.inr ⟨_, rfl⟩) hx6 (hpa0_0.below hB0 hX0).1 ?_
    intro a7 c8 hsub9
    have hp10 := hsub9 _ _ hpa0_0
    refine gv_pureN 1 [26] [(26, (.slice pa1_0 (List.length sub_1) pc1_0))] (by kernel_rfl) ?_
    refine bindE h1 ?_; clear h1; intro r11 hr12 h1
    refine gv_call0 (by kernel_rfl) rfl (by kernel_rfl) enters97 (ref4_Numbers_ok fuel a7 c8 x5 pa1_0 pc1_0 sub_1 w0 (fun k => X0 k ∨ X0 k) (fun k hk => (hk).elim (fun h => (fun k (hk : X0 k) => ltl (hX0 k hk) hB0.size) k h) (fun h => (fun k (hk : X0 k) => ltl (hX0 k hk) hB0.size) k h)) ((hp10.below hB0 hX0).wide (fun k hk => (.inl hk))) ((hpa1_0.below hB0 hX0).wide (fun k hk => (.inr hk))) r11 hr12) ?_
    rintro v15 w13 ⟨hg14, rfl⟩
    refine gv_pureN 2 [6, 28] [(6, (.bool r11))] (by kernel_rfl) ?_
    refine gv_nil ?_
    have e := sj h1; subst e
    refine gv_goal fun a hd hs hok => ?_
    have hB16 := bg hB0 hg14 nb
    have hz17 := hg14.size
    exact ⟨hB16, hz17, hd, hs, ok_pick [6] hok (by kernel_rfl)⟩
   ·skip
    replace h1 := ite_f hc4 h1
    refine gv_pureN 11 [6, 19, 20, 21, 22, 23, 24, 25, 26, 27, 28] [(6, (.bool false))] (by kernel_rfl) ?_
    refine gv_nil ?_
    have e := sj h1; subst e
    refine gv_goal fun a hd hs hok => ?_
    exact ⟨hB0, (Nat.le_refl _), hd, hs, ok_pick [6] hok (by kernel_rfl)⟩
  ·skip
   replace h1 := ite_f hc3 h1
   refine gv_pureN 20 [6, 10, 11, 12, 13, 14, 15, 16, 17, 18, 19, 20, 21, 22, 23, 24, 25, 26, 27, 28] [(6, (.bool false))] (by kernel_rfl) ?_
   refine gv_nil ?_
   have e := sj h1; subst e
   refine gv_goal fun a hd hs hok => ?_
   exact ⟨hB0, (Nat.le_refl _), hd, hs, ok_pick [6] hok (by kernel_rfl)⟩
 ·rintro a w2 ⟨hB18, hz19, hd, hs, hok⟩
  refine gv_in ?_ hd hs hok
  clear hd hs hok
  refine gv_cret ?_
  have e := sj h0; subst e
  refine gv_ret (gv_done [(.bool j1)] rfl ⟨(by kernel_rfl), trivial⟩ ?_)
  exact ⟨grown_of_below hB18, rfl⟩

theorem ref4_Places_ok (fuel : Nat) (pa0_0 : Option Addr) (pc0_0 : Nat) (l_0 : (List Int)) (pa1_0 : Option Addr) (pc1_0 : Nat) (sub_1 : (List Int)) (w0 : World) (X0 : Nat → Prop) (hX0 : ∀ k, X0 k → k < w0.heap.size) (hpa0_0 : Rd (iE .i64) w0 X0 pa0_0 pc0_0 l_0) (hpa1_0 : Rd (iE .i64) w0 X0 pa1_0 pc1_0 sub_1) (r0 : (List Int)) (h0 : ref4_Places fuel l_0 sub_1 = some r0) :
    Calls Tryd.prog 39 ([(.slice pa0_0 (List.length l_0) pc0_0), (.slice pa1_0 (List.length sub_1) pc1_0)] : List Value).toArray w0 (Ret fun v w' => w0.grownBy w' none ∧ ∃ (a0_0r : Option Addr) (c0_0r : Nat), v = tup [(.slice a0_0r (List.length r0) c0_0r)] ∧ Gv.Own (iE .i64) 3 w' (fun _ => False) a0_0r c0_0r r0 ∧ (∀ g, blk a0_0r = some g → w0.heap.size ≤ g)) := by
 have hB0 : Below w0.heap.size w0 w0 := Below.refl _ _
 unfold ref4_Places at h0
 refine calls_run Tryd.func39 rfl Tryd.ntmps39 (by kernel_rfl) ?_
 refine gv_sub [0, 1] (σ' := [(0, (.slice pa0_0 (List.length l_0) pc0_0)), (1, (.slice pa1_0 (List.length sub_1) pc1_0))]) (by kernel_rfl) ?_
 refine gv_seq <| gv_region <| gv_pureN 1 [4] [] (by kernel_rfl) ?_
 refine gv_nil <| gv_seq <| gv_region <| gv_pureN 1 [5] [(5, (.slice none (List.length ([] : List Int)) 0))] (by kernel_rfl) ?_
 refine gv_nil <| gv_seq <| gv_seq <| gv_region <| gv_pureN 1 [6] [(6, (.int .i64 0))] (by kernel_rfl) ?_
 refine gv_nil <| bindE h0 ?_; clear h0; intro j1 h1 h0
 refine gv_cut_code (J := fun a w2 => ∃ (a5_0j : Option Addr) (c5_0j : Nat), Below w0.heap.size w0 w2 ∧ w0.heap.size ≤ w2.heap.size ∧ Gv.Own (iE .i64) 3 w2 (fun _ => False) a5_0j c5_0j j1 ∧ (∀ g, blk a5_0j = some g → w0.heap.size ≤ g) ∧ a.defers = [] ∧ a.tmps.size = 35 ∧ Ok [(5, (.slice a5_0j (List.length j1) c5_0j))] a.tmps) ?_ ?_
 ·skip
  refine gv_block <| gv_loop (A := fun (s3 : ((List Int) × Int)) a w4 => ∃ (a5_0j : Option Addr) (c5_0j : Nat), Below w0.heap.size w0 w4 ∧ w0.heap.size ≤ w4.heap.size ∧ Gv.Own (iE .i64) 3 w4 (fun _ => False) a5_0j c5_0j s3.1 ∧ (∀ g, blk a5_0j = some g → w0.heap.size ≤ g) ∧ a.defers = [] ∧ a.tmps.size = 35 ∧ Ok [(0, (.slice pa0_0 (List.length l_0) pc0_0)), (1, (.slice pa1_0 (List.length sub_1) pc1_0)), (5, (.slice a5_0j (List.length s3.1) c5_0j)), (6, (.int .i64 s3.2))] a.tmps) h1 ?_ ?_
  ·intro a hd hs hok
   exact ⟨none, 0, hB0, (Nat.le_refl _), (Gv.Own.nil (iE .i64) 3 w0 (fun _ => False)), (fun _ h => by cases h), hd, hs, ok_pick [0, 1, 5, 6] hok (by kernel_rfl)⟩
  ·rintro s3 r2 h2 hR2 a w4 ⟨a7, c8, hB5, hz6, ho9, hl10, hd, hs, hok⟩
   refine gv_in ?_ hd hs hok
   clear hd hs hok
   refine gv_seq <| gv_seq <| gv_region <| gv_pureN 7 [7, 8, 9, 10, 11, 12, 13] [(13, (.bool (decide ((IntKind.i64.wrap (s3.2 + ((List.length sub_1 : Nat) : Int))) ≤ ((List.length l_0 : Nat) : Int)))))] (by kernel_rfl) ?_
   refine gv_nil <| gv_cond (b := (decide ((IntKind.i64.wrap (s3.2 + ((List.length sub_1 : Nat) : Int))) ≤ ((List.length l_0 : Nat) : Int)))) (by kernel_rfl) (fun hc11 => ?_) (fun hc11 => ?_)
   ·replace h2 := ite_t hc11 h2
    refine gv_skip <| gv_block <| gv_seq <| gv_seq <| gv_region <| gv_pureN 3 [14, 15, 16] [(14, (.slice pa0_0 (List.length l_0) pc0_0)), (15, (.slice pa1_0 (List.length sub_1) pc1_0)), (16, (.int .i64 s3.2))] (by kernel_rfl) ?_
    refine bindE h2 ?_; clear h2; intro r12 hr13 h2
    refine gv_call0 (by kernel_rfl) rfl (by kernel_rfl) enters75 (ref4_here_ok fuel pa0_0 pc0_0 l_0 pa1_0 pc1_0 sub_1 s3.2 w4 (fun k => X0 k ∨ X0 k) (fun k hk => (hk).elim (fun h => (fun k (hk : X0 k) => ltl (hX0 k hk) hB5.size) k h) (fun h => (fun k (hk : X0 k) => ltl (hX0 k hk) hB5.size) k h)) ((hpa0_0.below hB5 hX0).wide (fun k hk => (.inl hk))) ((hpa1_0.below hB5 hX0).wide (fun k hk => (.inr hk))) r12 hr13) ?_
    rintro v16 w14 ⟨hg15, rfl⟩
    refine gv_pureN 1 [18] [(18, (.bool (!r12)))] (by kernel_rfl) ?_
    refine gv_nil <| gv_cond (b := (!r12)) (by kernel_rfl) (fun hc17 => ?_) (fun hc17 => ?_)
    ·replace h2 := ite_t hc17 h2
     refine gv_seq <| gv_region <| gv_pureN 3 [6, 19, 20] [(6, (.int .i64 (IntKind.i64.wrap (s3.2 + 1))))] (by kernel_rfl) ?_
     refine gv_nil <| gv_cexit <| gv_exit rfl ?_
     have e := sj h2; subst e
     refine gv_goal fun a hd hs hok => ?_
     have hB18 := bg hB5 hg15 nb
     have hz19 := (nt hz6 hg15.size)
     have hk20 := ho9.grown hg15 (fun _ h => h.elim) nb
     exact ⟨(s3.1, (IntKind.i64.wrap (s3.2 + 1))), rfl, a7, c8, hB18, hz19, hk20, hl10, hd, hs, ok_pick [0, 1, 5, 6] hok (by kernel_rfl)⟩
    ·replace h2 := ite_f hc17 h2
     refine gv_skip <| gv_seq <| gv_region <| gv_pureN 2 [21, 22] [(21, (.slice a7 (List.length s3.1) c8)), (22, (.int .i64 s3.2))] (by kernel_rfl) ?_
     refine gv_new0 (fun b => .slice (some ⟨b, 0, none⟩) 1 1) #[(.int .i64 s3.2)] 3 (by kernel_rfl) (by kernel_rfl) ?_
     intro b21 w22 hg23 hb24 hbe25 hz26
     have ho27 : Gv.Own (iE .i64) 3 w22 (fun _ => False) (some ⟨b21, 0, none⟩) 1 ([s3.2] : List Int) := Box.ownE hb24 ⟨[(.int .i64 s3.2)], [], rfl, rfl, rfl⟩ (show 1 ≤ maxLen by decide) (fun h => h)
     have hB32 := bg hB5 hg15 nb
     have hl28 : ∀ g, blk (some ⟨b21, 0, none⟩) = some g → w0.heap.size ≤ g := loo hbe25 hB32.size
     refine bindE h2 ?_; clear h2; intro l33 hx34 h2
     have hg41 := (grown_trans hg15 hg23)
     have hk42 := ho9.grown hg41 (fun _ h => h.elim) nb
     refine gv_append (iE .i64) (t := 38) (ty := 38) (e := 3) (a := a7) (ax := (some ⟨b21, 0, none⟩)) (cap := c8) (cx := 1) (xs := s3.1) (ys := ([s3.2] : List Int)) l33 (X := (fun _ => False)) (Y := (fun k => blk (some ⟨b21, 0, none⟩) = some k)) (by decide) rfl rfl (by kernel_rfl) (by kernel_rfl) Tryd.underlying38 info3 hk42 (ho27.rd (Y := fun k => blk (some ⟨b21, 0, none⟩) = some k) (fun _ h => h.elim) (fun g e => e)) hx34 (.inr fun _ _ _ _ _ h => h) (fun _ h => h.elim) ?_
     intro a35 c36 w37 hg38 ho39 hk40
     refine ⟨(fun e => by cases e), ?_⟩
     have hB44 := bg hB32 hg23 nb
     have hl43 : ∀ g, blk a35 = some g → w0.heap.size ≤ g := blk_step hk40 hl10 hB44.size
     have hk46 := ho9.grown hg15 (fun _ h => h.elim) nb
     have ap47 : ∀ g, blk a7 = some g → ¬ (fun k => blk (some ⟨b21, 0, none⟩) = some k) g := fun g e hx => nl ((lowo hbe25) _ hx) ((fun k (hk : blk a7 = some k) => hk46.lt k hk) g e)
     have ap45 : ∀ g, blk a35 = some g → ¬ (fun k => blk (some ⟨b21, 0, none⟩) = some k) g := blk_neX hk40 ap47 (fun k (hk : blk (some ⟨b21, 0, none⟩) = some k) => ho27.lt k hk)
     have ap49 : ∀ g, blk (some ⟨b21, 0, none⟩) = some g → ¬ (fun k => blk a7 = some k) g := fun g e hx => nl ((lowo hbe25) g e) ((fun k (hk : blk a7 = some k) => hk46.lt k hk) _ hx)
     have ap48 : ∀ g, blk (some ⟨b21, 0, none⟩) = some g → ¬ (fun k => blk a35 = some k) g := fun g e h => blk_rev hk40 (fun h => ((ap49) g e) h) (ho27.lt g e) h
     refine gv_pureN 1 [5] [(5, (.slice a35 (List.length l33) c36))] (by kernel_rfl) ?_
     refine gv_nil <| gv_seq <| gv_region <| gv_pureN 5 [6, 25, 26, 27, 28] [(6, (.int .i64 (IntKind.i64.wrap (s3.2 + ((List.length sub_1 : Nat) : Int)))))] (by kernel_rfl) ?_
     refine bindE h2 ?_; clear h2; intro n50 hn51 h2
     refine gv_name (s := 6) (v := (.int .i64 (IntKind.i64.wrap (s3.2 + ((List.length sub_1 : Nat) : Int))))) (v' := (.int .i64 n50)) (by kernel_rfl) (congrArg (Value.int .i64) (sj hn51)) ?_
     refine gv_nil <| gv_seq <| gv_region <| gv_pureN 3 [29, 30, 31] [(31, (.bool (((List.length sub_1 : Nat) : Int) == 0)))] (by kernel_rfl) ?_
     refine gv_nil <| bindE h2 ?_; clear h2; intro j52 h3 h2
     refine gv_cut_code (J := fun a w53 => Below w0.heap.size w0 w53 ∧ w37.heap.size ≤ w53.heap.size ∧ Gv.Own (iE .i64) 3 w53 (fun _ => False) a35 c36 l33 ∧ a.defers = [] ∧ a.tmps.size = 35 ∧ Ok [(0, (.slice pa0_0 (List.length l_0) pc0_0)), (1, (.slice pa1_0 (List.length sub_1) pc1_0)), (5, (.slice a35 (List.length l33) c36)), (6, (.int .i64 j52))] a.tmps) ?_ ?_
     ·skip
      refine gv_cond (b := (((List.length sub_1 : Nat) : Int) == 0)) (by kernel_rfl) (fun hc54 => ?_) (fun hc54 => ?_)
      ·replace h3 := ite_t hc54 h3
       refine gv_region <| gv_pureN 3 [6, 32, 33] [(6, (.int .i64 (IntKind.i64.wrap (n50 + 1))))] (by kernel_rfl) ?_
       refine gv_nil ?_
       have e := sj h3; subst e
       refine gv_goal fun a hd hs hok => ?_
       have hB55 := bg hB44 hg38 hl10
       exact ⟨hB55, (Nat.le_refl _), ho39, hd, hs, ok_pick [0, 1, 5, 6] hok (by kernel_rfl)⟩
      ·replace h3 := ite_f hc54 h3
       refine gv_skip ?_
       have e := sj h3; subst e
       refine gv_goal fun a hd hs hok => ?_
       have hB56 := bg hB44 hg38 hl10
       exact ⟨hB56, (Nat.le_refl _), ho39, hd, hs, ok_pick [0, 1, 5, 6] hok (by kernel_rfl)⟩
     ·rintro a w53 ⟨hB57, hz58, hk59, hd, hs, hok⟩
      refine gv_in ?_ hd hs hok
      clear hd hs hok
      have hz60 := (nt (nt (nt (nt hz6 hg15.size) hg23.size) hg38.size) hz58)
      clear hz58 hn51 ap48 ap49 ap45 ap47 hk46 hB44 hk40 ho39 hg38 hk42 hg41 hx34 hl28 hB32 ho27 hz26 hbe25 hb24 hg23 hc17 hg15 hr13 hc11 hl10 ho9 hz6 hB5
      refine gv_blk ?_
      have e := sj h2; subst e
      refine gv_goal fun a hd hs hok => ?_
      have hz61 := hz60
      exact ⟨(l33, j52), rfl, a35, c36, hB57, hz61, hk59, hl43, hd, hs, ok_pick [0, 1, 5, 6] hok (by kernel_rfl)⟩
   ·replace h2 := ite_f hc11 h2
    refine gv_cexit <| gv_exit rfl ?_
    have e := sj h2; subst e
    replace h1 := congrArg some (hR2 _ rfl)
    have e := sj h1; subst e
    refine gv_goal fun a hd hs hok => ?_
    have hz62 := hz6
    exact ⟨a7, c8, hB5, hz62, ho9, hl10, hd, hs, ok_pick [5] hok (by kernel_rfl)⟩
 ·rintro a w2 ⟨a65, c66, hB63, hz64, ho67, hl68, hd, hs, hok⟩
  refine gv_in ?_ hd hs hok
  clear hd hs hok
  refine gv_seq <| gv_region <| gv_pureN 2 [4, 34] [(4, (.slice a65 (List.length j1) c66))] (by kernel_rfl) ?_
  refine gv_nil <| gv_cret ?_
  have e := sj h0; subst e
  refine gv_ret (gv_done [(.slice a65 (List.length j1) c66)] rfl ⟨(by kernel_rfl), trivial⟩ ?_)
  exact ⟨grown_of_below hB63, a65, c66, rfl, ho67, hl68⟩

theorem ref4_FirstOf_ok (fuel : Nat) (pa0_0 : Option Addr) (pc0_0 : Nat) (l_0 : (List Int)) (most_1 : Int) (w0 : World) (X0 : Nat → Prop) (hX0 : ∀ k, X0 k → k < w0.heap.size) (hpa0_0 : Rd (iE .i64) w0 X0 pa0_0 pc0_0 l_0) (r0 : (List Int)) (h0 : ref4_FirstOf fuel l_0 most_1 = some r0) :
    Calls Tryd.prog 44 ([(.slice pa0_0 (List.length l_0) pc0_0), (.int .i64 most_1)] : List Value).toArray w0 (Ret fun v w' => w0.grownBy w' none ∧ ∃ (a0_0r : Option Addr) (c0_0r : Nat), ∃ (X0_0r : Nat → Prop), v = tup [(.slice a0_0r (List.length r0) c0_0r)] ∧ Rd (iE .i64) w' X0_0r a0_0r c0_0r r0 ∧ (∀ k, X0_0r k → k < w'.heap.size ∧ (X0 k ∨ w0.heap.size ≤ k))) := by
 have hB0 : Below w0.heap.size w0 w0 := Below.refl _ _
 unfold ref4_FirstOf at h0
 refine calls_run Tryd.func44 rfl Tryd.ntmps44 (by kernel_rfl) ?_
 refine gv_sub [0, 1] (σ' := [(0, (.slice pa0_0 (List.length l_0) pc0_0)), (1, (.int .i64 most_1))]) (by kernel_rfl) ?_
 refine gv_seq <| gv_region <| gv_pureN 1 [4] [] (by kernel_rfl) ?_
 refine gv_nil <| gv_seq <| gv_seq <| gv_region <| gv_cut_ops (J := fun a w1 => w0 = w1 ∧ a.defers = [] ∧ a.tmps.size = 17 ∧ Ok [(0, (.slice pa0_0 (List.length l_0) pc0_0)), (1, (.int .i64 most_1)), (12, (.bool ((decide (most_1 ≥ 0)) && (decide (most_1 < ((List.length l_0 : Nat) : Int))))))] a.tmps) ?_ ?_
 ·skip
  refine gv_pureN 3 [5, 6, 7] [(7, (.bool (decide (most_1 ≥ 0))))] (by kernel_rfl) ?_
  refine gv_split (s := 7) (g := (decide (most_1 ≥ 0))) (by kernel_rfl) (fun hc2 => ?_) (fun hc2 => ?_)
  ·skip
   refine gv_pureN 5 [8, 9, 10, 11, 12] [(12, (.bool (decide (most_1 < ((List.length l_0 : Nat) : Int)))))] (by kernel_rfl) ?_
   refine gv_nil <| gv_sub [0, 1, 12] (σ' := [(0, (.slice pa0_0 (List.length l_0) pc0_0)), (1, (.int .i64 most_1)), (12, (.bool (decide (most_1 < ((List.length l_0 : Nat) : Int)))))]) (by kernel_rfl) ?_
   refine gv_goal fun a hd hs hok => ⟨rfl, hd, hs, ?_⟩
   obtain ⟨q0, q1, q12, _⟩ := hok
   exact ⟨q0, q1, (by rw [hc2]; exact q12), trivial⟩
  ·skip
   refine gv_pureN 5 [8, 9, 10, 11, 12] [(12, (.bool false))] (by kernel_rfl) ?_
   refine gv_nil <| gv_sub [0, 1, 12] (σ' := [(0, (.slice pa0_0 (List.length l_0) pc0_0)), (1, (.int .i64 most_1)), (12, (.bool false))]) (by kernel_rfl) ?_
   refine gv_goal fun a hd hs hok => ⟨rfl, hd, hs, ?_⟩
   obtain ⟨q0, q1, q12, _⟩ := hok
   exact ⟨q0, q1, (by rw [hc2]; exact q12), trivial⟩
 ·rintro a w1 ⟨e, hd, hs, hok⟩; subst e
  refine gv_in ?_ hd hs hok
  clear hd hs hok
  refine gv_cond (b := ((decide (most_1 ≥ 0)) && (decide (most_1 < ((List.length l_0 : Nat) : Int))))) (by kernel_rfl) (fun hc3 => ?_) (fun hc3 => ?_)
  ·replace h0 := ite_t hc3 h0
   refine gv_seq <| gv_region <| gv_pureN 2 [13, 14] [(13, (.slice pa0_0 (List.length l_0) pc0_0)), (14, (.int .i64 most_1))] (by kernel_rfl) ?_
   refine bindE h0 ?_; clear h0; intro x4 hx5 h0
   refine gv_ssl2 (iE .i64) (t := 38) (e := 3) (xs := l_0) (a := pa0_0) (cap := pc0_0) (lo := none) (hi := (some (.int .i64 most_1))) 0 most_1 x4 (fun e => by cases e) rfl rfl rfl (by kernel_rfl) (by kernel_rfl) Tryd.underlying38 (by kernel_rfl) (.inl ⟨rfl, rfl⟩) (.inr ⟨_, rfl⟩) hx5 (hpa0_0.below hB0 hX0).1 ?_
   intro a6 c7 hsub8
   have hp9 := hsub8 _ _ hpa0_0
   refine gv_pureN 1 [4] [(4, (.slice a6 (List.length x4) c7))] (by kernel_rfl) ?_
   refine gv_nil <| gv_cret ?_
   have e := sj h0; subst e
   refine gv_ret (gv_done [(.slice a6 (List.length x4) c7)] rfl ⟨(by kernel_rfl), trivial⟩ ?_)
   exact ⟨grown_of_below hB0, a6, c7, X0, rfl, (hp9.below hB0 hX0), (fun k hk => ⟨(fun k (hk : X0 k) => ltl (hX0 k hk) hB0.size) k hk, (fun k (hk : X0 k) => Or.inl hk) k hk⟩)⟩
  ·replace h0 := ite_f hc3 h0
   refine gv_skip <| gv_seq <| gv_region <| gv_pureN 2 [4, 16] [(4, (.slice pa0_0 (List.length l_0) pc0_0))] (by kernel_rfl) ?_
   refine gv_nil <| gv_cret ?_
   have e := sj h0; subst e
   refine gv_ret (gv_done [(.slice pa0_0 (List.length l_0) pc0_0)] rfl ⟨(by kernel_rfl), trivial⟩ ?_)
   exact ⟨grown_of_below hB0, pa0_0, pc0_0, X0, rfl, (hpa0_0.below hB0 hX0), (fun k hk => ⟨(fun k (hk : X0 k) => ltl (hX0 k hk) hB0.size) k hk, (fun k (hk : X0 k) => Or.inl hk) k hk⟩)⟩

theorem ref4_Divide_ok (fuel : Nat) (pa0_0 : Option Addr) (pc0_0 : Nat) (l_0 : (List Int)) (pa1_0 : Option Addr) (pc1_0 : Nat) (places_1 : (List Int)) (length_2 : Int) (w0 : World) (X0 : Nat → Prop) (hX0 : ∀ k, X0 k → k < w0.heap.size) (hpa0_0 : Rd (iE .i64) w0 X0 pa0_0 pc0_0 l_0) (hpa1_0 : Rd (iE .i64) w0 X0 pa1_0 pc1_0 places_1) (r0 : (List ByteArray)) (h0 : ref4_Divide fuel l_0 places_1 length_2 = some r0) :
    Calls Tryd.prog 45 ([(.slice pa0_0 (List.length l_0) pc0_0), (.slice pa1_0 (List.length places_1) pc1_0), (.int .i64 length_2)] : List Value).toArray w0 (Ret fun v w' => w0.grownBy w' none ∧ ∃ (a0_0r : Option Addr) (c0_0r : Nat), v = tup [(.slice a0_0r (List.length r0) c0_0r)] ∧ Gv.Own sE 9 w' (fun _ => False) a0_0r c0_0r r0 ∧ (∀ g, blk a0_0r = some g → w0.heap.size ≤ g)) := by
 have hB0 : Below w0.heap.size w0 w0 := Below.refl _ _
 unfold ref4_Divide at h0
 refine calls_run Tryd.func45 rfl Tryd.ntmps45 (by kernel_rfl) ?_
 refine gv_sub [0, 1, 2] (σ' := [(0, (.slice pa0_0 (List.length l_0) pc0_0)), (1, (.slice pa1_0 (List.length places_1) pc1_0)), (2, (.int .i64 length_2))]) (by kernel_rfl) ?_
 refine gv_seq <| gv_region <| gv_pureN 1 [6] [] (by kernel_rfl) ?_
 refine gv_nil <| gv_seq <| gv_region <| gv_pureN 1 [7] [(7, (.slice none (List.length ([] : List ByteArray)) 0))] (by kernel_rfl) ?_
 refine gv_nil <| gv_seq <| gv_region <| gv_pureN 1 [8] [(8, (.int .i64 0))] (by kernel_rfl) ?_
 refine gv_nil <| gv_seq <| gv_seq <| gv_region <| gv_pureN 1 [9] [(9, (.int .i64 0))] (by kernel_rfl) ?_
 refine gv_nil <| bindE h0 ?_; clear h0; intro j1 h1 h0
 refine gv_cut_code (J := fun a w2 => ∃ (a7_0j : Option Addr) (c7_0j : Nat), Below w0.heap.size w0 w2 ∧ w0.heap.size ≤ w2.heap.size ∧ Gv.Own sE 9 w2 (fun _ => False) a7_0j c7_0j j1.1 ∧ (∀ g, blk a7_0j = some g → w0.heap.size ≤ g) ∧ a.defers = [] ∧ a.tmps.size = 40 ∧ Ok [(0, (.slice pa0_0 (List.length l_0) pc0_0)), (7, (.slice a7_0j (List.length j1.1) c7_0j)), (8, (.int .i64 j1.2))] a.tmps) ?_ ?_
 ·skip
  refine gv_block <| gv_loop (A := fun (s3 : ((List ByteArray) × Int × Int)) a w4 => ∃ (a7_0j : Option Addr) (c7_0j : Nat), Below w0.heap.size w0 w4 ∧ w0.heap.size ≤ w4.heap.size ∧ Gv.Own sE 9 w4 (fun _ => False) a7_0j c7_0j s3.1 ∧ (∀ g, blk a7_0j = some g → w0.heap.size ≤ g) ∧ a.defers = [] ∧ a.tmps.size = 40 ∧ Ok [(0, (.slice pa0_0 (List.length l_0) pc0_0)), (1, (.slice pa1_0 (List.length places_1) pc1_0)), (2, (.int .i64 length_2)), (7, (.slice a7_0j (List.length s3.1) c7_0j)), (8, (.int .i64 s3.2.1)), (9, (.int .i64 s3.2.2))] a.tmps) h1 ?_ ?_
  ·intro a hd hs hok
   exact ⟨none, 0, hB0, (Nat.le_refl _), (Gv.Own.nil sE 9 w0 (fun _ => False)), (fun _ h => by cases h), hd, hs, ok_pick [0, 1, 2, 7, 8, 9] hok (by kernel_rfl)⟩
  ·rintro s3 r2 h2 hR2 a w4 ⟨a7, c8, hB5, hz6, ho9, hl10, hd, hs, hok⟩
   refine gv_in ?_ hd hs hok
   clear hd hs hok
   refine gv_seq <| gv_seq <| gv_region <| gv_pureN 4 [10, 11, 12, 13] [(13, (.bool (decide (s3.2.2 < ((List.length places_1 : Nat) : Int)))))] (by kernel_rfl) ?_
   refine gv_nil <| gv_cond (b := (decide (s3.2.2 < ((List.length places_1 : Nat) : Int)))) (by kernel_rfl) (fun hc11 => ?_) (fun hc11 => ?_)
   ·replace h2 := ite_t hc11 h2
    refine gv_skip <| gv_seq <| gv_block <| gv_seq <| gv_region <| gv_pureN 5 [16, 17, 18, 19, 20] [(16, (.slice a7 (List.length s3.1) c8)), (17, (.slice pa0_0 (List.length l_0) pc0_0)), (18, (.int .i64 s3.2.1)), (19, (.slice pa1_0 (List.length places_1) pc1_0)), (20, (.int .i64 s3.2.2))] (by kernel_rfl) ?_
    refine bindE h2 ?_; clear h2; intro x12 hx13 h2
    refine gv_idxaddr (t := 38) (e := 3) (a := pa1_0) (len := List.length places_1) (cap := pc1_0) (kk := .i64) (i := s3.2.2) (sz := 1) [] (fun e => by cases e) rfl rfl rfl (by kernel_rfl) (by kernel_rfl) Tryd.underlying38 (by kernel_rfl) ((hpa1_0.below hB5 hX0).has hx13) (idx_spec hx13).1 (idx_spec hx13).2.1 rfl ?_
    refine gv_load (t := 3) (A := (elemAddr pa1_0 ((s3.2.2 : Int).toNat * 1))) (.int .i64 x12) [] (fun e => by cases e) rfl rfl rfl (by kernel_rfl) (by kernel_rfl) (by kernel_rfl) (inw0 ((hpa1_0.below hB5 hX0).cell hx13)) rfl ?_
    refine bindE h2 ?_; clear h2; intro x14 hx15 h2
    refine gv_ssl2 (iE .i64) (t := 38) (e := 3) (xs := l_0) (a := pa0_0) (cap := pc0_0) (lo := (some (.int .i64 s3.2.1))) (hi := (some (.int .i64 x12))) s3.2.1 x12 x14 (fun e => by cases e) rfl rfl rfl (by kernel_rfl) (by kernel_rfl) Tryd.underlying38 (by kernel_rfl) (.inr ⟨_, rfl⟩) (.inr ⟨_, rfl⟩) hx15 (hpa0_0.below hB5 hX0).1 ?_
    intro a16 c17 hsub18
    have hp19 := hsub18 _ _ hpa0_0
    refine bindE h2 ?_; clear h2; intro r20 hr21 h2
    refine gv_call0 (by kernel_rfl) rfl (by kernel_rfl) enters26 (ref4_String_ok fuel a16 c17 x14 w4 (fun k => X0 k) (fun k hk => (fun k (hk : X0 k) => ltl (hX0 k hk) hB5.size) k hk) ((hp19.below hB5 hX0).wide (fun k hk => hk)) r20 hr21) ?_
    rintro v24 w22 ⟨hg23, rfl⟩
    refine gv_new0 (fun b => .slice (some ⟨b, 0, none⟩) 1 1) #[(.string r20)] 9 (by kernel_rfl) (by kernel_rfl) ?_
    intro b25 w26 hg27 hb28 hbe29 hz30
    have ho31 : Gv.Own sE 9 w26 (fun _ => False) (some ⟨b25, 0, none⟩) 1 ([r20] : List ByteArray) := Box.ownE hb28 ⟨[(.string r20)], [], rfl, rfl, rfl⟩ (show 1 ≤ maxLen by decide) (fun h => h)
    have hB36 := bg hB5 hg23 nb
    have hl32 : ∀ g, blk (some ⟨b25, 0, none⟩) = some g → w0.heap.size ≤ g := loo hbe29 hB36.size
    refine bindE h2 ?_; clear h2; intro l37 hx38 h2
    have hg45 := (grown_trans hg23 hg27)
    have hk46 := ho9.grown hg45 (fun _ h => h.elim) nb
    refine gv_append sE (t := 22) (ty := 22) (e := 9) (a := a7) (ax := (some ⟨b25, 0, none⟩)) (cap := c8) (cx := 1) (xs := s3.1) (ys := ([r20] : List ByteArray)) l37 (X := (fun _ => False)) (Y := (fun k => blk (some ⟨b25, 0, none⟩) = some k)) (by decide) rfl rfl (by kernel_rfl) (by kernel_rfl) Tryd.underlying22 info9 hk46 (ho31.rd (Y := fun k => blk (some ⟨b25, 0, none⟩) = some k) (fun _ h => h.elim) (fun g e => e)) hx38 (.inr fun _ _ _ _ _ h => h) (fun _ h => h.elim) ?_
    intro a39 c40 w41 hg42 ho43 hk44
    refine ⟨(fun e => by cases e), ?_⟩
    have hB48 := bg hB36 hg27 nb
    have hl47 : ∀ g, blk a39 = some g → w0.heap.size ≤ g := blk_step hk44 hl10 hB48.size
    have hk50 := ho9.grown hg23 (fun _ h => h.elim) nb
    have ap51 : ∀ g, blk a7 = some g → ¬ (fun k => blk (some ⟨b25, 0, none⟩) = some k) g := fun g e hx => nl ((lowo hbe29) _ hx) ((fun k (hk : blk a7 = some k) => hk50.lt k hk) g e)
    have ap49 : ∀ g, blk a39 = some g → ¬ (fun k => blk (some ⟨b25, 0, none⟩) = some k) g := blk_neX hk44 ap51 (fun k (hk : blk (some ⟨b25, 0, none⟩) = some k) => ho31.lt k hk)
    have ap53 : ∀ g, blk (some ⟨b25, 0, none⟩) = some g → ¬ (fun k => blk a7 = some k) g := fun g e hx => nl ((lowo hbe29) g e) ((fun k (hk : blk a7 = some k) => hk50.lt k hk) _ hx)
    have ap52 : ∀ g, blk (some ⟨b25, 0, none⟩) = some g → ¬ (fun k => blk a39 = some k) g := fun g e h => blk_rev hk44 (fun h => ((ap53) g e) h) (ho31.lt g e) h
    refine gv_pureN 1 [7] [(7, (.slice a39 (List.length l37) c40))] (by kernel_rfl) ?_
    refine gv_nil <| gv_region <| gv_pureN 2 [27, 28] [(27, (.slice pa1_0 (List.length places_1) pc1_0)), (28, (.int .i64 s3.2.2))] (by kernel_rfl) ?_
    refine bindE h2 ?_; clear h2; intro x54 hx55 h2
    have hB56 := bg hB48 hg42 hl10
    refine gv_idxaddr (t := 38) (e := 3) (a := pa1_0) (len := List.length places_1) (cap := pc1_0) (kk := .i64) (i := s3.2.2) (sz := 1) [] (fun e => by cases e) rfl rfl rfl (by kernel_rfl) (by kernel_rfl) Tryd.underlying38 (by kernel_rfl) ((hpa1_0.below hB56 hX0).has hx55) (idx_spec hx55).1 (idx_spec hx55).2.1 rfl ?_
    refine gv_load (t := 3) (A := (elemAddr pa1_0 ((s3.2.2 : Int).toNat * 1))) (.int .i64 x54) [] (fun e => by cases e) rfl rfl rfl (by kernel_rfl) (by kernel_rfl) (by kernel_rfl) (inw0 ((hpa1_0.below hB56 hX0).cell hx55)) rfl ?_
    refine gv_pureN 3 [8, 31, 32] [(8, (.int .i64 (IntKind.i64.wrap (x54 + length_2))))] (by kernel_rfl) ?_
    refine gv_nil <| gv_blk <| gv_region <| gv_pureN 3 [9, 14, 15] [(9, (.int .i64 (IntKind.i64.wrap (s3.2.2 + 1))))] (by kernel_rfl) ?_
    refine gv_sub [0, 1, 2, 7, 8, 9] (σ' := [(0, (.slice pa0_0 (List.length l_0) pc0_0)), (1, (.slice pa1_0 (List.length places_1) pc1_0)), (2, (.int .i64 length_2)), (7, (.slice a39 (List.length l37) c40)), (8, (.int .i64 (IntKind.i64.wrap (x54 + length_2)))), (9, (.int .i64 (IntKind.i64.wrap (s3.2.2 + 1))))]) (by kernel_rfl) ?_
    refine gv_nil ?_
    have e := sj h2; subst e
    refine gv_goal fun a hd hs hok => ?_
    have hz57 := (nt (nt (nt hz6 hg23.size) hg27.size) hg42.size)
    exact ⟨(l37, (IntKind.i64.wrap (x54 + length_2)), (IntKind.i64.wrap (s3.2.2 + 1))), rfl, a39, c40, hB56, hz57, ho43, hl47, hd, hs, ok_pick [0, 1, 2, 7, 8, 9] hok (by kernel_rfl)⟩
   ·replace h2 := ite_f hc11 h2
    refine gv_cexit <| gv_exit rfl ?_
    have e := sj h2; subst e
    replace h1 := congrArg some (hR2 _ rfl)
    have e := sj h1; subst e
    refine gv_goal fun a hd hs hok => ?_
    have hz58 := hz6
    exact ⟨a7, c8, hB5, hz58, ho9, hl10, hd, hs, ok_pick [0, 7, 8] hok (by kernel_rfl)⟩
 ·rintro a w2 ⟨a61, c62, hB59, hz60, ho63, hl64, hd, hs, hok⟩
  refine gv_in ?_ hd hs hok
  clear hd hs hok
  refine gv_seq <| gv_region <| gv_pureN 3 [33, 34, 35] [(33, (.slice a61 (List.length j1.1) c62)), (34, (.slice pa0_0 (List.length l_0) pc0_0)), (35, (.int .i64 j1.2))] (by kernel_rfl) ?_
  refine bindE h0 ?_; clear h0; intro x65 hx66 h0
  refine gv_ssl2 (iE .i64) (t := 38) (e := 3) (xs := l_0) (a := pa0_0) (cap := pc0_0) (lo := (some (.int .i64 j1.2))) (hi := none) j1.2 ((List.length l_0 : Nat) : Int) x65 (fun e => by cases e) rfl rfl rfl (by kernel_rfl) (by kernel_rfl) Tryd.underlying38 (by kernel_rfl) (.inr ⟨_, rfl⟩) (.inl ⟨rfl, rfl⟩) hx66 (hpa0_0.below hB59 hX0).1 ?_
  intro a67 c68 hsub69
  have hp70 := hsub69 _ _ hpa0_0
  refine bindE h0 ?_; clear h0; intro r71 hr72 h0
  refine gv_call0 (by kernel_rfl) rfl (by kernel_rfl) enters26 (ref4_String_ok fuel a67 c68 x65 w2 (fun k => X0 k) (fun k hk => (fun k (hk : X0 k) => ltl (hX0 k hk) hB59.size) k hk) ((hp70.below hB59 hX0).wide (fun k hk => hk)) r71 hr72) ?_
  rintro v75 w73 ⟨hg74, rfl⟩
  refine gv_new0 (fun b => .slice (some ⟨b, 0, none⟩) 1 1) #[(.string r71)] 9 (by kernel_rfl) (by kernel_rfl) ?_
  intro b76 w77 hg78 hb79 hbe80 hz81
  have ho82 : Gv.Own sE 9 w77 (fun _ => False) (some ⟨b76, 0, none⟩) 1 ([r71] : List ByteArray) := Box.ownE hb79 ⟨[(.string r71)], [], rfl, rfl, rfl⟩ (show 1 ≤ maxLen by decide) (fun h => h)
  have hB87 := bg hB59 hg74 nb
  have hl83 : ∀ g, blk (some ⟨b76, 0, none⟩) = some g → w0.heap.size ≤ g := loo hbe80 hB87.size
  refine bindE h0 ?_; clear h0; intro l88 hx89 h0
  have hg96 := (grown_trans hg74 hg78)
  have hk97 := ho63.grown hg96 (fun _ h => h.elim) nb
  refine gv_append sE (t := 22) (ty := 22) (e := 9) (a := a61) (ax := (some ⟨b76, 0, none⟩)) (cap := c62) (cx := 1) (xs := j1.1) (ys := ([r71] : List ByteArray)) l88 (X := (fun _ => False)) (Y := (fun k => blk (some ⟨b76, 0, none⟩) = some k)) (by decide) rfl rfl (by kernel_rfl) (by kernel_rfl) Tryd.underlying22 info9 hk97 (ho82.rd (Y := fun k => blk (some ⟨b76, 0, none⟩) = some k) (fun _ h => h.elim) (fun g e => e)) hx89 (.inr fun _ _ _ _ _ h => h) (fun _ h => h.elim) ?_
  intro a90 c91 w92 hg93 ho94 hk95
  refine ⟨(fun e => by cases e), ?_⟩
  have hB99 := bg hB87 hg78 nb
  have hl98 : ∀ g, blk a90 = some g → w0.heap.size ≤ g := blk_step hk95 hl64 hB99.size
  have hk101 := ho63.grown hg74 (fun _ h => h.elim) nb
  have ap102 : ∀ g, blk a61 = some g → ¬ (fun k => blk (some ⟨b76, 0, none⟩) = some k) g := fun g e hx => nl ((lowo hbe80) _ hx) ((fun k (hk : blk a61 = some k) => hk101.lt k hk) g e)
  have ap100 : ∀ g, blk a90 = some g → ¬ (fun k => blk (some ⟨b76, 0, none⟩) = some k) g := blk_neX hk95 ap102 (fun k (hk : blk (some ⟨b76, 0, none⟩) = some k) => ho82.lt k hk)
  have ap104 : ∀ g, blk (some ⟨b76, 0, none⟩) = some g → ¬ (fun k => blk a61 = some k) g := fun g e hx => nl ((lowo hbe80) g e) ((fun k (hk : blk a61 = some k) => hk101.lt k hk) _ hx)
  have ap103 : ∀ g, blk (some ⟨b76, 0, none⟩) = some g → ¬ (fun k => blk a90 = some k) g := fun g e h => blk_rev hk95 (fun h => ((ap104) g e) h) (ho82.lt g e) h
  refine gv_pureN 1 [6] [(6, (.slice a90 (List.length l88) c91))] (by kernel_rfl) ?_
  refine gv_nil <| gv_cret ?_
  have e := sj h0; subst e
  refine gv_ret (gv_done [(.slice a90 (List.length l88) c91)] rfl ⟨(by kernel_rfl), trivial⟩ ?_)
  have hB105 := bg hB99 hg93 hl64
  exact ⟨grown_of_below hB105, a90, c91, rfl, ho94, hl98⟩

theorem textstr_SplitLast_ok (fuel : Nat) (s_0 : ByteArray) (sep_1 : ByteArray) (most_2 : Int) (w0 : World) (X0 : Nat → Prop) (hX0 : ∀ k, X0 k → k < w0.heap.size) (hG1 : Rd bE w0 X0 (some ⟨1, 0, none⟩) 256 utf8First) (hG2 : Rd (prE (iE .u8) (iE .u8)) w0 X0 (some ⟨2, 0, none⟩) 16 utf8Acc) (r0 : ((List ByteArray) × (Int × Int))) (h0 : textstr_SplitLast fuel s_0 sep_1 most_2 = some r0) :
    Calls Tryd.prog 47 ([(.string s_0), (.string sep_1), (.int .i64 most_2)] : List Value).toArray w0 (Ret fun v w' => w0.grownBy w' none ∧ ∃ (a0_0r : Option Addr) (c0_0r : Nat), ∃ (X0_0r : Nat → Prop), v = tup [(.slice a0_0r (List.length r0.1) c0_0r), (.agg #[(.int .i64 r0.2.1), (.int .i64 r0.2.2)])] ∧ Rd sE w' X0_0r a0_0r c0_0r r0.1 ∧ (∀ k, X0_0r k → k < w'.heap.size ∧ (X0 k ∨ w0.heap.size ≤ k))) := by
 have hB0 : Below w0.heap.size w0 w0 := Below.refl _ _
 unfold textstr_SplitLast at h0
 refine calls_run Tryd.func47 rfl Tryd.ntmps47 (by kernel_rfl) ?_
 refine gv_sub [0, 1, 2] (σ' := [(0, (.string s_0)), (1, (.string sep_1)), (2, (.int .i64 most_2))]) (by kernel_rfl) ?_
 refine gv_seq <| gv_region <| gv_pureN 1 [6] [] (by kernel_rfl) ?_
 refine gv_new0 (fun b => .pointer (some ⟨b, 0, none⟩)) #[(.int .i64 0), (.int .i64 0)] 24 (by kernel_rfl) (by kernel_rfl) ?_
 intro b1 w2 hg3 hb4 hbe5 hz6
 refine gv_nil <| gv_seq <| gv_seq <| gv_region <| gv_pureN 2 [13, 14] [(13, (.string s_0)), (14, (.string sep_1))] (by kernel_rfl) ?_
 refine gv_new0 (fun b => .slice (some ⟨b, 0, none⟩) 2 2) #[(.string s_0), (.string sep_1)] 9 (by kernel_rfl) (by kernel_rfl) ?_
 intro b7 w8 hg9 hb10 hbe11 hz12
 have ho13 : Gv.Own sE 9 w8 (fun _ => False) (some ⟨b7, 0, none⟩) 2 ([s_0, sep_1] : List ByteArray) := Box.ownE hb10 ⟨[(.string s_0)], [(.string sep_1)], rfl, rfl, ⟨[(.string sep_1)], [], rfl, rfl, rfl⟩⟩ (show 2 ≤ maxLen by decide) (fun h => h)
 have hB18 := bg hB0 hg3 nb
 have hl14 : ∀ g, blk (some ⟨b7, 0, none⟩) = some g → w0.heap.size ≤ g := loo hbe11 hB18.size
 refine bindE h0 ?_; clear h0; intro r19 hr20 h0
 have hB21 := bg hB18 hg9 nb
 refine gv_call0 (by kernel_rfl) rfl (by kernel_rfl) enters58 (textstr_check_ok fuel (some ⟨b7, 0, none⟩) 2 ([s_0, sep_1] : List ByteArray) w8 (fun k => (fun k => blk (some ⟨b7, 0, none⟩) = some k) k ∨ X0 k ∨ X0 k) (fun k hk => (hk).elim (fun h => (fun k (hk : blk (some ⟨b7, 0, none⟩) = some k) => ho13.lt k hk) k h) (fun h => (h).elim (fun h => (fun k (hk : X0 k) => ltl (hX0 k hk) hB21.size) k h) (fun h => (fun k (hk : X0 k) => ltl (hX0 k hk) hB21.size) k h))) ((ho13.rd (Y := fun k => blk (some ⟨b7, 0, none⟩) = some k) (fun _ h => h.elim) (fun g e => e)).wide (fun k hk => (.inl hk))) ((hG1.below hB21 hX0).wide (fun k hk => (.inr (.inl hk)))) ((hG2.below hB21 hX0).wide (fun k hk => (.inr (.inr hk)))) r19 hr20) ?_
 rintro v24 w22 ⟨hg23, rfl⟩
 refine gv_new0 (fun b => .pointer (some ⟨b, 0, none⟩)) #[(.int .i64 0), (.int .i64 0)] 24 (by kernel_rfl) (by kernel_rfl) ?_
 intro b25 w26 hg27 hb28 hbe29 hz30
 refine gv_store0 24 0 (.agg #[(.int .i64 r19.1), (.int .i64 r19.2)]) #[(.int .i64 r19.1), (.int .i64 r19.2)] hb28 (by kernel_rfl) (by kernel_rfl) (by kernel_rfl) ?_
 intro w31 hg32 hb33 hz34
 refine gv_nil <| gv_seq <| gv_region <| gv_pureN 1 [17] [(17, (bp b25))] (by kernel_rfl) ?_
 refine gv_load (t := 3) (A := ⟨b25, 0, none⟩) (.int .i64 r19.1) [] (fun e => by cases e) rfl rfl rfl (by kernel_rfl) (by kernel_rfl) (by kernel_rfl) (inw0 (hb33.cell 0 rfl)) rfl ?_
 refine gv_pureN 1 [19] [(19, (.bool (r19.1 != 0)))] (by kernel_rfl) ?_
 refine gv_nil <| gv_cond (b := (r19.1 != 0)) (by kernel_rfl) (fun hc35 => ?_) (fun hc35 => ?_)
 ·replace h0 := ite_t hc35 h0
  refine gv_seq <| gv_drawA (by kernel_rfl) ?_
  intro w36 hg37
  refine gv_pre [1] (bA 3 [1]) 2 (by kernel_rfl) (by kernel_rfl) ?_
  refine gv_pureN 1 [6] [(6, (.slice none (List.length ([] : List ByteArray)) 0))] (by kernel_rfl) ?_
  refine gv_nil <| gv_goA ?_
  refine gv_stage (Cls w36 []) [0, 1] [(0, some true)] (bA 3 [0, 1]) 1 (by kernel_rfl) (by kernel_rfl) (Cls.refl _ _) ?_
  have hC38 := Cls.refl w36 []
  have hk39 := hb33.grown hg37 nb
  refine gv_loadBox (t := 24) (b := b25) (t' := 24) (fr := (0, 0)) #[(.int .i64 r19.1), (.int .i64 r19.2)] [] (fun e => by cases e) rfl rfl rfl (by kernel_rfl) (by kernel_rfl) (by kernel_rfl) (by kernel_rfl) (inw1 fun w' hC' => (hC'.box hk39 nm_nil)) rfl ?_
  refine gv_nil <| gv_goA ?_
  refine gv_stage (fun _ => True) [0, 1, 2] [(2, some false)] (bA 3 [0, 1, 2]) 0 (by kernel_rfl) (by kernel_rfl) trivial ?_
  have hg44 := (grown_trans (grown_trans hg9 hg23) hg27)
  have hg45 := (grown_trans hg9 hg23)
  have hk46 := hb4.grown hg45 nb
  have lt47 := ltl ((ltb hk46) _ rfl) ((lowb hbe29) _ rfl)
  have hk48 := ((hb4.grown hg44 nb).grown hg32 (rowne (ng lt47))).grown hg37 nb
  refine gv_store (t := 24) (b := b1) (off := 0) (v := (.agg #[(.int .i64 r19.1), (.int .i64 r19.2)])) (t' := 24) (cs := #[(.int .i64 0), (.int .i64 0)]) #[(.int .i64 r19.1), (.int .i64 r19.2)] (by decide) rfl rfl (by kernel_rfl) (by kernel_rfl) (by kernel_rfl) (by intro u hu; simp [Value.cells] at hu; rcases hu with rfl | rfl <;> rfl) (show 0 + 2 ≤ 2 by decide) (by rfl) hk48 ?_
  intro w40 hg41 hb42 hz43
  refine ⟨(fun _ => trivial), ?_⟩
  refine gv_nil <| gv_goA ?_
  refine gv_stageE (by kernel_rfl) ?_
  refine gv_cret ?_
  have e := sj h0; subst e
  refine gv_ret (gv_done [(.slice none (List.length ([] : List ByteArray)) 0), (.agg #[(.int .i64 r19.1), (.int .i64 r19.2)])] rfl ⟨(by kernel_rfl), ⟨⟨b1, 0, none⟩, (by kernel_rfl), run_loadVar_row w40 b1 _ 24 _ _ _ hb42 Tryd.underlying24 rfl (by kernel_rfl)⟩, trivial⟩ ?_)
  have hg49 := (grown_trans hg23 hg27)
  have hB50 := bg hB21 hg49 nb
  have hB51 := bg hB21 hg23 nb
  have hlo52 : w0.heap.size ≤ b25 := lob hbe29 hB51.size
  have hB53 := bg hB50 hg32 (rowlo hlo52)
  have hB54 := bg hB53 hg37 nb
  have hlo55 : w0.heap.size ≤ b1 := lob hbe5 hB0.size
  have hB56 := bg hB54 hg41 (rowlo hlo55)
  exact ⟨grown_of_below hB56, none, 0, (fun _ => False), rfl, (Rd.nil sE w40 (fun _ => False) none 0), (fun k hk => ⟨(fun _ h => h.elim) k hk, (fun _ h => h.elim) k hk⟩)⟩
 ·replace h0 := ite_f hc35 h0
  refine gv_skip <| gv_seq <| gv_seq <| gv_region <| gv_pureN 2 [21, 22] [(22, (.bool (sep_1.toList == (strOf []).toList)))] (by kernel_rfl) ?_
  refine gv_nil <| gv_cond (b := (sep_1.toList == (strOf []).toList)) (by kernel_rfl) (fun hc57 => ?_) (fun hc57 => ?_)
  ·replace h0 := ite_t hc57 h0
   refine gv_seq <| gv_region <| bindE h0 ?_; clear h0; intro r58 hr59 h0
   refine gv_call0 (by kernel_rfl) rfl (by kernel_rfl) enters56 (textstr_at_ok fuel 10 (-2) w31  r58 hr59) ?_
   rintro v62 w60 ⟨hg61, rfl⟩
   clear hr59 hc57 hc35 hz34 hb33 hz30 hb28 hr20 hl14 hB18 ho13 hz12 hbe11 hb10 hz6 hg3
   refine gv_pureN 1 [6] [(6, (.slice none (List.length ([] : List ByteArray)) 0))] (by kernel_rfl) ?_
   have hg67 := (grown_trans (grown_trans hg9 hg23) hg27)
   have hg68 := (grown_trans hg9 hg23)
   have hk69 := hb4.grown hg68 nb
   have lt70 := ltl ((ltb hk69) _ rfl) ((lowb hbe29) _ rfl)
   have hk71 := ((hb4.grown hg67 nb).grown hg32 (rowne (ng lt70))).grown hg61 nb
   refine gv_store0 24 0 (.agg #[(.int .i64 r58.1), (.int .i64 r58.2)]) #[(.int .i64 r58.1), (.int .i64 r58.2)] hk71 (by kernel_rfl) (by kernel_rfl) (by kernel_rfl) ?_
   intro w63 hg64 hb65 hz66
   refine gv_nil <| gv_cret ?_
   have e := sj h0; subst e
   refine gv_ret (gv_done [(.slice none (List.length ([] : List ByteArray)) 0), (.agg #[(.int .i64 r58.1), (.int .i64 r58.2)])] rfl ⟨(by kernel_rfl), ⟨⟨b1, 0, none⟩, (by kernel_rfl), run_loadVar_row w63 b1 _ 24 _ _ _ hb65 Tryd.underlying24 rfl (by kernel_rfl)⟩, trivial⟩ ?_)
   have hg72 := (grown_trans hg23 hg27)
   have hB73 := bg hB21 hg72 nb
   have hB74 := bg hB21 hg23 nb
   have hlo75 : w0.heap.size ≤ b25 := lob hbe29 hB74.size
   have hB76 := bg hB73 hg32 (rowlo hlo75)
   have hB77 := bg hB76 hg61 nb
   have hlo78 : w0.heap.size ≤ b1 := lob hbe5 hB0.size
   have hB79 := bg hB77 hg64 (rowlo hlo78)
   exact ⟨grown_of_below hB79, none, 0, (fun _ => False), rfl, (Rd.nil sE w63 (fun _ => False) none 0), (fun k hk => ⟨(fun _ h => h.elim) k hk, (fun _ h => h.elim) k hk⟩)⟩
  ·replace h0 := ite_f hc57 h0
   refine gv_skip <| gv_seq <| gv_region <| gv_pureN 1 [9] [(9, (.slice none (List.length ([] : List ByteArray)) 0))] (by kernel_rfl) ?_
   refine gv_nil <| gv_seq <| gv_seq <| gv_region <| gv_pureN 2 [24, 25] [(24, (.string s_0)), (25, (.string sep_1))] (by kernel_rfl) ?_
   refine bindE h0 ?_; clear h0; intro r80 hr81 h0
   refine gv_call0 (by kernel_rfl) rfl (by kernel_rfl) enters72 (strings_LastIndex_ok fuel s_0 sep_1 w31  r80 hr81) ?_
   rintro v84 w82 ⟨hg83, rfl⟩
   refine gv_pureN 1 [10] [(10, (.int .i64 r80))] (by kernel_rfl) ?_
   refine gv_sub [0, 1, 2, 7, 9, 10] (σ' := [(0, (.string s_0)), (1, (.string sep_1)), (2, (.int .i64 most_2)), (7, (bp b1)), (9, (.slice none (List.length ([] : List ByteArray)) 0)), (10, (.int .i64 r80))]) (by kernel_rfl) ?_
   refine gv_nil <| bindE h0 ?_; clear h0; intro j85 h1 h0
   refine gv_cut_code (J := fun a w86 => ∃ (a9_0j : Option Addr) (c9_0j : Nat), Below w0.heap.size w0 w86 ∧ w82.heap.size ≤ w86.heap.size ∧ Gv.Own sE 9 w86 (fun _ => False) a9_0j c9_0j j85.2 ∧ (∀ g, blk a9_0j = some g → w0.heap.size ≤ g) ∧ (∀ g, blk a9_0j = some g → ¬ (· = b1) g) ∧ ¬ (fun k => blk a9_0j = some k) b1 ∧ Box w86 b1 24 #[(.int .i64 0), (.int .i64 0)] ∧ a.defers = [] ∧ a.tmps.size = 74 ∧ Ok [(0, (.string j85.1)), (7, (bp b1)), (9, (.slice a9_0j (List.length j85.2) c9_0j))] a.tmps) ?_ ?_
   ·skip
    refine gv_block <| gv_loop (A := fun (s87 : (ByteArray × (List ByteArray) × Int)) a w88 => ∃ (a9_0j : Option Addr) (c9_0j : Nat), Below w0.heap.size w0 w88 ∧ w82.heap.size ≤ w88.heap.size ∧ Gv.Own sE 9 w88 (fun _ => False) a9_0j c9_0j s87.2.1 ∧ (∀ g, blk a9_0j = some g → w0.heap.size ≤ g) ∧ (∀ g, blk a9_0j = some g → ¬ (· = b1) g) ∧ ¬ (fun k => blk a9_0j = some k) b1 ∧ Box w88 b1 24 #[(.int .i64 0), (.int .i64 0)] ∧ a.defers = [] ∧ a.tmps.size = 74 ∧ Ok [(0, (.string s87.1)), (1, (.string sep_1)), (2, (.int .i64 most_2)), (7, (bp b1)), (9, (.slice a9_0j (List.length s87.2.1) c9_0j)), (10, (.int .i64 s87.2.2))] a.tmps) h1 ?_ ?_
    ·intro a hd hs hok
     have hg89 := (grown_trans hg23 hg27)
     have hB90 := bg hB21 hg89 nb
     have hB91 := bg hB21 hg23 nb
     have hlo92 : w0.heap.size ≤ b25 := lob hbe29 hB91.size
     have hB93 := bg hB90 hg32 (rowlo hlo92)
     have hB94 := bg hB93 hg83 nb
     have hg95 := (grown_trans hg9 hg89)
     have hg96 := (grown_trans hg9 hg23)
     have hk97 := hb4.grown hg96 nb
     have lt98 := ltl ((ltb hk97) _ rfl) ((lowb hbe29) _ rfl)
     have hk99 := ((hb4.grown hg95 nb).grown hg32 (rowne (ng lt98))).grown hg83 nb
     exact ⟨none, 0, hB94, (Nat.le_refl _), (Gv.Own.nil sE 9 w82 (fun _ => False)), (fun _ h => by cases h), (fun _ h => by cases h), (fun h => by cases h), hk99, hd, hs, ok_pick [0, 1, 2, 7, 9, 10] hok (by kernel_rfl)⟩
    ·rintro s87 r2 h2 hR2 a w88 ⟨a102, c103, hB100, hz101, ho104, hl105, ap106, ap107, hb108, hd, hs, hok⟩
     refine gv_in ?_ hd hs hok
     clear hd hs hok
     clear hg83 hr81 hc57 hc35 hz34 hb33 hg32 hz30 hbe29 hb28 hg27 hg23 hB21 hr20 hl14 hB18 ho13 hz12 hbe11 hb10 hg9 hz6 hb4 hg3
     refine gv_seq <| gv_seq <| gv_region <| gv_cut_ops (J := fun a w109 => w88 = w109 ∧ a.defers = [] ∧ a.tmps.size = 74 ∧ Ok [(0, (.string s87.1)), (1, (.string sep_1)), (2, (.int .i64 most_2)), (7, (bp b1)), (9, (.slice a102 (List.length s87.2.1) c103)), (10, (.int .i64 s87.2.2)), (38, (.bool ((decide (s87.2.2 ≥ 0)) && ((decide (most_2 < 0)) || (decide (((List.length s87.2.1 : Nat) : Int) < most_2))))))] a.tmps) ?_ ?_
     ·skip
      refine gv_pureN 3 [27, 28, 29] [(29, (.bool (decide (s87.2.2 ≥ 0))))] (by kernel_rfl) ?_
      refine gv_split (s := 29) (g := (decide (s87.2.2 ≥ 0))) (by kernel_rfl) (fun hc110 => ?_) (fun hc110 => ?_)
      ·skip
       refine gv_pureN 3 [30, 31, 32] [(32, (.bool (decide (most_2 < 0))))] (by kernel_rfl) ?_
       refine gv_split (s := 32) (g := (decide (most_2 < 0))) (by kernel_rfl) (fun hc111 => ?_) (fun hc111 => ?_)
       ·skip
        refine gv_pureN 6 [33, 34, 35, 36, 37, 38] [(38, (.bool true))] (by kernel_rfl) ?_
        refine gv_nil <| gv_sub [0, 1, 2, 7, 9, 10, 38] (σ' := [(0, (.string s87.1)), (1, (.string sep_1)), (2, (.int .i64 most_2)), (7, (bp b1)), (9, (.slice a102 (List.length s87.2.1) c103)), (10, (.int .i64 s87.2.2)), (38, (.bool true))]) (by kernel_rfl) ?_
        refine gv_goal fun a hd hs hok => ⟨rfl, hd, hs, ?_⟩
        obtain ⟨q0, q1, q2, q7, q9, q10, q38, _⟩ := hok
        exact ⟨q0, q1, q2, q7, q9, q10, (by rw [hc110, hc111]; exact q38), trivial⟩
       ·skip
        refine gv_pureN 6 [33, 34, 35, 36, 37, 38] [(38, (.bool (decide (((List.length s87.2.1 : Nat) : Int) < most_2))))] (by kernel_rfl) ?_
        refine gv_nil <| gv_sub [0, 1, 2, 7, 9, 10, 38] (σ' := [(0, (.string s87.1)), (1, (.string sep_1)), (2, (.int .i64 most_2)), (7, (bp b1)), (9, (.slice a102 (List.length s87.2.1) c103)), (10, (.int .i64 s87.2.2)), (38, (.bool (decide (((List.length s87.2.1 : Nat) : Int) < most_2))))]) (by kernel_rfl) ?_
        refine gv_goal fun a hd hs hok => ⟨rfl, hd, hs, ?_⟩
        obtain ⟨q0, q1, q2, q7, q9, q10, q38, _⟩ := hok
        exact ⟨q0, q1, q2, q7, q9, q10, (by rw [hc110, hc111]; exact q38), trivial⟩
      ·skip
       refine gv_pureN 9 [30, 31, 32, 33, 34, 35, 36, 37, 38] [(38, (.bool false))] (by kernel_rfl) ?_
       refine gv_nil <| gv_sub [0, 1, 2, 7, 9, 10, 38] (σ' := [(0, (.string s87.1)), (1, (.string sep_1)), (2, (.int .i64 most_2)), (7, (bp b1)), (9, (.slice a102 (List.length s87.2.1) c103)), (10, (.int .i64 s87.2.2)), (38, (.bool false))]) (by kernel_rfl) ?_
       refine gv_goal fun a hd hs hok => ⟨rfl, hd, hs, ?_⟩
       obtain ⟨q0, q1, q2, q7, q9, q10, q38, _⟩ := hok
       exact ⟨q0, q1, q2, q7, q9, q10, (by rw [hc110]; exact q38), trivial⟩
     ·rintro a w109 ⟨e, hd, hs, hok⟩; subst e
      refine gv_in ?_ hd hs hok
      clear hd hs hok
      refine gv_cond (b := ((decide (s87.2.2 ≥ 0)) && ((decide (most_2 < 0)) || (decide (((List.length s87.2.1 : Nat) : Int) < most_2))))) (by kernel_rfl) (fun hc112 => ?_) (fun hc112 => ?_)
      ·replace h2 := ite_t hc112 h2
       refine gv_skip <| gv_seq <| gv_block <| gv_seq <| gv_region <| gv_pureN 6 [42, 43, 44, 45, 46, 47] [(42, (.slice a102 (List.length s87.2.1) c103)), (43, (.string s87.1)), (47, (.int .i64 (IntKind.i64.wrap (s87.2.2 + ((ByteArray.size sep_1 : Nat) : Int)))))] (by kernel_rfl) ?_
       refine bindE h2 ?_; clear h2; intro x113 hx114 h2
       refine gv_ssub (t := 9) (s := s87.1) (lo := (some (.int .i64 (IntKind.i64.wrap (s87.2.2 + ((ByteArray.size sep_1 : Nat) : Int)))))) (hi := none) (IntKind.i64.wrap (s87.2.2 + ((ByteArray.size sep_1 : Nat) : Int))) ((ByteArray.size s87.1 : Nat) : Int) x113 [] (fun e => by cases e) rfl rfl rfl (by kernel_rfl) (by kernel_rfl) Tryd.underlying9 (.inr ⟨_, rfl⟩) (.inl ⟨rfl, rfl⟩) hx114 rfl ?_
       refine gv_new0 (fun b => .slice (some ⟨b, 0, none⟩) 1 1) #[(.string x113)] 9 (by kernel_rfl) (by kernel_rfl) ?_
       intro b115 w116 hg117 hb118 hbe119 hz120
       have ho121 : Gv.Own sE 9 w116 (fun _ => False) (some ⟨b115, 0, none⟩) 1 ([x113] : List ByteArray) := Box.ownE hb118 ⟨[(.string x113)], [], rfl, rfl, rfl⟩ (show 1 ≤ maxLen by decide) (fun h => h)
       have hl122 : ∀ g, blk (some ⟨b115, 0, none⟩) = some g → w0.heap.size ≤ g := loo hbe119 hB100.size
       refine bindE h2 ?_; clear h2; intro l126 hx127 h2
       have hk134 := ho104.grown hg117 (fun _ h => h.elim) nb
       refine gv_append sE (t := 22) (ty := 22) (e := 9) (a := a102) (ax := (some ⟨b115, 0, none⟩)) (cap := c103) (cx := 1) (xs := s87.2.1) (ys := ([x113] : List ByteArray)) l126 (X := (fun _ => False)) (Y := (fun k => blk (some ⟨b115, 0, none⟩) = some k)) (by decide) rfl rfl (by kernel_rfl) (by kernel_rfl) Tryd.underlying22 info9 hk134 (ho121.rd (Y := fun k => blk (some ⟨b115, 0, none⟩) = some k) (fun _ h => h.elim) (fun g e => e)) hx127 (.inr fun _ _ _ _ _ h => h) (fun _ h => h.elim) ?_
       intro a128 c129 w130 hg131 ho132 hk133
       refine ⟨(fun e => by cases e), ?_⟩
       have hB136 := bg hB100 hg117 nb
       have hl135 : ∀ g, blk a128 = some g → w0.heap.size ≤ g := blk_step hk133 hl105 hB136.size
       have hk138 := hb108.grown hg117 nb
       have ap137 : ∀ g, blk a128 = some g → ¬ (· = b1) g := blk_neX hk133 ap106 (ltb hk138)
       have ap139 : ¬ (fun k => blk a128 = some k) b1 := fun h => blk_rev hk133 (fun h => (ap107) h) (hk138.lt) h
       have ap141 : ∀ g, blk a102 = some g → ¬ (fun k => blk (some ⟨b115, 0, none⟩) = some k) g := fun g e hx => nl ((lowo hbe119) _ hx) ((fun k (hk : blk a102 = some k) => ho104.lt k hk) g e)
       have ap140 : ∀ g, blk a128 = some g → ¬ (fun k => blk (some ⟨b115, 0, none⟩) = some k) g := blk_neX hk133 ap141 (fun k (hk : blk (some ⟨b115, 0, none⟩) = some k) => ho121.lt k hk)
       have ap143 : ∀ g, blk (some ⟨b115, 0, none⟩) = some g → ¬ (fun k => blk a102 = some k) g := fun g e hx => nl ((lowo hbe119) g e) ((fun k (hk : blk a102 = some k) => ho104.lt k hk) _ hx)
       have ap142 : ∀ g, blk (some ⟨b115, 0, none⟩) = some g → ¬ (fun k => blk a128 = some k) g := fun g e h => blk_rev hk133 (fun h => ((ap143) g e) h) (ho121.lt g e) h
       refine gv_pureN 1 [9] [(9, (.slice a128 (List.length l126) c129))] (by kernel_rfl) ?_
       refine gv_nil <| gv_region <| gv_pureN 2 [51, 52] [(51, (.string s87.1)), (52, (.int .i64 s87.2.2))] (by kernel_rfl) ?_
       refine bindE h2 ?_; clear h2; intro x144 hx145 h2
       refine gv_ssub (t := 9) (s := s87.1) (lo := none) (hi := (some (.int .i64 s87.2.2))) 0 s87.2.2 x144 [] (fun e => by cases e) rfl rfl rfl (by kernel_rfl) (by kernel_rfl) Tryd.underlying9 (.inl ⟨rfl, rfl⟩) (.inr ⟨_, rfl⟩) hx145 rfl ?_
       refine gv_pureN 1 [0] [(0, (.string x144))] (by kernel_rfl) ?_
       refine gv_nil <| gv_blk <| gv_region <| gv_pureN 2 [39, 40] [(39, (.string x144)), (40, (.string sep_1))] (by kernel_rfl) ?_
       refine bindE h2 ?_; clear h2; intro r146 hr147 h2
       refine gv_call0 (by kernel_rfl) rfl (by kernel_rfl) enters72 (strings_LastIndex_ok fuel x144 sep_1 w130  r146 hr147) ?_
       rintro v150 w148 ⟨hg149, rfl⟩
       refine gv_pureN 1 [10] [(10, (.int .i64 r146))] (by kernel_rfl) ?_
       refine gv_nil ?_
       have e := sj h2; subst e
       refine gv_goal fun a hd hs hok => ?_
       have hB151 := bg hB136 hg131 hl105
       have hB152 := bg hB151 hg149 nb
       have hz153 := (nt (nt (nt hz101 hg117.size) hg131.size) hg149.size)
       have hk154 := ho132.grown hg149 (fun _ h => h.elim) nb
       have hk155 := (hk138.grown hg131 ap106).grown hg149 nb
       exact ⟨(x144, l126, r146), rfl, a128, c129, hB152, hz153, hk154, hl135, ap137, ap139, hk155, hd, hs, ok_pick [0, 1, 2, 7, 9, 10] hok (by kernel_rfl)⟩
      ·replace h2 := ite_f hc112 h2
       refine gv_cexit <| gv_exit rfl ?_
       have e := sj h2; subst e
       replace h1 := congrArg some (hR2 _ rfl)
       have e := sj h1; subst e
       refine gv_goal fun a hd hs hok => ?_
       have hz156 := hz101
       exact ⟨a102, c103, hB100, hz156, ho104, hl105, ap106, ap107, hb108, hd, hs, ok_pick [0, 7, 9] hok (by kernel_rfl)⟩
   ·rintro a w86 ⟨a159, c160, hB157, hz158, ho161, hl162, ap163, ap164, hb165, hd, hs, hok⟩
    refine gv_in ?_ hd hs hok
    clear hd hs hok
    clear hz158 hg83 hr81 hc57 hc35 hz34 hb33 hg32 hz30 hbe29 hb28 hg27 hg23 hB21 hr20 hl14 hB18 ho13 hz12 hbe11 hb10 hg9 hz6 hb4 hg3
    refine gv_seq <| gv_region <| gv_pureN 1 [54] [(54, (.string j85.1))] (by kernel_rfl) ?_
    refine gv_new0 (fun b => .slice (some ⟨b, 0, none⟩) 1 1) #[(.string j85.1)] 9 (by kernel_rfl) (by kernel_rfl) ?_
    intro b166 w167 hg168 hb169 hbe170 hz171
    have ho172 : Gv.Own sE 9 w167 (fun _ => False) (some ⟨b166, 0, none⟩) 1 ([j85.1] : List ByteArray) := Box.ownE hb169 ⟨[(.string j85.1)], [], rfl, rfl, rfl⟩ (show 1 ≤ maxLen by decide) (fun h => h)
    have hl173 : ∀ g, blk (some ⟨b166, 0, none⟩) = some g → w0.heap.size ≤ g := loo hbe170 hB157.size
    refine gv_pureN 1 [11] [(11, (.slice (some ⟨b166, 0, none⟩) (List.length ([j85.1] : List ByteArray)) 1))] (by kernel_rfl) ?_
    refine gv_nil <| gv_seq <| gv_seq <| gv_region <| gv_pureN 4 [12, 56, 57, 58] [(12, (.int .i64 (IntKind.i64.wrap (((List.length j85.2 : Nat) : Int) - 1))))] (by kernel_rfl) ?_
    refine bindE h0 ?_; clear h0; intro n177 hn178 h0
    refine gv_name (s := 12) (v := (.int .i64 (IntKind.i64.wrap (((List.length j85.2 : Nat) : Int) - 1)))) (v' := (.int .i64 n177)) (by kernel_rfl) (congrArg (Value.int .i64) (sj hn178)) ?_
    refine gv_nil <| bindE h0 ?_; clear h0; intro j179 h1 h0
    refine gv_cut_code (J := fun a w180 => ∃ (a11_0j : Option Addr) (c11_0j : Nat), Below w0.heap.size w0 w180 ∧ w167.heap.size ≤ w180.heap.size ∧ Gv.Own sE 9 w180 (fun _ => False) a11_0j c11_0j j179 ∧ (∀ g, blk a11_0j = some g → w0.heap.size ≤ g) ∧ (∀ g, blk a11_0j = some g → ¬ (· = b1) g) ∧ ¬ (fun k => blk a11_0j = some k) b1 ∧ Box w180 b1 24 #[(.int .i64 0), (.int .i64 0)] ∧ a.defers = [] ∧ a.tmps.size = 74 ∧ Ok [(7, (bp b1)), (11, (.slice a11_0j (List.length j179) c11_0j))] a.tmps) ?_ ?_
    ·skip
     refine gv_block <| gv_loop (A := fun (s181 : ((List ByteArray) × Int)) a w182 => ∃ (a11_0j : Option Addr) (c11_0j : Nat), Below w0.heap.size w0 w182 ∧ w167.heap.size ≤ w182.heap.size ∧ Gv.Own sE 9 w182 (fun _ => False) a11_0j c11_0j s181.1 ∧ (∀ g, blk a11_0j = some g → w0.heap.size ≤ g) ∧ (∀ g, blk a11_0j = some g → ¬ (· = b1) g) ∧ (∀ g, blk a11_0j = some g → ¬ (fun k => blk a159 = some k) g) ∧ ¬ (fun k => blk a11_0j = some k) b1 ∧ (∀ g, blk a159 = some g → ¬ (fun k => blk a11_0j = some k) g) ∧ Box w182 b1 24 #[(.int .i64 0), (.int .i64 0)] ∧ Gv.Own sE 9 w182 (fun _ => False) a159 c160 j85.2 ∧ a.defers = [] ∧ a.tmps.size = 74 ∧ Ok [(7, (bp b1)), (9, (.slice a159 (List.length j85.2) c160)), (11, (.slice a11_0j (List.length s181.1) c11_0j)), (12, (.int .i64 s181.2))] a.tmps) h1 ?_ ?_
     ·intro a hd hs hok
      have hB183 := bg hB157 hg168 nb
      have ap184 : ∀ g, blk (some ⟨b166, 0, none⟩) = some g → ¬ (· = b1) g := fun g e hx => nl ((lowo hbe170) g e) ((ltb hb165) _ hx)
      have ap185 : ∀ g, blk (some ⟨b166, 0, none⟩) = some g → ¬ (fun k => blk a159 = some k) g := fun g e hx => nl ((lowo hbe170) g e) ((fun k (hk : blk a159 = some k) => ho161.lt k hk) _ hx)
      have ap186 : ¬ (fun k => blk (some ⟨b166, 0, none⟩) = some k) b1 := fun hx => nl ((lowo hbe170) _ hx) ((ltb hb165) _ rfl)
      have ap187 : ∀ g, blk a159 = some g → ¬ (fun k => blk (some ⟨b166, 0, none⟩) = some k) g := fun g e hx => nl ((lowo hbe170) _ hx) ((fun k (hk : blk a159 = some k) => ho161.lt k hk) g e)
      have hk188 := hb165.grown hg168 nb
      have hk189 := ho161.grown hg168 (fun _ h => h.elim) nb
      exact ⟨(some ⟨b166, 0, none⟩), 1, hB183, (Nat.le_refl _), ho172, hl173, ap184, ap185, ap186, ap187, hk188, hk189, hd, hs, ok_pick [7, 9, 11, 12] hok (by kernel_rfl)⟩
     ·rintro s181 r2 h2 hR2 a w182 ⟨a192, c193, hB190, hz191, ho194, hl195, ap196, ap197, ap198, ap199, hb200, hk201, hd, hs, hok⟩
      refine gv_in ?_ hd hs hok
      clear hd hs hok
      clear hn178 hl173 ho172 hz171 hbe170 hb169 hg168 hb165 ho161 hB157
      refine gv_seq <| gv_seq <| gv_region <| gv_pureN 2 [59, 60] [(60, (.bool (decide (s181.2 ≥ 0))))] (by kernel_rfl) ?_
      refine gv_nil <| gv_cond (b := (decide (s181.2 ≥ 0))) (by kernel_rfl) (fun hc202 => ?_) (fun hc202 => ?_)
      ·replace h2 := ite_t hc202 h2
       refine gv_skip <| gv_seq <| gv_block <| gv_region <| gv_pureN 3 [63, 64, 65] [(63, (.slice a192 (List.length s181.1) c193)), (64, (.slice a159 (List.length j85.2) c160)), (65, (.int .i64 s181.2))] (by kernel_rfl) ?_
       refine bindE h2 ?_; clear h2; intro x203 hx204 h2
       refine gv_idxaddr (t := 22) (e := 9) (a := a159) (len := List.length j85.2) (cap := c160) (kk := .i64) (i := s181.2) (sz := 1) [] (fun e => by cases e) rfl rfl rfl (by kernel_rfl) (by kernel_rfl) Tryd.underlying22 (by kernel_rfl) ((hk201.rd (Y := fun k => blk a159 = some k) (fun _ h => h.elim) (fun g e => e)).has hx204) (idx_spec hx204).1 (idx_spec hx204).2.1 rfl ?_
       refine gv_load (t := 9) (A := (elemAddr a159 ((s181.2 : Int).toNat * 1))) (.string x203) [] (fun e => by cases e) rfl rfl rfl (by kernel_rfl) (by kernel_rfl) (by kernel_rfl) (inw0 ((hk201.rd (Y := fun k => blk a159 = some k) (fun _ h => h.elim) (fun g e => e)).cell hx204)) rfl ?_
       refine gv_new0 (fun b => .slice (some ⟨b, 0, none⟩) 1 1) #[(.string x203)] 9 (by kernel_rfl) (by kernel_rfl) ?_
       intro b205 w206 hg207 hb208 hbe209 hz210
       have ho211 : Gv.Own sE 9 w206 (fun _ => False) (some ⟨b205, 0, none⟩) 1 ([x203] : List ByteArray) := Box.ownE hb208 ⟨[(.string x203)], [], rfl, rfl, rfl⟩ (show 1 ≤ maxLen by decide) (fun h => h)
       have hl212 : ∀ g, blk (some ⟨b205, 0, none⟩) = some g → w0.heap.size ≤ g := loo hbe209 hB190.size
       refine bindE h2 ?_; clear h2; intro l216 hx217 h2
       have hk224 := ho194.grown hg207 (fun _ h => h.elim) nb
       refine gv_append sE (t := 22) (ty := 22) (e := 9) (a := a192) (ax := (some ⟨b205, 0, none⟩)) (cap := c193) (cx := 1) (xs := s181.1) (ys := ([x203] : List ByteArray)) l216 (X := (fun _ => False)) (Y := (fun k => blk (some ⟨b205, 0, none⟩) = some k)) (by decide) rfl rfl (by kernel_rfl) (by kernel_rfl) Tryd.underlying22 info9 hk224 (ho211.rd (Y := fun k => blk (some ⟨b205, 0, none⟩) = some k) (fun _ h => h.elim) (fun g e => e)) hx217 (.inr fun _ _ _ _ _ h => h) (fun _ h => h.elim) ?_
       intro a218 c219 w220 hg221 ho222 hk223
       refine ⟨(fun e => by cases e), ?_⟩
       have hB226 := bg hB190 hg207 nb
       have hl225 : ∀ g, blk a218 = some g → w0.heap.size ≤ g := blk_step hk223 hl195 hB226.size
       have hk228 := hb200.grown hg207 nb
       have ap227 : ∀ g, blk a218 = some g → ¬ (· = b1) g := blk_neX hk223 ap196 (ltb hk228)
       have ap229 : ¬ (fun k => blk a218 = some k) b1 := fun h => blk_rev hk223 (fun h => (ap198) h) (hk228.lt) h
       have hk231 := hk201.grown hg207 (fun _ h => h.elim) nb
       have ap230 : ∀ g, blk a218 = some g → ¬ (fun k => blk a159 = some k) g := blk_neX hk223 ap197 (fun k (hk : blk a159 = some k) => hk231.lt k hk)
       have ap232 : ∀ g, blk a159 = some g → ¬ (fun k => blk a218 = some k) g := fun g e h => blk_rev hk223 (fun h => ((ap199) g e) h) (hk231.lt g e) h
       have ap234 : ∀ g, blk a192 = some g → ¬ (fun k => blk (some ⟨b205, 0, none⟩) = some k) g := fun g e hx => nl ((lowo hbe209) _ hx) ((fun k (hk : blk a192 = some k) => ho194.lt k hk) g e)
       have ap233 : ∀ g, blk a218 = some g → ¬ (fun k => blk (some ⟨b205, 0, none⟩) = some k) g := blk_neX hk223 ap234 (fun k (hk : blk (some ⟨b205, 0, none⟩) = some k) => ho211.lt k hk)
       have ap236 : ∀ g, blk (some ⟨b205, 0, none⟩) = some g → ¬ (fun k => blk a192 = some k) g := fun g e hx => nl ((lowo hbe209) g e) ((fun k (hk : blk a192 = some k) => ho194.lt k hk) _ hx)
       have ap235 : ∀ g, blk (some ⟨b205, 0, none⟩) = some g → ¬ (fun k => blk a218 = some k) g := fun g e h => blk_rev hk223 (fun h => ((ap236) g e) h) (ho211.lt g e) h
       have hz237 := (nt (nt hz191 hg207.size) hg221.size)
       clear ap235 ap236 ap233 ap234 hk223 hk224 hx217 hl212 ho211 hz210 hbe209 hb208 hg207 hx204 hc202 hk201 hb200 ap199 ap198 ho194 hz191 hB190
       refine gv_pureN 1 [11] [(11, (.slice a218 (List.length l216) c219))] (by kernel_rfl) ?_
       refine gv_nil <| gv_blk <| gv_region <| gv_pureN 3 [12, 61, 62] [(12, (.int .i64 (IntKind.i64.wrap (s181.2 - 1))))] (by kernel_rfl) ?_
       refine gv_nil ?_
       have e := sj h2; subst e
       refine gv_goal fun a hd hs hok => ?_
       have hB238 := bg hB226 hg221 hl195
       have hz239 := hz237
       have hk240 := hk228.grown hg221 ap196
       have hk241 := hk231.grown hg221 (fun _ h => h.elim) (rdnn ap197)
       exact ⟨(l216, (IntKind.i64.wrap (s181.2 - 1))), rfl, a218, c219, hB238, hz239, ho222, hl225, ap227, ap230, ap229, ap232, hk240, hk241, hd, hs, ok_pick [7, 9, 11, 12] hok (by kernel_rfl)⟩
      ·replace h2 := ite_f hc202 h2
       refine gv_cexit <| gv_exit rfl ?_
       have e := sj h2; subst e
       replace h1 := congrArg some (hR2 _ rfl)
       have e := sj h1; subst e
       refine gv_goal fun a hd hs hok => ?_
       have hz242 := hz191
       exact ⟨a192, c193, hB190, hz242, ho194, hl195, ap196, ap198, hb200, hd, hs, ok_pick [7, 11] hok (by kernel_rfl)⟩
    ·rintro a w180 ⟨a245, c246, hB243, hz244, ho247, hl248, ap249, ap250, hb251, hd, hs, hok⟩
     refine gv_in ?_ hd hs hok
     clear hd hs hok
     clear hz244 hn178 hl173 ho172 hz171 hbe170 hb169 hg168 hb165 ap164 ap163 hl162 ho161 hB157
     refine gv_seq <| gv_region <| gv_pureN 1 [70] [(70, (.slice a245 (List.length j179) c246))] (by kernel_rfl) ?_
     refine bindE h0 ?_; clear h0; intro r252 hr253 h0
     refine gv_call0 (by kernel_rfl) rfl (by kernel_rfl) enters57 (textstr_pieces_ok fuel a245 c246 j179 w180 (fun k => (fun k => blk a245 = some k) k) (fun k hk => (fun k (hk : blk a245 = some k) => ho247.lt k hk) k hk) ((ho247.rd (Y := fun k => blk a245 = some k) (fun _ h => h.elim) (fun g e => e)).wide (fun k hk => hk)) r252 hr253) ?_
     rintro v256 w254 ⟨hg255, a257, c258, X260, rfl, ho259, hx261⟩
     have hx262 : ∀ k, X260 k → k < w254.heap.size := fun k hk => (hx261 k hk).1
     have hx263 : ∀ k, X260 k → X0 k ∨ w0.heap.size ≤ k := fun k hk => (hx261 k hk).2.elim (fun h => (fun k (hk : blk a245 = some k) => Or.inr (hl248 k hk)) k h) (fun h => .inr (Nat.le_trans hB243.size h))
     refine gv_pureN 3 [6, 72, 73] [(6, (.slice a257 (List.length r252.1) c258)), (73, (.agg #[(.int .i64 r252.2.1), (.int .i64 r252.2.2)]))] (by kernel_rfl) ?_
     have hk268 := hb251.grown hg255 nb
     refine gv_store0 24 0 (.agg #[(.int .i64 r252.2.1), (.int .i64 r252.2.2)]) #[(.int .i64 r252.2.1), (.int .i64 r252.2.2)] hk268 (by kernel_rfl) (by kernel_rfl) (by kernel_rfl) ?_
     intro w264 hg265 hb266 hz267
     refine gv_nil <| gv_cret ?_
     have e := sj h0; subst e
     refine gv_ret (gv_done [(.slice a257 (List.length r252.1) c258), (.agg #[(.int .i64 r252.2.1), (.int .i64 r252.2.2)])] rfl ⟨(by kernel_rfl), ⟨⟨b1, 0, none⟩, (by kernel_rfl), run_loadVar_row w264 b1 _ 24 _ _ _ hb266 Tryd.underlying24 rfl (by kernel_rfl)⟩, trivial⟩ ?_)
     have hB269 := bg hB243 hg255 nb
     have hlo270 : w0.heap.size ≤ b1 := lob hbe5 hB0.size
     have hB271 := bg hB269 hg265 (rowlo hlo270)
     have ap272 : ¬ X260 b1 := fun h => ((hx261 _ h).2.elim (fun h => (ap250)  h) (fun h => nl h (hb251.lt)))
     have hk273 := ho259.grown hg265 hx262 (rowne ap272)
     have hx274 := ltx hx262 hg265.size
     exact ⟨grown_of_below hB271, a257, c258, X260, rfl, hk273, (fun k hk => ⟨hx274 k hk, hx263 k hk⟩)⟩

theorem stringslite_HasSuffix_ok (fuel : Nat) (s_0 : ByteArray) (suffix_1 : ByteArray) (w0 : World)  (r0 : Bool) (h0 : stringslite_HasSuffix fuel s_0 suffix_1 = some r0) :
    Calls Tryd.prog 131 ([(.string s_0), (.string suffix_1)] : List Value).toArray w0 (Ret fun v w' => w0.grownBy w' none ∧ v = tup [(.bool r0)]) := by
 have hB0 : Below w0.heap.size w0 w0 := Below.refl _ _
 unfold stringslite_HasSuffix at h0
 refine calls_run Tryd.func131 rfl Tryd.ntmps131 (by kernel_rfl) ?_
 refine gv_sub [0, 1] (σ' := [(0, (.string s_0)), (1, (.string suffix_1))]) (by kernel_rfl) ?_
 refine gv_seq <| gv_region <| gv_pureN 1 [4] [] (by kernel_rfl) ?_
 refine gv_nil <| gv_seq <| gv_region <| bindE h0 ?_; clear h0; intro j1 h1 h0
 refine gv_cut_ops (J := fun a w2 => Below w0.heap.size w0 w2 ∧ w0.heap.size ≤ w2.heap.size ∧ a.defers = [] ∧ a.tmps.size = 21 ∧ Ok [(4, (.bool j1))] a.tmps) ?_ ?_
 ·skip
  refine gv_pureN 6 [5, 6, 7, 8, 9, 10] [(10, (.bool (decide (((ByteArray.size s_0 : Nat) : Int) ≥ ((ByteArray.size suffix_1 : Nat) : Int)))))] (by kernel_rfl) ?_
  refine gv_split (s := 10) (g := (decide (((ByteArray.size s_0 : Nat) : Int) ≥ ((ByteArray.size suffix_1 : Nat) : Int)))) (by kernel_rfl) (fun hc3 => ?_) (fun hc3 => ?_)
  ·skip
   replace h1 := ite_t hc3 h1
   refine gv_pureN 6 [11, 12, 13, 14, 15, 16] [(11, (.string s_0)), (16, (.int .i64 (IntKind.i64.wrap (((ByteArray.size s_0 : Nat) : Int) - ((ByteArray.size suffix_1 : Nat) : Int)))))] (by kernel_rfl) ?_
   refine bindE h1 ?_; clear h1; intro x4 hx5 h1
   refine gv_ssub (t := 9) (s := s_0) (lo := (some (.int .i64 (IntKind.i64.wrap (((ByteArray.size s_0 : Nat) : Int) - ((ByteArray.size suffix_1 : Nat) : Int)))))) (hi := none) (IntKind.i64.wrap (((ByteArray.size s_0 : Nat) : Int) - ((ByteArray.size suffix_1 : Nat) : Int))) ((ByteArray.size s_0 : Nat) : Int) x4 [] (fun e => by cases e) rfl rfl rfl (by kernel_rfl) (by kernel_rfl) Tryd.underlying9 (.inr ⟨_, rfl⟩) (.inl ⟨rfl, rfl⟩) hx5 rfl ?_
   refine gv_pureN 4 [4, 18, 19, 20] [(4, (.bool (x4.toList == suffix_1.toList)))] (by kernel_rfl) ?_
   refine gv_nil ?_
   have e := sj h1; subst e
   refine gv_goal fun a hd hs hok => ?_
   exact ⟨hB0, (Nat.le_refl _), hd, hs, ok_pick [4] hok (by kernel_rfl)⟩
  ·skip
   replace h1 := ite_f hc3 h1
   refine gv_pureN 11 [4, 11, 12, 13, 14, 15, 16, 17, 18, 19, 20] [(4, (.bool false))] (by kernel_rfl) ?_
   refine gv_nil ?_
   have e := sj h1; subst e
   refine gv_goal fun a hd hs hok => ?_
   exact ⟨hB0, (Nat.le_refl _), hd, hs, ok_pick [4] hok (by kernel_rfl)⟩
 ·rintro a w2 ⟨hB6, hz7, hd, hs, hok⟩
  refine gv_in ?_ hd hs hok
  clear hd hs hok
  refine gv_cret ?_
  have e := sj h0; subst e
  refine gv_ret (gv_done [(.bool j1)] rfl ⟨(by kernel_rfl), trivial⟩ ?_)
  exact ⟨grown_of_below hB6, rfl⟩

theorem stringslite_TrimSuffix_ok (fuel : Nat) (s_0 : ByteArray) (suffix_1 : ByteArray) (w0 : World)  (r0 : ByteArray) (h0 : stringslite_TrimSuffix fuel s_0 suffix_1 = some r0) :
    Calls Tryd.prog 109 ([(.string s_0), (.string suffix_1)] : List Value).toArray w0 (Ret fun v w' => w0.grownBy w' none ∧ v = tup [(.string r0)]) := by
 have hB0 : Below w0.heap.size w0 w0 := Below.refl _ _
 unfold stringslite_TrimSuffix at h0
 refine calls_run Tryd.func109 rfl Tryd.ntmps109 (by kernel_rfl) ?_
 refine gv_sub [0, 1] (σ' := [(0, (.string s_0)), (1, (.string suffix_1))]) (by kernel_rfl) ?_
 refine gv_seq <| gv_region <| gv_pureN 1 [4] [] (by kernel_rfl) ?_
 refine gv_nil <| gv_seq <| gv_seq <| gv_region <| gv_pureN 2 [5, 6] [(5, (.string s_0)), (6, (.string suffix_1))] (by kernel_rfl) ?_
 refine bindE h0 ?_; clear h0; intro r1 hr2 h0
 refine gv_call0 (by kernel_rfl) rfl (by kernel_rfl) enters131 (stringslite_HasSuffix_ok fuel s_0 suffix_1 w0  r1 hr2) ?_
 rintro v5 w3 ⟨hg4, rfl⟩
 refine gv_nil <| gv_cond (b := r1) (by kernel_rfl) (fun hc6 => ?_) (fun hc6 => ?_)
 ·replace h0 := ite_t hc6 h0
  refine gv_seq <| gv_region <| gv_pureN 6 [8, 9, 10, 11, 12, 13] [(8, (.string s_0)), (13, (.int .i64 (IntKind.i64.wrap (((ByteArray.size s_0 : Nat) : Int) - ((ByteArray.size suffix_1 : Nat) : Int)))))] (by kernel_rfl) ?_
  refine bindE h0 ?_; clear h0; intro x7 hx8 h0
  refine gv_ssub (t := 9) (s := s_0) (lo := none) (hi := (some (.int .i64 (IntKind.i64.wrap (((ByteArray.size s_0 : Nat) : Int) - ((ByteArray.size suffix_1 : Nat) : Int)))))) 0 (IntKind.i64.wrap (((ByteArray.size s_0 : Nat) : Int) - ((ByteArray.size suffix_1 : Nat) : Int))) x7 [] (fun e => by cases e) rfl rfl rfl (by kernel_rfl) (by kernel_rfl) Tryd.underlying9 (.inl ⟨rfl, rfl⟩) (.inr ⟨_, rfl⟩) hx8 rfl ?_
  refine gv_pureN 1 [4] [(4, (.string x7))] (by kernel_rfl) ?_
  refine gv_nil <| gv_cret ?_
  have e := sj h0; subst e
  refine gv_ret (gv_done [(.string x7)] rfl ⟨(by kernel_rfl), trivial⟩ ?_)
  have hB9 := bg hB0 hg4 nb
  exact ⟨grown_of_below hB9, rfl⟩
 ·replace h0 := ite_f hc6 h0
  refine gv_skip <| gv_seq <| gv_region <| gv_pureN 2 [4, 15] [(4, (.string s_0))] (by kernel_rfl) ?_
  refine gv_nil <| gv_cret ?_
  have e := sj h0; subst e
  refine gv_ret (gv_done [(.string s_0)] rfl ⟨(by kernel_rfl), trivial⟩ ?_)
  have hB10 := bg hB0 hg4 nb
  exact ⟨grown_of_below hB10, rfl⟩

theorem strings_TrimSuffix_ok (fuel : Nat) (s_0 : ByteArray) (suffix_1 : ByteArray) (w0 : World)  (r0 : ByteArray) (h0 : strings_TrimSuffix fuel s_0 suffix_1 = some r0) :
    Calls Tryd.prog 83 ([(.string s_0), (.string suffix_1)] : List Value).toArray w0 (Ret fun v w' => w0.grownBy w' none ∧ v = tup [(.string r0)]) := by
 have hB0 : Below w0.heap.size w0 w0 := Below.refl _ _
 unfold strings_TrimSuffix at h0
 refine calls_run Tryd.func83 rfl Tryd.ntmps83 (by kernel_rfl) ?_
 refine gv_sub [0, 1] (σ' := [(0, (.string s_0)), (1, (.string suffix_1))]) (by kernel_rfl) ?_
 refine gv_seq <| gv_region <| gv_pureN 1 [4] [] (by kernel_rfl) ?_
 refine gv_nil <| gv_seq <| gv_region <| gv_pureN 2 [5, 6] [(5, (.string s_0)), (6, (.string suffix_1))] (by kernel_rfl) ?_
 refine bindE h0 ?_; clear h0; intro r1 hr2 h0
 refine gv_call0 (by kernel_rfl) rfl (by kernel_rfl) enters109 (stringslite_TrimSuffix_ok fuel s_0 suffix_1 w0  r1 hr2) ?_
 rintro v5 w3 ⟨hg4, rfl⟩
 refine gv_pureN 1 [4] [(4, (.string r1))] (by kernel_rfl) ?_
 refine gv_nil <| gv_cret ?_
 have e := sj h0; subst e
 refine gv_ret (gv_done [(.string r1)] rfl ⟨(by kernel_rfl), trivial⟩ ?_)
 have hB6 := bg hB0 hg4 nb
 exact ⟨grown_of_below hB6, rfl⟩

theorem strings_IndexByte_ok (fuel : Nat) (s_0 : ByteArray) (c_1 : Int) (w0 : World)  (r0 : Int) (h0 : strings_IndexByte fuel s_0 c_1 = some r0) :
    Calls Tryd.prog 108 ([(.string s_0), (.int .u8 c_1)] : List Value).toArray w0 (Ret fun v w' => w0.grownBy w' none ∧ v = tup [(.int .i64 r0)]) := by
 have hB0 : Below w0.heap.size w0 w0 := Below.refl _ _
 unfold strings_IndexByte at h0
 refine calls_run Tryd.func108 rfl Tryd.ntmps108 (by kernel_rfl) ?_
 refine gv_sub [0, 1] (σ' := [(0, (.string s_0)), (1, (.int .u8 c_1))]) (by kernel_rfl) ?_
 refine gv_seq <| gv_region <| gv_pureN 1 [4] [] (by kernel_rfl) ?_
 refine gv_nil <| gv_seq <| gv_region <| gv_pureN 2 [5, 6] [(5, (.string s_0)), (6, (.int .u8 c_1))] (by kernel_rfl) ?_
 refine bindE h0 ?_; clear h0; intro r1 hr2 h0
 refine gv_call0 (by kernel_rfl) rfl (by kernel_rfl) enters118 (stringslite_IndexByte_ok fuel s_0 c_1 w0  r1 hr2) ?_
 rintro v5 w3 ⟨hg4, rfl⟩
 refine gv_pureN 1 [4] [(4, (.int .i64 r1))] (by kernel_rfl) ?_
 refine gv_nil <| gv_cret ?_
 have e := sj h0; subst e
 refine gv_ret (gv_done [(.int .i64 r1)] rfl ⟨(by kernel_rfl), trivial⟩ ?_)
 have hB6 := bg hB0 hg4 nb
 exact ⟨grown_of_below hB6, rfl⟩

set_option maxHeartbeats 4000000 in
set_option maxRecDepth 100000 in
theorem lines_in (fuel l pb1 : Nat) (s0 : ByteArray) (hs0 : s0.size ≤ 4611686018427387904) (Jx : List ByteArray → World → Prop)
    (hJx : ∀ pre A B row, Jx pre A → A.grownBy B row → (∀ r, row = some r → r = pb1 ∧ ∃ c, Box B pb1 9 #[c]) → Jx pre B)
    (hYx : ∀ pre x rest W1 c, linesB s0 = pre ++ x :: rest → Jx pre W1 → Box W1 pb1 9 #[c] → YieldAt Fence.wide 0 Tryd.prog l #[.string x] W1 fun e W' => e = .returned (.bool true) ∧ Jx (pre ++ [x]) W' ∧ Box W' pb1 9 #[c])
    (w0 : World) (hp1 : Box w0 pb1 9 #[(.string s0)]) (hJ0 : Jx [] w0) :
    Calls Tryd.prog 107 ([(.func (.yield l) #[] #[]), (bp pb1)] : List Value).toArray w0 (Ret fun v w' => v = tup [] ∧ Jx (linesB s0) w') := by
 obtain ⟨j1, h1⟩ := lineF_loop s0.size s0 (Nat.le_refl _)
 refine calls_run Tryd.func107 rfl Tryd.ntmps107 (by kernel_rfl) ?_
 refine gv_sub [0, 1] (σ' := [(0, .func (.yield l) #[] #[]), (1, (bp pb1))]) (by kernel_rfl) ?_
 refine gv_cut_code (J := fun a w2 => Jx (linesB s0) w2 ∧ a.defers = [] ∧ a.tmps.size = 25 ∧ Ok [] a.tmps) ?_ ?_
 ·skip
  refine gv_block <| gv_loop (A := fun (s3 : ByteArray) a w4 => (s3.size ≤ 4611686018427387904 ∧ Box w4 pb1 9 #[(.string s3)] ∧ ∃ acc, linesB s0 = acc ++ linesB s3 ∧ Jx acc w4) ∧ a.defers = [] ∧ a.tmps.size = 25 ∧ Ok [(0, .func (.yield l) #[] #[]), (1, (bp pb1))] a.tmps) h1 ?_ ?_
  ·intro a hd hs hok
   exact ⟨⟨hs0, hp1, [], rfl, hJ0⟩, hd, hs, ok_pick [0, 1] hok (by kernel_rfl)⟩
  ·rintro s3 r2 h2 hR2 a w4 ⟨⟨hsz, hb7, acc, hacc, hJa⟩, hd, hs, hok⟩
   refine gv_in ?_ hd hs hok
   clear hd hs hok
   refine gv_seq <| gv_seq <| gv_region <| gv_load (t := 9) (A := ⟨pb1, 0, none⟩) (.string s3) [] (fun e => by cases e) rfl rfl rfl (by kernel_rfl) (by kernel_rfl) (by kernel_rfl) (inw0 (hb7.cell 0 rfl)) rfl ?_
   refine gv_pureN 2 [6, 7] [(7, (.bool (decide (((ByteArray.size s3 : Nat) : Int) > 0))))] (by kernel_rfl) ?_
   refine gv_nil <| gv_cond (b := (decide (((ByteArray.size s3 : Nat) : Int) > 0))) (by kernel_rfl) (fun hc8 => ?_) (fun hc8 => ?_)
   ·have hpos : 0 < s3.size := by have := of_decide_eq_true hc8; omega
    have hst := linesB_step hpos
    rw [show lineF s3 = some (.inl (dropLine s3)) by unfold lineF; rw [if_pos hpos]] at h2
    have e := sj h2; subst e
    refine gv_skip <| gv_block <| gv_seq <| gv_region <| gv_pureN 1 [3] [] (by kernel_rfl) ?_
    refine gv_nil <| gv_seq <| gv_seq <| gv_region <| gv_load (t := 9) (A := ⟨pb1, 0, none⟩) (.string s3) [] (fun e => by cases e) rfl rfl rfl (by kernel_rfl) (by kernel_rfl) (by kernel_rfl) (inw0 (hb7.cell 0 rfl)) rfl ?_
    obtain ⟨r9, hr9⟩ : ∃ r9, r9 = nIdxB (bytesOf s3) 10 := ⟨_, rfl⟩
    have hr10 : strings_IndexByte fuel s3 10 = some r9 := by unfold strings_IndexByte stringslite_IndexByte; rw [hr9]; rfl
    refine gv_call0 (by kernel_rfl) rfl (by kernel_rfl) enters108 (strings_IndexByte_ok fuel s3 10 w4  r9 hr10) ?_
    rintro v13 w11 ⟨hg12, rfl⟩
    have hJb := hJx _ _ _ none hJa hg12 (fun r e => by cases e)
    refine gv_pureN 1 [4] [(4, (.int .i64 r9))] (by kernel_rfl) ?_
    refine gv_nil <| gv_seq <| gv_region <| gv_pureN 2 [10, 11] [(11, (.bool (decide (r9 ≥ 0))))] (by kernel_rfl) ?_
    refine gv_nil ?_
    refine gv_cut_code (J := fun a w15 => (Jx acc w15 ∧ Box w15 pb1 9 #[(.string (dropLine s3))]) ∧ a.defers = [] ∧ a.tmps.size = 25 ∧ Ok [(0, .func (.yield l) #[] #[]), (1, (bp pb1)), (3, (.string (takeLine s3)))] a.tmps) ?_ ?_
    ·skip
     refine gv_cond (b := (decide (r9 ≥ 0))) (by kernel_rfl) (fun hc16 => ?_) (fun hc16 => ?_)
     ·have hge : nIdxB (bytesOf s3) 10 ≥ 0 := by rw [← hr9]; exact of_decide_eq_true hc16
      obtain ⟨hx23, hx25⟩ := line_some hsz hge
      rw [← hr9] at hx23 hx25
      refine gv_drawA (by kernel_rfl) ?_
      intro w17 hg18
      refine gv_pre [1, 2, 5, 6] (bA 10 [1, 2, 5, 6]) 6 (by kernel_rfl) (by kernel_rfl) ?_
      refine gv_pureN 4 [13, 14, 17, 18] [(14, (.int .i64 (IntKind.i64.wrap (r9 + 1)))), (18, (.int .i64 (IntKind.i64.wrap (r9 + 1))))] (by kernel_rfl) ?_
      refine gv_nil <| gv_goA ?_
      refine gv_stage (Cls w17 []) [0, 1, 2, 3, 4, 5, 6, 7, 8] [(0, some true), (3, some true), (4, some true), (7, some true), (8, some true)] (bA 10 [0, 1, 2, 3, 4, 5, 6, 7, 8]) 1 (by kernel_rfl) (by kernel_rfl) (Cls.refl _ _) ?_
      have hC19 := Cls.refl w17 []
      have hg20 := (grown_trans hg12 hg18)
      have hJc := hJx _ _ _ none hJb hg18 (fun r e => by cases e)
      have hk21 := hb7.grown hg20 nb
      refine gv_load (t := 9) (A := ⟨pb1, 0, none⟩) (.string s3) [] (fun e => by cases e) rfl rfl rfl (by kernel_rfl) (by kernel_rfl) (by kernel_rfl) (inw1 fun w' hC' => ((hC'.box hk21 nm_nil).cell 0 rfl)) rfl ?_
      refine gv_ssub (t := 9) (s := s3) (lo := none) (hi := (some (.int .i64 (IntKind.i64.wrap (r9 + 1))))) 0 (IntKind.i64.wrap (r9 + 1)) (takeLine s3) [] (fun e => by cases e) rfl rfl rfl (by kernel_rfl) (by kernel_rfl) Tryd.underlying9 (.inl ⟨rfl, rfl⟩) (.inr ⟨_, rfl⟩) hx23 rfl ?_
      refine gv_load (t := 9) (A := ⟨pb1, 0, none⟩) (.string s3) [] (fun e => by cases e) rfl rfl rfl (by kernel_rfl) (by kernel_rfl) (by kernel_rfl) (inw1 fun w' hC' => ((hC'.box hk21 nm_nil).cell 0 rfl)) rfl ?_
      refine gv_ssub (t := 9) (s := s3) (lo := (some (.int .i64 (IntKind.i64.wrap (r9 + 1))))) (hi := none) (IntKind.i64.wrap (r9 + 1)) ((ByteArray.size s3 : Nat) : Int) (dropLine s3) [] (fun e => by cases e) rfl rfl rfl (by kernel_rfl) (by kernel_rfl) Tryd.underlying9 (.inr ⟨_, rfl⟩) (.inl ⟨rfl, rfl⟩) hx25 rfl ?_
      refine gv_pureN 1 [3] [(3, (.string (takeLine s3)))] (by kernel_rfl) ?_
      refine gv_nil <| gv_goA ?_
      refine gv_stage (fun _ => True) [0, 1, 2, 3, 4, 5, 6, 7, 8, 9] [(9, some false)] (bA 10 [0, 1, 2, 3, 4, 5, 6, 7, 8, 9]) 0 (by kernel_rfl) (by kernel_rfl) trivial ?_
      refine gv_store (t := 9) (b := pb1) (off := 0) (v := (.string (dropLine s3))) (t' := 9) (cs := #[(.string s3)]) #[(.string (dropLine s3))] (by decide) rfl rfl (by kernel_rfl) (by kernel_rfl) (by kernel_rfl) (by intro u hu; simp [Value.cells] at hu; subst hu; rfl) (show 0 + 1 ≤ 1 by decide) (by rfl) hk21 ?_
      intro w26 hg27 hb28 hz29
      refine ⟨(fun _ => trivial), ?_⟩
      refine gv_nil <| gv_goA ?_
      refine gv_stageE (by kernel_rfl) ?_
      refine gv_goal fun a hd hs hok => ?_
      exact ⟨⟨hJx _ _ _ (some pb1) hJc hg27 (fun r e => by cases e; exact ⟨rfl, _, hb28⟩), hb28⟩, hd, hs, ok_pick [0, 1, 3] hok (by kernel_rfl)⟩
     ·have hlt : ¬ nIdxB (bytesOf s3) 10 ≥ 0 := by rw [← hr9]; exact of_decide_eq_false hc16
      obtain ⟨ht, hdl⟩ := line_none hlt
      rw [ht, hdl]
      refine gv_region ?_
      have hk33 := hb7.grown hg12 nb
      refine gv_load (t := 9) (A := ⟨pb1, 0, none⟩) (.string s3) [] (fun e => by cases e) rfl rfl rfl (by kernel_rfl) (by kernel_rfl) (by kernel_rfl) (inw0 (hk33.cell 0 rfl)) rfl ?_
      refine gv_pureN 1 [3] [(3, (.string s3))] (by kernel_rfl) ?_
      refine gv_store0 9 0 (.string (strOf [])) #[(.string (strOf []))] hk33 (by kernel_rfl) (by kernel_rfl) (by kernel_rfl) ?_
      intro w34 hg35 hb36 hz37
      refine gv_nil ?_
      refine gv_goal fun a hd hs hok => ?_
      exact ⟨⟨hJx _ _ _ (some pb1) hJb hg35 (fun r e => by cases e; exact ⟨rfl, _, hb36⟩), hb36⟩, hd, hs, ok_pick [0, 1, 3] hok (by kernel_rfl)⟩
    ·rintro a w15 ⟨⟨hJd, hb43⟩, hd, hs, hok⟩
     refine gv_in ?_ hd hs hok
     clear hd hs hok
     have hsplit : linesB s0 = acc ++ takeLine s3 :: linesB (dropLine s3) := by rw [hacc, hst]; rfl
     refine gv_seq <| gv_yieldOnce (S := fun W' => Jx (acc ++ [takeLine s3]) W' ∧ Box W' pb1 9 #[(.string (dropLine s3))]) rfl rfl rfl rfl (by kernel_rfl) (by kernel_rfl) (by kernel_rfl) (by kernel_rfl) rfl rfl rfl rfl (hYx _ _ _ _ _ hsplit hJd hb43) ?_
     rintro w50 ⟨hJe, hb51⟩
     refine gv_cond (b := false) (by kernel_rfl) (fun hc => by cases hc) (fun _ => ?_)
     refine gv_skip <| gv_blk ?_
     refine gv_goal fun a hd hs hok => ?_
     exact ⟨dropLine s3, rfl, ⟨Nat.le_trans (Nat.le_of_lt (dropLine_lt hpos)) hsz, hb51, _, by rw [hsplit]; simp, hJe⟩, hd, hs, ok_pick [0, 1] hok (by kernel_rfl)⟩
   ·have hpos : ¬ 0 < s3.size := by have := of_decide_eq_false hc8; omega
    refine gv_cexit <| gv_exit rfl ?_
    rw [linesB_nil hpos, List.append_nil] at hacc
    rw [hacc]
    refine gv_goal fun a hd hs hok => ?_
    exact ⟨hJa, hd, hs, ok_pick [] hok (by kernel_rfl)⟩
 ·rintro a w2 ⟨hJf, hd, hs, hok⟩
  refine gv_in ?_ hd hs hok
  clear hd hs hok
  refine gv_fall (gv_done [] rfl trivial ?_)
  exact ⟨rfl, hJf⟩
theorem lines_seq {bs : Nat} {s : ByteArray} {w : World} (hs : s.size ≤ 4611686018427387904) (hb : Box w bs 9 #[.string s]) : SeqBox Tryd.prog 107 bs 9 (fun x => .string x) (linesB s) w := fun l J W hW hJ hY h0 => by
  have hbW : Box W bs 9 #[.string s] := (show W.heap[bs]? = _ from hW.trans hb)
  refine ((callsIn_wide (n := 1)).2 (lines_in 0 l bs s hs J hJ hY W hbW h0)).mono ?_
  intro e W' he
  cases e with
  | returned v => exact ⟨⟨_, rfl⟩, he.2⟩
  | panicked c => exact he.elim
  | outgrown => exact he.elim
theorem lines_call (s : ByteArray) (w0 : World) : Calls Tryd.prog 82 ([.string s] : List Value).toArray w0 (Ret fun v w' => w0.grownBy w' none ∧ ∃ bs, v = tup [.func (.func 107) #[] #[bp bs]] ∧ Box w' bs 9 #[.string s] ∧ w0.heap.size ≤ bs) := by
  refine (callsIn_wide (n := 3)).1 ?_
  refine callsIn_of_wp Tryd.func82 rfl trivial ?_ rfl
  simp only [Tryd.ntmps82, List.size_toArray, List.length_cons, List.length_nil, Nat.reduceAdd, Nat.reduceSub, Array.replicate_succ, Array.replicate_zero, List.push_toArray, List.append_toArray, List.nil_append, List.cons_append]
  gi_wp2
  go_ret
  exact ⟨grown_alloc _ _, _, rfl, heap_alloc_new w0 _, Nat.le_refl _⟩

theorem textstr_Lines_ok (fuel : Nat) (s_0 : ByteArray) (w0 : World) (X0 : Nat → Prop) (hX0 : ∀ k, X0 k → k < w0.heap.size) (hG1 : Rd bE w0 X0 (some ⟨1, 0, none⟩) 256 utf8First) (hG2 : Rd (prE (iE .u8) (iE .u8)) w0 X0 (some ⟨2, 0, none⟩) 16 utf8Acc) (r0 : ((List ByteArray) × (Int × Int))) (h0 : textstr_Lines fuel s_0 = some r0) :
    Calls Tryd.prog 48 ([(.string s_0)] : List Value).toArray w0 (Ret fun v w' => w0.grownBy w' none ∧ ∃ (a0_0r : Option Addr) (c0_0r : Nat), ∃ (X0_0r : Nat → Prop), v = tup [(.slice a0_0r (List.length r0.1) c0_0r), (.agg #[(.int .i64 r0.2.1), (.int .i64 r0.2.2)])] ∧ Rd sE w' X0_0r a0_0r c0_0r r0.1 ∧ (∀ k, X0_0r k → k < w'.heap.size ∧ (X0 k ∨ w0.heap.size ≤ k))) := by
 have hB0 : Below w0.heap.size w0 w0 := Below.refl _ _
 unfold textstr_Lines at h0
 refine calls_runM Tryd.func48 rfl Tryd.ntmps48 (by kernel_rfl) ?_
 refine gv_sub [0] (σ' := [(0, (.string s_0))]) (by kernel_rfl) ?_
 refine gv_seq <| gv_region <| gv_pureN 1 [2] [] (by kernel_rfl) ?_
 refine gv_new0 (fun b => .pointer (some ⟨b, 0, none⟩)) #[(.int .i64 0), (.int .i64 0)] 24 (by kernel_rfl) (by kernel_rfl) ?_
 intro b1 w2 hg3 hb4 hbe5 hz6
 refine gv_nil <| gv_seq <| gv_seq <| gv_region <| gv_pureN 1 [7] [(7, (.string s_0))] (by kernel_rfl) ?_
 refine gv_new0 (fun b => .slice (some ⟨b, 0, none⟩) 1 1) #[(.string s_0)] 9 (by kernel_rfl) (by kernel_rfl) ?_
 intro b7 w8 hg9 hb10 hbe11 hz12
 have ho13 : Gv.Own sE 9 w8 (fun _ => False) (some ⟨b7, 0, none⟩) 1 ([s_0] : List ByteArray) := Box.ownE hb10 ⟨[(.string s_0)], [], rfl, rfl, rfl⟩ (show 1 ≤ maxLen by decide) (fun h => h)
 have hB18 := bg hB0 hg3 nb
 have hl14 : ∀ g, blk (some ⟨b7, 0, none⟩) = some g → w0.heap.size ≤ g := loo hbe11 hB18.size
 refine bindE h0 ?_; clear h0; intro r19 hr20 h0
 have hB21 := bg hB18 hg9 nb
 refine gv_call0 (by kernel_rfl) rfl (by kernel_rfl) enters58 (textstr_check_ok fuel (some ⟨b7, 0, none⟩) 1 ([s_0] : List ByteArray) w8 (fun k => (fun k => blk (some ⟨b7, 0, none⟩) = some k) k ∨ X0 k ∨ X0 k) (fun k hk => (hk).elim (fun h => (fun k (hk : blk (some ⟨b7, 0, none⟩) = some k) => ho13.lt k hk) k h) (fun h => (h).elim (fun h => (fun k (hk : X0 k) => ltl (hX0 k hk) hB21.size) k h) (fun h => (fun k (hk : X0 k) => ltl (hX0 k hk) hB21.size) k h))) ((ho13.rd (Y := fun k => blk (some ⟨b7, 0, none⟩) = some k) (fun _ h => h.elim) (fun g e => e)).wide (fun k hk => (.inl hk))) ((hG1.below hB21 hX0).wide (fun k hk => (.inr (.inl hk)))) ((hG2.below hB21 hX0).wide (fun k hk => (.inr (.inr hk)))) r19 hr20) ?_
 rintro v24 w22 ⟨hg23, rfl⟩
 refine gv_new0 (fun b => .pointer (some ⟨b, 0, none⟩)) #[(.int .i64 0), (.int .i64 0)] 24 (by kernel_rfl) (by kernel_rfl) ?_
 intro b25 w26 hg27 hb28 hbe29 hz30
 refine gv_store0 24 0 (.agg #[(.int .i64 r19.1), (.int .i64 r19.2)]) #[(.int .i64 r19.1), (.int .i64 r19.2)] hb28 (by kernel_rfl) (by kernel_rfl) (by kernel_rfl) ?_
 intro w31 hg32 hb33 hz34
 refine gv_nil <| gv_seq <| gv_region <| gv_pureN 1 [10] [(10, (bp b25))] (by kernel_rfl) ?_
 refine gv_load (t := 3) (A := ⟨b25, 0, none⟩) (.int .i64 r19.1) [] (fun e => by cases e) rfl rfl rfl (by kernel_rfl) (by kernel_rfl) (by kernel_rfl) (inw0 (hb33.cell 0 rfl)) rfl ?_
 refine gv_pureN 1 [12] [(12, (.bool (r19.1 != 0)))] (by kernel_rfl) ?_
 refine gv_nil <| gv_cond (b := (r19.1 != 0)) (by kernel_rfl) (fun hc35 => ?_) (fun hc35 => ?_)
 ·replace h0 := ite_t hc35 h0
  refine gv_seq <| gv_drawA (by kernel_rfl) ?_
  intro w36 hg37
  refine gv_pre [1] (bA 3 [1]) 2 (by kernel_rfl) (by kernel_rfl) ?_
  refine gv_pureN 1 [2] [(2, (.slice none (List.length ([] : List ByteArray)) 0))] (by kernel_rfl) ?_
  refine gv_nil <| gv_goA ?_
  refine gv_stage (Cls w36 []) [0, 1] [(0, some true)] (bA 3 [0, 1]) 1 (by kernel_rfl) (by kernel_rfl) (Cls.refl _ _) ?_
  have hC38 := Cls.refl w36 []
  have hk39 := hb33.grown hg37 nb
  refine gv_loadBox (t := 24) (b := b25) (t' := 24) (fr := (0, 0)) #[(.int .i64 r19.1), (.int .i64 r19.2)] [] (fun e => by cases e) rfl rfl rfl (by kernel_rfl) (by kernel_rfl) (by kernel_rfl) (by kernel_rfl) (inw1 fun w' hC' => (hC'.box hk39 nm_nil)) rfl ?_
  refine gv_nil <| gv_goA ?_
  refine gv_stage (fun _ => True) [0, 1, 2] [(2, some false)] (bA 3 [0, 1, 2]) 0 (by kernel_rfl) (by kernel_rfl) trivial ?_
  have hg44 := (grown_trans (grown_trans hg9 hg23) hg27)
  have hg45 := (grown_trans hg9 hg23)
  have hk46 := hb4.grown hg45 nb
  have lt47 := ltl ((ltb hk46) _ rfl) ((lowb hbe29) _ rfl)
  have hk48 := ((hb4.grown hg44 nb).grown hg32 (rowne (ng lt47))).grown hg37 nb
  refine gv_store (t := 24) (b := b1) (off := 0) (v := (.agg #[(.int .i64 r19.1), (.int .i64 r19.2)])) (t' := 24) (cs := #[(.int .i64 0), (.int .i64 0)]) #[(.int .i64 r19.1), (.int .i64 r19.2)] (by decide) rfl rfl (by kernel_rfl) (by kernel_rfl) (by kernel_rfl) (by intro u hu; simp [Value.cells] at hu; rcases hu with rfl | rfl <;> rfl) (show 0 + 2 ≤ 2 by decide) (by rfl) hk48 ?_
  intro w40 hg41 hb42 hz43
  refine ⟨(fun _ => trivial), ?_⟩
  refine gv_nil <| gv_goA ?_
  refine gv_stageE (by kernel_rfl) ?_
  refine gv_cret ?_
  have e := sj h0; subst e
  refine gv_ret (gv_doneM [(.slice none (List.length ([] : List ByteArray)) 0), (.agg #[(.int .i64 r19.1), (.int .i64 r19.2)])] rfl ⟨(by kernel_rfl), ⟨⟨b1, 0, none⟩, (by kernel_rfl), run_loadVar_row w40 b1 _ 24 _ _ _ hb42 Tryd.underlying24 rfl (by kernel_rfl)⟩, trivial⟩ ?_)
  have hg49 := (grown_trans hg23 hg27)
  have hB50 := bg hB21 hg49 nb
  have hB51 := bg hB21 hg23 nb
  have hlo52 : w0.heap.size ≤ b25 := lob hbe29 hB51.size
  have hB53 := bg hB50 hg32 (rowlo hlo52)
  have hB54 := bg hB53 hg37 nb
  have hlo55 : w0.heap.size ≤ b1 := lob hbe5 hB0.size
  have hB56 := bg hB54 hg41 (rowlo hlo55)
  exact ⟨grown_of_below hB56, none, 0, (fun _ => False), rfl, (Rd.nil sE w40 (fun _ => False) none 0), (fun k hk => ⟨(fun _ h => h.elim) k hk, (fun _ h => h.elim) k hk⟩)⟩
 ·replace h0 := ite_f hc35 h0
  refine gv_skip <| gv_seq <| gv_region <| gv_new0 (fun b => .pointer (some ⟨b, 0, none⟩)) #[(.slice none (List.length ([] : List ByteArray)) 0)] 22 (by kernel_rfl) (by kernel_rfl) ?_
  intro b57 w58 hg59 hb60 hbe61 hz62
  clear hz62 hc35 hz34 hz30 hb28 hr20 hl14 hB18 ho13 hz12 hbe11 hb10 hz6 hg3
  refine gv_nil <| gv_seq <| gv_seq <| gv_region <| gv_pureN 1 [14] [(14, (.string s_0))] (by kernel_rfl) ?_
  refine gv_call0 (by kernel_rfl) rfl (by kernel_rfl) enters82 (lines_call s_0 w58) ?_
  rintro v63 w64 ⟨hg65, b66, rfl, hb67, hx68⟩
  refine gv_nil <| gv_block <| gv_sub [3, 5, 15] (σ' := [(3, (bp b1)), (5, (bp b57)), (15, (.func (.func 107) #[] #[bp b66]))]) (by kernel_rfl) ?_
  refine bindE h0 ?_; clear h0; intro u74 hl71 h0
  refine bindE h0 ?_; clear h0; intro j69 hF70 h0
  have hk75 := hb67
  have hg78 := (grown_trans hg23 hg27)
  have hB79 := bg hB21 hg78 nb
  have hB80 := bg hB21 hg23 nb
  have hlo81 : w0.heap.size ≤ b25 := lob hbe29 hB80.size
  have hB82 := bg hB79 hg32 (rowlo hlo81)
  have hg83 := (grown_trans hg59 hg65)
  have hB84 := bg hB82 hg83 nb
  have hz76 := hB84.size
  have hB85 := bg hB80 hg27 nb
  have hB86 := bg hB85 hg32 (rowlo hlo81)
  have hB87 := bg hB86 hg59 nb
  have hlo88 : w0.heap.size ≤ b66 := Nat.le_trans hB87.size hx68
  have hz77 : w0.heap.size ≤ b66 := hlo88
  have hg90 := (grown_trans hg9 hg78)
  have hg91 := (grown_trans hg9 hg23)
  have hk92 := hb4.grown hg91 nb
  have lt93 := ltl ((ltb hk92) _ rfl) ((lowb hbe29) _ rfl)
  have hk94 := ((hb4.grown hg90 nb).grown hg32 (rowne (ng lt93))).grown hg59 nb
  have lt95 := ltl ((ltb hk94) _ rfl) ((lowe hx68) _ rfl)
  have hn89 : b1 ≠ b66 := (Nat.ne_of_lt lt95)
  have lt97 := ltl ((ltb hb60) _ rfl) ((lowe hx68) _ rfl)
  have hn96 : b57 ≠ b66 := (Nat.ne_of_lt lt97)
  refine gv_rangeBox (α := ByteArray) (p := 16) (d := 6) (gf := 107) (bs := b66) (t := 9) (enc := fun x => .string x) (xs := linesB s_0) (by kernel_rfl) enters107 (by kernel_rfl) (by kernel_rfl) (by kernel_rfl) hk75 (lines_seq (okLen_spec hl71) hk75) (fun pre W => ∃ (s98 : (List ByteArray)), foldO (fun (s72 : (List ByteArray)) (y73 : ByteArray) => (Option.bind (strings_TrimSuffix fuel y73 (strOf [10])) fun r129 => (Option.bind (app s72 ([r129] : List ByteArray)) fun l148 => (some (l148))))) ([] : List ByteArray) pre = some s98 ∧ ∃ (abb57_0j : Option Addr) (cbb57_0j : Nat), Below w0.heap.size w0 W ∧ w64.heap.size ≤ W.heap.size ∧ Gv.Own sE 9 W (fun _ => False) abb57_0j cbb57_0j s98 ∧ (∀ g, blk abb57_0j = some g → w0.heap.size ≤ g) ∧ (∀ g, blk abb57_0j = some g → ¬ (· = b1) g) ∧ (∀ g, blk abb57_0j = some g → ¬ (· = b57) g) ∧ (∀ g, blk abb57_0j = some g → ¬ (· = b66) g) ∧ ¬ (fun k => blk abb57_0j = some k) b1 ∧ ¬ (fun k => blk abb57_0j = some k) b57 ∧ ¬ (fun k => blk abb57_0j = some k) b66 ∧ Box W b1 24 #[(.int .i64 0), (.int .i64 0)] ∧ Box W b57 22 #[(.slice abb57_0j (List.length s98) cbb57_0j)] ∧ (∃ c, Box W b66 9 #[c])) ?_ ?_ ?_ ?_
  ·rintro l99 p100 y73 rs102 w104 c105 hxs106 ⟨s72, hst103, a110, c111, hB108, hz109, ho112, hl113, ap114, ap115, ap116, ap117, ap118, ap119, hb120, hb121, ⟨c123, hb122⟩⟩ hbx107
   obtain ⟨r124, h1⟩ := foldO_at hF70 hxs106 hst103
   have hR1 := h1
   refine gv_block <| gv_drawAR (by kernel_rfl) ?_
   intro w125 hg126
   refine gv_pre [1] (bA 6 [1]) 5 (by kernel_rfl) (by kernel_rfl) ?_
   refine gv_pureN 1 [18] [(18, (.string y73))] (by kernel_rfl) ?_
   refine gv_sub [3, 5, 15, 18] (σ' := [(3, (bp b1)), (5, (bp b57)), (15, (.func (.func 107) #[] #[bp b66])), (18, (.string y73))]) (by kernel_rfl) ?_
   refine gv_nil <| gv_goA ?_
   refine gv_stage (Cls w125 []) [0, 1, 2, 3] [(0, some true), (2, some false), (3, some false)] (bA 6 [0, 1, 2, 3]) 2 (by kernel_rfl) (by kernel_rfl) (Cls.refl _ _) ?_
   have hC127 := Cls.refl w125 []
   have hk128 := hb121.grown hg126 nb
   refine gv_load (t := 22) (A := ⟨b57, 0, none⟩) (.slice a110 (List.length s72) c111) [] (fun e => by cases e) rfl rfl rfl (by kernel_rfl) (by kernel_rfl) (by kernel_rfl) (inw1 fun w' hC' => ((hC'.box hk128 nm_nil).cell 0 rfl)) rfl ?_
   refine bindE h1 ?_; clear h1; intro r129 hr130 h1
   refine gv_call (f := 83) (vs := [(.string y73), (.string (strOf [10]))]) (cap := []) _ (by decide) rfl rfl rfl (by kernel_rfl) (by kernel_rfl) enters83 (strings_TrimSuffix_ok fuel y73 (strOf [10]) w125  r129 hr130) ?_
   rintro v133 w131 ⟨hg132, rfl⟩
   refine ⟨(fun _ => hC127.grown hg132 nb), ?_⟩
   refine gv_new (fun b => .slice (some ⟨b, 0, none⟩) 1 1) #[(.string r129)] 9 (by decide) rfl rfl (by kernel_rfl) (by kernel_rfl) ?_
   intro b134 w135 hg136 hb137 hbe138 hz139
   have hC140 := hC127.grown hg132 nb
   refine ⟨(fun _ => hC140.grown hg136 nb), ?_⟩
   have ho141 : Gv.Own sE 9 w135 (fun _ => False) (some ⟨b134, 0, none⟩) 1 ([r129] : List ByteArray) := Box.ownE hb137 ⟨[(.string r129)], [], rfl, rfl, rfl⟩ (show 1 ≤ maxLen by decide) (fun h => h)
   have hg146 := (grown_trans hg126 hg132)
   have hB147 := bg hB108 hg146 nb
   have hl142 : ∀ g, blk (some ⟨b134, 0, none⟩) = some g → w0.heap.size ≤ g := loo hbe138 hB147.size
   refine gv_nil <| gv_goA ?_
   refine gv_stage (fun _ => True) [0, 1, 2, 3, 4] [(4, some false)] (bA 6 [0, 1, 2, 3, 4]) 1 (by kernel_rfl) (by kernel_rfl) trivial ?_
   refine bindE h1 ?_; clear h1; intro l148 hx149 h1
   have hg156 := (grown_trans hg146 hg136)
   have hk157 := ho112.grown hg156 (fun _ h => h.elim) nb
   refine gv_append sE (t := 22) (ty := 22) (e := 9) (a := a110) (ax := (some ⟨b134, 0, none⟩)) (cap := c111) (cx := 1) (xs := s72) (ys := ([r129] : List ByteArray)) l148 (X := (fun _ => False)) (Y := (fun k => blk (some ⟨b134, 0, none⟩) = some k)) (by decide) rfl rfl (by kernel_rfl) (by kernel_rfl) Tryd.underlying22 info9 hk157 (ho141.rd (Y := fun k => blk (some ⟨b134, 0, none⟩) = some k) (fun _ h => h.elim) (fun g e => e)) hx149 (.inr fun _ _ _ _ _ h => h) (fun _ h => h.elim) ?_
   intro a150 c151 w152 hg153 ho154 hk155
   refine ⟨(fun _ => trivial), ?_⟩
   have hB159 := bg hB147 hg136 nb
   have hl158 : ∀ g, blk a150 = some g → w0.heap.size ≤ g := blk_step hk155 hl113 hB159.size
   have hk161 := hb120.grown hg156 nb
   have ap160 : ∀ g, blk a150 = some g → ¬ (· = b1) g := blk_neX hk155 ap114 (ltb hk161)
   have ap162 : ¬ (fun k => blk a150 = some k) b1 := fun h => blk_rev hk155 (fun h => (ap117) h) (hk161.lt) h
   have hg164 := (grown_trans hg132 hg136)
   have hk165 := hk128.grown hg164 nb
   have ap163 : ∀ g, blk a150 = some g → ¬ (· = b57) g := blk_neX hk155 ap115 (ltb hk165)
   have ap166 : ¬ (fun k => blk a150 = some k) b57 := fun h => blk_rev hk155 (fun h => (ap118) h) (hk165.lt) h
   have hk168 := hbx107.grown hg156 nb
   have ap167 : ∀ g, blk a150 = some g → ¬ (· = b66) g := blk_neX hk155 ap116 (ltb hk168)
   have ap169 : ¬ (fun k => blk a150 = some k) b66 := fun h => blk_rev hk155 (fun h => (ap119) h) (hk168.lt) h
   have hk171 := kf_grown (KeepsFrom.refl w64.heap.size w104) hg156 nb
   have ap170 : ∀ g, blk a150 = some g → ¬ (KfF w64.heap.size w104) g := blk_neX hk155 (kf_own (B := w64.heap.size) ho112) (KfF.lt hk171)
   have hk173 := ho112.grown hg146 (fun _ h => h.elim) nb
   have ap174 : ∀ g, blk a110 = some g → ¬ (fun k => blk (some ⟨b134, 0, none⟩) = some k) g := fun g e hx => nl ((lowo hbe138) _ hx) ((fun k (hk : blk a110 = some k) => hk173.lt k hk) g e)
   have ap172 : ∀ g, blk a150 = some g → ¬ (fun k => blk (some ⟨b134, 0, none⟩) = some k) g := blk_neX hk155 ap174 (fun k (hk : blk (some ⟨b134, 0, none⟩) = some k) => ho141.lt k hk)
   have ap176 : ∀ g, blk (some ⟨b134, 0, none⟩) = some g → ¬ (fun k => blk a110 = some k) g := fun g e hx => nl ((lowo hbe138) g e) ((fun k (hk : blk a110 = some k) => hk173.lt k hk) _ hx)
   have ap175 : ∀ g, blk (some ⟨b134, 0, none⟩) = some g → ¬ (fun k => blk a150 = some k) g := fun g e h => blk_rev hk155 (fun h => ((ap176) g e) h) (ho141.lt g e) h
   refine gv_nil <| gv_goA ?_
   refine gv_stage (fun _ => True) [0, 1, 2, 3, 4, 5] [(5, some false)] (bA 6 [0, 1, 2, 3, 4, 5]) 0 (by kernel_rfl) (by kernel_rfl) trivial ?_
   have hk181 := hk165.grown hg153 ap115
   refine gv_store (t := 22) (b := b57) (off := 0) (v := (.slice a150 (List.length l148) c151)) (t' := 22) (cs := #[(.slice a110 (List.length s72) c111)]) #[(.slice a150 (List.length l148) c151)] (by decide) rfl rfl (by kernel_rfl) (by kernel_rfl) (by kernel_rfl) (by intro u hu; simp [Value.cells] at hu; subst hu; rfl) (show 0 + 1 ≤ 1 by decide) (by rfl) hk181 ?_
   intro w177 hg178 hb179 hz180
   refine ⟨(fun _ => trivial), ?_⟩
   refine gv_nil <| gv_goA ?_
   refine gv_stageE (by kernel_rfl) ?_
   refine gv_blk ?_
   have e := sj h1; subst e
   have hk182 := kf_grown (kf_grown hk171 hg153 (kf_own (B := w64.heap.size) ho112)) hg178 (rowne (kf_box (B := w64.heap.size) hb121))
   have hk183 := (hk168.grown hg153 ap116).grown hg178 (rowne (Nat.ne_of_lt lt97))
   have hB184 := bg hB159 hg153 hl113
   have hB185 := bg hB80 hg27 nb
   have hB186 := bg hB185 hg32 (rowlo hlo81)
   have hlo187 : w0.heap.size ≤ b57 := lob hbe61 hB186.size
   have hB188 := bg hB184 hg178 (rowlo hlo187)
   have hz189 := (nt (nt (nt (nt (nt hz109 hg126.size) hg132.size) hg136.size) hg153.size) hg178.size)
   have hk190 := ho154.grown hg178 (fun _ h => h.elim) (rdnn (rowne ap166))
   have lt191 := ltl ((ltb hb33) _ rfl) ((lowb hbe61) _ rfl)
   have lt192 := ltt lt93 lt191
   have hk193 := (hk161.grown hg153 ap114).grown hg178 (rowne (ng lt192))
   exact fun a hd hs hok => ⟨hk182, hk183, l148, (foldO_snoc hst103).trans hR1, a150, c151, hB188, hz189, hk190, hl158, ap160, ap163, ap167, ap162, ap166, ap169, hk193, hb179, ⟨_, hk183⟩⟩
  ·skip
   have hk194 := hk94.grown hg65 nb
   have hk195 := hb60.grown hg65 nb
   exact ⟨_, rfl, none, 0, hB84, (Nat.le_refl _), (Gv.Own.nil sE 9 w64 (fun _ => False)), (fun _ h => by cases h), (fun _ h => by cases h), (fun _ h => by cases h), (fun _ h => by cases h), (fun h => by cases h), (fun h => by cases h), (fun h => by cases h), hk194, hk195, ⟨_, hb67⟩⟩
  ·rintro pre w196 w197 row198 ⟨s201, hst202, a205, c206, hB203, hz204, ho207, hl208, ap209, ap210, ap211, ap212, ap213, ap214, hb215, hb216, ⟨c218, hb217⟩⟩ hg199 hf200
   obtain ⟨c219, hb220⟩ := FarB.ex hf200 hb217 hg199
   have hz221 := (nt hz204 hg199.size)
   exact ⟨s201, hst202, a205, c206, (bg hB203 hg199 (FarB.lo hf200 hz76 hz77)), hz221, (ho207.grown hg199 (fun _ h => h.elim) (FarB.own hf200 ho207 (fun _ h => h.elim) (fun h => h) ap214)), hl208, ap209, ap210, ap211, ap212, ap213, ap214, (hb215.grown hg199 (FarB.box hf200 hb215 hn89)), (hb216.grown hg199 (FarB.box hf200 hb216 hn96)), ⟨_, hb220⟩⟩
  ·rintro D222 w226 hD223 ⟨s227, hst224, a230, c231, hB228, hz229, ho232, hl233, ap234, ap235, ap236, ap237, ap238, ap239, hb240, hb241, ⟨c243, hb242⟩⟩ hAt225
   have e := sj (hst224.symm.trans hF70); subst e
   have hlo244 : w0.heap.size ≤ D222 := Nat.le_trans hz76 hD223
   refine gv_blk <| gv_seq <| gv_region <| gv_sub [3, 5, 15] (σ' := [(3, (bp b1)), (5, (bp b57)), (15, (.func (.func 107) #[] #[bp b66]))]) (by kernel_rfl) ?_
   refine gv_load (t := 22) (A := ⟨b57, 0, none⟩) (.slice a230 (List.length s227) c231) [] (fun e => by cases e) rfl rfl rfl (by kernel_rfl) (by kernel_rfl) (by kernel_rfl) (inw0 (hb241.cell 0 rfl)) rfl ?_
   refine bindE h0 ?_; clear h0; intro r245 hr246 h0
   refine gv_call0 (by kernel_rfl) rfl (by kernel_rfl) enters57 (textstr_pieces_ok fuel a230 c231 s227 w226 (fun k => (fun k => blk a230 = some k) k) (fun k hk => (fun k (hk : blk a230 = some k) => ho232.lt k hk) k hk) ((ho232.rd (Y := fun k => blk a230 = some k) (fun _ h => h.elim) (fun g e => e)).wide (fun k hk => hk)) r245 hr246) ?_
   rintro v249 w247 ⟨hg248, a250, c251, X253, rfl, ho252, hx254⟩
   have hx255 : ∀ k, X253 k → k < w247.heap.size := fun k hk => (hx254 k hk).1
   have hx256 : ∀ k, X253 k → X0 k ∨ w0.heap.size ≤ k := fun k hk => (hx254 k hk).2.elim (fun h => (fun k (hk : blk a230 = some k) => Or.inr (hl233 k hk)) k h) (fun h => .inr (Nat.le_trans hB228.size h))
   refine gv_pureN 3 [2, 24, 25] [(2, (.slice a250 (List.length r245.1) c251)), (25, (.agg #[(.int .i64 r245.2.1), (.int .i64 r245.2.2)]))] (by kernel_rfl) ?_
   have hk261 := hb240.grown hg248 nb
   refine gv_store0 24 0 (.agg #[(.int .i64 r245.2.1), (.int .i64 r245.2.2)]) #[(.int .i64 r245.2.1), (.int .i64 r245.2.2)] hk261 (by kernel_rfl) (by kernel_rfl) (by kernel_rfl) ?_
   intro w257 hg258 hb259 hz260
   have hz262 := (nt (nt hz229 hg248.size) hg258.size)
   clear hz260 hk261 hr246 hb242 hb241 ap239 ap238 ap236 ap235 ap234 hl233 hz229 lt97 lt95 hk94 lt93 hk92 hg91 hg90 hlo88 hB87 hB86 hB85 hB84 hg83 hB82 hlo81 hB80 hB79 hg78 hx68 hb67 hg65 hbe61 hb60 hg59 hb33 hg32 hbe29 hg27 hg23 hB21 hg9 hb4
   refine gv_nil <| gv_cret ?_
   have e := sj h0; subst e
   have ap266 := at_box hAt225 rfl hb240
   have hk267 := (hAt225.grown hg248 nb).grown hg258 (rowne (Ne.symm ap266))
   refine gv_ret (gv_mark hk267 ?_)
   intro w263 hg264 hz265
   have hk268 := hb259.grown hg264 (rowne ap266)
   refine gv_doneM [(.slice a250 (List.length r245.1) c251), (.agg #[(.int .i64 r245.2.1), (.int .i64 r245.2.2)])] rfl ⟨(by kernel_rfl), ⟨⟨b1, 0, none⟩, (by kernel_rfl), run_loadVar_row w263 b1 _ 24 _ _ _ hk268 Tryd.underlying24 rfl (by kernel_rfl)⟩, trivial⟩ ?_
   have hB269 := bg hB228 hg248 nb
   have hlo270 : w0.heap.size ≤ b1 := lob hbe5 hB0.size
   have hB271 := bg hB269 hg258 (rowlo hlo270)
   have hB272 := bg hB271 hg264 (rowlo hlo244)
   have ap273 : ¬ X253 b1 := fun h => ((hx254 _ h).2.elim (fun h => (ap237)  h) (fun h => nl h (hb240.lt)))
   have ap274 := at_own hAt225 rfl ho232
   have ap275 : ¬ X253 D222 := fun h => ((hx254 _ h).2.elim (fun h => (ap274)  h) (fun h => nl h (hAt225.lt)))
   have hx276 := ltx hx255 hg258.size
   have hk277 := (ho252.grown hg258 hx255 (rowne ap273)).grown hg264 hx276 (rowne ap275)
   have hx278 := ltx hx276 hg264.size
   exact ⟨grown_of_below hB272, a250, c251, X253, rfl, hk277, (fun k hk => ⟨hx278 k hk, hx256 k hk⟩)⟩

theorem ref4_LinesOf_ok (fuel : Nat) (pa0_0 : Option Addr) (pc0_0 : Nat) (l_0 : (List Int)) (w0 : World) (X0 : Nat → Prop) (hX0 : ∀ k, X0 k → k < w0.heap.size) (hpa0_0 : Rd (iE .i64) w0 X0 pa0_0 pc0_0 l_0) (r0 : (List ByteArray)) (h0 : ref4_LinesOf fuel l_0 = some r0) :
    Calls Tryd.prog 49 ([(.slice pa0_0 (List.length l_0) pc0_0)] : List Value).toArray w0 (Ret fun v w' => w0.grownBy w' none ∧ ∃ (a0_0r : Option Addr) (c0_0r : Nat), v = tup [(.slice a0_0r (List.length r0) c0_0r)] ∧ Gv.Own sE 9 w' (fun _ => False) a0_0r c0_0r r0 ∧ (∀ g, blk a0_0r = some g → w0.heap.size ≤ g)) := by
 have hB0 : Below w0.heap.size w0 w0 := Below.refl _ _
 unfold ref4_LinesOf at h0
 refine calls_run Tryd.func49 rfl Tryd.ntmps49 (by kernel_rfl) ?_
 refine gv_sub [0] (σ' := [(0, (.slice pa0_0 (List.length l_0) pc0_0))]) (by kernel_rfl) ?_
 refine gv_seq <| gv_region <| gv_pureN 1 [2] [] (by kernel_rfl) ?_
 refine gv_nil <| gv_seq <| gv_region <| gv_pureN 1 [3] [(3, (.slice none (List.length ([] : List ByteArray)) 0))] (by kernel_rfl) ?_
 refine gv_nil <| gv_seq <| gv_region <| gv_pureN 1 [4] [(4, (.int .i64 0))] (by kernel_rfl) ?_
 refine gv_nil <| gv_seq <| gv_seq <| gv_region <| gv_pureN 1 [5] [(5, (.int .i64 0))] (by kernel_rfl) ?_
 refine gv_nil <| bindE h0 ?_; clear h0; intro j1 h1 h0
 refine gv_cut_code (J := fun a w2 => ∃ (a3_0j : Option Addr) (c3_0j : Nat), Below w0.heap.size w0 w2 ∧ w0.heap.size ≤ w2.heap.size ∧ Gv.Own sE 9 w2 (fun _ => False) a3_0j c3_0j j1.1 ∧ (∀ g, blk a3_0j = some g → w0.heap.size ≤ g) ∧ a.defers = [] ∧ a.tmps.size = 39 ∧ Ok [(0, (.slice pa0_0 (List.length l_0) pc0_0)), (3, (.slice a3_0j (List.length j1.1) c3_0j)), (4, (.int .i64 j1.2))] a.tmps) ?_ ?_
 ·skip
  refine gv_block <| gv_loop (A := fun (s3 : ((List ByteArray) × Int × Int)) a w4 => ∃ (a3_0j : Option Addr) (c3_0j : Nat), Below w0.heap.size w0 w4 ∧ w0.heap.size ≤ w4.heap.size ∧ Gv.Own sE 9 w4 (fun _ => False) a3_0j c3_0j s3.1 ∧ (∀ g, blk a3_0j = some g → w0.heap.size ≤ g) ∧ a.defers = [] ∧ a.tmps.size = 39 ∧ Ok [(0, (.slice pa0_0 (List.length l_0) pc0_0)), (3, (.slice a3_0j (List.length s3.1) c3_0j)), (4, (.int .i64 s3.2.1)), (5, (.int .i64 s3.2.2))] a.tmps) h1 ?_ ?_
  ·intro a hd hs hok
   exact ⟨none, 0, hB0, (Nat.le_refl _), (Gv.Own.nil sE 9 w0 (fun _ => False)), (fun _ h => by cases h), hd, hs, ok_pick [0, 3, 4, 5] hok (by kernel_rfl)⟩
  ·rintro s3 r2 h2 hR2 a w4 ⟨a7, c8, hB5, hz6, ho9, hl10, hd, hs, hok⟩
   refine gv_in ?_ hd hs hok
   clear hd hs hok
   refine gv_seq <| gv_seq <| gv_region <| gv_pureN 4 [6, 7, 8, 9] [(9, (.bool (decide (s3.2.2 < ((List.length l_0 : Nat) : Int)))))] (by kernel_rfl) ?_
   refine gv_nil <| gv_cond (b := (decide (s3.2.2 < ((List.length l_0 : Nat) : Int)))) (by kernel_rfl) (fun hc11 => ?_) (fun hc11 => ?_)
   ·replace h2 := ite_t hc11 h2
    refine gv_skip <| gv_seq <| gv_block <| gv_seq <| gv_region <| gv_pureN 2 [12, 13] [(12, (.slice pa0_0 (List.length l_0) pc0_0)), (13, (.int .i64 s3.2.2))] (by kernel_rfl) ?_
    refine bindE h2 ?_; clear h2; intro x12 hx13 h2
    refine gv_idxaddr (t := 38) (e := 3) (a := pa0_0) (len := List.length l_0) (cap := pc0_0) (kk := .i64) (i := s3.2.2) (sz := 1) [] (fun e => by cases e) rfl rfl rfl (by kernel_rfl) (by kernel_rfl) Tryd.underlying38 (by kernel_rfl) ((hpa0_0.below hB5 hX0).has hx13) (idx_spec hx13).1 (idx_spec hx13).2.1 rfl ?_
    refine gv_load (t := 3) (A := (elemAddr pa0_0 ((s3.2.2 : Int).toNat * 1))) (.int .i64 x12) [] (fun e => by cases e) rfl rfl rfl (by kernel_rfl) (by kernel_rfl) (by kernel_rfl) (inw0 ((hpa0_0.below hB5 hX0).cell hx13)) rfl ?_
    refine gv_pureN 1 [16] [(16, (.bool (x12 == 10)))] (by kernel_rfl) ?_
    refine gv_nil <| bindE h2 ?_; clear h2; intro j14 h3 h2
    refine gv_cut_code (J := fun a w15 => ∃ (a3_0j : Option Addr) (c3_0j : Nat), Below w0.heap.size w0 w15 ∧ w4.heap.size ≤ w15.heap.size ∧ Gv.Own sE 9 w15 (fun _ => False) a3_0j c3_0j j14.1 ∧ (∀ g, blk a3_0j = some g → w0.heap.size ≤ g) ∧ a.defers = [] ∧ a.tmps.size = 39 ∧ Ok [(0, (.slice pa0_0 (List.length l_0) pc0_0)), (3, (.slice a3_0j (List.length j14.1) c3_0j)), (4, (.int .i64 j14.2)), (5, (.int .i64 s3.2.2))] a.tmps) ?_ ?_
    ·skip
     refine gv_cond (b := (x12 == 10)) (by kernel_rfl) (fun hc16 => ?_) (fun hc16 => ?_)
     ·replace h3 := ite_t hc16 h3
      refine gv_seq <| gv_region <| gv_pureN 4 [17, 18, 19, 20] [(17, (.slice a7 (List.length s3.1) c8)), (18, (.slice pa0_0 (List.length l_0) pc0_0)), (19, (.int .i64 s3.2.1)), (20, (.int .i64 s3.2.2))] (by kernel_rfl) ?_
      refine bindE h3 ?_; clear h3; intro x17 hx18 h3
      refine gv_ssl2 (iE .i64) (t := 38) (e := 3) (xs := l_0) (a := pa0_0) (cap := pc0_0) (lo := (some (.int .i64 s3.2.1))) (hi := (some (.int .i64 s3.2.2))) s3.2.1 s3.2.2 x17 (fun e => by cases e) rfl rfl rfl (by kernel_rfl) (by kernel_rfl) Tryd.underlying38 (by kernel_rfl) (.inr ⟨_, rfl⟩) (.inr ⟨_, rfl⟩) hx18 (hpa0_0.below hB5 hX0).1 ?_
      intro a19 c20 hsub21
      have hp22 := hsub21 _ _ hpa0_0
      refine bindE h3 ?_; clear h3; intro r23 hr24 h3
      refine gv_call0 (by kernel_rfl) rfl (by kernel_rfl) enters26 (ref4_String_ok fuel a19 c20 x17 w4 (fun k => X0 k) (fun k hk => (fun k (hk : X0 k) => ltl (hX0 k hk) hB5.size) k hk) ((hp22.below hB5 hX0).wide (fun k hk => hk)) r23 hr24) ?_
      rintro v27 w25 ⟨hg26, rfl⟩
      refine gv_new0 (fun b => .slice (some ⟨b, 0, none⟩) 1 1) #[(.string r23)] 9 (by kernel_rfl) (by kernel_rfl) ?_
      intro b28 w29 hg30 hb31 hbe32 hz33
      have ho34 : Gv.Own sE 9 w29 (fun _ => False) (some ⟨b28, 0, none⟩) 1 ([r23] : List ByteArray) := Box.ownE hb31 ⟨[(.string r23)], [], rfl, rfl, rfl⟩ (show 1 ≤ maxLen by decide) (fun h => h)
      have hB39 := bg hB5 hg26 nb
      have hl35 : ∀ g, blk (some ⟨b28, 0, none⟩) = some g → w0.heap.size ≤ g := loo hbe32 hB39.size
      refine bindE h3 ?_; clear h3; intro l40 hx41 h3
      have hg48 := (grown_trans hg26 hg30)
      have hk49 := ho9.grown hg48 (fun _ h => h.elim) nb
      refine gv_append sE (t := 22) (ty := 22) (e := 9) (a := a7) (ax := (some ⟨b28, 0, none⟩)) (cap := c8) (cx := 1) (xs := s3.1) (ys := ([r23] : List ByteArray)) l40 (X := (fun _ => False)) (Y := (fun k => blk (some ⟨b28, 0, none⟩) = some k)) (by decide) rfl rfl (by kernel_rfl) (by kernel_rfl) Tryd.underlying22 info9 hk49 (ho34.rd (Y := fun k => blk (some ⟨b28, 0, none⟩) = some k) (fun _ h => h.elim) (fun g e => e)) hx41 (.inr fun _ _ _ _ _ h => h) (fun _ h => h.elim) ?_
      intro a42 c43 w44 hg45 ho46 hk47
      refine ⟨(fun e => by cases e), ?_⟩
      have hB51 := bg hB39 hg30 nb
      have hl50 : ∀ g, blk a42 = some g → w0.heap.size ≤ g := blk_step hk47 hl10 hB51.size
      have hk53 := ho9.grown hg26 (fun _ h => h.elim) nb
      have ap54 : ∀ g, blk a7 = some g → ¬ (fun k => blk (some ⟨b28, 0, none⟩) = some k) g := fun g e hx => nl ((lowo hbe32) _ hx) ((fun k (hk : blk a7 = some k) => hk53.lt k hk) g e)
      have ap52 : ∀ g, blk a42 = some g → ¬ (fun k => blk (some ⟨b28, 0, none⟩) = some k) g := blk_neX hk47 ap54 (fun k (hk : blk (some ⟨b28, 0, none⟩) = some k) => ho34.lt k hk)
      have ap56 : ∀ g, blk (some ⟨b28, 0, none⟩) = some g → ¬ (fun k => blk a7 = some k) g := fun g e hx => nl ((lowo hbe32) g e) ((fun k (hk : blk a7 = some k) => hk53.lt k hk) _ hx)
      have ap55 : ∀ g, blk (some ⟨b28, 0, none⟩) = some g → ¬ (fun k => blk a42 = some k) g := fun g e h => blk_rev hk47 (fun h => ((ap56) g e) h) (ho34.lt g e) h
      refine gv_pureN 1 [3] [(3, (.slice a42 (List.length l40) c43))] (by kernel_rfl) ?_
      refine gv_nil <| gv_region <| gv_pureN 3 [4, 25, 26] [(4, (.int .i64 (IntKind.i64.wrap (s3.2.2 + 1))))] (by kernel_rfl) ?_
      refine gv_nil ?_
      have e := sj h3; subst e
      refine gv_goal fun a hd hs hok => ?_
      have hB57 := bg hB51 hg45 hl10
      have hz58 := (nt (nt hg26.size hg30.size) hg45.size)
      exact ⟨a42, c43, hB57, hz58, ho46, hl50, hd, hs, ok_pick [0, 3, 4, 5] hok (by kernel_rfl)⟩
     ·replace h3 := ite_f hc16 h3
      refine gv_skip ?_
      have e := sj h3; subst e
      refine gv_goal fun a hd hs hok => ?_
      exact ⟨a7, c8, hB5, (Nat.le_refl _), ho9, hl10, hd, hs, ok_pick [0, 3, 4, 5] hok (by kernel_rfl)⟩
    ·rintro a w15 ⟨a61, c62, hB59, hz60, ho63, hl64, hd, hs, hok⟩
     refine gv_in ?_ hd hs hok
     clear hd hs hok
     have hz65 := (nt hz6 hz60)
     clear hz60 hx13 hc11 hl10 ho9 hz6 hB5
     refine gv_blk <| gv_region <| gv_pureN 3 [5, 10, 11] [(5, (.int .i64 (IntKind.i64.wrap (s3.2.2 + 1))))] (by kernel_rfl) ?_
     refine gv_nil ?_
     have e := sj h2; subst e
     refine gv_goal fun a hd hs hok => ?_
     have hz66 := hz65
     exact ⟨(j14.1, j14.2, (IntKind.i64.wrap (s3.2.2 + 1))), rfl, a61, c62, hB59, hz66, ho63, hl64, hd, hs, ok_pick [0, 3, 4, 5] hok (by kernel_rfl)⟩
   ·replace h2 := ite_f hc11 h2
    refine gv_cexit <| gv_exit rfl ?_
    have e := sj h2; subst e
    replace h1 := congrArg some (hR2 _ rfl)
    have e := sj h1; subst e
    refine gv_goal fun a hd hs hok => ?_
    have hz67 := hz6
    exact ⟨a7, c8, hB5, hz67, ho9, hl10, hd, hs, ok_pick [0, 3, 4] hok (by kernel_rfl)⟩
 ·rintro a w2 ⟨a70, c71, hB68, hz69, ho72, hl73, hd, hs, hok⟩
  refine gv_in ?_ hd hs hok
  clear hd hs hok
  refine gv_seq <| gv_seq <| gv_region <| gv_pureN 4 [27, 28, 29, 30] [(30, (.bool (decide (j1.2 < ((List.length l_0 : Nat) : Int)))))] (by kernel_rfl) ?_
  refine gv_nil <| bindE h0 ?_; clear h0; intro j74 h1 h0
  refine gv_cut_code (J := fun a w75 => ∃ (a3_0j : Option Addr) (c3_0j : Nat), Below w0.heap.size w0 w75 ∧ w2.heap.size ≤ w75.heap.size ∧ Gv.Own sE 9 w75 (fun _ => False) a3_0j c3_0j j74 ∧ (∀ g, blk a3_0j = some g → w0.heap.size ≤ g) ∧ a.defers = [] ∧ a.tmps.size = 39 ∧ Ok [(3, (.slice a3_0j (List.length j74) c3_0j))] a.tmps) ?_ ?_
  ·skip
   refine gv_cond (b := (decide (j1.2 < ((List.length l_0 : Nat) : Int)))) (by kernel_rfl) (fun hc76 => ?_) (fun hc76 => ?_)
   ·replace h1 := ite_t hc76 h1
    refine gv_region <| gv_pureN 3 [31, 32, 33] [(31, (.slice a70 (List.length j1.1) c71)), (32, (.slice pa0_0 (List.length l_0) pc0_0)), (33, (.int .i64 j1.2))] (by kernel_rfl) ?_
    refine bindE h1 ?_; clear h1; intro x77 hx78 h1
    refine gv_ssl2 (iE .i64) (t := 38) (e := 3) (xs := l_0) (a := pa0_0) (cap := pc0_0) (lo := (some (.int .i64 j1.2))) (hi := none) j1.2 ((List.length l_0 : Nat) : Int) x77 (fun e => by cases e) rfl rfl rfl (by kernel_rfl) (by kernel_rfl) Tryd.underlying38 (by kernel_rfl) (.inr ⟨_, rfl⟩) (.inl ⟨rfl, rfl⟩) hx78 (hpa0_0.below hB68 hX0).1 ?_
    intro a79 c80 hsub81
    have hp82 := hsub81 _ _ hpa0_0
    refine bindE h1 ?_; clear h1; intro r83 hr84 h1
    refine gv_call0 (by kernel_rfl) rfl (by kernel_rfl) enters26 (ref4_String_ok fuel a79 c80 x77 w2 (fun k => X0 k) (fun k hk => (fun k (hk : X0 k) => ltl (hX0 k hk) hB68.size) k hk) ((hp82.below hB68 hX0).wide (fun k hk => hk)) r83 hr84) ?_
    rintro v87 w85 ⟨hg86, rfl⟩
    refine gv_new0 (fun b => .slice (some ⟨b, 0, none⟩) 1 1) #[(.string r83)] 9 (by kernel_rfl) (by kernel_rfl) ?_
    intro b88 w89 hg90 hb91 hbe92 hz93
    have ho94 : Gv.Own sE 9 w89 (fun _ => False) (some ⟨b88, 0, none⟩) 1 ([r83] : List ByteArray) := Box.ownE hb91 ⟨[(.string r83)], [], rfl, rfl, rfl⟩ (show 1 ≤ maxLen by decide) (fun h => h)
    have hB99 := bg hB68 hg86 nb
    have hl95 : ∀ g, blk (some ⟨b88, 0, none⟩) = some g → w0.heap.size ≤ g := loo hbe92 hB99.size
    refine bindE h1 ?_; clear h1; intro l100 hx101 h1
    have hg108 := (grown_trans hg86 hg90)
    have hk109 := ho72.grown hg108 (fun _ h => h.elim) nb
    refine gv_append sE (t := 22) (ty := 22) (e := 9) (a := a70) (ax := (some ⟨b88, 0, none⟩)) (cap := c71) (cx := 1) (xs := j1.1) (ys := ([r83] : List ByteArray)) l100 (X := (fun _ => False)) (Y := (fun k => blk (some ⟨b88, 0, none⟩) = some k)) (by decide) rfl rfl (by kernel_rfl) (by kernel_rfl) Tryd.underlying22 info9 hk109 (ho94.rd (Y := fun k => blk (some ⟨b88, 0, none⟩) = some k) (fun _ h => h.elim) (fun g e => e)) hx101 (.inr fun _ _ _ _ _ h => h) (fun _ h => h.elim) ?_
    intro a102 c103 w104 hg105 ho106 hk107
    refine ⟨(fun e => by cases e), ?_⟩
    have hB111 := bg hB99 hg90 nb
    have hl110 : ∀ g, blk a102 = some g → w0.heap.size ≤ g := blk_step hk107 hl73 hB111.size
    have hk113 := ho72.grown hg86 (fun _ h => h.elim) nb
    have ap114 : ∀ g, blk a70 = some g → ¬ (fun k => blk (some ⟨b88, 0, none⟩) = some k) g := fun g e hx => nl ((lowo hbe92) _ hx) ((fun k (hk : blk a70 = some k) => hk113.lt k hk) g e)
    have ap112 : ∀ g, blk a102 = some g → ¬ (fun k => blk (some ⟨b88, 0, none⟩) = some k) g := blk_neX hk107 ap114 (fun k (hk : blk (some ⟨b88, 0, none⟩) = some k) => ho94.lt k hk)
    have ap116 : ∀ g, blk (some ⟨b88, 0, none⟩) = some g → ¬ (fun k => blk a70 = some k) g := fun g e hx => nl ((lowo hbe92) g e) ((fun k (hk : blk a70 = some k) => hk113.lt k hk) _ hx)
    have ap115 : ∀ g, blk (some ⟨b88, 0, none⟩) = some g → ¬ (fun k => blk a102 = some k) g := fun g e h => blk_rev hk107 (fun h => ((ap116) g e) h) (ho94.lt g e) h
    refine gv_pureN 1 [3] [(3, (.slice a102 (List.length l100) c103))] (by kernel_rfl) ?_
    refine gv_nil ?_
    have e := sj h1; subst e
    refine gv_goal fun a hd hs hok => ?_
    have hB117 := bg hB111 hg105 hl73
    have hz118 := (nt (nt hg86.size hg90.size) hg105.size)
    exact ⟨a102, c103, hB117, hz118, ho106, hl110, hd, hs, ok_pick [3] hok (by kernel_rfl)⟩
   ·replace h1 := ite_f hc76 h1
    refine gv_skip ?_
    have e := sj h1; subst e
    refine gv_goal fun a hd hs hok => ?_
    exact ⟨a70, c71, hB68, (Nat.le_refl _), ho72, hl73, hd, hs, ok_pick [3] hok (by kernel_rfl)⟩
  ·rintro a w75 ⟨a121, c122, hB119, hz120, ho123, hl124, hd, hs, hok⟩
   refine gv_in ?_ hd hs hok
   clear hd hs hok
   clear hz120 hl73 ho72 hz69 hB68
   refine gv_seq <| gv_region <| gv_pureN 2 [2, 38] [(2, (.slice a121 (List.length j74) c122))] (by kernel_rfl) ?_
   refine gv_nil <| gv_cret ?_
   have e := sj h0; subst e
   refine gv_ret (gv_done [(.slice a121 (List.length j74) c122)] rfl ⟨(by kernel_rfl), trivial⟩ ?_)
   exact ⟨grown_of_below hB119, a121, c122, rfl, ho123, hl124⟩

theorem ref4_PlacesLast_ok (fuel : Nat) (pa0_0 : Option Addr) (pc0_0 : Nat) (l_0 : (List Int)) (pa1_0 : Option Addr) (pc1_0 : Nat) (sub_1 : (List Int)) (most_2 : Int) (w0 : World) (X0 : Nat → Prop) (hX0 : ∀ k, X0 k → k < w0.heap.size) (hpa0_0 : Rd (iE .i64) w0 X0 pa0_0 pc0_0 l_0) (hpa1_0 : Rd (iE .i64) w0 X0 pa1_0 pc1_0 sub_1) (r0 : (List Int)) (h0 : ref4_PlacesLast fuel l_0 sub_1 most_2 = some r0) :
    Calls Tryd.prog 50 ([(.slice pa0_0 (List.length l_0) pc0_0), (.slice pa1_0 (List.length sub_1) pc1_0), (.int .i64 most_2)] : List Value).toArray w0 (Ret fun v w' => w0.grownBy w' none ∧ ∃ (a0_0r : Option Addr) (c0_0r : Nat), v = tup [(.slice a0_0r (List.length r0) c0_0r)] ∧ Gv.Own (iE .i64) 3 w' (fun _ => False) a0_0r c0_0r r0 ∧ (∀ g, blk a0_0r = some g → w0.heap.size ≤ g)) := by
 have hB0 : Below w0.heap.size w0 w0 := Below.refl _ _
 unfold ref4_PlacesLast at h0
 refine calls_run Tryd.func50 rfl Tryd.ntmps50 (by kernel_rfl) ?_
 refine gv_sub [0, 1, 2] (σ' := [(0, (.slice pa0_0 (List.length l_0) pc0_0)), (1, (.slice pa1_0 (List.length sub_1) pc1_0)), (2, (.int .i64 most_2))]) (by kernel_rfl) ?_
 refine gv_seq <| gv_region <| gv_pureN 1 [6] [] (by kernel_rfl) ?_
 refine gv_nil <| gv_seq <| gv_region <| gv_pureN 1 [7] [(7, (.slice none (List.length ([] : List Int)) 0))] (by kernel_rfl) ?_
 refine gv_nil <| gv_seq <| gv_seq <| gv_region <| gv_pureN 6 [8, 9, 10, 11, 12, 13] [(8, (.int .i64 (IntKind.i64.wrap (((List.length l_0 : Nat) : Int) - ((List.length sub_1 : Nat) : Int)))))] (by kernel_rfl) ?_
 refine bindE h0 ?_; clear h0; intro n1 hn2 h0
 refine gv_name (s := 8) (v := (.int .i64 (IntKind.i64.wrap (((List.length l_0 : Nat) : Int) - ((List.length sub_1 : Nat) : Int))))) (v' := (.int .i64 n1)) (by kernel_rfl) (congrArg (Value.int .i64) (sj hn2)) ?_
 refine gv_nil <| bindE h0 ?_; clear h0; intro j3 h1 h0
 refine gv_cut_code (J := fun a w4 => ∃ (a7_0j : Option Addr) (c7_0j : Nat), Below w0.heap.size w0 w4 ∧ w0.heap.size ≤ w4.heap.size ∧ Gv.Own (iE .i64) 3 w4 (fun _ => False) a7_0j c7_0j j3 ∧ (∀ g, blk a7_0j = some g → w0.heap.size ≤ g) ∧ a.defers = [] ∧ a.tmps.size = 41 ∧ Ok [(7, (.slice a7_0j (List.length j3) c7_0j))] a.tmps) ?_ ?_
 ·skip
  refine gv_block <| gv_loop (A := fun (s5 : ((List Int) × Int)) a w6 => ∃ (a7_0j : Option Addr) (c7_0j : Nat), Below w0.heap.size w0 w6 ∧ w0.heap.size ≤ w6.heap.size ∧ Gv.Own (iE .i64) 3 w6 (fun _ => False) a7_0j c7_0j s5.1 ∧ (∀ g, blk a7_0j = some g → w0.heap.size ≤ g) ∧ a.defers = [] ∧ a.tmps.size = 41 ∧ Ok [(0, (.slice pa0_0 (List.length l_0) pc0_0)), (1, (.slice pa1_0 (List.length sub_1) pc1_0)), (2, (.int .i64 most_2)), (7, (.slice a7_0j (List.length s5.1) c7_0j)), (8, (.int .i64 s5.2))] a.tmps) h1 ?_ ?_
  ·intro a hd hs hok
   exact ⟨none, 0, hB0, (Nat.le_refl _), (Gv.Own.nil (iE .i64) 3 w0 (fun _ => False)), (fun _ h => by cases h), hd, hs, ok_pick [0, 1, 2, 7, 8] hok (by kernel_rfl)⟩
  ·rintro s5 r2 h2 hR2 a w6 ⟨a9, c10, hB7, hz8, ho11, hl12, hd, hs, hok⟩
   refine gv_in ?_ hd hs hok
   clear hd hs hok
   refine gv_seq <| gv_seq <| gv_region <| gv_cut_ops (J := fun a w13 => w6 = w13 ∧ a.defers = [] ∧ a.tmps.size = 41 ∧ Ok [(0, (.slice pa0_0 (List.length l_0) pc0_0)), (1, (.slice pa1_0 (List.length sub_1) pc1_0)), (2, (.int .i64 most_2)), (7, (.slice a9 (List.length s5.1) c10)), (8, (.int .i64 s5.2)), (25, (.bool ((decide (s5.2 ≥ 0)) && ((decide (most_2 < 0)) || (decide (((List.length s5.1 : Nat) : Int) < most_2))))))] a.tmps) ?_ ?_
   ·skip
    refine gv_pureN 3 [14, 15, 16] [(16, (.bool (decide (s5.2 ≥ 0))))] (by kernel_rfl) ?_
    refine gv_split (s := 16) (g := (decide (s5.2 ≥ 0))) (by kernel_rfl) (fun hc14 => ?_) (fun hc14 => ?_)
    ·skip
     refine gv_pureN 3 [17, 18, 19] [(19, (.bool (decide (most_2 < 0))))] (by kernel_rfl) ?_
     refine gv_split (s := 19) (g := (decide (most_2 < 0))) (by kernel_rfl) (fun hc15 => ?_) (fun hc15 => ?_)
     ·skip
      refine gv_pureN 6 [20, 21, 22, 23, 24, 25] [(25, (.bool true))] (by kernel_rfl) ?_
      refine gv_nil <| gv_sub [0, 1, 2, 7, 8, 25] (σ' := [(0, (.slice pa0_0 (List.length l_0) pc0_0)), (1, (.slice pa1_0 (List.length sub_1) pc1_0)), (2, (.int .i64 most_2)), (7, (.slice a9 (List.length s5.1) c10)), (8, (.int .i64 s5.2)), (25, (.bool true))]) (by kernel_rfl) ?_
      refine gv_goal fun a hd hs hok => ⟨rfl, hd, hs, ?_⟩
      obtain ⟨q0, q1, q2, q7, q8, q25, _⟩ := hok
      exact ⟨q0, q1, q2, q7, q8, (by rw [hc14, hc15]; exact q25), trivial⟩
     ·skip
      refine gv_pureN 6 [20, 21, 22, 23, 24, 25] [(25, (.bool (decide (((List.length s5.1 : Nat) : Int) < most_2))))] (by kernel_rfl) ?_
      refine gv_nil <| gv_sub [0, 1, 2, 7, 8, 25] (σ' := [(0, (.slice pa0_0 (List.length l_0) pc0_0)), (1, (.slice pa1_0 (List.length sub_1) pc1_0)), (2, (.int .i64 most_2)), (7, (.slice a9 (List.length s5.1) c10)), (8, (.int .i64 s5.2)), (25, (.bool (decide (((List.length s5.1 : Nat) : Int) < most_2))))]) (by kernel_rfl) ?_
      refine gv_goal fun a hd hs hok => ⟨rfl, hd, hs, ?_⟩
      obtain ⟨q0, q1, q2, q7, q8, q25, _⟩ := hok
      exact ⟨q0, q1, q2, q7, q8, (by rw [hc14, hc15]; exact q25), trivial⟩
    ·skip
     refine gv_pureN 9 [17, 18, 19, 20, 21, 22, 23, 24, 25] [(25, (.bool false))] (by kernel_rfl) ?_
     refine gv_nil <| gv_sub [0, 1, 2, 7, 8, 25] (σ' := [(0, (.slice pa0_0 (List.length l_0) pc0_0)), (1, (.slice pa1_0 (List.length sub_1) pc1_0)), (2, (.int .i64 most_2)), (7, (.slice a9 (List.length s5.1) c10)), (8, (.int .i64 s5.2)), (25, (.bool false))]) (by kernel_rfl) ?_
     refine gv_goal fun a hd hs hok => ⟨rfl, hd, hs, ?_⟩
     obtain ⟨q0, q1, q2, q7, q8, q25, _⟩ := hok
     exact ⟨q0, q1, q2, q7, q8, (by rw [hc14]; exact q25), trivial⟩
   ·rintro a w13 ⟨e, hd, hs, hok⟩; subst e
    refine gv_in ?_ hd hs hok
    clear hd hs hok
    refine gv_cond (b := ((decide (s5.2 ≥ 0)) && ((decide (most_2 < 0)) || (decide (((List.length s5.1 : Nat) : Int) < most_2))))) (by kernel_rfl) (fun hc16 => ?_) (fun hc16 => ?_)
    ·replace h2 := ite_t hc16 h2
     refine gv_skip <| gv_block <| gv_seq <| gv_region <| gv_pureN 3 [26, 27, 28] [(26, (.slice pa0_0 (List.length l_0) pc0_0)), (27, (.slice pa1_0 (List.length sub_1) pc1_0)), (28, (.int .i64 s5.2))] (by kernel_rfl) ?_
     refine bindE h2 ?_; clear h2; intro r17 hr18 h2
     refine gv_call0 (by kernel_rfl) rfl (by kernel_rfl) enters75 (ref4_here_ok fuel pa0_0 pc0_0 l_0 pa1_0 pc1_0 sub_1 s5.2 w6 (fun k => X0 k ∨ X0 k) (fun k hk => (hk).elim (fun h => (fun k (hk : X0 k) => ltl (hX0 k hk) hB7.size) k h) (fun h => (fun k (hk : X0 k) => ltl (hX0 k hk) hB7.size) k h)) ((hpa0_0.below hB7 hX0).wide (fun k hk => (.inl hk))) ((hpa1_0.below hB7 hX0).wide (fun k hk => (.inr hk))) r17 hr18) ?_
     rintro v21 w19 ⟨hg20, rfl⟩
     refine gv_nil <| bindE h2 ?_; clear h2; intro j22 h3 h2
     refine gv_cut_code (J := fun a w23 => ∃ (a7_0j : Option Addr) (c7_0j : Nat), Below w0.heap.size w0 w23 ∧ w19.heap.size ≤ w23.heap.size ∧ Gv.Own (iE .i64) 3 w23 (fun _ => False) a7_0j c7_0j j22.1 ∧ (∀ g, blk a7_0j = some g → w0.heap.size ≤ g) ∧ a.defers = [] ∧ a.tmps.size = 41 ∧ Ok [(0, (.slice pa0_0 (List.length l_0) pc0_0)), (1, (.slice pa1_0 (List.length sub_1) pc1_0)), (2, (.int .i64 most_2)), (7, (.slice a7_0j (List.length j22.1) c7_0j)), (8, (.int .i64 j22.2))] a.tmps) ?_ ?_
     ·skip
      refine gv_cond (b := r17) (by kernel_rfl) (fun hc24 => ?_) (fun hc24 => ?_)
      ·replace h3 := ite_t hc24 h3
       refine gv_seq <| gv_region <| gv_pureN 1 [30] [(30, (.int .i64 s5.2))] (by kernel_rfl) ?_
       refine gv_new0 (fun b => .slice (some ⟨b, 0, none⟩) 1 1) #[(.int .i64 s5.2)] 3 (by kernel_rfl) (by kernel_rfl) ?_
       intro b25 w26 hg27 hb28 hbe29 hz30
       have ho31 : Gv.Own (iE .i64) 3 w26 (fun _ => False) (some ⟨b25, 0, none⟩) 1 ([s5.2] : List Int) := Box.ownE hb28 ⟨[(.int .i64 s5.2)], [], rfl, rfl, rfl⟩ (show 1 ≤ maxLen by decide) (fun h => h)
       have hB36 := bg hB7 hg20 nb
       have hl32 : ∀ g, blk (some ⟨b25, 0, none⟩) = some g → w0.heap.size ≤ g := loo hbe29 hB36.size
       refine gv_pureN 1 [32] [(32, (.slice a9 (List.length s5.1) c10))] (by kernel_rfl) ?_
       refine bindE h3 ?_; clear h3; intro l37 hx38 h3
       have hg45 := (grown_trans hg20 hg27)
       have hk46 := ho11.grown hg45 (fun _ h => h.elim) nb
       refine gv_append (iE .i64) (t := 38) (ty := 38) (e := 3) (a := (some ⟨b25, 0, none⟩)) (ax := a9) (cap := 1) (cx := c10) (xs := ([s5.2] : List Int)) (ys := s5.1) l37 (X := (fun _ => False)) (Y := (fun k => blk a9 = some k)) (by decide) rfl rfl (by kernel_rfl) (by kernel_rfl) Tryd.underlying38 info3 ho31 (hk46.rd (Y := fun k => blk a9 = some k) (fun _ h => h.elim) (fun g e => e)) hx38 (.inr fun _ _ _ _ _ h => h) (fun _ h => h.elim) ?_
       intro a39 c40 w41 hg42 ho43 hk44
       refine ⟨(fun e => by cases e), ?_⟩
       have hB48 := bg hB36 hg27 nb
       have hl47 : ∀ g, blk a39 = some g → w0.heap.size ≤ g := blk_step hk44 hl32 hB48.size
       have hk50 := ho11.grown hg20 (fun _ h => h.elim) nb
       have ap51 : ∀ g, blk (some ⟨b25, 0, none⟩) = some g → ¬ (fun k => blk a9 = some k) g := fun g e hx => nl ((lowo hbe29) g e) ((fun k (hk : blk a9 = some k) => hk50.lt k hk) _ hx)
       have ap49 : ∀ g, blk a39 = some g → ¬ (fun k => blk a9 = some k) g := blk_neX hk44 ap51 (fun k (hk : blk a9 = some k) => hk46.lt k hk)
       have ap53 : ∀ g, blk a9 = some g → ¬ (fun k => blk (some ⟨b25, 0, none⟩) = some k) g := fun g e hx => nl ((lowo hbe29) _ hx) ((fun k (hk : blk a9 = some k) => hk50.lt k hk) g e)
       have ap52 : ∀ g, blk a9 = some g → ¬ (fun k => blk a39 = some k) g := fun g e h => blk_rev hk44 (fun h => ((ap53) g e) h) (hk46.lt g e) h
       refine gv_pureN 1 [7] [(7, (.slice a39 (List.length l37) c40))] (by kernel_rfl) ?_
       refine gv_nil <| gv_region <| gv_pureN 5 [8, 34, 35, 36, 37] [(8, (.int .i64 (IntKind.i64.wrap (s5.2 - ((List.length sub_1 : Nat) : Int)))))] (by kernel_rfl) ?_
       refine bindE h3 ?_; clear h3; intro n54 hn55 h3
       refine gv_name (s := 8) (v := (.int .i64 (IntKind.i64.wrap (s5.2 - ((List.length sub_1 : Nat) : Int))))) (v' := (.int .i64 n54)) (by kernel_rfl) (congrArg (Value.int .i64) (sj hn55)) ?_
       refine gv_nil ?_
       have e := sj h3; subst e
       refine gv_goal fun a hd hs hok => ?_
       have hB56 := bg hB48 hg42 hl32
       have hz57 := (nt hg27.size hg42.size)
       exact ⟨a39, c40, hB56, hz57, ho43, hl47, hd, hs, ok_pick [0, 1, 2, 7, 8] hok (by kernel_rfl)⟩
      ·replace h3 := ite_f hc24 h3
       refine gv_region <| gv_pureN 3 [8, 38, 39] [(8, (.int .i64 (IntKind.i64.wrap (s5.2 - 1))))] (by kernel_rfl) ?_
       refine gv_nil ?_
       have e := sj h3; subst e
       refine gv_goal fun a hd hs hok => ?_
       have hB58 := bg hB7 hg20 nb
       have hk59 := ho11.grown hg20 (fun _ h => h.elim) nb
       exact ⟨a9, c10, hB58, (Nat.le_refl _), hk59, hl12, hd, hs, ok_pick [0, 1, 2, 7, 8] hok (by kernel_rfl)⟩
     ·rintro a w23 ⟨a62, c63, hB60, hz61, ho64, hl65, hd, hs, hok⟩
      refine gv_in ?_ hd hs hok
      clear hd hs hok
      have hz66 := (nt (nt hz8 hg20.size) hz61)
      clear hz61 hg20 hr18 hc16 hl12 ho11 hz8 hB7 hn2
      refine gv_blk ?_
      have e := sj h2; subst e
      refine gv_goal fun a hd hs hok => ?_
      have hz67 := hz66
      exact ⟨(j22.1, j22.2), rfl, a62, c63, hB60, hz67, ho64, hl65, hd, hs, ok_pick [0, 1, 2, 7, 8] hok (by kernel_rfl)⟩
    ·replace h2 := ite_f hc16 h2
     refine gv_cexit <| gv_exit rfl ?_
     have e := sj h2; subst e
     replace h1 := congrArg some (hR2 _ rfl)
     have e := sj h1; subst e
     refine gv_goal fun a hd hs hok => ?_
     have hz68 := hz8
     exact ⟨a9, c10, hB7, hz68, ho11, hl12, hd, hs, ok_pick [7] hok (by kernel_rfl)⟩
 ·rintro a w4 ⟨a71, c72, hB69, hz70, ho73, hl74, hd, hs, hok⟩
  refine gv_in ?_ hd hs hok
  clear hd hs hok
  refine gv_seq <| gv_region <| gv_pureN 2 [6, 40] [(6, (.slice a71 (List.length j3) c72))] (by kernel_rfl) ?_
  refine gv_nil <| gv_cret ?_
  have e := sj h0; subst e
  refine gv_ret (gv_done [(.slice a71 (List.length j3) c72)] rfl ⟨(by kernel_rfl), trivial⟩ ?_)
  exact ⟨grown_of_below hB69, a71, c72, rfl, ho73, hl74⟩

end Go.Proofs.YtkmcegicngjhbaaDoor
