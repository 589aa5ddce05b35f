import Derived.Test.YtkmcegicngjhbaaGreatDoorP1
set_option linter.all false
set_option maxHeartbeats 4000000
set_option maxRecDepth 100000
/- Own work, printed by a program of mine: the walk of each function: a call returns what the plain function says. -/
namespace Go.Proofs.YtkmcegicngjhbaaGreatDoor
open Go.Gv Go.Gv.D Go.RowKit
theorem ref4_behind_ok (fuel : Nat) (pa0_0 : Option Addr) (pc0_0 : Nat) (s_0 : (List UInt8)) (i_1 : Int) (w0 : World) (X0 : Nat → Prop) (hX0 : ∀ k, X0 k → k < w0.heap.size) (hpa0_0 : Rd bE w0 X0 pa0_0 pc0_0 s_0) (r0 : Int) (h0 : ref4_behind fuel s_0 i_1 = some r0) :
    Calls Tryz.prog 54 ([(.slice pa0_0 (List.length s_0) pc0_0), (.int .i64 i_1)] : List Value).toArray w0 (Ret fun v w' => w0.grownBy w' none ∧ v = tup [(.int .i64 r0)]) := by
 have hB0 : Below w0.heap.size w0 w0 := Below.refl _ _
 unfold ref4_behind at h0
 refine calls_run Tryz.func54 rfl Tryz.ntmps54 (by kernel_rfl) ?_
 refine gv_sub [0, 1] (σ' := [(0, (.slice pa0_0 (List.length s_0) pc0_0)), (1, (.int .i64 i_1))]) (by kernel_rfl) ?_
 refine gv_seq <| gv_region <| gv_pureN 1 [4] [] (by kernel_rfl) ?_
 refine gv_nil <| gv_seq <| gv_seq <| gv_region <| bindE h0 ?_; clear h0; intro j1 h1 h0
 refine gv_cut_ops (J := fun a w2 => Below w0.heap.size w0 w2 ∧ w0.heap.size ≤ w2.heap.size ∧ a.defers = [] ∧ a.tmps.size = 29 ∧ Ok [(0, (.slice pa0_0 (List.length s_0) pc0_0)), (1, (.int .i64 i_1)), (22, (.bool j1))] a.tmps) ?_ ?_
 ·skip
  refine gv_pureN 5 [5, 6, 7, 8, 9] [(9, (.bool (decide (i_1 < ((List.length s_0 : Nat) : Int)))))] (by kernel_rfl) ?_
  refine gv_split (s := 9) (g := (decide (i_1 < ((List.length s_0 : Nat) : Int)))) (by kernel_rfl) (fun hc3 => ?_) (fun hc3 => ?_)
  ·skip
   replace h1 := ite_t hc3 h1
   refine gv_pureN 2 [10, 11] [(10, (.slice pa0_0 (List.length s_0) pc0_0)), (11, (.int .i64 i_1))] (by kernel_rfl) ?_
   refine bindE h1 ?_; clear h1; intro x4 hx5 h1
   refine gv_idxaddr (t := 45) (e := 5) (a := pa0_0) (len := List.length s_0) (cap := pc0_0) (kk := .i64) (i := i_1) (sz := 1) [] (fun e => by cases e) rfl rfl rfl (by kernel_rfl) (by kernel_rfl) Tryz.underlying45 (by kernel_rfl) ((hpa0_0.below hB0 hX0).has hx5) (idx_spec hx5).1 (idx_spec hx5).2.1 rfl ?_
   refine gv_load (t := 5) (A := (elemAddr pa0_0 ((i_1 : Int).toNat * 1))) (.int .u8 ((x4).toNat : Int)) [] (fun e => by cases e) rfl rfl rfl (by kernel_rfl) (by kernel_rfl) (by kernel_rfl) (inw0 ((hpa0_0.below hB0 hX0).cell hx5)) rfl ?_
   refine gv_pureN 3 [14, 15, 16] [(16, (.bool (decide (((x4).toNat : Int) ≥ 128))))] (by kernel_rfl) ?_
   refine gv_split (s := 16) (g := (decide (((x4).toNat : Int) ≥ 128))) (by kernel_rfl) (fun hc6 => ?_) (fun hc6 => ?_)
   ·skip
    replace h1 := ite_t hc6 h1
    refine gv_pureN 2 [17, 18] [(17, (.slice pa0_0 (List.length s_0) pc0_0)), (18, (.int .i64 i_1))] (by kernel_rfl) ?_
    refine bindE h1 ?_; clear h1; intro x7 hx8 h1
    refine gv_idxaddr (t := 45) (e := 5) (a := pa0_0) (len := List.length s_0) (cap := pc0_0) (kk := .i64) (i := i_1) (sz := 1) [] (fun e => by cases e) rfl rfl rfl (by kernel_rfl) (by kernel_rfl) Tryz.underlying45 (by kernel_rfl) ((hpa0_0.below hB0 hX0).has hx8) (idx_spec hx8).1 (idx_spec hx8).2.1 rfl ?_
    refine gv_load (t := 5) (A := (elemAddr pa0_0 ((i_1 : Int).toNat * 1))) (.int .u8 ((x7).toNat : Int)) [] (fun e => by cases e) rfl rfl rfl (by kernel_rfl) (by kernel_rfl) (by kernel_rfl) (inw0 ((hpa0_0.below hB0 hX0).cell hx8)) rfl ?_
    refine gv_pureN 2 [21, 22] [(22, (.bool (decide (((x7).toNat : Int) < 192))))] (by kernel_rfl) ?_
    refine gv_nil ?_
    have e := sj h1; subst e
    refine gv_goal fun a hd hs hok => ?_
    exact ⟨hB0, (Nat.le_refl _), hd, hs, ok_pick [0, 1, 22] hok (by kernel_rfl)⟩
   ·skip
    replace h1 := ite_f hc6 h1
    refine gv_pureN 6 [17, 18, 19, 20, 21, 22] [(22, (.bool false))] (by kernel_rfl) ?_
    refine gv_nil ?_
    have e := sj h1; subst e
    refine gv_goal fun a hd hs hok => ?_
    exact ⟨hB0, (Nat.le_refl _), hd, hs, ok_pick [0, 1, 22] hok (by kernel_rfl)⟩
  ·skip
   replace h1 := ite_f hc3 h1
   refine gv_pureN 13 [10, 11, 12, 13, 14, 15, 16, 17, 18, 19, 20, 21, 22] [(22, (.bool false))] (by kernel_rfl) ?_
   refine gv_nil ?_
   have e := sj h1; subst e
   refine gv_goal fun a hd hs hok => ?_
   exact ⟨hB0, (Nat.le_refl _), hd, hs, ok_pick [0, 1, 22] hok (by kernel_rfl)⟩
 ·rintro a w2 ⟨hB9, hz10, hd, hs, hok⟩
  refine gv_in ?_ hd hs hok
  clear hd hs hok
  refine gv_cond (b := j1) (by kernel_rfl) (fun hc11 => ?_) (fun hc11 => ?_)
  ·replace h0 := ite_t hc11 h0
   refine gv_seq <| gv_region <| gv_pureN 2 [23, 24] [(23, (.slice pa0_0 (List.length s_0) pc0_0)), (24, (.int .i64 i_1))] (by kernel_rfl) ?_
   refine bindE h0 ?_; clear h0; intro x12 hx13 h0
   refine gv_idxaddr (t := 45) (e := 5) (a := pa0_0) (len := List.length s_0) (cap := pc0_0) (kk := .i64) (i := i_1) (sz := 1) [] (fun e => by cases e) rfl rfl rfl (by kernel_rfl) (by kernel_rfl) Tryz.underlying45 (by kernel_rfl) ((hpa0_0.below hB9 hX0).has hx13) (idx_spec hx13).1 (idx_spec hx13).2.1 rfl ?_
   refine gv_load (t := 5) (A := (elemAddr pa0_0 ((i_1 : Int).toNat * 1))) (.int .u8 ((x12).toNat : Int)) [] (fun e => by cases e) rfl rfl rfl (by kernel_rfl) (by kernel_rfl) (by kernel_rfl) (inw0 ((hpa0_0.below hB9 hX0).cell hx13)) rfl ?_
   refine gv_pureN 3 [4, 27, 28] [(4, (.int .i64 (IntKind.i64.wrap ((IntKind.i64.wrap (((x12).toNat : Int))) - 128))))] (by kernel_rfl) ?_
   refine bindE h0 ?_; clear h0; intro n14 hn15 h0
   refine gv_name (s := 4) (v := (.int .i64 (IntKind.i64.wrap ((IntKind.i64.wrap (((x12).toNat : Int))) - 128)))) (v' := (.int .i64 n14)) (by kernel_rfl) (congrArg (Value.int .i64) (sj hn15)) ?_
   refine gv_nil <| gv_cret ?_
   have e := sj h0; subst e
   refine gv_ret (gv_done [(.int .i64 n14)] rfl ⟨(by kernel_rfl), trivial⟩ ?_)
   exact ⟨grown_of_below hB9, rfl⟩
  ·replace h0 := ite_f hc11 h0
   refine gv_skip <| gv_seq <| gv_region <| gv_pureN 1 [4] [(4, (.int .i64 (-1)))] (by kernel_rfl) ?_
   refine gv_nil <| gv_cret ?_
   have e := sj h0; subst e
   refine gv_ret (gv_done [(.int .i64 (-1))] rfl ⟨(by kernel_rfl), trivial⟩ ?_)
   exact ⟨grown_of_below hB9, rfl⟩

theorem ref4_unit_ok (fuel : Nat) (pa0_0 : Option Addr) (pc0_0 : Nat) (s_0 : (List UInt8)) (at_1 : Int) (w0 : World) (X0 : Nat → Prop) (hX0 : ∀ k, X0 k → k < w0.heap.size) (hpa0_0 : Rd bE w0 X0 pa0_0 pc0_0 s_0) (r0 : (Int × Int)) (h0 : ref4_unit fuel s_0 at_1 = some r0) :
    Calls Tryz.prog 32 ([(.slice pa0_0 (List.length s_0) pc0_0), (.int .i64 at_1)] : List Value).toArray w0 (Ret fun v w' => w0.grownBy w' none ∧ v = tup [(.int .i64 r0.1), (.int .i64 r0.2)]) := by
 have hB0 : Below w0.heap.size w0 w0 := Below.refl _ _
 unfold ref4_unit at h0
 refine calls_run Tryz.func32 rfl Tryz.ntmps32 (by kernel_rfl) ?_
 refine gv_sub [0, 1] (σ' := [(0, (.slice pa0_0 (List.length s_0) pc0_0)), (1, (.int .i64 at_1))]) (by kernel_rfl) ?_
 refine gv_seq <| gv_region <| gv_pureN 2 [4, 5] [] (by kernel_rfl) ?_
 refine gv_nil <| gv_seq <| gv_drawA (by kernel_rfl) ?_
 intro w1 hg2
 refine gv_pre [0, 1, 2, 5, 6, 7, 9, 10, 11, 13, 14, 15] (bA 21 [0, 1, 2, 5, 6, 7, 9, 10, 11, 13, 14, 15]) 9 (by kernel_rfl) (by kernel_rfl) ?_
 refine gv_pureN 2 [12, 13] [(12, (.slice pa0_0 (List.length s_0) pc0_0)), (13, (.int .i64 at_1))] (by kernel_rfl) ?_
 refine bindE h0 ?_; clear h0; intro x3 hx4 h0
 have hB5 := bg hB0 hg2 nb
 refine gv_idxaddr (t := 45) (e := 5) (a := pa0_0) (len := List.length s_0) (cap := pc0_0) (kk := .i64) (i := at_1) (sz := 1) [] (fun e => by cases e) rfl rfl rfl (by kernel_rfl) (by kernel_rfl) Tryz.underlying45 (by kernel_rfl) ((hpa0_0.below hB5 hX0).has hx4) (idx_spec hx4).1 (idx_spec hx4).2.1 rfl ?_
 refine gv_pureN 9 [17, 18, 19, 21, 22, 23, 25, 26, 27] [(17, (.slice pa0_0 (List.length s_0) pc0_0)), (19, (.int .i64 (IntKind.i64.wrap (at_1 + 1)))), (21, (.slice pa0_0 (List.length s_0) pc0_0)), (23, (.int .i64 (IntKind.i64.wrap (at_1 + 2)))), (25, (.slice pa0_0 (List.length s_0) pc0_0)), (27, (.int .i64 (IntKind.i64.wrap (at_1 + 3))))] (by kernel_rfl) ?_
 refine gv_nil <| gv_goA ?_
 refine gv_stage (Cls w1 []) [0, 1, 2, 3, 4, 5, 6, 7, 8, 9, 10, 11, 12, 13, 14, 15, 16] [(3, some true), (4, some true), (8, some false), (12, some false), (16, some false)] (bA 21 [0, 1, 2, 3, 4, 5, 6, 7, 8, 9, 10, 11, 12, 13, 14, 15, 16]) 4 (by kernel_rfl) (by kernel_rfl) (Cls.refl _ _) ?_
 have hC6 := Cls.refl w1 []
 refine gv_load (t := 5) (A := (elemAddr pa0_0 ((at_1 : Int).toNat * 1))) (.int .u8 ((x3).toNat : Int)) [] (fun e => by cases e) rfl rfl rfl (by kernel_rfl) (by kernel_rfl) (by kernel_rfl) (inw1 fun w' hC' => ((hC'.rd (hpa0_0.below hB5 hX0) (fun k (hk : X0 k) => ltl (hX0 k hk) hB5.size) nmx_nil).cell hx4)) rfl ?_
 refine gv_pureN 1 [16] [(16, (.int .i64 (IntKind.i64.wrap (((x3).toNat : Int)))))] (by kernel_rfl) ?_
 refine bindE h0 ?_; clear h0; intro r7 hr8 h0
 refine gv_call (f := 54) (vs := [(.slice pa0_0 (List.length s_0) pc0_0), (.int .i64 (IntKind.i64.wrap (at_1 + 1)))]) (cap := []) _ (by decide) rfl rfl rfl (by kernel_rfl) (by kernel_rfl) enters54 (ref4_behind_ok fuel pa0_0 pc0_0 s_0 (IntKind.i64.wrap (at_1 + 1)) w1 (fun k => X0 k) (fun k hk => (fun k (hk : X0 k) => ltl (hX0 k hk) hB5.size) k hk) ((hpa0_0.below hB5 hX0).wide (fun k hk => hk)) r7 hr8) ?_
 rintro v11 w9 ⟨hg10, rfl⟩
 refine ⟨(fun _ => hC6.grown hg10 nb), ?_⟩
 refine bindE h0 ?_; clear h0; intro r12 hr13 h0
 have hB14 := bg hB5 hg10 nb
 refine gv_call (f := 54) (vs := [(.slice pa0_0 (List.length s_0) pc0_0), (.int .i64 (IntKind.i64.wrap (at_1 + 2)))]) (cap := []) _ (by decide) rfl rfl rfl (by kernel_rfl) (by kernel_rfl) enters54 (ref4_behind_ok fuel pa0_0 pc0_0 s_0 (IntKind.i64.wrap (at_1 + 2)) w9 (fun k => X0 k) (fun k hk => (fun k (hk : X0 k) => ltl (hX0 k hk) hB14.size) k hk) ((hpa0_0.below hB14 hX0).wide (fun k hk => hk)) r12 hr13) ?_
 rintro v17 w15 ⟨hg16, rfl⟩
 have hC18 := hC6.grown hg10 nb
 refine ⟨(fun _ => hC18.grown hg16 nb), ?_⟩
 refine bindE h0 ?_; clear h0; intro r19 hr20 h0
 have hB21 := bg hB14 hg16 nb
 refine gv_call (f := 54) (vs := [(.slice pa0_0 (List.length s_0) pc0_0), (.int .i64 (IntKind.i64.wrap (at_1 + 3)))]) (cap := []) _ (by decide) rfl rfl rfl (by kernel_rfl) (by kernel_rfl) enters54 (ref4_behind_ok fuel pa0_0 pc0_0 s_0 (IntKind.i64.wrap (at_1 + 3)) w15 (fun k => X0 k) (fun k hk => (fun k (hk : X0 k) => ltl (hX0 k hk) hB21.size) k hk) ((hpa0_0.below hB21 hX0).wide (fun k hk => hk)) r19 hr20) ?_
 rintro v24 w22 ⟨hg23, rfl⟩
 have hC25 := hC18.grown hg16 nb
 refine ⟨(fun _ => hC25.grown hg23 nb), ?_⟩
 refine gv_nil <| gv_goA ?_
 refine gv_pre [17, 18, 19, 20] (bA 21 [0, 1, 2, 3, 4, 5, 6, 7, 8, 9, 10, 11, 12, 13, 14, 15, 16, 17, 18, 19, 20]) 0 (by kernel_rfl) (by kernel_rfl) ?_
 refine gv_pureN 4 [6, 7, 8, 9] [(6, (.int .i64 (IntKind.i64.wrap (((x3).toNat : Int))))), (7, (.int .i64 r7)), (8, (.int .i64 r12)), (9, (.int .i64 r19))] (by kernel_rfl) ?_
 refine gv_nil <| gv_goA ?_
 refine gv_stageE (by kernel_rfl) ?_
 refine gv_seq <| gv_block <| gv_seq <| gv_region <| gv_pureN 3 [29, 30, 31] [(29, (.bool (decide ((IntKind.i64.wrap (((x3).toNat : Int))) < 128))))] (by kernel_rfl) ?_
 refine bindE h0 ?_; clear h0; intro n26 hn27 h0
 refine gv_name (s := 29) (v := (.bool (decide ((IntKind.i64.wrap (((x3).toNat : Int))) < 128)))) (v' := (.bool n26)) (by kernel_rfl) (congrArg (Value.bool) (sj hn27)) ?_
 refine gv_nil <| gv_cond (b := n26) (by kernel_rfl) (fun hc28 => ?_) (fun hc28 => ?_)
 ·replace h0 := ite_t hc28 h0
  refine gv_seq <| gv_region <| gv_pureN 3 [4, 5, 32] [(4, (.int .i64 (IntKind.i64.wrap (((x3).toNat : Int))))), (5, (.int .i64 1))] (by kernel_rfl) ?_
  refine gv_nil <| gv_cret ?_
  have e := sj h0; subst e
  refine gv_ret (gv_done [(.int .i64 (IntKind.i64.wrap (((x3).toNat : Int)))), (.int .i64 1)] rfl ⟨(by kernel_rfl), (by kernel_rfl), trivial⟩ ?_)
  have hB29 := bg hB21 hg23 nb
  exact ⟨grown_of_below hB29, rfl⟩
 ·replace h0 := ite_f hc28 h0
  refine gv_seq <| gv_region <| gv_cut_ops (J := fun a w30 => w22 = w30 ∧ a.defers = [] ∧ a.tmps.size = 120 ∧ Ok [(6, (.int .i64 (IntKind.i64.wrap (((x3).toNat : Int))))), (7, (.int .i64 r7)), (8, (.int .i64 r12)), (9, (.int .i64 r19)), (33, (.bool ((decide ((IntKind.i64.wrap (((x3).toNat : Int))) ≥ 194)) && ((decide ((IntKind.i64.wrap (((x3).toNat : Int))) < 224)) && (decide (r7 ≥ 0))))))] a.tmps) ?_ ?_
  ·skip
   refine gv_pureN 3 [34, 35, 36] [(36, (.bool (decide ((IntKind.i64.wrap (((x3).toNat : Int))) ≥ 194))))] (by kernel_rfl) ?_
   refine gv_split (s := 36) (g := (decide ((IntKind.i64.wrap (((x3).toNat : Int))) ≥ 194))) (by kernel_rfl) (fun hc31 => ?_) (fun hc31 => ?_)
   ·skip
    refine gv_pureN 4 [37, 38, 39, 40] [(40, (.bool (decide ((IntKind.i64.wrap (((x3).toNat : Int))) < 224))))] (by kernel_rfl) ?_
    refine gv_split (s := 40) (g := (decide ((IntKind.i64.wrap (((x3).toNat : Int))) < 224))) (by kernel_rfl) (fun hc32 => ?_) (fun hc32 => ?_)
    ·skip
     refine gv_pureN 4 [33, 41, 42, 43] [(33, (.bool (decide (r7 ≥ 0))))] (by kernel_rfl) ?_
     refine gv_sub [6, 7, 8, 9, 33] (σ' := [(6, (.int .i64 (IntKind.i64.wrap (((x3).toNat : Int))))), (7, (.int .i64 r7)), (8, (.int .i64 r12)), (9, (.int .i64 r19)), (33, (.bool (decide (r7 ≥ 0))))]) (by kernel_rfl) ?_
     refine gv_nil <| gv_sub [6, 7, 8, 9, 33] (σ' := [(6, (.int .i64 (IntKind.i64.wrap (((x3).toNat : Int))))), (7, (.int .i64 r7)), (8, (.int .i64 r12)), (9, (.int .i64 r19)), (33, (.bool (decide (r7 ≥ 0))))]) (by kernel_rfl) ?_
     refine gv_goal fun a hd hs hok => ⟨rfl, hd, hs, ?_⟩
     obtain ⟨q6, q7, q8, q9, q33, _⟩ := hok
     exact ⟨q6, q7, q8, q9, (by rw [hc31, hc32]; exact q33), trivial⟩
    ·skip
     refine gv_pureN 4 [33, 41, 42, 43] [(33, (.bool false))] (by kernel_rfl) ?_
     refine gv_sub [6, 7, 8, 9, 33] (σ' := [(6, (.int .i64 (IntKind.i64.wrap (((x3).toNat : Int))))), (7, (.int .i64 r7)), (8, (.int .i64 r12)), (9, (.int .i64 r19)), (33, (.bool false))]) (by kernel_rfl) ?_
     refine gv_nil <| gv_sub [6, 7, 8, 9, 33] (σ' := [(6, (.int .i64 (IntKind.i64.wrap (((x3).toNat : Int))))), (7, (.int .i64 r7)), (8, (.int .i64 r12)), (9, (.int .i64 r19)), (33, (.bool false))]) (by kernel_rfl) ?_
     refine gv_goal fun a hd hs hok => ⟨rfl, hd, hs, ?_⟩
     obtain ⟨q6, q7, q8, q9, q33, _⟩ := hok
     exact ⟨q6, q7, q8, q9, (by rw [hc31, hc32]; exact q33), trivial⟩
   ·skip
    refine gv_pureN 8 [33, 37, 38, 39, 40, 41, 42, 43] [(33, (.bool false))] (by kernel_rfl) ?_
    refine gv_nil <| gv_sub [6, 7, 8, 9, 33] (σ' := [(6, (.int .i64 (IntKind.i64.wrap (((x3).toNat : Int))))), (7, (.int .i64 r7)), (8, (.int .i64 r12)), (9, (.int .i64 r19)), (33, (.bool false))]) (by kernel_rfl) ?_
    refine gv_goal fun a hd hs hok => ⟨rfl, hd, hs, ?_⟩
    obtain ⟨q6, q7, q8, q9, q33, _⟩ := hok
    exact ⟨q6, q7, q8, q9, (by rw [hc31]; exact q33), trivial⟩
  ·rintro a w30 ⟨e, hd, hs, hok⟩; subst e
   refine gv_in ?_ hd hs hok
   clear hd hs hok
   refine gv_cond (b := ((decide ((IntKind.i64.wrap (((x3).toNat : Int))) ≥ 194)) && ((decide ((IntKind.i64.wrap (((x3).toNat : Int))) < 224)) && (decide (r7 ≥ 0))))) (by kernel_rfl) (fun hc33 => ?_) (fun hc33 => ?_)
   ·replace h0 := ite_t hc33 h0
    refine gv_seq <| gv_region <| gv_pureN 7 [4, 5, 44, 45, 46, 47, 48] [(4, (.int .i64 (IntKind.i64.wrap ((IntKind.i64.wrap ((IntKind.i64.wrap ((IntKind.i64.wrap (((x3).toNat : Int))) - 192)) * 64)) + r7)))), (5, (.int .i64 2))] (by kernel_rfl) ?_
    refine bindE h0 ?_; clear h0; intro n34 hn35 h0
    refine gv_name (s := 4) (v := (.int .i64 (IntKind.i64.wrap ((IntKind.i64.wrap ((IntKind.i64.wrap ((IntKind.i64.wrap (((x3).toNat : Int))) - 192)) * 64)) + r7)))) (v' := (.int .i64 n34)) (by kernel_rfl) (congrArg (Value.int .i64) (sj hn35)) ?_
    refine gv_nil <| gv_cret ?_
    have e := sj h0; subst e
    refine gv_ret (gv_done [(.int .i64 n34), (.int .i64 2)] rfl ⟨(by kernel_rfl), (by kernel_rfl), trivial⟩ ?_)
    have hB36 := bg hB21 hg23 nb
    exact ⟨grown_of_below hB36, rfl⟩
   ·replace h0 := ite_f hc33 h0
    refine gv_seq <| gv_region <| gv_cut_ops (J := fun a w37 => w22 = w37 ∧ a.defers = [] ∧ a.tmps.size = 120 ∧ Ok [(6, (.int .i64 (IntKind.i64.wrap (((x3).toNat : Int))))), (7, (.int .i64 r7)), (8, (.int .i64 r12)), (9, (.int .i64 r19)), (49, (.bool ((decide ((IntKind.i64.wrap (((x3).toNat : Int))) ≥ 224)) && ((decide ((IntKind.i64.wrap (((x3).toNat : Int))) < 240)) && ((decide (r7 ≥ 0)) && (decide (r12 ≥ 0)))))))] a.tmps) ?_ ?_
    ·skip
     refine gv_pureN 3 [50, 51, 52] [(52, (.bool (decide ((IntKind.i64.wrap (((x3).toNat : Int))) ≥ 224))))] (by kernel_rfl) ?_
     refine gv_split (s := 52) (g := (decide ((IntKind.i64.wrap (((x3).toNat : Int))) ≥ 224))) (by kernel_rfl) (fun hc38 => ?_) (fun hc38 => ?_)
     ·skip
      refine gv_pureN 4 [53, 54, 55, 56] [(56, (.bool (decide ((IntKind.i64.wrap (((x3).toNat : Int))) < 240))))] (by kernel_rfl) ?_
      refine gv_split (s := 56) (g := (decide ((IntKind.i64.wrap (((x3).toNat : Int))) < 240))) (by kernel_rfl) (fun hc39 => ?_) (fun hc39 => ?_)
      ·skip
       refine gv_pureN 4 [57, 58, 59, 60] [(60, (.bool (decide (r7 ≥ 0))))] (by kernel_rfl) ?_
       refine gv_sub [6, 7, 8, 9, 60] (σ' := [(6, (.int .i64 (IntKind.i64.wrap (((x3).toNat : Int))))), (7, (.int .i64 r7)), (8, (.int .i64 r12)), (9, (.int .i64 r19)), (60, (.bool (decide (r7 ≥ 0))))]) (by kernel_rfl) ?_
       refine gv_split (s := 60) (g := (decide (r7 ≥ 0))) (by kernel_rfl) (fun hc40 => ?_) (fun hc40 => ?_)
       ·skip
        refine gv_pureN 4 [49, 61, 62, 63] [(49, (.bool (decide (r12 ≥ 0))))] (by kernel_rfl) ?_
        refine gv_nil <| gv_sub [6, 7, 8, 9, 49] (σ' := [(6, (.int .i64 (IntKind.i64.wrap (((x3).toNat : Int))))), (7, (.int .i64 r7)), (8, (.int .i64 r12)), (9, (.int .i64 r19)), (49, (.bool (decide (r12 ≥ 0))))]) (by kernel_rfl) ?_
        refine gv_goal fun a hd hs hok => ⟨rfl, hd, hs, ?_⟩
        obtain ⟨q6, q7, q8, q9, q49, _⟩ := hok
        exact ⟨q6, q7, q8, q9, (by rw [hc38, hc39, hc40]; exact q49), trivial⟩
       ·skip
        refine gv_pureN 4 [49, 61, 62, 63] [(49, (.bool false))] (by kernel_rfl) ?_
        refine gv_nil <| gv_sub [6, 7, 8, 9, 49] (σ' := [(6, (.int .i64 (IntKind.i64.wrap (((x3).toNat : Int))))), (7, (.int .i64 r7)), (8, (.int .i64 r12)), (9, (.int .i64 r19)), (49, (.bool false))]) (by kernel_rfl) ?_
        refine gv_goal fun a hd hs hok => ⟨rfl, hd, hs, ?_⟩
        obtain ⟨q6, q7, q8, q9, q49, _⟩ := hok
        exact ⟨q6, q7, q8, q9, (by rw [hc38, hc39, hc40]; exact q49), trivial⟩
      ·skip
       refine gv_pureN 8 [49, 57, 58, 59, 60, 61, 62, 63] [(49, (.bool false))] (by kernel_rfl) ?_
       refine gv_sub [6, 7, 8, 9, 49] (σ' := [(6, (.int .i64 (IntKind.i64.wrap (((x3).toNat : Int))))), (7, (.int .i64 r7)), (8, (.int .i64 r12)), (9, (.int .i64 r19)), (49, (.bool false))]) (by kernel_rfl) ?_
       refine gv_nil <| gv_sub [6, 7, 8, 9, 49] (σ' := [(6, (.int .i64 (IntKind.i64.wrap (((x3).toNat : Int))))), (7, (.int .i64 r7)), (8, (.int .i64 r12)), (9, (.int .i64 r19)), (49, (.bool false))]) (by kernel_rfl) ?_
       refine gv_goal fun a hd hs hok => ⟨rfl, hd, hs, ?_⟩
       obtain ⟨q6, q7, q8, q9, q49, _⟩ := hok
       exact ⟨q6, q7, q8, q9, (by rw [hc38, hc39]; exact q49), trivial⟩
     ·skip
      refine gv_pureN 12 [49, 53, 54, 55, 56, 57, 58, 59, 60, 61, 62, 63] [(49, (.bool false))] (by kernel_rfl) ?_
      refine gv_nil <| gv_sub [6, 7, 8, 9, 49] (σ' := [(6, (.int .i64 (IntKind.i64.wrap (((x3).toNat : Int))))), (7, (.int .i64 r7)), (8, (.int .i64 r12)), (9, (.int .i64 r19)), (49, (.bool false))]) (by kernel_rfl) ?_
      refine gv_goal fun a hd hs hok => ⟨rfl, hd, hs, ?_⟩
      obtain ⟨q6, q7, q8, q9, q49, _⟩ := hok
      exact ⟨q6, q7, q8, q9, (by rw [hc38]; exact q49), trivial⟩
    ·rintro a w37 ⟨e, hd, hs, hok⟩; subst e
     refine gv_in ?_ hd hs hok
     clear hd hs hok
     refine bindE h0 ?_; clear h0; intro j41 h1 h0
     refine gv_cut_code (J := fun a w43 => ∃ s42 : Unit, j41 = .inl s42 ∧ Below w0.heap.size w0 w43 ∧ w22.heap.size ≤ w43.heap.size ∧ a.defers = [] ∧ a.tmps.size = 120 ∧ Ok [] a.tmps) ?_ ?_
     ·skip
      refine gv_cond (b := ((decide ((IntKind.i64.wrap (((x3).toNat : Int))) ≥ 224)) && ((decide ((IntKind.i64.wrap (((x3).toNat : Int))) < 240)) && ((decide (r7 ≥ 0)) && (decide (r12 ≥ 0)))))) (by kernel_rfl) (fun hc44 => ?_) (fun hc44 => ?_)
      ·replace h1 := ite_t hc44 h1
       refine gv_seq <| gv_region <| gv_pureN 9 [10, 64, 65, 66, 67, 68, 69, 70, 71] [(10, (.int .i64 (IntKind.i64.wrap ((IntKind.i64.wrap ((IntKind.i64.wrap ((IntKind.i64.wrap ((IntKind.i64.wrap (((x3).toNat : Int))) - 224)) * 4096)) + (IntKind.i64.wrap (r7 * 64)))) + r12))))] (by kernel_rfl) ?_
       refine bindE h1 ?_; clear h1; intro n45 hn46 h1
       refine gv_name (s := 10) (v := (.int .i64 (IntKind.i64.wrap ((IntKind.i64.wrap ((IntKind.i64.wrap ((IntKind.i64.wrap ((IntKind.i64.wrap (((x3).toNat : Int))) - 224)) * 4096)) + (IntKind.i64.wrap (r7 * 64)))) + r12)))) (v' := (.int .i64 n45)) (by kernel_rfl) (congrArg (Value.int .i64) (sj hn46)) ?_
       refine gv_nil <| gv_seq <| gv_region <| gv_cut_ops (J := fun a w47 => w22 = w47 ∧ a.defers = [] ∧ a.tmps.size = 120 ∧ Ok [(10, (.int .i64 n45)), (81, (.bool ((decide (n45 ≥ 2048)) && ((decide (n45 < 55296)) || (decide (n45 > 57343))))))] a.tmps) ?_ ?_
       ·skip
        refine gv_pureN 3 [72, 73, 74] [(74, (.bool (decide (n45 ≥ 2048))))] (by kernel_rfl) ?_
        refine gv_split (s := 74) (g := (decide (n45 ≥ 2048))) (by kernel_rfl) (fun hc48 => ?_) (fun hc48 => ?_)
        ·skip
         refine gv_pureN 3 [75, 76, 77] [(77, (.bool (decide (n45 < 55296))))] (by kernel_rfl) ?_
         refine gv_sub [10, 74, 77] (σ' := [(10, (.int .i64 n45)), (74, (.bool true)), (77, (.bool (decide (n45 < 55296))))]) (by kernel_rfl) ?_
         refine gv_split (s := 77) (g := (decide (n45 < 55296))) (by kernel_rfl) (fun hc49 => ?_) (fun hc49 => ?_)
         ·skip
          refine gv_pureN 4 [78, 79, 80, 81] [(81, (.bool true))] (by kernel_rfl) ?_
          refine gv_nil <| gv_sub [10, 81] (σ' := [(10, (.int .i64 n45)), (81, (.bool true))]) (by kernel_rfl) ?_
          refine gv_goal fun a hd hs hok => ⟨rfl, hd, hs, ?_⟩
          obtain ⟨q10, q81, _⟩ := hok
          exact ⟨q10, (by rw [hc48, hc49]; exact q81), trivial⟩
         ·skip
          refine gv_pureN 4 [78, 79, 80, 81] [(81, (.bool (decide (n45 > 57343))))] (by kernel_rfl) ?_
          refine gv_nil <| gv_sub [10, 81] (σ' := [(10, (.int .i64 n45)), (81, (.bool (decide (n45 > 57343))))]) (by kernel_rfl) ?_
          refine gv_goal fun a hd hs hok => ⟨rfl, hd, hs, ?_⟩
          obtain ⟨q10, q81, _⟩ := hok
          exact ⟨q10, (by rw [hc48, hc49]; exact q81), trivial⟩
        ·skip
         refine gv_pureN 7 [75, 76, 77, 78, 79, 80, 81] [(81, (.bool false))] (by kernel_rfl) ?_
         refine gv_sub [10, 81] (σ' := [(10, (.int .i64 n45)), (81, (.bool false))]) (by kernel_rfl) ?_
         refine gv_nil <| gv_sub [10, 81] (σ' := [(10, (.int .i64 n45)), (81, (.bool false))]) (by kernel_rfl) ?_
         refine gv_goal fun a hd hs hok => ⟨rfl, hd, hs, ?_⟩
         obtain ⟨q10, q81, _⟩ := hok
         exact ⟨q10, (by rw [hc48]; exact q81), trivial⟩
       ·rintro a w47 ⟨e, hd, hs, hok⟩; subst e
        refine gv_in ?_ hd hs hok
        clear hd hs hok
        refine gv_cond (b := ((decide (n45 ≥ 2048)) && ((decide (n45 < 55296)) || (decide (n45 > 57343))))) (by kernel_rfl) (fun hc50 => ?_) (fun hc50 => ?_)
        ·replace h1 := ite_t hc50 h1
         refine gv_seq <| gv_region <| gv_pureN 3 [4, 5, 82] [(4, (.int .i64 n45)), (5, (.int .i64 3))] (by kernel_rfl) ?_
         refine gv_nil <| gv_cret ?_
         have e := sj h1; subst e
         replace h0 := cont_inr h0
         have e := sj h0; subst e
         refine gv_ret (gv_done [(.int .i64 n45), (.int .i64 3)] rfl ⟨(by kernel_rfl), (by kernel_rfl), trivial⟩ ?_)
         have hB51 := bg hB21 hg23 nb
         exact ⟨grown_of_below hB51, rfl⟩
        ·replace h1 := ite_f hc50 h1
         refine gv_skip ?_
         have e := sj h1; subst e
         refine gv_goal fun a hd hs hok => ?_
         have hB52 := bg hB21 hg23 nb
         exact ⟨(), rfl, hB52, (Nat.le_refl _), hd, hs, ok_pick [] hok (by kernel_rfl)⟩
      ·replace h1 := ite_f hc44 h1
       refine gv_seq <| gv_region <| gv_cut_ops (J := fun a w53 => w22 = w53 ∧ a.defers = [] ∧ a.tmps.size = 120 ∧ Ok [(6, (.int .i64 (IntKind.i64.wrap (((x3).toNat : Int))))), (7, (.int .i64 r7)), (8, (.int .i64 r12)), (9, (.int .i64 r19)), (83, (.bool ((decide ((IntKind.i64.wrap (((x3).toNat : Int))) ≥ 240)) && ((decide ((IntKind.i64.wrap (((x3).toNat : Int))) < 245)) && ((decide (r7 ≥ 0)) && ((decide (r12 ≥ 0)) && (decide (r19 ≥ 0))))))))] a.tmps) ?_ ?_
       ·skip
        refine gv_pureN 3 [84, 85, 86] [(86, (.bool (decide ((IntKind.i64.wrap (((x3).toNat : Int))) ≥ 240))))] (by kernel_rfl) ?_
        refine gv_split (s := 86) (g := (decide ((IntKind.i64.wrap (((x3).toNat : Int))) ≥ 240))) (by kernel_rfl) (fun hc54 => ?_) (fun hc54 => ?_)
        ·skip
         refine gv_pureN 4 [87, 88, 89, 90] [(90, (.bool (decide ((IntKind.i64.wrap (((x3).toNat : Int))) < 245))))] (by kernel_rfl) ?_
         refine gv_split (s := 90) (g := (decide ((IntKind.i64.wrap (((x3).toNat : Int))) < 245))) (by kernel_rfl) (fun hc55 => ?_) (fun hc55 => ?_)
         ·skip
          refine gv_pureN 4 [91, 92, 93, 94] [(94, (.bool (decide (r7 ≥ 0))))] (by kernel_rfl) ?_
          refine gv_sub [6, 7, 8, 9, 94] (σ' := [(6, (.int .i64 (IntKind.i64.wrap (((x3).toNat : Int))))), (7, (.int .i64 r7)), (8, (.int .i64 r12)), (9, (.int .i64 r19)), (94, (.bool (decide (r7 ≥ 0))))]) (by kernel_rfl) ?_
          refine gv_split (s := 94) (g := (decide (r7 ≥ 0))) (by kernel_rfl) (fun hc56 => ?_) (fun hc56 => ?_)
          ·skip
           refine gv_pureN 4 [95, 96, 97, 98] [(98, (.bool (decide (r12 ≥ 0))))] (by kernel_rfl) ?_
           refine gv_split (s := 98) (g := (decide (r12 ≥ 0))) (by kernel_rfl) (fun hc57 => ?_) (fun hc57 => ?_)
           ·skip
            refine gv_pureN 4 [83, 99, 100, 101] [(83, (.bool (decide (r19 ≥ 0))))] (by kernel_rfl) ?_
            refine gv_nil <| gv_sub [6, 7, 8, 9, 83] (σ' := [(6, (.int .i64 (IntKind.i64.wrap (((x3).toNat : Int))))), (7, (.int .i64 r7)), (8, (.int .i64 r12)), (9, (.int .i64 r19)), (83, (.bool (decide (r19 ≥ 0))))]) (by kernel_rfl) ?_
            refine gv_goal fun a hd hs hok => ⟨rfl, hd, hs, ?_⟩
            obtain ⟨q6, q7, q8, q9, q83, _⟩ := hok
            exact ⟨q6, q7, q8, q9, (by rw [hc54, hc55, hc56, hc57]; exact q83), trivial⟩
           ·skip
            refine gv_pureN 4 [83, 99, 100, 101] [(83, (.bool false))] (by kernel_rfl) ?_
            refine gv_nil <| gv_sub [6, 7, 8, 9, 83] (σ' := [(6, (.int .i64 (IntKind.i64.wrap (((x3).toNat : Int))))), (7, (.int .i64 r7)), (8, (.int .i64 r12)), (9, (.int .i64 r19)), (83, (.bool false))]) (by kernel_rfl) ?_
            refine gv_goal fun a hd hs hok => ⟨rfl, hd, hs, ?_⟩
            obtain ⟨q6, q7, q8, q9, q83, _⟩ := hok
            exact ⟨q6, q7, q8, q9, (by rw [hc54, hc55, hc56, hc57]; exact q83), trivial⟩
          ·skip
           refine gv_pureN 8 [83, 95, 96, 97, 98, 99, 100, 101] [(83, (.bool false))] (by kernel_rfl) ?_
           refine gv_nil <| gv_sub [6, 7, 8, 9, 83] (σ' := [(6, (.int .i64 (IntKind.i64.wrap (((x3).toNat : Int))))), (7, (.int .i64 r7)), (8, (.int .i64 r12)), (9, (.int .i64 r19)), (83, (.bool false))]) (by kernel_rfl) ?_
           refine gv_goal fun a hd hs hok => ⟨rfl, hd, hs, ?_⟩
           obtain ⟨q6, q7, q8, q9, q83, _⟩ := hok
           exact ⟨q6, q7, q8, q9, (by rw [hc54, hc55, hc56]; exact q83), trivial⟩
         ·skip
          refine gv_pureN 12 [83, 91, 92, 93, 94, 95, 96, 97, 98, 99, 100, 101] [(83, (.bool false))] (by kernel_rfl) ?_
          refine gv_sub [6, 7, 8, 9, 83] (σ' := [(6, (.int .i64 (IntKind.i64.wrap (((x3).toNat : Int))))), (7, (.int .i64 r7)), (8, (.int .i64 r12)), (9, (.int .i64 r19)), (83, (.bool false))]) (by kernel_rfl) ?_
          refine gv_nil <| gv_sub [6, 7, 8, 9, 83] (σ' := [(6, (.int .i64 (IntKind.i64.wrap (((x3).toNat : Int))))), (7, (.int .i64 r7)), (8, (.int .i64 r12)), (9, (.int .i64 r19)), (83, (.bool false))]) (by kernel_rfl) ?_
          refine gv_goal fun a hd hs hok => ⟨rfl, hd, hs, ?_⟩
          obtain ⟨q6, q7, q8, q9, q83, _⟩ := hok
          exact ⟨q6, q7, q8, q9, (by rw [hc54, hc55]; exact q83), trivial⟩
        ·skip
         refine gv_pureN 16 [83, 87, 88, 89, 90, 91, 92, 93, 94, 95, 96, 97, 98, 99, 100, 101] [(83, (.bool false))] (by kernel_rfl) ?_
         refine gv_nil <| gv_sub [6, 7, 8, 9, 83] (σ' := [(6, (.int .i64 (IntKind.i64.wrap (((x3).toNat : Int))))), (7, (.int .i64 r7)), (8, (.int .i64 r12)), (9, (.int .i64 r19)), (83, (.bool false))]) (by kernel_rfl) ?_
         refine gv_goal fun a hd hs hok => ⟨rfl, hd, hs, ?_⟩
         obtain ⟨q6, q7, q8, q9, q83, _⟩ := hok
         exact ⟨q6, q7, q8, q9, (by rw [hc54]; exact q83), trivial⟩
       ·rintro a w53 ⟨e, hd, hs, hok⟩; subst e
        refine gv_in ?_ hd hs hok
        clear hd hs hok
        refine gv_cond (b := ((decide ((IntKind.i64.wrap (((x3).toNat : Int))) ≥ 240)) && ((decide ((IntKind.i64.wrap (((x3).toNat : Int))) < 245)) && ((decide (r7 ≥ 0)) && ((decide (r12 ≥ 0)) && (decide (r19 ≥ 0))))))) (by kernel_rfl) (fun hc58 => ?_) (fun hc58 => ?_)
        ·replace h1 := ite_t hc58 h1
         refine gv_seq <| gv_region <| gv_pureN 12 [11, 102, 103, 104, 105, 106, 107, 108, 109, 110, 111, 112] [(11, (.int .i64 (IntKind.i64.wrap ((IntKind.i64.wrap ((IntKind.i64.wrap ((IntKind.i64.wrap ((IntKind.i64.wrap ((IntKind.i64.wrap (((x3).toNat : Int))) - 240)) * 262144)) + (IntKind.i64.wrap (r7 * 4096)))) + (IntKind.i64.wrap (r12 * 64)))) + r19))))] (by kernel_rfl) ?_
         refine bindE h1 ?_; clear h1; intro n59 hn60 h1
         refine gv_name (s := 11) (v := (.int .i64 (IntKind.i64.wrap ((IntKind.i64.wrap ((IntKind.i64.wrap ((IntKind.i64.wrap ((IntKind.i64.wrap ((IntKind.i64.wrap (((x3).toNat : Int))) - 240)) * 262144)) + (IntKind.i64.wrap (r7 * 4096)))) + (IntKind.i64.wrap (r12 * 64)))) + r19)))) (v' := (.int .i64 n59)) (by kernel_rfl) (congrArg (Value.int .i64) (sj hn60)) ?_
         refine gv_nil <| gv_seq <| gv_region <| gv_cut_ops (J := fun a w61 => w22 = w61 ∧ a.defers = [] ∧ a.tmps.size = 120 ∧ Ok [(11, (.int .i64 n59)), (118, (.bool ((decide (n59 ≥ 65536)) && (decide (n59 ≤ 1114111)))))] a.tmps) ?_ ?_
         ·skip
          refine gv_pureN 3 [113, 114, 115] [(115, (.bool (decide (n59 ≥ 65536))))] (by kernel_rfl) ?_
          refine gv_split (s := 115) (g := (decide (n59 ≥ 65536))) (by kernel_rfl) (fun hc62 => ?_) (fun hc62 => ?_)
          ·skip
           refine gv_pureN 3 [116, 117, 118] [(118, (.bool (decide (n59 ≤ 1114111))))] (by kernel_rfl) ?_
           refine gv_sub [11, 118] (σ' := [(11, (.int .i64 n59)), (118, (.bool (decide (n59 ≤ 1114111))))]) (by kernel_rfl) ?_
           refine gv_nil <| gv_sub [11, 118] (σ' := [(11, (.int .i64 n59)), (118, (.bool (decide (n59 ≤ 1114111))))]) (by kernel_rfl) ?_
           refine gv_goal fun a hd hs hok => ⟨rfl, hd, hs, ?_⟩
           obtain ⟨q11, q118, _⟩ := hok
           exact ⟨q11, (by rw [hc62]; exact q118), trivial⟩
          ·skip
           refine gv_pureN 3 [116, 117, 118] [(118, (.bool false))] (by kernel_rfl) ?_
           refine gv_sub [11, 118] (σ' := [(11, (.int .i64 n59)), (118, (.bool false))]) (by kernel_rfl) ?_
           refine gv_nil <| gv_sub [11, 118] (σ' := [(11, (.int .i64 n59)), (118, (.bool false))]) (by kernel_rfl) ?_
           refine gv_goal fun a hd hs hok => ⟨rfl, hd, hs, ?_⟩
           obtain ⟨q11, q118, _⟩ := hok
           exact ⟨q11, (by rw [hc62]; exact q118), trivial⟩
         ·rintro a w61 ⟨e, hd, hs, hok⟩; subst e
          refine gv_in ?_ hd hs hok
          clear hd hs hok
          refine gv_cond (b := ((decide (n59 ≥ 65536)) && (decide (n59 ≤ 1114111)))) (by kernel_rfl) (fun hc63 => ?_) (fun hc63 => ?_)
          ·replace h1 := ite_t hc63 h1
           refine gv_seq <| gv_region <| gv_pureN 3 [4, 5, 119] [(4, (.int .i64 n59)), (5, (.int .i64 4))] (by kernel_rfl) ?_
           refine gv_nil <| gv_cret ?_
           have e := sj h1; subst e
           replace h0 := cont_inr h0
           have e := sj h0; subst e
           refine gv_ret (gv_done [(.int .i64 n59), (.int .i64 4)] rfl ⟨(by kernel_rfl), (by kernel_rfl), trivial⟩ ?_)
           have hB64 := bg hB21 hg23 nb
           exact ⟨grown_of_below hB64, rfl⟩
          ·replace h1 := ite_f hc63 h1
           refine gv_skip ?_
           have e := sj h1; subst e
           refine gv_goal fun a hd hs hok => ?_
           have hB65 := bg hB21 hg23 nb
           exact ⟨(), rfl, hB65, (Nat.le_refl _), hd, hs, ok_pick [] hok (by kernel_rfl)⟩
        ·replace h1 := ite_f hc58 h1
         refine gv_skip ?_
         have e := sj h1; subst e
         refine gv_goal fun a hd hs hok => ?_
         have hB66 := bg hB21 hg23 nb
         exact ⟨(), rfl, hB66, (Nat.le_refl _), hd, hs, ok_pick [] hok (by kernel_rfl)⟩
     ·rintro a w43 ⟨s42, e, hB67, hz68, hd, hs, hok⟩
      subst e
      refine gv_in ?_ hd hs hok
      clear hd hs hok
      replace h0 := cont_inl h0
      clear hc33 hc28 hn27 hC25 hg23 hB21 hr20 hC18 hg16 hB14 hr13 hg10 hr8 hC6 hB5 hx4 hg2
      refine gv_blk <| gv_seq <| gv_region <| gv_pureN 2 [4, 5] [(4, (.int .i64 0)), (5, (.int .i64 0))] (by kernel_rfl) ?_
      refine gv_nil <| gv_cret ?_
      have e := sj h0; subst e
      refine gv_ret (gv_done [(.int .i64 0), (.int .i64 0)] rfl ⟨(by kernel_rfl), (by kernel_rfl), trivial⟩ ?_)
      exact ⟨grown_of_below hB67, rfl⟩

theorem ref4_Points_ok (fuel : Nat) (s_0 : ByteArray) (w0 : World)  (r0 : ((List Int) × Bool)) (h0 : ref4_Points fuel s_0 = some r0) :
    Calls Tryz.prog 12 ([(.string s_0)] : List Value).toArray w0 (Ret fun v w' => w0.grownBy w' none ∧ ∃ (a0_0r : Option Addr) (c0_0r : Nat), v = tup [(.slice a0_0r (List.length r0.1) c0_0r), (.bool r0.2)] ∧ Gv.Own (iE .i64) 3 w' (fun _ => False) a0_0r c0_0r r0.1 ∧ (∀ g, blk a0_0r = some g → w0.heap.size ≤ g)) := by
 have hB0 : Below w0.heap.size w0 w0 := Below.refl _ _
 unfold ref4_Points at h0
 refine calls_run Tryz.func12 rfl Tryz.ntmps12 (by kernel_rfl) ?_
 refine gv_sub [0] (σ' := [(0, (.string s_0))]) (by kernel_rfl) ?_
 refine gv_seq <| gv_region <| gv_pureN 2 [2, 3] [] (by kernel_rfl) ?_
 refine gv_nil <| gv_seq <| gv_region <| gv_pureN 1 [4] [(4, (.slice none (List.length ([] : List Int)) 0))] (by kernel_rfl) ?_
 refine gv_nil <| gv_seq <| gv_seq <| gv_region <| gv_pureN 1 [5] [(5, (.int .i64 0))] (by kernel_rfl) ?_
 refine gv_nil <| bindE h0 ?_; clear h0; intro j1 h1 h0
 refine gv_cut_code (J := fun a w3 => ∃ s2 : (List Int), j1 = .inl s2 ∧ ∃ (a4_0j : Option Addr) (c4_0j : Nat), Below w0.heap.size w0 w3 ∧ w0.heap.size ≤ w3.heap.size ∧ Gv.Own (iE .i64) 3 w3 (fun _ => False) a4_0j c4_0j s2 ∧ (∀ g, blk a4_0j = some g → w0.heap.size ≤ g) ∧ a.defers = [] ∧ a.tmps.size = 29 ∧ Ok [(4, (.slice a4_0j (List.length s2) c4_0j))] a.tmps) ?_ ?_
 ·skip
  refine gv_block <| gv_loop (A := fun (s4 : ((List Int) × Int)) a w5 => ∃ (a4_0j : Option Addr) (c4_0j : Nat), Below w0.heap.size w0 w5 ∧ w0.heap.size ≤ w5.heap.size ∧ Gv.Own (iE .i64) 3 w5 (fun _ => False) a4_0j c4_0j s4.1 ∧ (∀ g, blk a4_0j = some g → w0.heap.size ≤ g) ∧ a.defers = [] ∧ a.tmps.size = 29 ∧ Ok [(0, (.string s_0)), (4, (.slice a4_0j (List.length s4.1) c4_0j)), (5, (.int .i64 s4.2))] a.tmps) h1 ?_ ?_
  ·intro a hd hs hok
   exact ⟨none, 0, hB0, (Nat.le_refl _), (Gv.Own.nil (iE .i64) 3 w0 (fun _ => False)), (fun _ h => by cases h), hd, hs, ok_pick [0, 4, 5] hok (by kernel_rfl)⟩
  ·rintro s4 r2 h2 hR2 a w5 ⟨a8, c9, hB6, hz7, ho10, hl11, hd, hs, hok⟩
   refine gv_in ?_ hd hs hok
   clear hd hs hok
   refine gv_seq <| gv_seq <| gv_region <| gv_pureN 4 [8, 9, 10, 11] [(11, (.bool (decide (s4.2 < ((ByteArray.size s_0 : Nat) : Int)))))] (by kernel_rfl) ?_
   refine gv_nil <| gv_cond (b := (decide (s4.2 < ((ByteArray.size s_0 : Nat) : Int)))) (by kernel_rfl) (fun hc12 => ?_) (fun hc12 => ?_)
   ·replace h2 := ite_t hc12 h2
    refine gv_skip <| gv_block <| gv_seq <| gv_region <| gv_pureN 1 [13] [(13, (.string s_0))] (by kernel_rfl) ?_
    refine gv_s2b (src := 9) (dst := 45) (e := 5) (s := s_0) (by decide) rfl rfl (by kernel_rfl) (by kernel_rfl) Tryz.underlying9 Tryz.underlying45 Tryz.underlying5 ?_
    rintro a13 c14 w15 hg16 hr17 hz19
    refine ⟨(fun e => by cases e), ?_⟩
    have hx20 : ∀ k, k = w5.heap.size → k < w15.heap.size := lts hz19
    have hx21 : ∀ k, k = w5.heap.size → (fun _ => False) k ∨ w0.heap.size ≤ k := fun k hk => .inr (lowe hB6.size k hk)
    refine gv_pureN 1 [15] [(15, (.int .i64 s4.2))] (by kernel_rfl) ?_
    refine bindE h2 ?_; clear h2; intro r22 hr23 h2
    refine gv_call0 (by kernel_rfl) rfl (by kernel_rfl) enters32 (ref4_unit_ok fuel a13 c14 (bytesOf s_0) s4.2 w15 (fun k => (· = w5.heap.size) k) (fun k hk => hx20 k hk) (hr17.wide (fun k hk => hk)) r22 hr23) ?_
    rintro v26 w24 ⟨hg25, rfl⟩
    refine gv_pureN 5 [6, 7, 12, 17, 18] [(6, (.int .i64 r22.1)), (7, (.int .i64 r22.2))] (by kernel_rfl) ?_
    refine gv_nil <| gv_seq <| gv_seq <| gv_region <| gv_pureN 2 [19, 20] [(20, (.bool (r22.2 == 0)))] (by kernel_rfl) ?_
    refine gv_nil <| gv_cond (b := (r22.2 == 0)) (by kernel_rfl) (fun hc27 => ?_) (fun hc27 => ?_)
    ·replace h2 := ite_t hc27 h2
     refine gv_seq <| gv_region <| gv_pureN 2 [2, 3] [(2, (.slice none (List.length ([] : List Int)) 0)), (3, (.bool false))] (by kernel_rfl) ?_
     refine gv_nil <| gv_cret ?_
     have e := sj h2; subst e
     replace h1 := congrArg some (hR2 _ rfl)
     have e := sj h1; subst e
     replace h0 := cont_inr h0
     have e := sj h0; subst e
     refine gv_ret (gv_done [(.slice none (List.length ([] : List Int)) 0), (.bool false)] rfl ⟨(by kernel_rfl), (by kernel_rfl), trivial⟩ ?_)
     have hg28 := (grown_trans hg16 hg25)
     have hB29 := bg hB6 hg28 nb
     exact ⟨grown_of_below hB29, none, 0, rfl, (Gv.Own.nil (iE .i64) 3 w24 (fun _ => False)), (fun _ h => by cases h)⟩
    ·replace h2 := ite_f hc27 h2
     refine gv_skip <| gv_seq <| gv_region <| gv_pureN 2 [21, 22] [(21, (.slice a8 (List.length s4.1) c9)), (22, (.int .i64 r22.1))] (by kernel_rfl) ?_
     refine gv_new0 (fun b => .slice (some ⟨b, 0, none⟩) 1 1) #[(.int .i64 r22.1)] 3 (by kernel_rfl) (by kernel_rfl) ?_
     intro b30 w31 hg32 hb33 hbe34 hz35
     have ho36 : Gv.Own (iE .i64) 3 w31 (fun _ => False) (some ⟨b30, 0, none⟩) 1 ([r22.1] : List Int) := Box.ownE hb33 ⟨[(.int .i64 r22.1)], [], rfl, rfl, rfl⟩ (show 1 ≤ maxLen by decide) (fun h => h)
     have hg41 := (grown_trans hg16 hg25)
     have hB42 := bg hB6 hg41 nb
     have hl37 : ∀ g, blk (some ⟨b30, 0, none⟩) = some g → w0.heap.size ≤ g := loo hbe34 hB42.size
     refine bindE h2 ?_; clear h2; intro l43 hx44 h2
     have hg51 := (grown_trans hg41 hg32)
     have hk52 := ho10.grown hg51 (fun _ h => h.elim) nb
     refine gv_append (iE .i64) (t := 22) (ty := 22) (e := 3) (a := a8) (ax := (some ⟨b30, 0, none⟩)) (cap := c9) (cx := 1) (xs := s4.1) (ys := ([r22.1] : List Int)) l43 (X := (fun _ => False)) (Y := (fun k => blk (some ⟨b30, 0, none⟩) = some k)) (by decide) rfl rfl (by kernel_rfl) (by kernel_rfl) Tryz.underlying22 info3 hk52 (ho36.rd (Y := fun k => blk (some ⟨b30, 0, none⟩) = some k) (fun _ h => h.elim) (fun g e => e)) hx44 (.inr fun _ _ _ _ _ h => h) (fun _ h => h.elim) ?_
     intro a45 c46 w47 hg48 ho49 hk50
     refine ⟨(fun e => by cases e), ?_⟩
     have hB54 := bg hB42 hg32 nb
     have hl53 : ∀ g, blk a45 = some g → w0.heap.size ≤ g := blk_step hk50 hl11 hB54.size
     have ap56 : ∀ g, blk a8 = some g → ¬ (· = w5.heap.size) g := fun g e hx => nl ((lowe (Nat.le_refl w5.heap.size)) _ hx) ((fun k (hk : blk a8 = some k) => ho10.lt k hk) g e)
     have hg57 := (grown_trans hg25 hg32)
     have hx58 := ltx hx20 hg57.size
     have ap55 : ∀ g, blk a45 = some g → ¬ (· = w5.heap.size) g := blk_neX hk50 ap56 hx58
     have hk60 := ho10.grown hg41 (fun _ h => h.elim) nb
     have ap61 : ∀ g, blk a8 = some g → ¬ (fun k => blk (some ⟨b30, 0, none⟩) = some k) g := fun g e hx => nl ((lowo hbe34) _ hx) ((fun k (hk : blk a8 = some k) => hk60.lt k hk) g e)
     have ap59 : ∀ g, blk a45 = some g → ¬ (fun k => blk (some ⟨b30, 0, none⟩) = some k) g := blk_neX hk50 ap61 (fun k (hk : blk (some ⟨b30, 0, none⟩) = some k) => ho36.lt k hk)
     have ap63 : ∀ g, blk (some ⟨b30, 0, none⟩) = some g → ¬ (fun k => blk a8 = some k) g := fun g e hx => nl ((lowo hbe34) g e) ((fun k (hk : blk a8 = some k) => hk60.lt k hk) _ hx)
     have ap62 : ∀ g, blk (some ⟨b30, 0, none⟩) = some g → ¬ (fun k => blk a45 = some k) g := fun g e h => blk_rev hk50 (fun h => ((ap63) g e) h) (ho36.lt g e) h
     refine gv_pureN 1 [4] [(4, (.slice a45 (List.length l43) c46))] (by kernel_rfl) ?_
     refine gv_nil <| gv_region <| gv_pureN 4 [5, 25, 26, 27] [(5, (.int .i64 (IntKind.i64.wrap (s4.2 + r22.2))))] (by kernel_rfl) ?_
     refine gv_nil <| gv_blk ?_
     have e := sj h2; subst e
     refine gv_goal fun a hd hs hok => ?_
     have hB64 := bg hB54 hg48 hl11
     have hz65 := (nt (nt (nt (nt hz7 hg16.size) hg25.size) hg32.size) hg48.size)
     exact ⟨(l43, (IntKind.i64.wrap (s4.2 + r22.2))), rfl, a45, c46, hB64, hz65, ho49, hl53, hd, hs, ok_pick [0, 4, 5] hok (by kernel_rfl)⟩
   ·replace h2 := ite_f hc12 h2
    refine gv_cexit <| gv_exit rfl ?_
    have e := sj h2; subst e
    replace h1 := congrArg some (hR2 _ rfl)
    have e := sj h1; subst e
    refine gv_goal fun a hd hs hok => ?_
    have hz66 := hz7
    exact ⟨s4.1, rfl, a8, c9, hB6, hz66, ho10, hl11, hd, hs, ok_pick [4] hok (by kernel_rfl)⟩
 ·rintro a w3 ⟨s2, e, a69, c70, hB67, hz68, ho71, hl72, hd, hs, hok⟩
  subst e
  refine gv_in ?_ hd hs hok
  clear hd hs hok
  replace h0 := cont_inl h0
  refine gv_seq <| gv_region <| gv_pureN 3 [2, 3, 28] [(2, (.slice a69 (List.length s2) c70)), (3, (.bool true))] (by kernel_rfl) ?_
  refine gv_nil <| gv_cret ?_
  have e := sj h0; subst e
  refine gv_ret (gv_done [(.slice a69 (List.length s2) c70), (.bool true)] rfl ⟨(by kernel_rfl), (by kernel_rfl), trivial⟩ ?_)
  exact ⟨grown_of_below hB67, a69, c70, rfl, ho71, hl72⟩

theorem ref4_TextOk_ok (fuel : Nat) (s_0 : ByteArray) (w0 : World)  (r0 : Bool) (h0 : ref4_TextOk fuel s_0 = some r0) :
    Calls Tryz.prog 10 ([(.string s_0)] : List Value).toArray w0 (Ret fun v w' => w0.grownBy w' none ∧ v = tup [(.bool r0)]) := by
 have hB0 : Below w0.heap.size w0 w0 := Below.refl _ _
 unfold ref4_TextOk at h0
 refine calls_run Tryz.func10 rfl Tryz.ntmps10 (by kernel_rfl) ?_
 refine gv_sub [0] (σ' := [(0, (.string s_0))]) (by kernel_rfl) ?_
 refine gv_seq <| gv_region <| gv_pureN 1 [2] [] (by kernel_rfl) ?_
 refine gv_nil <| gv_seq <| gv_region <| gv_pureN 1 [6] [(6, (.string s_0))] (by kernel_rfl) ?_
 refine bindE h0 ?_; clear h0; intro r1 hr2 h0
 refine gv_call0 (by kernel_rfl) rfl (by kernel_rfl) enters12 (ref4_Points_ok fuel s_0 w0  r1 hr2) ?_
 rintro v5 w3 ⟨hg4, a6, c7, rfl, ho8, hl9⟩
 have hl10 : ∀ g, blk a6 = some g → w0.heap.size ≤ g := fun g e => Nat.le_trans hB0.size (hl9 g e)
 refine gv_pureN 5 [3, 4, 5, 8, 9] [(4, (.bool r1.2))] (by kernel_rfl) ?_
 refine gv_nil <| gv_seq <| gv_region <| gv_cut_ops (J := fun a w11 => w3 = w11 ∧ a.defers = [] ∧ a.tmps.size = 16 ∧ Ok [(2, (.bool (r1.2 && (decide (((ByteArray.size s_0 : Nat) : Int) ≤ 4000)))))] a.tmps) ?_ ?_
 ·skip
  refine gv_pureN 2 [10, 11] [(11, (.bool r1.2))] (by kernel_rfl) ?_
  refine gv_split (s := 11) (g := r1.2) (by kernel_rfl) (fun hc12 => ?_) (fun hc12 => ?_)
  ·skip
   refine gv_pureN 5 [2, 12, 13, 14, 15] [(2, (.bool (decide (((ByteArray.size s_0 : Nat) : Int) ≤ 4000))))] (by kernel_rfl) ?_
   refine gv_nil <| gv_sub [2] (σ' := [(2, (.bool (decide (((ByteArray.size s_0 : Nat) : Int) ≤ 4000))))]) (by kernel_rfl) ?_
   refine gv_goal fun a hd hs hok => ⟨rfl, hd, hs, ?_⟩
   obtain ⟨q2, _⟩ := hok
   exact ⟨(by rw [hc12]; exact q2), trivial⟩
  ·skip
   refine gv_pureN 5 [2, 12, 13, 14, 15] [(2, (.bool false))] (by kernel_rfl) ?_
   refine gv_nil <| gv_sub [2] (σ' := [(2, (.bool false))]) (by kernel_rfl) ?_
   refine gv_goal fun a hd hs hok => ⟨rfl, hd, hs, ?_⟩
   obtain ⟨q2, _⟩ := hok
   exact ⟨(by rw [hc12]; exact q2), trivial⟩
 ·rintro a w11 ⟨e, hd, hs, hok⟩; subst e
  refine gv_in ?_ hd hs hok
  clear hd hs hok
  refine gv_cret ?_
  have e := sj h0; subst e
  refine gv_ret (gv_done [(.bool (r1.2 && (decide (((ByteArray.size s_0 : Nat) : Int) ≤ 4000))))] rfl ⟨(by kernel_rfl), trivial⟩ ?_)
  have hB13 := bg hB0 hg4 nb
  exact ⟨grown_of_below hB13, rfl⟩

theorem ref4_At_ok (fuel : Nat) (code_0 : Int) (index_1 : Int) (w0 : World)  (r0 : (Int × Int)) (h0 : ref4_At fuel code_0 index_1 = some r0) :
    Calls Tryz.prog 15 ([(.int .i64 code_0), (.int .i64 index_1)] : List Value).toArray w0 (Ret fun v w' => w0.grownBy w' none ∧ v = tup [(.agg #[(.int .i64 r0.1), (.int .i64 r0.2)])]) := by
 have hB0 : Below w0.heap.size w0 w0 := Below.refl _ _
 unfold ref4_At at h0
 refine calls_run Tryz.func15 rfl Tryz.ntmps15 (by kernel_rfl) ?_
 refine gv_sub [0, 1] (σ' := [(0, (.int .i64 code_0)), (1, (.int .i64 index_1))]) (by kernel_rfl) ?_
 refine gv_seq <| gv_region <| gv_new0 (fun b => .pointer (some ⟨b, 0, none⟩)) #[(.int .i64 0), (.int .i64 0)] 29 (by kernel_rfl) (by kernel_rfl) ?_
 intro b1 w2 hg3 hb4 hbe5 hz6
 refine gv_nil <| gv_seq <| gv_region <| gv_pureN 3 [5, 6, 7] [(7, (.agg #[(.int .i64 code_0), (.int .i64 index_1)]))] (by kernel_rfl) ?_
 refine gv_store0 29 0 (.agg #[(.int .i64 code_0), (.int .i64 index_1)]) #[(.int .i64 code_0), (.int .i64 index_1)] hb4 (by kernel_rfl) (by kernel_rfl) (by kernel_rfl) ?_
 intro w7 hg8 hb9 hz10
 refine gv_nil <| gv_cret ?_
 have e := sj h0; subst e
 refine gv_ret (gv_done [(.agg #[(.int .i64 code_0), (.int .i64 index_1)])] rfl ⟨⟨⟨b1, 0, none⟩, (by kernel_rfl), run_loadVar_row w7 b1 _ 29 _ _ _ hb9 Tryz.underlying29 rfl (by kernel_rfl)⟩, trivial⟩ ?_)
 have hB11 := bg hB0 hg3 nb
 have hlo12 : w0.heap.size ≤ b1 := lob hbe5 hB0.size
 have hB13 := bg hB11 hg8 (rowlo hlo12)
 exact ⟨grown_of_below hB13, rfl⟩

theorem ref4_TextFaults_ok (fuel : Nat) (pa0_0 : Option Addr) (pc0_0 : Nat) (l_0 : (List ByteArray)) (w0 : World) (X0 : Nat → Prop) (hX0 : ∀ k, X0 k → k < w0.heap.size) (hpa0_0 : Rd sE w0 X0 pa0_0 pc0_0 l_0) (r0 : (Int × Int)) (h0 : ref4_TextFaults fuel l_0 = some r0) :
    Calls Tryz.prog 11 ([(.slice pa0_0 (List.length l_0) pc0_0)] : List Value).toArray w0 (Ret fun v w' => w0.grownBy w' none ∧ v = tup [(.agg #[(.int .i64 r0.1), (.int .i64 r0.2)])]) := by
 have hB0 : Below w0.heap.size w0 w0 := Below.refl _ _
 unfold ref4_TextFaults at h0
 refine calls_run Tryz.func11 rfl Tryz.ntmps11 (by kernel_rfl) ?_
 refine gv_sub [0] (σ' := [(0, (.slice pa0_0 (List.length l_0) pc0_0))]) (by kernel_rfl) ?_
 refine gv_seq <| gv_region <| gv_new0 (fun b => .pointer (some ⟨b, 0, none⟩)) #[(.int .i64 0), (.int .i64 0)] 29 (by kernel_rfl) (by kernel_rfl) ?_
 intro b1 w2 hg3 hb4 hbe5 hz6
 refine gv_nil <| gv_seq <| gv_seq <| gv_region <| gv_pureN 1 [3] [(3, (.int .i64 0))] (by kernel_rfl) ?_
 refine gv_nil <| bindE h0 ?_; clear h0; intro j7 h1 h0
 refine gv_cut_code (J := fun a w9 => ∃ s8 : (Int × Int), j7 = .inl s8 ∧ Below w0.heap.size w0 w9 ∧ w2.heap.size ≤ w9.heap.size ∧ Box w9 b1 29 #[(.int .i64 s8.1), (.int .i64 s8.2)] ∧ a.defers = [] ∧ a.tmps.size = 20 ∧ Ok [(2, (bp b1))] a.tmps) ?_ ?_
 ·skip
  refine gv_block <| gv_loop (A := fun (s10 : (Int × (Int × Int))) a w11 => Below w0.heap.size w0 w11 ∧ w2.heap.size ≤ w11.heap.size ∧ Box w11 b1 29 #[(.int .i64 s10.2.1), (.int .i64 s10.2.2)] ∧ a.defers = [] ∧ a.tmps.size = 20 ∧ Ok [(0, (.slice pa0_0 (List.length l_0) pc0_0)), (2, (bp b1)), (3, (.int .i64 s10.1))] a.tmps) h1 ?_ ?_
  ·intro a hd hs hok
   have hB12 := bg hB0 hg3 nb
   exact ⟨hB12, (Nat.le_refl _), hb4, hd, hs, ok_pick [0, 2, 3] hok (by kernel_rfl)⟩
  ·rintro s10 r2 h2 hR2 a w11 ⟨hB13, hz14, hb15, hd, hs, hok⟩
   refine gv_in ?_ hd hs hok
   clear hd hs hok
   refine gv_seq <| gv_seq <| gv_region <| gv_pureN 4 [4, 5, 6, 7] [(7, (.bool (decide (s10.1 < ((List.length l_0 : Nat) : Int)))))] (by kernel_rfl) ?_
   refine gv_nil <| gv_cond (b := (decide (s10.1 < ((List.length l_0 : Nat) : Int)))) (by kernel_rfl) (fun hc16 => ?_) (fun hc16 => ?_)
   ·replace h2 := ite_t hc16 h2
    refine gv_skip <| gv_seq <| gv_block <| gv_seq <| gv_region <| gv_pureN 2 [10, 11] [(10, (.slice pa0_0 (List.length l_0) pc0_0)), (11, (.int .i64 s10.1))] (by kernel_rfl) ?_
    refine bindE h2 ?_; clear h2; intro x17 hx18 h2
    refine gv_idxaddr (t := 58) (e := 9) (a := pa0_0) (len := List.length l_0) (cap := pc0_0) (kk := .i64) (i := s10.1) (sz := 1) [] (fun e => by cases e) rfl rfl rfl (by kernel_rfl) (by kernel_rfl) Tryz.underlying58 (by kernel_rfl) ((hpa0_0.below hB13 hX0).has hx18) (idx_spec hx18).1 (idx_spec hx18).2.1 rfl ?_
    refine gv_load (t := 9) (A := (elemAddr pa0_0 ((s10.1 : Int).toNat * 1))) (.string x17) [] (fun e => by cases e) rfl rfl rfl (by kernel_rfl) (by kernel_rfl) (by kernel_rfl) (inw0 ((hpa0_0.below hB13 hX0).cell hx18)) rfl ?_
    refine bindE h2 ?_; clear h2; intro r19 hr20 h2
    refine gv_call0 (by kernel_rfl) rfl (by kernel_rfl) enters10 (ref4_TextOk_ok fuel x17 w11  r19 hr20) ?_
    rintro v23 w21 ⟨hg22, rfl⟩
    refine gv_pureN 1 [15] [(15, (.bool (!r19)))] (by kernel_rfl) ?_
    refine gv_nil <| gv_cond (b := (!r19)) (by kernel_rfl) (fun hc24 => ?_) (fun hc24 => ?_)
    ·replace h2 := ite_t hc24 h2
     refine gv_seq <| gv_region <| gv_pureN 2 [16, 17] [(17, (.int .i64 (IntKind.i64.wrap ((-1) - s10.1))))] (by kernel_rfl) ?_
     refine bindE h2 ?_; clear h2; intro r25 hr26 h2
     refine gv_call0 (by kernel_rfl) rfl (by kernel_rfl) enters15 (ref4_At_ok fuel 6 (IntKind.i64.wrap ((-1) - s10.1)) w21  r25 hr26) ?_
     rintro v29 w27 ⟨hg28, rfl⟩
     have hg34 := (grown_trans hg22 hg28)
     have hk35 := hb15.grown hg34 nb
     refine gv_store0 29 0 (.agg #[(.int .i64 r25.1), (.int .i64 r25.2)]) #[(.int .i64 r25.1), (.int .i64 r25.2)] hk35 (by kernel_rfl) (by kernel_rfl) (by kernel_rfl) ?_
     intro w30 hg31 hb32 hz33
     refine gv_nil <| gv_cret ?_
     have e := sj h2; subst e
     replace h1 := congrArg some (hR2 _ rfl)
     have e := sj h1; subst e
     replace h0 := cont_inr h0
     have e := sj h0; subst e
     refine gv_ret (gv_done [(.agg #[(.int .i64 r25.1), (.int .i64 r25.2)])] rfl ⟨⟨⟨b1, 0, none⟩, (by kernel_rfl), run_loadVar_row w30 b1 _ 29 _ _ _ hb32 Tryz.underlying29 rfl (by kernel_rfl)⟩, trivial⟩ ?_)
     have hB36 := bg hB13 hg34 nb
     have hlo37 : w0.heap.size ≤ b1 := lob hbe5 hB0.size
     have hB38 := bg hB36 hg31 (rowlo hlo37)
     exact ⟨grown_of_below hB38, rfl⟩
    ·replace h2 := ite_f hc24 h2
     refine gv_skip <| gv_blk <| gv_region <| gv_pureN 3 [3, 8, 9] [(3, (.int .i64 (IntKind.i64.wrap (s10.1 + 1))))] (by kernel_rfl) ?_
     refine gv_nil ?_
     have e := sj h2; subst e
     refine gv_goal fun a hd hs hok => ?_
     have hB39 := bg hB13 hg22 nb
     have hz40 := (nt hz14 hg22.size)
     have hk41 := hb15.grown hg22 nb
     exact ⟨((IntKind.i64.wrap (s10.1 + 1)), (s10.2.1, s10.2.2)), rfl, hB39, hz40, hk41, hd, hs, ok_pick [0, 2, 3] hok (by kernel_rfl)⟩
   ·replace h2 := ite_f hc16 h2
    refine gv_cexit <| gv_exit rfl ?_
    have e := sj h2; subst e
    replace h1 := congrArg some (hR2 _ rfl)
    have e := sj h1; subst e
    refine gv_goal fun a hd hs hok => ?_
    have hz42 := hz14
    exact ⟨(s10.2.1, s10.2.2), rfl, hB13, hz42, hb15, hd, hs, ok_pick [2] hok (by kernel_rfl)⟩
 ·rintro a w9 ⟨s8, e, hB43, hz44, hb45, hd, hs, hok⟩
  subst e
  refine gv_in ?_ hd hs hok
  clear hd hs hok
  replace h0 := cont_inl h0
  clear hz44 hz6 hb4 hg3
  refine gv_seq <| gv_region <| gv_pureN 1 [19] [(19, (.agg #[(.int .i64 0), (.int .i64 0)]))] (by kernel_rfl) ?_
  refine gv_store0 29 0 (.agg #[(.int .i64 0), (.int .i64 0)]) #[(.int .i64 0), (.int .i64 0)] hb45 (by kernel_rfl) (by kernel_rfl) (by kernel_rfl) ?_
  intro w46 hg47 hb48 hz49
  refine gv_nil <| gv_cret ?_
  have e := sj h0; subst e
  refine gv_ret (gv_done [(.agg #[(.int .i64 0), (.int .i64 0)])] rfl ⟨⟨⟨b1, 0, none⟩, (by kernel_rfl), run_loadVar_row w46 b1 _ 29 _ _ _ hb48 Tryz.underlying29 rfl (by kernel_rfl)⟩, trivial⟩ ?_)
  have hlo50 : w0.heap.size ≤ b1 := lob hbe5 hB0.size
  have hB51 := bg hB43 hg47 (rowlo hlo50)
  exact ⟨grown_of_below hB51, rfl⟩

theorem ref4_Numbers_ok (fuel : Nat) (pa0_0 : Option Addr) (pc0_0 : Nat) (a_0 : (List Int)) (pa1_0 : Option Addr) (pc1_0 : Nat) (b_1 : (List Int)) (w0 : World) (X0 : Nat → Prop) (hX0 : ∀ k, X0 k → k < w0.heap.size) (hpa0_0 : Rd (iE .i64) w0 X0 pa0_0 pc0_0 a_0) (hpa1_0 : Rd (iE .i64) w0 X0 pa1_0 pc1_0 b_1) (r0 : Bool) (h0 : ref4_Numbers fuel a_0 b_1 = some r0) :
    Calls Tryz.prog 13 ([(.slice pa0_0 (List.length a_0) pc0_0), (.slice pa1_0 (List.length b_1) pc1_0)] : List Value).toArray w0 (Ret fun v w' => w0.grownBy w' none ∧ v = tup [(.bool r0)]) := by
 have hB0 : Below w0.heap.size w0 w0 := Below.refl _ _
 unfold ref4_Numbers at h0
 refine calls_run Tryz.func13 rfl Tryz.ntmps13 (by kernel_rfl) ?_
 refine gv_sub [0, 1] (σ' := [(0, (.slice pa0_0 (List.length a_0) pc0_0)), (1, (.slice pa1_0 (List.length b_1) pc1_0))]) (by kernel_rfl) ?_
 refine gv_seq <| gv_region <| gv_pureN 1 [4] [] (by kernel_rfl) ?_
 refine gv_nil <| gv_seq <| gv_seq <| gv_region <| gv_pureN 5 [6, 7, 8, 9, 10] [(10, (.bool (((List.length a_0 : Nat) : Int) != ((List.length b_1 : Nat) : Int))))] (by kernel_rfl) ?_
 refine gv_nil <| gv_cond (b := (((List.length a_0 : Nat) : Int) != ((List.length b_1 : Nat) : Int))) (by kernel_rfl) (fun hc1 => ?_) (fun hc1 => ?_)
 ·replace h0 := ite_t hc1 h0
  refine gv_seq <| gv_region <| gv_pureN 1 [4] [(4, (.bool false))] (by kernel_rfl) ?_
  refine gv_nil <| gv_cret ?_
  have e := sj h0; subst e
  refine gv_ret (gv_done [(.bool false)] rfl ⟨(by kernel_rfl), trivial⟩ ?_)
  exact ⟨grown_of_below hB0, rfl⟩
 ·replace h0 := ite_f hc1 h0
  refine gv_skip <| gv_seq <| gv_seq <| gv_region <| gv_pureN 1 [5] [(5, (.int .i64 0))] (by kernel_rfl) ?_
  refine gv_nil <| bindE h0 ?_; clear h0; intro j2 h1 h0
  refine gv_cut_code (J := fun a w4 => ∃ s3 : Unit, j2 = .inl s3 ∧ Below w0.heap.size w0 w4 ∧ w0.heap.size ≤ w4.heap.size ∧ a.defers = [] ∧ a.tmps.size = 26 ∧ Ok [] a.tmps) ?_ ?_
  ·skip
   refine gv_block <| gv_loop (A := fun (s5 : Int) a w6 => Below w0.heap.size w0 w6 ∧ w0.heap.size ≤ w6.heap.size ∧ a.defers = [] ∧ a.tmps.size = 26 ∧ Ok [(0, (.slice pa0_0 (List.length a_0) pc0_0)), (1, (.slice pa1_0 (List.length b_1) pc1_0)), (5, (.int .i64 s5))] a.tmps) h1 ?_ ?_
   ·intro a hd hs hok
    exact ⟨hB0, (Nat.le_refl _), hd, hs, ok_pick [0, 1, 5] hok (by kernel_rfl)⟩
   ·rintro s5 r2 h2 hR2 a w6 ⟨hB7, hz8, hd, hs, hok⟩
    refine gv_in ?_ hd hs hok
    clear hd hs hok
    refine gv_seq <| gv_seq <| gv_region <| gv_pureN 4 [11, 12, 13, 14] [(14, (.bool (decide (s5 < ((List.length a_0 : Nat) : Int)))))] (by kernel_rfl) ?_
    refine gv_nil <| gv_cond (b := (decide (s5 < ((List.length a_0 : Nat) : Int)))) (by kernel_rfl) (fun hc9 => ?_) (fun hc9 => ?_)
    ·replace h2 := ite_t hc9 h2
     refine gv_skip <| gv_seq <| gv_block <| gv_seq <| gv_drawA (by kernel_rfl) ?_
     intro w10 hg11
     refine gv_pre [0, 1, 2, 4, 5, 6] (bA 9 [0, 1, 2, 4, 5, 6]) 3 (by kernel_rfl) (by kernel_rfl) ?_
     refine gv_pureN 2 [17, 18] [(17, (.slice pa0_0 (List.length a_0) pc0_0)), (18, (.int .i64 s5))] (by kernel_rfl) ?_
     refine bindE h2 ?_; clear h2; intro x12 hx13 h2
     have hB14 := bg hB7 hg11 nb
     refine gv_idxaddr (t := 22) (e := 3) (a := pa0_0) (len := List.length a_0) (cap := pc0_0) (kk := .i64) (i := s5) (sz := 1) [] (fun e => by cases e) rfl rfl rfl (by kernel_rfl) (by kernel_rfl) Tryz.underlying22 (by kernel_rfl) ((hpa0_0.below hB14 hX0).has hx13) (idx_spec hx13).1 (idx_spec hx13).2.1 rfl ?_
     refine gv_pureN 2 [21, 22] [(21, (.slice pa1_0 (List.length b_1) pc1_0)), (22, (.int .i64 s5))] (by kernel_rfl) ?_
     refine bindE h2 ?_; clear h2; intro x15 hx16 h2
     refine gv_idxaddr (t := 22) (e := 3) (a := pa1_0) (len := List.length b_1) (cap := pc1_0) (kk := .i64) (i := s5) (sz := 1) [] (fun e => by cases e) rfl rfl rfl (by kernel_rfl) (by kernel_rfl) Tryz.underlying22 (by kernel_rfl) ((hpa1_0.below hB14 hX0).has hx16) (idx_spec hx16).1 (idx_spec hx16).2.1 rfl ?_
     refine gv_nil <| gv_goA ?_
     refine gv_stage (Cls w10 []) [0, 1, 2, 3, 4, 5, 6, 7] [(3, some true), (7, some true)] (bA 9 [0, 1, 2, 3, 4, 5, 6, 7]) 1 (by kernel_rfl) (by kernel_rfl) (Cls.refl _ _) ?_
     have hC17 := Cls.refl w10 []
     refine gv_load (t := 3) (A := (elemAddr pa0_0 ((s5 : Int).toNat * 1))) (.int .i64 x12) [] (fun e => by cases e) rfl rfl rfl (by kernel_rfl) (by kernel_rfl) (by kernel_rfl) (inw1 fun w' hC' => ((hC'.rd (hpa0_0.below hB14 hX0) (fun k (hk : X0 k) => ltl (hX0 k hk) hB14.size) nmx_nil).cell hx13)) rfl ?_
     refine gv_load (t := 3) (A := (elemAddr pa1_0 ((s5 : Int).toNat * 1))) (.int .i64 x15) [] (fun e => by cases e) rfl rfl rfl (by kernel_rfl) (by kernel_rfl) (by kernel_rfl) (inw1 fun w' hC' => ((hC'.rd (hpa1_0.below hB14 hX0) (fun k (hk : X0 k) => ltl (hX0 k hk) hB14.size) nmx_nil).cell hx16)) rfl ?_
     refine gv_nil <| gv_goA ?_
     refine gv_pre [8] (bA 9 [0, 1, 2, 3, 4, 5, 6, 7, 8]) 0 (by kernel_rfl) (by kernel_rfl) ?_
     refine gv_pureN 1 [25] [(25, (.bool (x12 != x15)))] (by kernel_rfl) ?_
     refine gv_nil <| gv_goA ?_
     refine gv_stageE (by kernel_rfl) ?_
     refine gv_cond (b := (x12 != x15)) (by kernel_rfl) (fun hc18 => ?_) (fun hc18 => ?_)
     ·replace h2 := ite_t hc18 h2
      refine gv_seq <| gv_region <| gv_pureN 1 [4] [(4, (.bool false))] (by kernel_rfl) ?_
      refine gv_nil <| gv_cret ?_
      have e := sj h2; subst e
      replace h1 := congrArg some (hR2 _ rfl)
      have e := sj h1; subst e
      replace h0 := cont_inr h0
      have e := sj h0; subst e
      refine gv_ret (gv_done [(.bool false)] rfl ⟨(by kernel_rfl), trivial⟩ ?_)
      exact ⟨grown_of_below hB14, rfl⟩
     ·replace h2 := ite_f hc18 h2
      refine gv_skip <| gv_blk <| gv_region <| gv_pureN 3 [5, 15, 16] [(5, (.int .i64 (IntKind.i64.wrap (s5 + 1))))] (by kernel_rfl) ?_
      refine gv_nil ?_
      have e := sj h2; subst e
      refine gv_goal fun a hd hs hok => ?_
      have hz19 := (nt hz8 hg11.size)
      exact ⟨(IntKind.i64.wrap (s5 + 1)), rfl, hB14, hz19, hd, hs, ok_pick [0, 1, 5] hok (by kernel_rfl)⟩
    ·replace h2 := ite_f hc9 h2
     refine gv_cexit <| gv_exit rfl ?_
     have e := sj h2; subst e
     replace h1 := congrArg some (hR2 _ rfl)
     have e := sj h1; subst e
     refine gv_goal fun a hd hs hok => ?_
     have hz20 := hz8
     exact ⟨(), rfl, hB7, hz20, hd, hs, ok_pick [] hok (by kernel_rfl)⟩
  ·rintro a w4 ⟨s3, e, hB21, hz22, hd, hs, hok⟩
   subst e
   refine gv_in ?_ hd hs hok
   clear hd hs hok
   replace h0 := cont_inl h0
   refine gv_seq <| gv_region <| gv_pureN 1 [4] [(4, (.bool true))] (by kernel_rfl) ?_
   refine gv_nil <| gv_cret ?_
   have e := sj h0; subst e
   refine gv_ret (gv_done [(.bool true)] rfl ⟨(by kernel_rfl), trivial⟩ ?_)
   exact ⟨grown_of_below hB21, rfl⟩

theorem ref4_Scalar_ok (fuel : Nat) (n_0 : Int) (w0 : World)  (r0 : Bool) (h0 : ref4_Scalar fuel n_0 = some r0) :
    Calls Tryz.prog 14 ([(.int .i64 n_0)] : List Value).toArray w0 (Ret fun v w' => w0.grownBy w' none ∧ v = tup [(.bool r0)]) := by
 have hB0 : Below w0.heap.size w0 w0 := Below.refl _ _
 unfold ref4_Scalar at h0
 refine calls_run Tryz.func14 rfl Tryz.ntmps14 (by kernel_rfl) ?_
 refine gv_sub [0] (σ' := [(0, (.int .i64 n_0))]) (by kernel_rfl) ?_
 refine gv_seq <| gv_region <| gv_pureN 1 [2] [] (by kernel_rfl) ?_
 refine gv_nil <| gv_seq <| gv_region <| gv_cut_ops (J := fun a w1 => w0 = w1 ∧ a.defers = [] ∧ a.tmps.size = 17 ∧ Ok [(2, (.bool (if (decide (n_0 ≥ 0)) then ((decide (n_0 < 55296)) || ((decide (n_0 > 57343)) && (decide (n_0 ≤ 1114111)))) else ((decide (n_0 > 57343)) && (decide (n_0 ≤ 1114111))))))] a.tmps) ?_ ?_
 ·skip
  refine gv_pureN 3 [3, 4, 5] [(5, (.bool (decide (n_0 ≥ 0))))] (by kernel_rfl) ?_
  refine gv_split (s := 5) (g := (decide (n_0 ≥ 0))) (by kernel_rfl) (fun hc2 => ?_) (fun hc2 => ?_)
  ·skip
   refine gv_pureN 4 [6, 7, 8, 9] [(9, (.bool (decide (n_0 < 55296))))] (by kernel_rfl) ?_
   refine gv_split (s := 9) (g := (decide (n_0 < 55296))) (by kernel_rfl) (fun hc3 => ?_) (fun hc3 => ?_)
   ·skip
    refine gv_pureN 8 [2, 10, 11, 12, 13, 14, 15, 16] [(2, (.bool true))] (by kernel_rfl) ?_
    refine gv_nil <| gv_sub [2] (σ' := [(2, (.bool true))]) (by kernel_rfl) ?_
    refine gv_goal fun a hd hs hok => ⟨rfl, hd, hs, ?_⟩
    obtain ⟨q2, _⟩ := hok
    exact ⟨(by rw [hc2, hc3]; exact q2), trivial⟩
   ·skip
    refine gv_pureN 3 [10, 11, 12] [(12, (.bool (decide (n_0 > 57343))))] (by kernel_rfl) ?_
    refine gv_split (s := 12) (g := (decide (n_0 > 57343))) (by kernel_rfl) (fun hc4 => ?_) (fun hc4 => ?_)
    ·skip
     refine gv_pureN 5 [2, 13, 14, 15, 16] [(2, (.bool (decide (n_0 ≤ 1114111))))] (by kernel_rfl) ?_
     refine gv_nil <| gv_sub [2] (σ' := [(2, (.bool (decide (n_0 ≤ 1114111))))]) (by kernel_rfl) ?_
     refine gv_goal fun a hd hs hok => ⟨rfl, hd, hs, ?_⟩
     obtain ⟨q2, _⟩ := hok
     exact ⟨(by rw [hc2, hc3, hc4]; exact q2), trivial⟩
    ·skip
     refine gv_pureN 5 [2, 13, 14, 15, 16] [(2, (.bool false))] (by kernel_rfl) ?_
     refine gv_nil <| gv_sub [2] (σ' := [(2, (.bool false))]) (by kernel_rfl) ?_
     refine gv_goal fun a hd hs hok => ⟨rfl, hd, hs, ?_⟩
     obtain ⟨q2, _⟩ := hok
     exact ⟨(by rw [hc2, hc3, hc4]; exact q2), trivial⟩
  ·skip
   refine gv_pureN 7 [6, 7, 8, 9, 10, 11, 12] [(9, (.bool false)), (12, (.bool (decide (n_0 > 57343))))] (by kernel_rfl) ?_
   refine gv_split (s := 12) (g := (decide (n_0 > 57343))) (by kernel_rfl) (fun hc5 => ?_) (fun hc5 => ?_)
   ·skip
    refine gv_pureN 5 [2, 13, 14, 15, 16] [(2, (.bool (decide (n_0 ≤ 1114111))))] (by kernel_rfl) ?_
    refine gv_nil <| gv_sub [2] (σ' := [(2, (.bool (decide (n_0 ≤ 1114111))))]) (by kernel_rfl) ?_
    refine gv_goal fun a hd hs hok => ⟨rfl, hd, hs, ?_⟩
    obtain ⟨q2, _⟩ := hok
    exact ⟨(by rw [hc2, hc5]; exact q2), trivial⟩
   ·skip
    refine gv_pureN 5 [2, 13, 14, 15, 16] [(2, (.bool false))] (by kernel_rfl) ?_
    refine gv_nil <| gv_sub [2] (σ' := [(2, (.bool false))]) (by kernel_rfl) ?_
    refine gv_goal fun a hd hs hok => ⟨rfl, hd, hs, ?_⟩
    obtain ⟨q2, _⟩ := hok
    exact ⟨(by rw [hc2, hc5]; exact q2), trivial⟩
 ·rintro a w1 ⟨e, hd, hs, hok⟩; subst e
  refine gv_in ?_ hd hs hok
  clear hd hs hok
  refine gv_cret ?_
  have e := sj h0; subst e
  refine gv_ret (gv_done [(.bool (if (decide (n_0 ≥ 0)) then ((decide (n_0 < 55296)) || ((decide (n_0 > 57343)) && (decide (n_0 ≤ 1114111)))) else ((decide (n_0 > 57343)) && (decide (n_0 ≤ 1114111)))))] rfl ⟨(by kernel_rfl), trivial⟩ ?_)
  exact ⟨grown_of_below hB0, rfl⟩

theorem ref4_Encoded_ok (fuel : Nat) (pa0_0 : Option Addr) (pc0_0 : Nat) (l_0 : (List Int)) (w0 : World) (X0 : Nat → Prop) (hX0 : ∀ k, X0 k → k < w0.heap.size) (hpa0_0 : Rd (iE .i64) w0 X0 pa0_0 pc0_0 l_0) (r0 : (List UInt8)) (h0 : ref4_Encoded fuel l_0 = some r0) :
    Calls Tryz.prog 16 ([(.slice pa0_0 (List.length l_0) pc0_0)] : List Value).toArray w0 (Ret fun v w' => w0.grownBy w' none ∧ ∃ (a0_0r : Option Addr) (c0_0r : Nat), v = tup [(.slice a0_0r (List.length r0) c0_0r)] ∧ Gv.Own bE 5 w' (fun _ => False) a0_0r c0_0r r0 ∧ (∀ g, blk a0_0r = some g → w0.heap.size ≤ g)) := by
 have hB0 : Below w0.heap.size w0 w0 := Below.refl _ _
 unfold ref4_Encoded at h0
 refine calls_run Tryz.func16 rfl Tryz.ntmps16 (by kernel_rfl) ?_
 refine gv_sub [0] (σ' := [(0, (.slice pa0_0 (List.length l_0) pc0_0))]) (by kernel_rfl) ?_
 refine gv_seq <| gv_region <| gv_pureN 1 [2] [] (by kernel_rfl) ?_
 refine gv_nil <| gv_seq <| gv_region <| gv_pureN 1 [3] [(3, (.slice none (List.length ([] : List UInt8)) 0))] (by kernel_rfl) ?_
 refine gv_nil <| gv_seq <| gv_seq <| gv_region <| gv_pureN 1 [4] [(4, (.int .i64 0))] (by kernel_rfl) ?_
 refine gv_nil <| bindE h0 ?_; clear h0; intro j1 h1 h0
 refine gv_cut_code (J := fun a w2 => ∃ (a3_0j : Option Addr) (c3_0j : Nat), Below w0.heap.size w0 w2 ∧ w0.heap.size ≤ w2.heap.size ∧ Gv.Own bE 5 w2 (fun _ => False) a3_0j c3_0j j1 ∧ (∀ g, blk a3_0j = some g → w0.heap.size ≤ g) ∧ a.defers = [] ∧ a.tmps.size = 79 ∧ Ok [(3, (.slice a3_0j (List.length j1) c3_0j))] a.tmps) ?_ ?_
 ·skip
  refine gv_block <| gv_loop (A := fun (s3 : ((List UInt8) × Int)) a w4 => ∃ (a3_0j : Option Addr) (c3_0j : Nat), Below w0.heap.size w0 w4 ∧ w0.heap.size ≤ w4.heap.size ∧ Gv.Own bE 5 w4 (fun _ => False) a3_0j c3_0j s3.1 ∧ (∀ g, blk a3_0j = some g → w0.heap.size ≤ g) ∧ a.defers = [] ∧ a.tmps.size = 79 ∧ Ok [(0, (.slice pa0_0 (List.length l_0) pc0_0)), (3, (.slice a3_0j (List.length s3.1) c3_0j)), (4, (.int .i64 s3.2))] a.tmps) h1 ?_ ?_
  ·intro a hd hs hok
   exact ⟨none, 0, hB0, (Nat.le_refl _), (Gv.Own.nil bE 5 w0 (fun _ => False)), (fun _ h => by cases h), hd, hs, ok_pick [0, 3, 4] hok (by kernel_rfl)⟩
  ·rintro s3 r2 h2 hR2 a w4 ⟨a7, c8, hB5, hz6, ho9, hl10, hd, hs, hok⟩
   refine gv_in ?_ hd hs hok
   clear hd hs hok
   refine gv_seq <| gv_seq <| gv_region <| gv_pureN 4 [6, 7, 8, 9] [(9, (.bool (decide (s3.2 < ((List.length l_0 : Nat) : Int)))))] (by kernel_rfl) ?_
   refine gv_nil <| gv_cond (b := (decide (s3.2 < ((List.length l_0 : Nat) : Int)))) (by kernel_rfl) (fun hc11 => ?_) (fun hc11 => ?_)
   ·replace h2 := ite_t hc11 h2
    refine gv_skip <| gv_seq <| gv_block <| gv_seq <| gv_region <| gv_pureN 2 [12, 13] [(12, (.slice pa0_0 (List.length l_0) pc0_0)), (13, (.int .i64 s3.2))] (by kernel_rfl) ?_
    refine bindE h2 ?_; clear h2; intro x12 hx13 h2
    refine gv_idxaddr (t := 22) (e := 3) (a := pa0_0) (len := List.length l_0) (cap := pc0_0) (kk := .i64) (i := s3.2) (sz := 1) [] (fun e => by cases e) rfl rfl rfl (by kernel_rfl) (by kernel_rfl) Tryz.underlying22 (by kernel_rfl) ((hpa0_0.below hB5 hX0).has hx13) (idx_spec hx13).1 (idx_spec hx13).2.1 rfl ?_
    refine gv_load (t := 3) (A := (elemAddr pa0_0 ((s3.2 : Int).toNat * 1))) (.int .i64 x12) [] (fun e => by cases e) rfl rfl rfl (by kernel_rfl) (by kernel_rfl) (by kernel_rfl) (inw0 ((hpa0_0.below hB5 hX0).cell hx13)) rfl ?_
    refine gv_pureN 1 [5] [(5, (.int .i64 x12))] (by kernel_rfl) ?_
    refine gv_nil <| gv_block <| gv_seq <| gv_region <| gv_pureN 3 [37, 38, 39] [(37, (.bool (decide (x12 < 128))))] (by kernel_rfl) ?_
    refine gv_nil <| bindE h2 ?_; clear h2; intro j14 h3 h2
    refine gv_cut_code (J := fun a w15 => ∃ (a3_0j : Option Addr) (c3_0j : Nat), Below w0.heap.size w0 w15 ∧ w4.heap.size ≤ w15.heap.size ∧ Gv.Own bE 5 w15 (fun _ => False) a3_0j c3_0j j14 ∧ (∀ g, blk a3_0j = some g → w0.heap.size ≤ g) ∧ a.defers = [] ∧ a.tmps.size = 79 ∧ Ok [(0, (.slice pa0_0 (List.length l_0) pc0_0)), (3, (.slice a3_0j (List.length j14) c3_0j)), (4, (.int .i64 s3.2))] a.tmps) ?_ ?_
    ·skip
     refine gv_cond (b := (decide (x12 < 128))) (by kernel_rfl) (fun hc16 => ?_) (fun hc16 => ?_)
     ·replace h3 := ite_t hc16 h3
      refine gv_region <| gv_pureN 3 [40, 41, 42] [(40, (.slice a7 (List.length s3.1) c8)), (42, (.int .u8 (IntKind.u8.wrap (x12))))] (by kernel_rfl) ?_
      refine bindE h3 ?_; clear h3; intro b17 hb18 h3
      have hu19 := u8_spec hb18
      refine gv_new0 (fun b => .slice (some ⟨b, 0, none⟩) 1 1) #[(.int .u8 (IntKind.u8.wrap (x12)))] 5 (by kernel_rfl) (by kernel_rfl) ?_
      intro b20 w21 hg22 hb23 hbe24 hz25
      have ho26 : Gv.Own bE 5 w21 (fun _ => False) (some ⟨b20, 0, none⟩) 1 ([b17] : List UInt8) := Box.ownE hb23 ⟨[(.int .u8 (IntKind.u8.wrap (x12)))], [], rfl, (by simp only [bE, flat, hu19]), rfl⟩ (show 1 ≤ maxLen by decide) (fun h => h)
      have hl27 : ∀ g, blk (some ⟨b20, 0, none⟩) = some g → w0.heap.size ≤ g := loo hbe24 hB5.size
      refine bindE h3 ?_; clear h3; intro l31 hx32 h3
      have hk39 := ho9.grown hg22 (fun _ h => h.elim) nb
      refine gv_append bE (t := 45) (ty := 45) (e := 5) (a := a7) (ax := (some ⟨b20, 0, none⟩)) (cap := c8) (cx := 1) (xs := s3.1) (ys := ([b17] : List UInt8)) l31 (X := (fun _ => False)) (Y := (fun k => blk (some ⟨b20, 0, none⟩) = some k)) (by decide) rfl rfl (by kernel_rfl) (by kernel_rfl) Tryz.underlying45 info5 hk39 (ho26.rd (Y := fun k => blk (some ⟨b20, 0, none⟩) = some k) (fun _ h => h.elim) (fun g e => e)) hx32 (.inr fun _ _ _ _ _ h => h) (fun _ h => h.elim) ?_
      intro a33 c34 w35 hg36 ho37 hk38
      refine ⟨(fun e => by cases e), ?_⟩
      have hB41 := bg hB5 hg22 nb
      have hl40 : ∀ g, blk a33 = some g → w0.heap.size ≤ g := blk_step hk38 hl10 hB41.size
      have ap43 : ∀ g, blk a7 = some g → ¬ (fun k => blk (some ⟨b20, 0, none⟩) = some k) g := fun g e hx => nl ((lowo hbe24) _ hx) ((fun k (hk : blk a7 = some k) => ho9.lt k hk) g e)
      have ap42 : ∀ g, blk a33 = some g → ¬ (fun k => blk (some ⟨b20, 0, none⟩) = some k) g := blk_neX hk38 ap43 (fun k (hk : blk (some ⟨b20, 0, none⟩) = some k) => ho26.lt k hk)
      have ap45 : ∀ g, blk (some ⟨b20, 0, none⟩) = some g → ¬ (fun k => blk a7 = some k) g := fun g e hx => nl ((lowo hbe24) g e) ((fun k (hk : blk a7 = some k) => ho9.lt k hk) _ hx)
      have ap44 : ∀ g, blk (some ⟨b20, 0, none⟩) = some g → ¬ (fun k => blk a33 = some k) g := fun g e h => blk_rev hk38 (fun h => ((ap45) g e) h) (ho26.lt g e) h
      refine gv_pureN 1 [3] [(3, (.slice a33 (List.length l31) c34))] (by kernel_rfl) ?_
      refine gv_nil ?_
      have e := sj h3; subst e
      refine gv_goal fun a hd hs hok => ?_
      have hB46 := bg hB41 hg36 hl10
      have hz47 := (nt hg22.size hg36.size)
      exact ⟨a33, c34, hB46, hz47, ho37, hl40, hd, hs, ok_pick [0, 3, 4] hok (by kernel_rfl)⟩
     ·replace h3 := ite_f hc16 h3
      refine gv_seq <| gv_region <| gv_pureN 3 [45, 46, 47] [(45, (.bool (decide (x12 < 2048))))] (by kernel_rfl) ?_
      refine gv_nil <| gv_cond (b := (decide (x12 < 2048))) (by kernel_rfl) (fun hc48 => ?_) (fun hc48 => ?_)
      ·replace h3 := ite_t hc48 h3
       refine gv_region <| gv_pureN 9 [48, 49, 50, 51, 52, 53, 54, 55, 56] [(48, (.slice a7 (List.length s3.1) c8)), (52, (.int .u8 (IntKind.u8.wrap ((IntKind.i64.wrap (192 + (IntKind.i64.wrap ((x12).tdiv 64)))))))), (56, (.int .u8 (IntKind.u8.wrap ((IntKind.i64.wrap (128 + ((x12).tmod 64)))))))] (by kernel_rfl) ?_
       refine bindE h3 ?_; clear h3; intro b49 hb50 h3
       have hu51 := u8_spec hb50
       refine bindE h3 ?_; clear h3; intro b52 hb53 h3
       have hu54 := u8_spec hb53
       refine gv_new0 (fun b => .slice (some ⟨b, 0, none⟩) 2 2) #[(.int .u8 (IntKind.u8.wrap ((IntKind.i64.wrap (192 + (IntKind.i64.wrap ((x12).tdiv 64))))))), (.int .u8 (IntKind.u8.wrap ((IntKind.i64.wrap (128 + ((x12).tmod 64))))))] 5 (by kernel_rfl) (by kernel_rfl) ?_
       intro b55 w56 hg57 hb58 hbe59 hz60
       have ho61 : Gv.Own bE 5 w56 (fun _ => False) (some ⟨b55, 0, none⟩) 2 ([b49, b52] : List UInt8) := Box.ownE hb58 ⟨[(.int .u8 (IntKind.u8.wrap ((IntKind.i64.wrap (192 + (IntKind.i64.wrap ((x12).tdiv 64)))))))], [(.int .u8 (IntKind.u8.wrap ((IntKind.i64.wrap (128 + ((x12).tmod 64))))))], rfl, (by simp only [bE, flat, hu51]), ⟨[(.int .u8 (IntKind.u8.wrap ((IntKind.i64.wrap (128 + ((x12).tmod 64))))))], [], rfl, (by simp only [bE, flat, hu54]), rfl⟩⟩ (show 2 ≤ maxLen by decide) (fun h => h)
       have hl62 : ∀ g, blk (some ⟨b55, 0, none⟩) = some g → w0.heap.size ≤ g := loo hbe59 hB5.size
       refine bindE h3 ?_; clear h3; intro l66 hx67 h3
       have hk74 := ho9.grown hg57 (fun _ h => h.elim) nb
       refine gv_append bE (t := 45) (ty := 45) (e := 5) (a := a7) (ax := (some ⟨b55, 0, none⟩)) (cap := c8) (cx := 2) (xs := s3.1) (ys := ([b49, b52] : List UInt8)) l66 (X := (fun _ => False)) (Y := (fun k => blk (some ⟨b55, 0, none⟩) = some k)) (by decide) rfl rfl (by kernel_rfl) (by kernel_rfl) Tryz.underlying45 info5 hk74 (ho61.rd (Y := fun k => blk (some ⟨b55, 0, none⟩) = some k) (fun _ h => h.elim) (fun g e => e)) hx67 (.inr fun _ _ _ _ _ h => h) (fun _ h => h.elim) ?_
       intro a68 c69 w70 hg71 ho72 hk73
       refine ⟨(fun e => by cases e), ?_⟩
       have hB76 := bg hB5 hg57 nb
       have hl75 : ∀ g, blk a68 = some g → w0.heap.size ≤ g := blk_step hk73 hl10 hB76.size
       have ap78 : ∀ g, blk a7 = some g → ¬ (fun k => blk (some ⟨b55, 0, none⟩) = some k) g := fun g e hx => nl ((lowo hbe59) _ hx) ((fun k (hk : blk a7 = some k) => ho9.lt k hk) g e)
       have ap77 : ∀ g, blk a68 = some g → ¬ (fun k => blk (some ⟨b55, 0, none⟩) = some k) g := blk_neX hk73 ap78 (fun k (hk : blk (some ⟨b55, 0, none⟩) = some k) => ho61.lt k hk)
       have ap80 : ∀ g, blk (some ⟨b55, 0, none⟩) = some g → ¬ (fun k => blk a7 = some k) g := fun g e hx => nl ((lowo hbe59) g e) ((fun k (hk : blk a7 = some k) => ho9.lt k hk) _ hx)
       have ap79 : ∀ g, blk (some ⟨b55, 0, none⟩) = some g → ¬ (fun k => blk a68 = some k) g := fun g e h => blk_rev hk73 (fun h => ((ap80) g e) h) (ho61.lt g e) h
       refine gv_pureN 1 [3] [(3, (.slice a68 (List.length l66) c69))] (by kernel_rfl) ?_
       refine gv_nil ?_
       have e := sj h3; subst e
       refine gv_goal fun a hd hs hok => ?_
       have hB81 := bg hB76 hg71 hl10
       have hz82 := (nt hg57.size hg71.size)
       exact ⟨a68, c69, hB81, hz82, ho72, hl75, hd, hs, ok_pick [0, 3, 4] hok (by kernel_rfl)⟩
      ·replace h3 := ite_f hc48 h3
       refine gv_seq <| gv_region <| gv_pureN 3 [59, 60, 61] [(59, (.bool (decide (x12 < 65536))))] (by kernel_rfl) ?_
       refine gv_nil <| gv_cond (b := (decide (x12 < 65536))) (by kernel_rfl) (fun hc83 => ?_) (fun hc83 => ?_)
       ·replace h3 := ite_t hc83 h3
        refine gv_region <| gv_pureN 14 [62, 63, 64, 65, 66, 67, 68, 69, 70, 71, 72, 73, 74, 75] [(62, (.slice a7 (List.length s3.1) c8)), (66, (.int .u8 (IntKind.u8.wrap ((IntKind.i64.wrap (224 + (IntKind.i64.wrap ((x12).tdiv 4096)))))))), (71, (.int .u8 (IntKind.u8.wrap ((IntKind.i64.wrap (128 + (((IntKind.i64.wrap ((x12).tdiv 64))).tmod 64))))))), (75, (.int .u8 (IntKind.u8.wrap ((IntKind.i64.wrap (128 + ((x12).tmod 64)))))))] (by kernel_rfl) ?_
        refine bindE h3 ?_; clear h3; intro b84 hb85 h3
        have hu86 := u8_spec hb85
        refine bindE h3 ?_; clear h3; intro b87 hb88 h3
        have hu89 := u8_spec hb88
        refine bindE h3 ?_; clear h3; intro b90 hb91 h3
        have hu92 := u8_spec hb91
        refine gv_new0 (fun b => .slice (some ⟨b, 0, none⟩) 3 3) #[(.int .u8 (IntKind.u8.wrap ((IntKind.i64.wrap (224 + (IntKind.i64.wrap ((x12).tdiv 4096))))))), (.int .u8 (IntKind.u8.wrap ((IntKind.i64.wrap (128 + (((IntKind.i64.wrap ((x12).tdiv 64))).tmod 64)))))), (.int .u8 (IntKind.u8.wrap ((IntKind.i64.wrap (128 + ((x12).tmod 64))))))] 5 (by kernel_rfl) (by kernel_rfl) ?_
        intro b93 w94 hg95 hb96 hbe97 hz98
        have ho99 : Gv.Own bE 5 w94 (fun _ => False) (some ⟨b93, 0, none⟩) 3 ([b84, b87, b90] : List UInt8) := Box.ownE hb96 ⟨[(.int .u8 (IntKind.u8.wrap ((IntKind.i64.wrap (224 + (IntKind.i64.wrap ((x12).tdiv 4096)))))))], [(.int .u8 (IntKind.u8.wrap ((IntKind.i64.wrap (128 + (((IntKind.i64.wrap ((x12).tdiv 64))).tmod 64)))))), (.int .u8 (IntKind.u8.wrap ((IntKind.i64.wrap (128 + ((x12).tmod 64))))))], rfl, (by simp only [bE, flat, hu86]), ⟨[(.int .u8 (IntKind.u8.wrap ((IntKind.i64.wrap (128 + (((IntKind.i64.wrap ((x12).tdiv 64))).tmod 64))))))], [(.int .u8 (IntKind.u8.wrap ((IntKind.i64.wrap (128 + ((x12).tmod 64))))))], rfl, (by simp only [bE, flat, hu89]), ⟨[(.int .u8 (IntKind.u8.wrap ((IntKind.i64.wrap (128 + ((x12).tmod 64))))))], [], rfl, (by simp only [bE, flat, hu92]), rfl⟩⟩⟩ (show 3 ≤ maxLen by decide) (fun h => h)
        have hl100 : ∀ g, blk (some ⟨b93, 0, none⟩) = some g → w0.heap.size ≤ g := loo hbe97 hB5.size
        refine bindE h3 ?_; clear h3; intro l104 hx105 h3
        have hk112 := ho9.grown hg95 (fun _ h => h.elim) nb
        refine gv_append bE (t := 45) (ty := 45) (e := 5) (a := a7) (ax := (some ⟨b93, 0, none⟩)) (cap := c8) (cx := 3) (xs := s3.1) (ys := ([b84, b87, b90] : List UInt8)) l104 (X := (fun _ => False)) (Y := (fun k => blk (some ⟨b93, 0, none⟩) = some k)) (by decide) rfl rfl (by kernel_rfl) (by kernel_rfl) Tryz.underlying45 info5 hk112 (ho99.rd (Y := fun k => blk (some ⟨b93, 0, none⟩) = some k) (fun _ h => h.elim) (fun g e => e)) hx105 (.inr fun _ _ _ _ _ h => h) (fun _ h => h.elim) ?_
        intro a106 c107 w108 hg109 ho110 hk111
        refine ⟨(fun e => by cases e), ?_⟩
        have hB114 := bg hB5 hg95 nb
        have hl113 : ∀ g, blk a106 = some g → w0.heap.size ≤ g := blk_step hk111 hl10 hB114.size
        have ap116 : ∀ g, blk a7 = some g → ¬ (fun k => blk (some ⟨b93, 0, none⟩) = some k) g := fun g e hx => nl ((lowo hbe97) _ hx) ((fun k (hk : blk a7 = some k) => ho9.lt k hk) g e)
        have ap115 : ∀ g, blk a106 = some g → ¬ (fun k => blk (some ⟨b93, 0, none⟩) = some k) g := blk_neX hk111 ap116 (fun k (hk : blk (some ⟨b93, 0, none⟩) = some k) => ho99.lt k hk)
        have ap118 : ∀ g, blk (some ⟨b93, 0, none⟩) = some g → ¬ (fun k => blk a7 = some k) g := fun g e hx => nl ((lowo hbe97) g e) ((fun k (hk : blk a7 = some k) => ho9.lt k hk) _ hx)
        have ap117 : ∀ g, blk (some ⟨b93, 0, none⟩) = some g → ¬ (fun k => blk a106 = some k) g := fun g e h => blk_rev hk111 (fun h => ((ap118) g e) h) (ho99.lt g e) h
        refine gv_pureN 1 [3] [(3, (.slice a106 (List.length l104) c107))] (by kernel_rfl) ?_
        refine gv_nil ?_
        have e := sj h3; subst e
        refine gv_goal fun a hd hs hok => ?_
        have hB119 := bg hB114 hg109 hl10
        have hz120 := (nt hg95.size hg109.size)
        exact ⟨a106, c107, hB119, hz120, ho110, hl113, hd, hs, ok_pick [0, 3, 4] hok (by kernel_rfl)⟩
       ·replace h3 := ite_f hc83 h3
        refine gv_region <| gv_pureN 19 [16, 17, 18, 19, 20, 21, 22, 23, 24, 25, 26, 27, 28, 29, 30, 31, 32, 33, 34] [(16, (.slice a7 (List.length s3.1) c8)), (20, (.int .u8 (IntKind.u8.wrap ((IntKind.i64.wrap (240 + (IntKind.i64.wrap ((x12).tdiv 262144)))))))), (25, (.int .u8 (IntKind.u8.wrap ((IntKind.i64.wrap (128 + (((IntKind.i64.wrap ((x12).tdiv 4096))).tmod 64))))))), (30, (.int .u8 (IntKind.u8.wrap ((IntKind.i64.wrap (128 + (((IntKind.i64.wrap ((x12).tdiv 64))).tmod 64))))))), (34, (.int .u8 (IntKind.u8.wrap ((IntKind.i64.wrap (128 + ((x12).tmod 64)))))))] (by kernel_rfl) ?_
        refine bindE h3 ?_; clear h3; intro b121 hb122 h3
        have hu123 := u8_spec hb122
        refine bindE h3 ?_; clear h3; intro b124 hb125 h3
        have hu126 := u8_spec hb125
        refine bindE h3 ?_; clear h3; intro b127 hb128 h3
        have hu129 := u8_spec hb128
        refine bindE h3 ?_; clear h3; intro b130 hb131 h3
        have hu132 := u8_spec hb131
        refine gv_new0 (fun b => .slice (some ⟨b, 0, none⟩) 4 4) #[(.int .u8 (IntKind.u8.wrap ((IntKind.i64.wrap (240 + (IntKind.i64.wrap ((x12).tdiv 262144))))))), (.int .u8 (IntKind.u8.wrap ((IntKind.i64.wrap (128 + (((IntKind.i64.wrap ((x12).tdiv 4096))).tmod 64)))))), (.int .u8 (IntKind.u8.wrap ((IntKind.i64.wrap (128 + (((IntKind.i64.wrap ((x12).tdiv 64))).tmod 64)))))), (.int .u8 (IntKind.u8.wrap ((IntKind.i64.wrap (128 + ((x12).tmod 64))))))] 5 (by kernel_rfl) (by kernel_rfl) ?_
        intro b133 w134 hg135 hb136 hbe137 hz138
        have ho139 : Gv.Own bE 5 w134 (fun _ => False) (some ⟨b133, 0, none⟩) 4 ([b121, b124, b127, b130] : List UInt8) := Box.ownE hb136 ⟨[(.int .u8 (IntKind.u8.wrap ((IntKind.i64.wrap (240 + (IntKind.i64.wrap ((x12).tdiv 262144)))))))], [(.int .u8 (IntKind.u8.wrap ((IntKind.i64.wrap (128 + (((IntKind.i64.wrap ((x12).tdiv 4096))).tmod 64)))))), (.int .u8 (IntKind.u8.wrap ((IntKind.i64.wrap (128 + (((IntKind.i64.wrap ((x12).tdiv 64))).tmod 64)))))), (.int .u8 (IntKind.u8.wrap ((IntKind.i64.wrap (128 + ((x12).tmod 64))))))], rfl, (by simp only [bE, flat, hu123]), ⟨[(.int .u8 (IntKind.u8.wrap ((IntKind.i64.wrap (128 + (((IntKind.i64.wrap ((x12).tdiv 4096))).tmod 64))))))], [(.int .u8 (IntKind.u8.wrap ((IntKind.i64.wrap (128 + (((IntKind.i64.wrap ((x12).tdiv 64))).tmod 64)))))), (.int .u8 (IntKind.u8.wrap ((IntKind.i64.wrap (128 + ((x12).tmod 64))))))], rfl, (by simp only [bE, flat, hu126]), ⟨[(.int .u8 (IntKind.u8.wrap ((IntKind.i64.wrap (128 + (((IntKind.i64.wrap ((x12).tdiv 64))).tmod 64))))))], [(.int .u8 (IntKind.u8.wrap ((IntKind.i64.wrap (128 + ((x12).tmod 64))))))], rfl, (by simp only [bE, flat, hu129]), ⟨[(.int .u8 (IntKind.u8.wrap ((IntKind.i64.wrap (128 + ((x12).tmod 64))))))], [], rfl, (by simp only [bE, flat, hu132]), rfl⟩⟩⟩⟩ (show 4 ≤ maxLen by decide) (fun h => h)
        have hl140 : ∀ g, blk (some ⟨b133, 0, none⟩) = some g → w0.heap.size ≤ g := loo hbe137 hB5.size
        refine bindE h3 ?_; clear h3; intro l144 hx145 h3
        have hk152 := ho9.grown hg135 (fun _ h => h.elim) nb
        refine gv_append bE (t := 45) (ty := 45) (e := 5) (a := a7) (ax := (some ⟨b133, 0, none⟩)) (cap := c8) (cx := 4) (xs := s3.1) (ys := ([b121, b124, b127, b130] : List UInt8)) l144 (X := (fun _ => False)) (Y := (fun k => blk (some ⟨b133, 0, none⟩) = some k)) (by decide) rfl rfl (by kernel_rfl) (by kernel_rfl) Tryz.underlying45 info5 hk152 (ho139.rd (Y := fun k => blk (some ⟨b133, 0, none⟩) = some k) (fun _ h => h.elim) (fun g e => e)) hx145 (.inr fun _ _ _ _ _ h => h) (fun _ h => h.elim) ?_
        intro a146 c147 w148 hg149 ho150 hk151
        refine ⟨(fun e => by cases e), ?_⟩
        have hB154 := bg hB5 hg135 nb
        have hl153 : ∀ g, blk a146 = some g → w0.heap.size ≤ g := blk_step hk151 hl10 hB154.size
        have ap156 : ∀ g, blk a7 = some g → ¬ (fun k => blk (some ⟨b133, 0, none⟩) = some k) g := fun g e hx => nl ((lowo hbe137) _ hx) ((fun k (hk : blk a7 = some k) => ho9.lt k hk) g e)
        have ap155 : ∀ g, blk a146 = some g → ¬ (fun k => blk (some ⟨b133, 0, none⟩) = some k) g := blk_neX hk151 ap156 (fun k (hk : blk (some ⟨b133, 0, none⟩) = some k) => ho139.lt k hk)
        have ap158 : ∀ g, blk (some ⟨b133, 0, none⟩) = some g → ¬ (fun k => blk a7 = some k) g := fun g e hx => nl ((lowo hbe137) g e) ((fun k (hk : blk a7 = some k) => ho9.lt k hk) _ hx)
        have ap157 : ∀ g, blk (some ⟨b133, 0, none⟩) = some g → ¬ (fun k => blk a146 = some k) g := fun g e h => blk_rev hk151 (fun h => ((ap158) g e) h) (ho139.lt g e) h
        have hz159 := (nt hg135.size hg149.size)
        clear ap157 ap158 ap155 ap156 hk151 hk152 hx145 hl140 ho139 hz138 hbe137 hb136 hg135 hu132 hb131 hu129 hb128 hu126 hb125 hu123 hb122 hc83 hc48 hc16 hx13 hc11 ho9 hB5
        refine gv_pureN 1 [3] [(3, (.slice a146 (List.length l144) c147))] (by kernel_rfl) ?_
        refine gv_nil ?_
        have e := sj h3; subst e
        refine gv_goal fun a hd hs hok => ?_
        have hB160 := bg hB154 hg149 hl10
        have hz161 := hz159
        exact ⟨a146, c147, hB160, hz161, ho150, hl153, hd, hs, ok_pick [0, 3, 4] hok (by kernel_rfl)⟩
    ·rintro a w15 ⟨a164, c165, hB162, hz163, ho166, hl167, hd, hs, hok⟩
     refine gv_in ?_ hd hs hok
     clear hd hs hok
     have hz168 := (nt hz6 hz163)
     clear hz163 hx13 hc11 hl10 ho9 hz6 hB5
     refine gv_blk <| gv_blk <| gv_region <| gv_pureN 3 [4, 10, 11] [(4, (.int .i64 (IntKind.i64.wrap (s3.2 + 1))))] (by kernel_rfl) ?_
     refine gv_nil ?_
     have e := sj h2; subst e
     refine gv_goal fun a hd hs hok => ?_
     have hz169 := hz168
     exact ⟨(j14, (IntKind.i64.wrap (s3.2 + 1))), rfl, a164, c165, hB162, hz169, ho166, hl167, hd, hs, ok_pick [0, 3, 4] hok (by kernel_rfl)⟩
   ·replace h2 := ite_f hc11 h2
    refine gv_cexit <| gv_exit rfl ?_
    have e := sj h2; subst e
    replace h1 := congrArg some (hR2 _ rfl)
    have e := sj h1; subst e
    refine gv_goal fun a hd hs hok => ?_
    have hz170 := hz6
    exact ⟨a7, c8, hB5, hz170, ho9, hl10, hd, hs, ok_pick [3] hok (by kernel_rfl)⟩
 ·rintro a w2 ⟨a173, c174, hB171, hz172, ho175, hl176, hd, hs, hok⟩
  refine gv_in ?_ hd hs hok
  clear hd hs hok
  refine gv_seq <| gv_region <| gv_pureN 2 [2, 78] [(2, (.slice a173 (List.length j1) c174))] (by kernel_rfl) ?_
  refine gv_nil <| gv_cret ?_
  have e := sj h0; subst e
  refine gv_ret (gv_done [(.slice a173 (List.length j1) c174)] rfl ⟨(by kernel_rfl), trivial⟩ ?_)
  exact ⟨grown_of_below hB171, a173, c174, rfl, ho175, hl176⟩

theorem law4_text_ok (fuel : Nat) (s_0 : ByteArray) (f_1 : (Int × Int)) (want_2 : ByteArray) (w_3 : (Int × Int)) (w0 : World)  (r0 : Bool) (h0 : law4_text fuel s_0 f_1 want_2 w_3 = some r0) :
    Calls Tryz.prog 17 ([(.string s_0), (.agg #[(.int .i64 f_1.1), (.int .i64 f_1.2)]), (.string want_2), (.agg #[(.int .i64 w_3.1), (.int .i64 w_3.2)])] : List Value).toArray w0 (Ret fun v w' => w0.grownBy w' none ∧ v = tup [(.bool r0)]) := by
 have hB0 : Below w0.heap.size w0 w0 := Below.refl _ _
 unfold law4_text at h0
 refine calls_run Tryz.func17 rfl Tryz.ntmps17 (by kernel_rfl) ?_
 refine gv_sub [0, 1, 2, 3] (σ' := [(0, (.string s_0)), (1, (.agg #[(.int .i64 f_1.1), (.int .i64 f_1.2)])), (2, (.string want_2)), (3, (.agg #[(.int .i64 w_3.1), (.int .i64 w_3.2)]))]) (by kernel_rfl) ?_
 refine gv_seq <| gv_region <| gv_new0 (fun b => .pointer (some ⟨b, 0, none⟩)) #[(.int .i64 f_1.1), (.int .i64 f_1.2)] 29 (by kernel_rfl) (by kernel_rfl) ?_
 intro b1 w2 hg3 hb4 hbe5 hz6
 refine gv_new0 (fun b => .pointer (some ⟨b, 0, none⟩)) #[(.int .i64 w_3.1), (.int .i64 w_3.2)] 29 (by kernel_rfl) (by kernel_rfl) ?_
 intro b7 w8 hg9 hb10 hbe11 hz12
 refine gv_pureN 1 [8] [] (by kernel_rfl) ?_
 refine gv_nil <| gv_seq <| gv_seq <| gv_region <| bindE h0 ?_; clear h0; intro j13 h1 h0
 refine gv_cut_ops (J := fun a w14 => Below w0.heap.size w0 w14 ∧ w8.heap.size ≤ w14.heap.size ∧ Box w14 b1 29 #[(.int .i64 f_1.1), (.int .i64 f_1.2)] ∧ Box w14 b7 29 #[(.int .i64 w_3.1), (.int .i64 w_3.2)] ∧ a.defers = [] ∧ a.tmps.size = 36 ∧ Ok [(0, (.string s_0)), (2, (.string want_2)), (5, (bp b1)), (7, (bp b7)), (16, (.bool j13))] a.tmps) ?_ ?_
 ·skip
  refine gv_pureN 1 [9] [(9, (bp b7))] (by kernel_rfl) ?_
  refine gv_load (t := 3) (A := ⟨b7, 0, none⟩) (.int .i64 w_3.1) [] (fun e => by cases e) rfl rfl rfl (by kernel_rfl) (by kernel_rfl) (by kernel_rfl) (inw0 (hb10.cell 0 rfl)) rfl ?_
  refine gv_pureN 2 [11, 12] [(12, (.bool (w_3.1 == 0)))] (by kernel_rfl) ?_
  refine gv_split (s := 12) (g := (w_3.1 == 0)) (by kernel_rfl) (fun hc15 => ?_) (fun hc15 => ?_)
  ·skip
   replace h1 := ite_t hc15 h1
   refine gv_pureN 4 [13, 14, 15, 16] [(16, (.bool (decide (((ByteArray.size want_2 : Nat) : Int) > 4000))))] (by kernel_rfl) ?_
   refine gv_nil ?_
   have e := sj h1; subst e
   refine gv_goal fun a hd hs hok => ?_
   have hg16 := (grown_trans hg3 hg9)
   have hB17 := bg hB0 hg16 nb
   have hk18 := hb4.grown hg9 nb
   exact ⟨hB17, (Nat.le_refl _), hk18, hb10, hd, hs, ok_pick [0, 2, 5, 7, 16] hok (by kernel_rfl)⟩
  ·skip
   replace h1 := ite_f hc15 h1
   refine gv_pureN 4 [13, 14, 15, 16] [(16, (.bool false))] (by kernel_rfl) ?_
   refine gv_nil ?_
   have e := sj h1; subst e
   refine gv_goal fun a hd hs hok => ?_
   have hg19 := (grown_trans hg3 hg9)
   have hB20 := bg hB0 hg19 nb
   have hk21 := hb4.grown hg9 nb
   exact ⟨hB20, (Nat.le_refl _), hk21, hb10, hd, hs, ok_pick [0, 2, 5, 7, 16] hok (by kernel_rfl)⟩
 ·rintro a w14 ⟨hB22, hz23, hb24, hb25, hd, hs, hok⟩
  refine gv_in ?_ hd hs hok
  clear hd hs hok
  clear hz23 hz12 hb10 hg9 hz6
  refine bindE h0 ?_; clear h0; intro j26 h1 h0
  refine gv_cut_code (J := fun a w27 => Below w0.heap.size w0 w27 ∧ w14.heap.size ≤ w27.heap.size ∧ Box w27 b1 29 #[(.int .i64 f_1.1), (.int .i64 f_1.2)] ∧ Box w27 b7 29 #[(.int .i64 j26.1), (.int .i64 j26.2)] ∧ a.defers = [] ∧ a.tmps.size = 36 ∧ Ok [(0, (.string s_0)), (2, (.string want_2)), (5, (bp b1)), (7, (bp b7))] a.tmps) ?_ ?_
  ·skip
   refine gv_cond (b := j13) (by kernel_rfl) (fun hc28 => ?_) (fun hc28 => ?_)
   ·replace h1 := ite_t hc28 h1
    refine gv_region <| bindE h1 ?_; clear h1; intro r29 hr30 h1
    refine gv_call0 (by kernel_rfl) rfl (by kernel_rfl) enters15 (ref4_At_ok fuel 3 (-1) w14  r29 hr30) ?_
    rintro v33 w31 ⟨hg32, rfl⟩
    have hk38 := hb25.grown hg32 nb
    refine gv_store0 29 0 (.agg #[(.int .i64 r29.1), (.int .i64 r29.2)]) #[(.int .i64 r29.1), (.int .i64 r29.2)] hk38 (by kernel_rfl) (by kernel_rfl) (by kernel_rfl) ?_
    intro w34 hg35 hb36 hz37
    refine gv_nil ?_
    have e := sj h1; subst e
    refine gv_goal fun a hd hs hok => ?_
    have hB39 := bg hB22 hg32 nb
    have hB40 := bg hB0 hg3 nb
    have hlo41 : w0.heap.size ≤ b7 := lob hbe11 hB40.size
    have hB42 := bg hB39 hg35 (rowlo hlo41)
    have hz43 := (nt hg32.size hg35.size)
    have lt44 := ltl ((ltb hb4) _ rfl) ((lowb hbe11) _ rfl)
    have hk45 := (hb24.grown hg32 nb).grown hg35 (rowne (ng lt44))
    exact ⟨hB42, hz43, hk45, hb36, hd, hs, ok_pick [0, 2, 5, 7] hok (by kernel_rfl)⟩
   ·replace h1 := ite_f hc28 h1
    refine gv_skip ?_
    have e := sj h1; subst e
    refine gv_goal fun a hd hs hok => ?_
    exact ⟨hB22, (Nat.le_refl _), hb24, hb25, hd, hs, ok_pick [0, 2, 5, 7] hok (by kernel_rfl)⟩
  ·rintro a w27 ⟨hB46, hz47, hb48, hb49, hd, hs, hok⟩
   refine gv_in ?_ hd hs hok
   clear hd hs hok
   clear hz47 hb25 hb24 hB22
   refine gv_seq <| gv_seq <| gv_region <| gv_pureN 1 [18] [(18, (bp b7))] (by kernel_rfl) ?_
   refine gv_load (t := 3) (A := ⟨b7, 0, none⟩) (.int .i64 j26.1) [] (fun e => by cases e) rfl rfl rfl (by kernel_rfl) (by kernel_rfl) (by kernel_rfl) (inw0 (hb49.cell 0 rfl)) rfl ?_
   refine gv_pureN 1 [20] [(20, (.bool (j26.1 != 0)))] (by kernel_rfl) ?_
   refine gv_nil <| gv_cond (b := (j26.1 != 0)) (by kernel_rfl) (fun hc50 => ?_) (fun hc50 => ?_)
   ·replace h0 := ite_t hc50 h0
    refine gv_seq <| gv_region <| bindE h0 ?_; clear h0; intro j51 h1 h0
    refine gv_cut_ops (J := fun a w52 => Below w0.heap.size w0 w52 ∧ w27.heap.size ≤ w52.heap.size ∧ a.defers = [] ∧ a.tmps.size = 36 ∧ Ok [(8, (.bool j51))] a.tmps) ?_ ?_
    ·skip
     refine gv_loadBox (t := 29) (b := b1) (t' := 29) (fr := (0, 0)) #[(.int .i64 f_1.1), (.int .i64 f_1.2)] [] (fun e => by cases e) rfl rfl rfl (by kernel_rfl) (by kernel_rfl) (by kernel_rfl) (by kernel_rfl) (inw0 hb48) rfl ?_
     refine gv_loadBox (t := 29) (b := b7) (t' := 29) (fr := (0, 0)) #[(.int .i64 j26.1), (.int .i64 j26.2)] [] (fun e => by cases e) rfl rfl rfl (by kernel_rfl) (by kernel_rfl) (by kernel_rfl) (by kernel_rfl) (inw0 hb49) rfl ?_
     refine gv_eqs (t := 29) (op := .eql) (x := (.tmp 21)) (y := (.tmp 22)) (xs := #[(.int .i64 f_1.1), (.int .i64 f_1.2)]) (ys := #[(.int .i64 j26.1), (.int .i64 j26.2)]) ((f_1.1 == j26.1) && (f_1.2 == j26.2)) [] (fun e => by cases e) rfl rfl rfl (by kernel_rfl) (by kernel_rfl) (fun w' => eqs29eql f_1.1 f_1.2 j26.1 j26.2 _ _ w') rfl ?_
     refine gv_pureN 1 [24] [(24, (.bool ((f_1.1 == j26.1) && (f_1.2 == j26.2))))] (by kernel_rfl) ?_
     refine gv_split (s := 24) (g := ((f_1.1 == j26.1) && (f_1.2 == j26.2))) (by kernel_rfl) (fun hc53 => ?_) (fun hc53 => ?_)
     ·skip
      replace h1 := ite_t hc53 h1
      refine gv_pureN 4 [8, 25, 26, 27] [(8, (.bool (s_0.toList == (strOf []).toList)))] (by kernel_rfl) ?_
      refine gv_nil ?_
      have e := sj h1; subst e
      refine gv_goal fun a hd hs hok => ?_
      exact ⟨hB46, (Nat.le_refl _), hd, hs, ok_pick [8] hok (by kernel_rfl)⟩
     ·skip
      replace h1 := ite_f hc53 h1
      refine gv_pureN 4 [8, 25, 26, 27] [(8, (.bool false))] (by kernel_rfl) ?_
      refine gv_nil ?_
      have e := sj h1; subst e
      refine gv_goal fun a hd hs hok => ?_
      exact ⟨hB46, (Nat.le_refl _), hd, hs, ok_pick [8] hok (by kernel_rfl)⟩
    ·rintro a w52 ⟨hB54, hz55, hd, hs, hok⟩
     refine gv_in ?_ hd hs hok
     clear hd hs hok
     clear hz55 hc50 hb49 hb48 hB46 hbe11 hbe5 hb4 hg3
     refine gv_cret ?_
     have e := sj h0; subst e
     refine gv_ret (gv_done [(.bool j51)] rfl ⟨(by kernel_rfl), trivial⟩ ?_)
     exact ⟨grown_of_below hB54, rfl⟩
   ·replace h0 := ite_f hc50 h0
    refine gv_skip <| gv_seq <| gv_region <| bindE h0 ?_; clear h0; intro j56 h1 h0
    refine gv_cut_ops (J := fun a w57 => Below w0.heap.size w0 w57 ∧ w27.heap.size ≤ w57.heap.size ∧ a.defers = [] ∧ a.tmps.size = 36 ∧ Ok [(8, (.bool j56))] a.tmps) ?_ ?_
    ·skip
     refine gv_loadBox (t := 29) (b := b1) (t' := 29) (fr := (0, 0)) #[(.int .i64 f_1.1), (.int .i64 f_1.2)] [] (fun e => by cases e) rfl rfl rfl (by kernel_rfl) (by kernel_rfl) (by kernel_rfl) (by kernel_rfl) (inw0 hb48) rfl ?_
     refine gv_loadBox (t := 29) (b := b7) (t' := 29) (fr := (0, 0)) #[(.int .i64 j26.1), (.int .i64 j26.2)] [] (fun e => by cases e) rfl rfl rfl (by kernel_rfl) (by kernel_rfl) (by kernel_rfl) (by kernel_rfl) (inw0 hb49) rfl ?_
     refine gv_eqs (t := 29) (op := .eql) (x := (.tmp 28)) (y := (.tmp 29)) (xs := #[(.int .i64 f_1.1), (.int .i64 f_1.2)]) (ys := #[(.int .i64 j26.1), (.int .i64 j26.2)]) ((f_1.1 == j26.1) && (f_1.2 == j26.2)) [] (fun e => by cases e) rfl rfl rfl (by kernel_rfl) (by kernel_rfl) (fun w' => eqs29eql f_1.1 f_1.2 j26.1 j26.2 _ _ w') rfl ?_
     refine gv_pureN 1 [31] [(31, (.bool ((f_1.1 == j26.1) && (f_1.2 == j26.2))))] (by kernel_rfl) ?_
     refine gv_split (s := 31) (g := ((f_1.1 == j26.1) && (f_1.2 == j26.2))) (by kernel_rfl) (fun hc58 => ?_) (fun hc58 => ?_)
     ·skip
      replace h1 := ite_t hc58 h1
      refine gv_pureN 5 [8, 32, 33, 34, 35] [(8, (.bool (s_0.toList == want_2.toList)))] (by kernel_rfl) ?_
      refine gv_nil ?_
      have e := sj h1; subst e
      refine gv_goal fun a hd hs hok => ?_
      exact ⟨hB46, (Nat.le_refl _), hd, hs, ok_pick [8] hok (by kernel_rfl)⟩
     ·skip
      replace h1 := ite_f hc58 h1
      refine gv_pureN 5 [8, 32, 33, 34, 35] [(8, (.bool false))] (by kernel_rfl) ?_
      refine gv_nil ?_
      have e := sj h1; subst e
      refine gv_goal fun a hd hs hok => ?_
      exact ⟨hB46, (Nat.le_refl _), hd, hs, ok_pick [8] hok (by kernel_rfl)⟩
    ·rintro a w57 ⟨hB59, hz60, hd, hs, hok⟩
     refine gv_in ?_ hd hs hok
     clear hd hs hok
     clear hz60 hc50 hb49 hb48 hB46 hbe11 hbe5 hb4 hg3
     refine gv_cret ?_
     have e := sj h0; subst e
     refine gv_ret (gv_done [(.bool j56)] rfl ⟨(by kernel_rfl), trivial⟩ ?_)
     exact ⟨grown_of_below hB59, rfl⟩

theorem ref4_String_ok (fuel : Nat) (pa0_0 : Option Addr) (pc0_0 : Nat) (l_0 : (List Int)) (w0 : World) (X0 : Nat → Prop) (hX0 : ∀ k, X0 k → k < w0.heap.size) (hpa0_0 : Rd (iE .i64) w0 X0 pa0_0 pc0_0 l_0) (r0 : ByteArray) (h0 : ref4_String fuel l_0 = some r0) :
    Calls Tryz.prog 18 ([(.slice pa0_0 (List.length l_0) pc0_0)] : List Value).toArray w0 (Ret fun v w' => w0.grownBy w' none ∧ v = tup [(.string r0)]) := by
 have hB0 : Below w0.heap.size w0 w0 := Below.refl _ _
 unfold ref4_String at h0
 refine calls_run Tryz.func18 rfl Tryz.ntmps18 (by kernel_rfl) ?_
 refine gv_sub [0] (σ' := [(0, (.slice pa0_0 (List.length l_0) pc0_0))]) (by kernel_rfl) ?_
 refine gv_seq <| gv_region <| gv_pureN 1 [2] [] (by kernel_rfl) ?_
 refine gv_nil <| gv_seq <| gv_region <| gv_pureN 1 [3] [(3, (.slice pa0_0 (List.length l_0) pc0_0))] (by kernel_rfl) ?_
 refine bindE h0 ?_; clear h0; intro r1 hr2 h0
 refine gv_call0 (by kernel_rfl) rfl (by kernel_rfl) enters16 (ref4_Encoded_ok fuel pa0_0 pc0_0 l_0 w0 (fun k => X0 k) (fun k hk => (fun k (hk : X0 k) => ltl (hX0 k hk) hB0.size) k hk) ((hpa0_0.below hB0 hX0).wide (fun k hk => hk)) r1 hr2) ?_
 rintro v5 w3 ⟨hg4, a6, c7, rfl, ho8, hl9⟩
 have hl10 : ∀ g, blk a6 = some g → w0.heap.size ≤ g := fun g e => Nat.le_trans hB0.size (hl9 g e)
 refine gv_b2s (src := 45) (dst := 9) (e := 5) (xs := r1) (a := a6) (cap := c7) (X := (fun k => blk a6 = some k)) [] (fun e => by cases e) rfl rfl rfl (by kernel_rfl) (by kernel_rfl) Tryz.underlying45 Tryz.underlying5 Tryz.underlying9 (inw0 (ho8.rd (Y := fun k => blk a6 = some k) (fun _ h => h.elim) (fun g e => e))) rfl ?_
 refine gv_pureN 1 [2] [(2, (.string (strOf r1)))] (by kernel_rfl) ?_
 refine gv_nil <| gv_cret ?_
 have e := sj h0; subst e
 refine gv_ret (gv_done [(.string (strOf r1))] rfl ⟨(by kernel_rfl), trivial⟩ ?_)
 have hB11 := bg hB0 hg4 nb
 exact ⟨grown_of_below hB11, rfl⟩

theorem ref3_IntOk_ok (fuel : Nat) (pa0_0 : Option Addr) (pc0_0 : Nat) (a_0 : (Bool × (List Int))) (w0 : World) (X0 : Nat → Prop) (hX0 : ∀ k, X0 k → k < w0.heap.size) (hpa0_0 : Rd (iE .u32) w0 X0 pa0_0 pc0_0 a_0.2) (r0 : Bool) (h0 : ref3_IntOk fuel a_0 = some r0) :
    Calls Tryz.prog 33 ([(.agg #[(.bool a_0.1), (.slice pa0_0 (List.length a_0.2) pc0_0)])] : List Value).toArray w0 (Ret fun v w' => w0.grownBy w' none ∧ v = tup [(.bool r0)]) := by
 have hB0 : Below w0.heap.size w0 w0 := Below.refl _ _
 unfold ref3_IntOk at h0
 refine calls_run Tryz.func33 rfl Tryz.ntmps33 (by kernel_rfl) ?_
 refine gv_sub [0] (σ' := [(0, (.agg #[(.bool a_0.1), (.slice pa0_0 (List.length a_0.2) pc0_0)]))]) (by kernel_rfl) ?_
 refine gv_seq <| gv_region <| gv_new0 (fun b => .pointer (some ⟨b, 0, none⟩)) #[(.bool a_0.1), (.slice pa0_0 (List.length a_0.2) pc0_0)] 25 (by kernel_rfl) (by kernel_rfl) ?_
 intro b1 w2 hg3 hb4 hbe5 hz6
 refine gv_pureN 1 [2] [] (by kernel_rfl) ?_
 refine gv_nil <| gv_seq <| gv_region <| gv_pureN 1 [4] [(4, (.pointer (some ⟨b1, 1, none⟩)))] (by kernel_rfl) ?_
 refine gv_load (t := 23) (A := ⟨b1, 1, none⟩) (.slice pa0_0 (List.length a_0.2) pc0_0) [] (fun e => by cases e) rfl rfl rfl (by kernel_rfl) (by kernel_rfl) (by kernel_rfl) (inw0 (hb4.cell 1 rfl)) rfl ?_
 refine gv_pureN 2 [3, 6] [(3, (.int .i64 ((List.length a_0.2 : Nat) : Int)))] (by kernel_rfl) ?_
 refine gv_nil <| gv_seq <| gv_region <| bindE h0 ?_; clear h0; intro j7 h1 h0
 refine gv_cut_ops (J := fun a w8 => Below w0.heap.size w0 w8 ∧ w2.heap.size ≤ w8.heap.size ∧ a.defers = [] ∧ a.tmps.size = 31 ∧ Ok [(2, (.bool j7))] a.tmps) ?_ ?_
 ·skip
  refine gv_pureN 3 [7, 8, 9] [(9, (.bool (decide (((List.length a_0.2 : Nat) : Int) ≤ 128))))] (by kernel_rfl) ?_
  refine gv_split (s := 9) (g := (decide (((List.length a_0.2 : Nat) : Int) ≤ 128))) (by kernel_rfl) (fun hc9 => ?_) (fun hc9 => ?_)
  ·skip
   replace h1 := ite_t hc9 h1
   refine gv_pureN 3 [10, 11, 12] [(12, (.bool (((List.length a_0.2 : Nat) : Int) == 0)))] (by kernel_rfl) ?_
   refine gv_split (s := 12) (g := (((List.length a_0.2 : Nat) : Int) == 0)) (by kernel_rfl) (fun hc10 => ?_) (fun hc10 => ?_)
   ·skip
    replace h1 := ite_t hc10 h1
    refine gv_pureN 1 [13] [(13, (bp b1))] (by kernel_rfl) ?_
    refine gv_load (t := 4) (A := ⟨b1, 0, none⟩) (.bool a_0.1) [] (fun e => by cases e) rfl rfl rfl (by kernel_rfl) (by kernel_rfl) (by kernel_rfl) (inw0 (hb4.cell 0 rfl)) rfl ?_
    refine gv_pureN 3 [15, 16, 17] [(17, (.bool (!a_0.1)))] (by kernel_rfl) ?_
    refine gv_split (s := 17) (g := (!a_0.1)) (by kernel_rfl) (fun hc11 => ?_) (fun hc11 => ?_)
    ·skip
     replace h1 := ite_t hc11 h1
     refine gv_pureN 14 [2, 18, 19, 20, 21, 22, 23, 24, 25, 26, 27, 28, 29, 30] [(2, (.bool true))] (by kernel_rfl) ?_
     refine gv_nil ?_
     have e := sj h1; subst e
     refine gv_goal fun a hd hs hok => ?_
     have hB12 := bg hB0 hg3 nb
     exact ⟨hB12, (Nat.le_refl _), hd, hs, ok_pick [2] hok (by kernel_rfl)⟩
    ·skip
     replace h1 := ite_f hc11 h1
     refine gv_pureN 3 [18, 19, 20] [(20, (.bool (decide (((List.length a_0.2 : Nat) : Int) > 0))))] (by kernel_rfl) ?_
     refine gv_split (s := 20) (g := (decide (((List.length a_0.2 : Nat) : Int) > 0))) (by kernel_rfl) (fun hc13 => ?_) (fun hc13 => ?_)
     ·skip
      replace h1 := ite_t hc13 h1
      refine gv_pureN 1 [21] [(21, (.pointer (some ⟨b1, 1, none⟩)))] (by kernel_rfl) ?_
      refine gv_load (t := 23) (A := ⟨b1, 1, none⟩) (.slice pa0_0 (List.length a_0.2) pc0_0) [] (fun e => by cases e) rfl rfl rfl (by kernel_rfl) (by kernel_rfl) (by kernel_rfl) (inw0 (hb4.cell 1 rfl)) rfl ?_
      refine gv_pureN 2 [23, 24] [(24, (.int .i64 (IntKind.i64.wrap (((List.length a_0.2 : Nat) : Int) - 1))))] (by kernel_rfl) ?_
      refine gv_sub [9, 17, 20, 22, 24] (σ' := [(9, (.bool true)), (17, (.bool false)), (20, (.bool true)), (22, (.slice pa0_0 (List.length a_0.2) pc0_0)), (24, (.int .i64 (IntKind.i64.wrap (((List.length a_0.2 : Nat) : Int) - 1))))]) (by kernel_rfl) ?_
      refine bindE h1 ?_; clear h1; intro x14 hx15 h1
      have hB16 := bg hB0 hg3 nb
      refine gv_idxaddr (t := 23) (e := 76) (a := pa0_0) (len := List.length a_0.2) (cap := pc0_0) (kk := .i64) (i := (IntKind.i64.wrap (((List.length a_0.2 : Nat) : Int) - 1))) (sz := 1) [] (fun e => by cases e) rfl rfl rfl (by kernel_rfl) (by kernel_rfl) Tryz.underlying23 (by kernel_rfl) ((hpa0_0.below hB16 hX0).has hx15) (idx_spec hx15).1 (idx_spec hx15).2.1 rfl ?_
      refine gv_load (t := 76) (A := (elemAddr pa0_0 (((IntKind.i64.wrap (((List.length a_0.2 : Nat) : Int) - 1)) : Int).toNat * 1))) (.int .u32 x14) [] (fun e => by cases e) rfl rfl rfl (by kernel_rfl) (by kernel_rfl) (by kernel_rfl) (inw0 ((hpa0_0.below hB16 hX0).cell hx15)) rfl ?_
      refine gv_pureN 5 [2, 27, 28, 29, 30] [(2, (.bool (x14 != 0)))] (by kernel_rfl) ?_
      refine gv_nil ?_
      have e := sj h1; subst e
      refine gv_goal fun a hd hs hok => ?_
      exact ⟨hB16, (Nat.le_refl _), hd, hs, ok_pick [2] hok (by kernel_rfl)⟩
     ·skip
      replace h1 := ite_f hc13 h1
      refine gv_pureN 11 [2, 21, 22, 23, 24, 25, 26, 27, 28, 29, 30] [(2, (.bool false))] (by kernel_rfl) ?_
      refine gv_nil ?_
      have e := sj h1; subst e
      refine gv_goal fun a hd hs hok => ?_
      have hB17 := bg hB0 hg3 nb
      exact ⟨hB17, (Nat.le_refl _), hd, hs, ok_pick [2] hok (by kernel_rfl)⟩
   ·skip
    replace h1 := ite_f hc10 h1
    refine gv_pureN 8 [13, 14, 15, 16, 17, 18, 19, 20] [(17, (.bool false)), (20, (.bool (decide (((List.length a_0.2 : Nat) : Int) > 0))))] (by kernel_rfl) ?_
    refine gv_split (s := 20) (g := (decide (((List.length a_0.2 : Nat) : Int) > 0))) (by kernel_rfl) (fun hc18 => ?_) (fun hc18 => ?_)
    ·skip
     replace h1 := ite_t hc18 h1
     refine gv_pureN 1 [21] [(21, (.pointer (some ⟨b1, 1, none⟩)))] (by kernel_rfl) ?_
     refine gv_load (t := 23) (A := ⟨b1, 1, none⟩) (.slice pa0_0 (List.length a_0.2) pc0_0) [] (fun e => by cases e) rfl rfl rfl (by kernel_rfl) (by kernel_rfl) (by kernel_rfl) (inw0 (hb4.cell 1 rfl)) rfl ?_
     refine gv_pureN 2 [23, 24] [(24, (.int .i64 (IntKind.i64.wrap (((List.length a_0.2 : Nat) : Int) - 1))))] (by kernel_rfl) ?_
     refine bindE h1 ?_; clear h1; intro x19 hx20 h1
     have hB21 := bg hB0 hg3 nb
     refine gv_idxaddr (t := 23) (e := 76) (a := pa0_0) (len := List.length a_0.2) (cap := pc0_0) (kk := .i64) (i := (IntKind.i64.wrap (((List.length a_0.2 : Nat) : Int) - 1))) (sz := 1) [] (fun e => by cases e) rfl rfl rfl (by kernel_rfl) (by kernel_rfl) Tryz.underlying23 (by kernel_rfl) ((hpa0_0.below hB21 hX0).has hx20) (idx_spec hx20).1 (idx_spec hx20).2.1 rfl ?_
     refine gv_load (t := 76) (A := (elemAddr pa0_0 (((IntKind.i64.wrap (((List.length a_0.2 : Nat) : Int) - 1)) : Int).toNat * 1))) (.int .u32 x19) [] (fun e => by cases e) rfl rfl rfl (by kernel_rfl) (by kernel_rfl) (by kernel_rfl) (inw0 ((hpa0_0.below hB21 hX0).cell hx20)) rfl ?_
     refine gv_pureN 5 [2, 27, 28, 29, 30] [(2, (.bool (x19 != 0)))] (by kernel_rfl) ?_
     refine gv_sub [2] (σ' := [(2, (.bool (x19 != 0)))]) (by kernel_rfl) ?_
     refine gv_nil ?_
     have e := sj h1; subst e
     refine gv_goal fun a hd hs hok => ?_
     exact ⟨hB21, (Nat.le_refl _), hd, hs, ok_pick [2] hok (by kernel_rfl)⟩
    ·skip
     replace h1 := ite_f hc18 h1
     refine gv_pureN 11 [2, 21, 22, 23, 24, 25, 26, 27, 28, 29, 30] [(2, (.bool false))] (by kernel_rfl) ?_
     refine gv_nil ?_
     have e := sj h1; subst e
     refine gv_goal fun a hd hs hok => ?_
     have hB22 := bg hB0 hg3 nb
     exact ⟨hB22, (Nat.le_refl _), hd, hs, ok_pick [2] hok (by kernel_rfl)⟩
  ·skip
   replace h1 := ite_f hc9 h1
   refine gv_pureN 22 [2, 10, 11, 12, 13, 14, 15, 16, 17, 18, 19, 20, 21, 22, 23, 24, 25, 26, 27, 28, 29, 30] [(2, (.bool false))] (by kernel_rfl) ?_
   refine gv_nil ?_
   have e := sj h1; subst e
   refine gv_goal fun a hd hs hok => ?_
   have hB23 := bg hB0 hg3 nb
   exact ⟨hB23, (Nat.le_refl _), hd, hs, ok_pick [2] hok (by kernel_rfl)⟩
 ·rintro a w8 ⟨hB24, hz25, hd, hs, hok⟩
  refine gv_in ?_ hd hs hok
  clear hd hs hok
  clear hz25 hz6 hbe5 hb4 hg3
  refine gv_cret ?_
  have e := sj h0; subst e
  refine gv_ret (gv_done [(.bool j7)] rfl ⟨(by kernel_rfl), trivial⟩ ?_)
  exact ⟨grown_of_below hB24, rfl⟩

theorem ref3_NoInt_ok (fuel : Nat) (pa0_0 : Option Addr) (pc0_0 : Nat) (a_0 : (Bool × (List Int))) (w0 : World) (X0 : Nat → Prop) (hX0 : ∀ k, X0 k → k < w0.heap.size) (hpa0_0 : Rd (iE .u32) w0 X0 pa0_0 pc0_0 a_0.2) (r0 : Bool) (h0 : ref3_NoInt fuel a_0 = some r0) :
    Calls Tryz.prog 34 ([(.agg #[(.bool a_0.1), (.slice pa0_0 (List.length a_0.2) pc0_0)])] : List Value).toArray w0 (Ret fun v w' => w0.grownBy w' none ∧ v = tup [(.bool r0)]) := by
 have hB0 : Below w0.heap.size w0 w0 := Below.refl _ _
 unfold ref3_NoInt at h0
 refine calls_run Tryz.func34 rfl Tryz.ntmps34 (by kernel_rfl) ?_
 refine gv_sub [0] (σ' := [(0, (.agg #[(.bool a_0.1), (.slice pa0_0 (List.length a_0.2) pc0_0)]))]) (by kernel_rfl) ?_
 refine gv_seq <| gv_region <| gv_new0 (fun b => .pointer (some ⟨b, 0, none⟩)) #[(.bool a_0.1), (.slice pa0_0 (List.length a_0.2) pc0_0)] 25 (by kernel_rfl) (by kernel_rfl) ?_
 intro b1 w2 hg3 hb4 hbe5 hz6
 refine gv_pureN 1 [2] [] (by kernel_rfl) ?_
 refine gv_nil <| gv_seq <| gv_region <| bindE h0 ?_; clear h0; intro j7 h1 h0
 refine gv_cut_ops (J := fun a w8 => Below w0.heap.size w0 w8 ∧ w2.heap.size ≤ w8.heap.size ∧ a.defers = [] ∧ a.tmps.size = 12 ∧ Ok [(2, (.bool j7))] a.tmps) ?_ ?_
 ·skip
  refine gv_pureN 1 [3] [(3, (bp b1))] (by kernel_rfl) ?_
  refine gv_load (t := 4) (A := ⟨b1, 0, none⟩) (.bool a_0.1) [] (fun e => by cases e) rfl rfl rfl (by kernel_rfl) (by kernel_rfl) (by kernel_rfl) (inw0 (hb4.cell 0 rfl)) rfl ?_
  refine gv_pureN 2 [5, 6] [(6, (.bool (!a_0.1)))] (by kernel_rfl) ?_
  refine gv_split (s := 6) (g := (!a_0.1)) (by kernel_rfl) (fun hc9 => ?_) (fun hc9 => ?_)
  ·skip
   replace h1 := ite_t hc9 h1
   refine gv_pureN 1 [7] [(7, (.pointer (some ⟨b1, 1, none⟩)))] (by kernel_rfl) ?_
   refine gv_load (t := 23) (A := ⟨b1, 1, none⟩) (.slice pa0_0 (List.length a_0.2) pc0_0) [] (fun e => by cases e) rfl rfl rfl (by kernel_rfl) (by kernel_rfl) (by kernel_rfl) (inw0 (hb4.cell 1 rfl)) rfl ?_
   refine gv_pureN 4 [2, 9, 10, 11] [(2, (.bool (((List.length a_0.2 : Nat) : Int) == 0)))] (by kernel_rfl) ?_
   refine gv_nil ?_
   have e := sj h1; subst e
   refine gv_goal fun a hd hs hok => ?_
   have hB10 := bg hB0 hg3 nb
   exact ⟨hB10, (Nat.le_refl _), hd, hs, ok_pick [2] hok (by kernel_rfl)⟩
  ·skip
   replace h1 := ite_f hc9 h1
   refine gv_pureN 6 [2, 7, 8, 9, 10, 11] [(2, (.bool false))] (by kernel_rfl) ?_
   refine gv_nil ?_
   have e := sj h1; subst e
   refine gv_goal fun a hd hs hok => ?_
   have hB11 := bg hB0 hg3 nb
   exact ⟨hB11, (Nat.le_refl _), hd, hs, ok_pick [2] hok (by kernel_rfl)⟩
 ·rintro a w8 ⟨hB12, hz13, hd, hs, hok⟩
  refine gv_in ?_ hd hs hok
  clear hd hs hok
  clear hz13 hz6 hbe5 hb4 hg3
  refine gv_cret ?_
  have e := sj h0; subst e
  refine gv_ret (gv_done [(.bool j7)] rfl ⟨(by kernel_rfl), trivial⟩ ?_)
  exact ⟨grown_of_below hB12, rfl⟩

theorem ref3_At_ok (fuel : Nat) (code_0 : Int) (index_1 : Int) (w0 : World)  (r0 : (Int × Int)) (h0 : ref3_At fuel code_0 index_1 = some r0) :
    Calls Tryz.prog 35 ([(.int .i64 code_0), (.int .i64 index_1)] : List Value).toArray w0 (Ret fun v w' => w0.grownBy w' none ∧ v = tup [(.agg #[(.int .i64 r0.1), (.int .i64 r0.2)])]) := by
 have hB0 : Below w0.heap.size w0 w0 := Below.refl _ _
 unfold ref3_At at h0
 refine calls_run Tryz.func35 rfl Tryz.ntmps35 (by kernel_rfl) ?_
 refine gv_sub [0, 1] (σ' := [(0, (.int .i64 code_0)), (1, (.int .i64 index_1))]) (by kernel_rfl) ?_
 refine gv_seq <| gv_region <| gv_new0 (fun b => .pointer (some ⟨b, 0, none⟩)) #[(.int .i64 0), (.int .i64 0)] 29 (by kernel_rfl) (by kernel_rfl) ?_
 intro b1 w2 hg3 hb4 hbe5 hz6
 refine gv_nil <| gv_seq <| gv_region <| gv_pureN 3 [5, 6, 7] [(7, (.agg #[(.int .i64 code_0), (.int .i64 index_1)]))] (by kernel_rfl) ?_
 refine gv_store0 29 0 (.agg #[(.int .i64 code_0), (.int .i64 index_1)]) #[(.int .i64 code_0), (.int .i64 index_1)] hb4 (by kernel_rfl) (by kernel_rfl) (by kernel_rfl) ?_
 intro w7 hg8 hb9 hz10
 refine gv_nil <| gv_cret ?_
 have e := sj h0; subst e
 refine gv_ret (gv_done [(.agg #[(.int .i64 code_0), (.int .i64 index_1)])] rfl ⟨⟨⟨b1, 0, none⟩, (by kernel_rfl), run_loadVar_row w7 b1 _ 29 _ _ _ hb9 Tryz.underlying29 rfl (by kernel_rfl)⟩, trivial⟩ ?_)
 have hB11 := bg hB0 hg3 nb
 have hlo12 : w0.heap.size ≤ b1 := lob hbe5 hB0.size
 have hB13 := bg hB11 hg8 (rowlo hlo12)
 exact ⟨grown_of_below hB13, rfl⟩

theorem ref3_SliceFault_ok (fuel : Nat) (pa0_0 : Option Addr) (pc0_0 : Nat) (pa0_1 : Option Addr) (pc0_1 : Nat) (pa0_2 : Option Addr) (pc0_2 : Nat) (s_0 : ((Bool × (List Int)) × (Bool × (List Int)) × (Bool × (List Int)) × Bool × Bool × Bool)) (w0 : World) (X0 : Nat → Prop) (hX0 : ∀ k, X0 k → k < w0.heap.size) (hpa0_0 : Rd (iE .u32) w0 X0 pa0_0 pc0_0 s_0.1.2) (hpa0_1 : Rd (iE .u32) w0 X0 pa0_1 pc0_1 s_0.2.1.2) (hpa0_2 : Rd (iE .u32) w0 X0 pa0_2 pc0_2 s_0.2.2.1.2) (r0 : (Int × Int)) (h0 : ref3_SliceFault fuel s_0 = some r0) :
    Calls Tryz.prog 19 ([(.agg #[(.bool s_0.1.1), (.slice pa0_0 (List.length s_0.1.2) pc0_0), (.bool s_0.2.1.1), (.slice pa0_1 (List.length s_0.2.1.2) pc0_1), (.bool s_0.2.2.1.1), (.slice pa0_2 (List.length s_0.2.2.1.2) pc0_2), (.bool s_0.2.2.2.1), (.bool s_0.2.2.2.2.1), (.bool s_0.2.2.2.2.2)])] : List Value).toArray w0 (Ret fun v w' => w0.grownBy w' none ∧ v = tup [(.agg #[(.int .i64 r0.1), (.int .i64 r0.2)])]) := by
 have hB0 : Below w0.heap.size w0 w0 := Below.refl _ _
 unfold ref3_SliceFault at h0
 refine calls_run Tryz.func19 rfl Tryz.ntmps19 (by kernel_rfl) ?_
 refine gv_sub [0] (σ' := [(0, (.agg #[(.bool s_0.1.1), (.slice pa0_0 (List.length s_0.1.2) pc0_0), (.bool s_0.2.1.1), (.slice pa0_1 (List.length s_0.2.1.2) pc0_1), (.bool s_0.2.2.1.1), (.slice pa0_2 (List.length s_0.2.2.1.2) pc0_2), (.bool s_0.2.2.2.1), (.bool s_0.2.2.2.2.1), (.bool s_0.2.2.2.2.2)]))]) (by kernel_rfl) ?_
 refine gv_seq <| gv_region <| gv_new0 (fun b => .pointer (some ⟨b, 0, none⟩)) #[(.bool s_0.1.1), (.slice pa0_0 (List.length s_0.1.2) pc0_0), (.bool s_0.2.1.1), (.slice pa0_1 (List.length s_0.2.1.2) pc0_1), (.bool s_0.2.2.1.1), (.slice pa0_2 (List.length s_0.2.2.1.2) pc0_2), (.bool s_0.2.2.2.1), (.bool s_0.2.2.2.2.1), (.bool s_0.2.2.2.2.2)] 27 (by kernel_rfl) (by kernel_rfl) ?_
 intro b1 w2 hg3 hb4 hbe5 hz6
 refine gv_new0 (fun b => .pointer (some ⟨b, 0, none⟩)) #[(.int .i64 0), (.int .i64 0)] 29 (by kernel_rfl) (by kernel_rfl) ?_
 intro b7 w8 hg9 hb10 hbe11 hz12
 refine gv_nil <| gv_seq <| gv_region <| gv_pureN 1 [6] [(6, (bp b1))] (by kernel_rfl) ?_
 have hk13 := hb4.grown hg9 nb
 refine gv_loadAgg (t := 25) (A := ⟨b1, 0, none⟩) #[(.bool s_0.1.1), (.slice pa0_0 (List.length s_0.1.2) pc0_0)] [] (fun e => by cases e) rfl rfl rfl (by kernel_rfl) (by kernel_rfl) (by kernel_rfl) (by kernel_rfl) (inw0 (Box.part hk13 0 _ rfl)) rfl ?_
 refine gv_pureN 1 [8] [(8, (.pointer (some ⟨b1, 2, none⟩)))] (by kernel_rfl) ?_
 refine gv_loadAgg (t := 25) (A := ⟨b1, 2, none⟩) #[(.bool s_0.2.1.1), (.slice pa0_1 (List.length s_0.2.1.2) pc0_1)] [] (fun e => by cases e) rfl rfl rfl (by kernel_rfl) (by kernel_rfl) (by kernel_rfl) (by kernel_rfl) (inw0 (Box.part hk13 2 _ rfl)) rfl ?_
 refine gv_pureN 1 [10] [(10, (.pointer (some ⟨b1, 4, none⟩)))] (by kernel_rfl) ?_
 refine gv_loadAgg (t := 25) (A := ⟨b1, 4, none⟩) #[(.bool s_0.2.2.1.1), (.slice pa0_2 (List.length s_0.2.2.1.2) pc0_2)] [] (fun e => by cases e) rfl rfl rfl (by kernel_rfl) (by kernel_rfl) (by kernel_rfl) (by kernel_rfl) (inw0 (Box.part hk13 4 _ rfl)) rfl ?_
 refine gv_new0 (fun b => .slice (some ⟨b, 0, none⟩) 3 3) #[(.bool s_0.1.1), (.slice pa0_0 (List.length s_0.1.2) pc0_0), (.bool s_0.2.1.1), (.slice pa0_1 (List.length s_0.2.1.2) pc0_1), (.bool s_0.2.2.1.1), (.slice pa0_2 (List.length s_0.2.2.1.2) pc0_2)] 25 (by kernel_rfl) (by kernel_rfl) ?_
 intro b14 w15 hg16 hb17 hbe18 hz19
 obtain ⟨X25, e⟩ : ∃ X : Nat → Prop, X = (fun k => X0 k) := ⟨_, rfl⟩
 have hg26 := (grown_trans hg3 hg9)
 have hB27 := bg hB0 hg26 nb
 have hx23 : ∀ k, X25 k → k < w8.heap.size := fun k h => by rw [e] at h; exact (fun k (hk : X0 k) => ltl (hX0 k hk) hB27.size) k h
 have hz28 := hg16.size
 have hx22 : ∀ k, X25 k → k < w15.heap.size := fun k h => ltl (hx23 k h) hz28
 have hx24 : ∀ k, X25 k → X0 k ∨ w0.heap.size ≤ k := fun k h => by rw [e] at h; exact (fun k (hk : X0 k) => Or.inl hk) k h
 have hB29 := bg hB27 hg16 nb
 have ho20 : Gv.Own (prE tE (slE (iE .u32))) 25 w15 X25 (some ⟨b14, 0, none⟩) 3 ([(s_0.1.1, s_0.1.2), (s_0.2.1.1, s_0.2.1.2), (s_0.2.2.1.1, s_0.2.2.1.2)] : List (Bool × (List Int))) := Box.ownE hb17 (by rw [e]; exact ⟨[(.bool s_0.1.1), (.slice pa0_0 (List.length s_0.1.2) pc0_0)], [(.bool s_0.2.1.1), (.slice pa0_1 (List.length s_0.2.1.2) pc0_1), (.bool s_0.2.2.1.1), (.slice pa0_2 (List.length s_0.2.2.1.2) pc0_2)], rfl, ⟨[(.bool s_0.1.1)], [(.slice pa0_0 (List.length s_0.1.2) pc0_0)], rfl, rfl, ⟨pa0_0, pc0_0, rfl, ((hpa0_0.below hB29 hX0).wide (fun _ h => h))⟩⟩, ⟨[(.bool s_0.2.1.1), (.slice pa0_1 (List.length s_0.2.1.2) pc0_1)], [(.bool s_0.2.2.1.1), (.slice pa0_2 (List.length s_0.2.2.1.2) pc0_2)], rfl, ⟨[(.bool s_0.2.1.1)], [(.slice pa0_1 (List.length s_0.2.1.2) pc0_1)], rfl, rfl, ⟨pa0_1, pc0_1, rfl, ((hpa0_1.below hB29 hX0).wide (fun _ h => h))⟩⟩, ⟨[(.bool s_0.2.2.1.1), (.slice pa0_2 (List.length s_0.2.2.1.2) pc0_2)], [], rfl, ⟨[(.bool s_0.2.2.1.1)], [(.slice pa0_2 (List.length s_0.2.2.1.2) pc0_2)], rfl, rfl, ⟨pa0_2, pc0_2, rfl, ((hpa0_2.below hB29 hX0).wide (fun _ h => h))⟩⟩, rfl⟩⟩⟩) (show 3 ≤ maxLen by decide) (fun h => noteq hbe18 (hx23 _ h))
 have hx30 : ∀ k, X25 k → (fun k => X0 k) k := fun k h => by rw [e] at h; exact h
 clear e
 have hl21 : ∀ g, blk (some ⟨b14, 0, none⟩) = some g → w0.heap.size ≤ g := loo hbe18 hB27.size
 have ap31 : ∀ g, blk (some ⟨b14, 0, none⟩) = some g → ¬ (· = b1) g := fun g e hx => nl (lowo hbe18 g e) ((ltb hk13) _ hx)
 have hlo33 : w0.heap.size ≤ b1 := lob hbe5 hB0.size
 have ap32 : ¬ (fun k => blk (some ⟨b14, 0, none⟩) = some k ∨ X25 k) b1 := fun h => h.elim (fun h => nl (lowo hbe18 _ h) ((ltb hk13) _ rfl)) (fun h => ((fun (hx : X0 b1) => nl hlo33 (hX0 _ hx)))  (hx30 _ h))
 have ap34 : ∀ g, blk (some ⟨b14, 0, none⟩) = some g → ¬ (· = b7) g := fun g e hx => nl (lowo hbe18 g e) ((ltb hb10) _ hx)
 have hB36 := bg hB0 hg3 nb
 have hlo37 : w0.heap.size ≤ b7 := lob hbe11 hB36.size
 have ap35 : ¬ (fun k => blk (some ⟨b14, 0, none⟩) = some k ∨ X25 k) b7 := fun h => h.elim (fun h => nl (lowo hbe18 _ h) ((ltb hb10) _ rfl)) (fun h => ((fun (hx : X0 b7) => nl hlo37 (hX0 _ hx)))  (hx30 _ h))
 refine gv_pureN 1 [3] [(3, (.slice (some ⟨b14, 0, none⟩) (List.length ([(s_0.1.1, s_0.1.2), (s_0.2.1.1, s_0.2.1.2), (s_0.2.2.1.1, s_0.2.2.1.2)] : List (Bool × (List Int)))) 3))] (by kernel_rfl) ?_
 refine gv_nil <| gv_seq <| gv_region <| gv_pureN 1 [13] [(13, (.pointer (some ⟨b1, 6, none⟩)))] (by kernel_rfl) ?_
 have hk38 := hk13.grown hg16 nb
 refine gv_load (t := 4) (A := ⟨b1, 6, none⟩) (.bool s_0.2.2.2.1) [] (fun e => by cases e) rfl rfl rfl (by kernel_rfl) (by kernel_rfl) (by kernel_rfl) (inw0 (hk38.cell 6 rfl)) rfl ?_
 refine gv_pureN 1 [15] [(15, (.pointer (some ⟨b1, 7, none⟩)))] (by kernel_rfl) ?_
 refine gv_load (t := 4) (A := ⟨b1, 7, none⟩) (.bool s_0.2.2.2.2.1) [] (fun e => by cases e) rfl rfl rfl (by kernel_rfl) (by kernel_rfl) (by kernel_rfl) (inw0 (hk38.cell 7 rfl)) rfl ?_
 refine gv_pureN 1 [17] [(17, (.pointer (some ⟨b1, 8, none⟩)))] (by kernel_rfl) ?_
 refine gv_sub [1, 2, 3, 14, 16, 17] (σ' := [(1, (bp b1)), (2, (bp b7)), (3, (.slice (some ⟨b14, 0, none⟩) (List.length ([(s_0.1.1, s_0.1.2), (s_0.2.1.1, s_0.2.1.2), (s_0.2.2.1.1, s_0.2.2.1.2)] : List (Bool × (List Int)))) 3)), (14, (.bool s_0.2.2.2.1)), (16, (.bool s_0.2.2.2.2.1)), (17, (.pointer (some ⟨b1, 8, none⟩)))]) (by kernel_rfl) ?_
 refine gv_load (t := 4) (A := ⟨b1, 8, none⟩) (.bool s_0.2.2.2.2.2) [] (fun e => by cases e) rfl rfl rfl (by kernel_rfl) (by kernel_rfl) (by kernel_rfl) (inw0 (hk38.cell 8 rfl)) rfl ?_
 refine gv_new0 (fun b => .slice (some ⟨b, 0, none⟩) 3 3) #[(.bool s_0.2.2.2.1), (.bool s_0.2.2.2.2.1), (.bool s_0.2.2.2.2.2)] 4 (by kernel_rfl) (by kernel_rfl) ?_
 intro b39 w40 hg41 hb42 hbe43 hz44
 have ho45 : Gv.Own tE 4 w40 (fun _ => False) (some ⟨b39, 0, none⟩) 3 ([s_0.2.2.2.1, s_0.2.2.2.2.1, s_0.2.2.2.2.2] : List Bool) := Box.ownE hb42 ⟨[(.bool s_0.2.2.2.1)], [(.bool s_0.2.2.2.2.1), (.bool s_0.2.2.2.2.2)], rfl, rfl, ⟨[(.bool s_0.2.2.2.2.1)], [(.bool s_0.2.2.2.2.2)], rfl, rfl, ⟨[(.bool s_0.2.2.2.2.2)], [], rfl, rfl, rfl⟩⟩⟩ (show 3 ≤ maxLen by decide) (fun h => h)
 have hl46 : ∀ g, blk (some ⟨b39, 0, none⟩) = some g → w0.heap.size ≤ g := loo hbe43 hB29.size
 refine gv_pureN 1 [4] [(4, (.slice (some ⟨b39, 0, none⟩) (List.length ([s_0.2.2.2.1, s_0.2.2.2.2.1, s_0.2.2.2.2.2] : List Bool)) 3))] (by kernel_rfl) ?_
 refine gv_nil <| gv_seq <| gv_seq <| gv_region <| gv_pureN 1 [5] [(5, (.int .i64 0))] (by kernel_rfl) ?_
 refine gv_nil <| bindE h0 ?_; clear h0; intro j50 h1 h0
 refine gv_cut_code (J := fun a w52 => ∃ s51 : (Int × Int), j50 = .inl s51 ∧ Below w0.heap.size w0 w52 ∧ w40.heap.size ≤ w52.heap.size ∧ Box w52 b1 27 #[(.bool s_0.1.1), (.slice pa0_0 (List.length s_0.1.2) pc0_0), (.bool s_0.2.1.1), (.slice pa0_1 (List.length s_0.2.1.2) pc0_1), (.bool s_0.2.2.1.1), (.slice pa0_2 (List.length s_0.2.2.1.2) pc0_2), (.bool s_0.2.2.2.1), (.bool s_0.2.2.2.2.1), (.bool s_0.2.2.2.2.2)] ∧ Box w52 b7 29 #[(.int .i64 s51.1), (.int .i64 s51.2)] ∧ a.defers = [] ∧ a.tmps.size = 55 ∧ Ok [(1, (bp b1)), (2, (bp b7))] a.tmps) ?_ ?_
 ·skip
  refine gv_block <| gv_loop (A := fun (s53 : (Int × (Int × Int))) a w54 => Below w0.heap.size w0 w54 ∧ w40.heap.size ≤ w54.heap.size ∧ Box w54 b1 27 #[(.bool s_0.1.1), (.slice pa0_0 (List.length s_0.1.2) pc0_0), (.bool s_0.2.1.1), (.slice pa0_1 (List.length s_0.2.1.2) pc0_1), (.bool s_0.2.2.1.1), (.slice pa0_2 (List.length s_0.2.2.1.2) pc0_2), (.bool s_0.2.2.2.1), (.bool s_0.2.2.2.2.1), (.bool s_0.2.2.2.2.2)] ∧ Box w54 b7 29 #[(.int .i64 s53.2.1), (.int .i64 s53.2.2)] ∧ Gv.Own (prE tE (slE (iE .u32))) 25 w54 X25 (some ⟨b14, 0, none⟩) 3 ([(s_0.1.1, s_0.1.2), (s_0.2.1.1, s_0.2.1.2), (s_0.2.2.1.1, s_0.2.2.1.2)] : List (Bool × (List Int))) ∧ Gv.Own tE 4 w54 (fun _ => False) (some ⟨b39, 0, none⟩) 3 ([s_0.2.2.2.1, s_0.2.2.2.2.1, s_0.2.2.2.2.2] : List Bool) ∧ a.defers = [] ∧ a.tmps.size = 55 ∧ Ok [(1, (bp b1)), (2, (bp b7)), (3, (.slice (some ⟨b14, 0, none⟩) (List.length ([(s_0.1.1, s_0.1.2), (s_0.2.1.1, s_0.2.1.2), (s_0.2.2.1.1, s_0.2.2.1.2)] : List (Bool × (List Int)))) 3)), (4, (.slice (some ⟨b39, 0, none⟩) (List.length ([s_0.2.2.2.1, s_0.2.2.2.2.1, s_0.2.2.2.2.2] : List Bool)) 3)), (5, (.int .i64 s53.1))] a.tmps) h1 ?_ ?_
  ·intro a hd hs hok
   have hB55 := bg hB29 hg41 nb
   have hk56 := hk38.grown hg41 nb
   have hg57 := (grown_trans hg16 hg41)
   have hk58 := hb10.grown hg57 nb
   have hk59 := ho20.grown hg41 hx22 nb
   exact ⟨hB55, (Nat.le_refl _), hk56, hk58, hk59, ho45, hd, hs, ok_pick [1, 2, 3, 4, 5] hok (by kernel_rfl)⟩
  ·rintro s53 r2 h2 hR2 a w54 ⟨hB60, hz61, hb62, hb63, hk64, hk65, hd, hs, hok⟩
   refine gv_in ?_ hd hs hok
   clear hd hs hok
   clear ho45 hz44 hb42 hB36 hx30 hB29 hz28 hx23 hB27 hg26 hz19 hbe18 hb17 hk13 hz12 hg9 hz6 hbe5 hg3
   refine gv_seq <| gv_seq <| gv_region <| gv_pureN 2 [20, 21] [(21, (.bool (decide (s53.1 < 3))))] (by kernel_rfl) ?_
   refine gv_nil <| gv_cond (b := (decide (s53.1 < 3))) (by kernel_rfl) (fun hc66 => ?_) (fun hc66 => ?_)
   ·replace h2 := ite_t hc66 h2
    refine gv_skip <| gv_seq <| gv_block <| gv_seq <| gv_region <| bindE h2 ?_; clear h2; intro j67 h3 h2
    refine gv_cut_ops (J := fun a w68 => Below w0.heap.size w0 w68 ∧ w54.heap.size ≤ w68.heap.size ∧ Box w68 b1 27 #[(.bool s_0.1.1), (.slice pa0_0 (List.length s_0.1.2) pc0_0), (.bool s_0.2.1.1), (.slice pa0_1 (List.length s_0.2.1.2) pc0_1), (.bool s_0.2.2.1.1), (.slice pa0_2 (List.length s_0.2.2.1.2) pc0_2), (.bool s_0.2.2.2.1), (.bool s_0.2.2.2.2.1), (.bool s_0.2.2.2.2.2)] ∧ Box w68 b7 29 #[(.int .i64 s53.2.1), (.int .i64 s53.2.2)] ∧ Gv.Own (prE tE (slE (iE .u32))) 25 w68 X25 (some ⟨b14, 0, none⟩) 3 ([(s_0.1.1, s_0.1.2), (s_0.2.1.1, s_0.2.1.2), (s_0.2.2.1.1, s_0.2.2.1.2)] : List (Bool × (List Int))) ∧ Gv.Own tE 4 w68 (fun _ => False) (some ⟨b39, 0, none⟩) 3 ([s_0.2.2.2.1, s_0.2.2.2.2.1, s_0.2.2.2.2.2] : List Bool) ∧ a.defers = [] ∧ a.tmps.size = 55 ∧ Ok [(1, (bp b1)), (2, (bp b7)), (3, (.slice (some ⟨b14, 0, none⟩) (List.length ([(s_0.1.1, s_0.1.2), (s_0.2.1.1, s_0.2.1.2), (s_0.2.2.1.1, s_0.2.2.1.2)] : List (Bool × (List Int)))) 3)), (4, (.slice (some ⟨b39, 0, none⟩) (List.length ([s_0.2.2.2.1, s_0.2.2.2.2.1, s_0.2.2.2.2.2] : List Bool)) 3)), (5, (.int .i64 s53.1)), (44, (.bool j67))] a.tmps) ?_ ?_
    ·skip
     refine gv_pureN 2 [24, 25] [(24, (.slice (some ⟨b14, 0, none⟩) (List.length ([(s_0.1.1, s_0.1.2), (s_0.2.1.1, s_0.2.1.2), (s_0.2.2.1.1, s_0.2.2.1.2)] : List (Bool × (List Int)))) 3)), (25, (.int .i64 s53.1))] (by kernel_rfl) ?_
     refine bindE h3 ?_; clear h3; intro x69 hx70 h3
     refine gv_idxaddr (t := 67) (e := 25) (a := (some ⟨b14, 0, none⟩)) (len := List.length ([(s_0.1.1, s_0.1.2), (s_0.2.1.1, s_0.2.1.2), (s_0.2.2.1.1, s_0.2.2.1.2)] : List (Bool × (List Int)))) (cap := 3) (kk := .i64) (i := s53.1) (sz := 2) [] (fun e => by cases e) rfl rfl rfl (by kernel_rfl) (by kernel_rfl) Tryz.underlying67 (by kernel_rfl) ((hk64.rd (Y := fun k => blk (some ⟨b14, 0, none⟩) = some k ∨ X25 k) (fun _ h => .inr h) (fun g e => .inl e)).has hx70) (idx_spec hx70).1 (idx_spec hx70).2.1 rfl ?_
     obtain ⟨_, ⟨_, _, rfl, rfl, ⟨a72, c73, rfl, hr74⟩⟩, hc71⟩ := hk64.cellsK hx70
     refine gv_loadAgg (t := 25) (A := (elemAddr (some ⟨b14, 0, none⟩) ((s53.1 : Int).toNat * 2))) #[(.bool x69.1), (.slice a72 (List.length x69.2) c73)] [] (fun e => by cases e) rfl rfl rfl (by kernel_rfl) (by kernel_rfl) (by kernel_rfl) (by kernel_rfl) (inw0 (hc71 w54 (fun _ _ => rfl))) rfl ?_
     refine bindE h3 ?_; clear h3; intro r75 hr76 h3
     have hx77 := ltx hx22 hg41.size
     refine gv_call0 (by kernel_rfl) rfl (by kernel_rfl) enters33 (ref3_IntOk_ok fuel a72 c73 (x69.1, x69.2) w54 (fun k => X25 k) (fun k hk => (fun k hk => ltl (hx77 k hk) hz61) k hk) (hr74.wide (fun k hk => hk)) r75 hr76) ?_
     rintro v80 w78 ⟨hg79, rfl⟩
     refine gv_pureN 2 [29, 30] [(30, (.bool (!r75)))] (by kernel_rfl) ?_
     refine gv_split (s := 30) (g := (!r75)) (by kernel_rfl) (fun hc81 => ?_) (fun hc81 => ?_)
     ·skip
      replace h3 := ite_t hc81 h3
      refine gv_pureN 14 [31, 32, 33, 34, 35, 36, 37, 38, 39, 40, 41, 42, 43, 44] [(44, (.bool true))] (by kernel_rfl) ?_
      refine gv_nil ?_
      have e := sj h3; subst e
      refine gv_goal fun a hd hs hok => ?_
      have hB82 := bg hB60 hg79 nb
      have hz83 := hg79.size
      have hk84 := hb62.grown hg79 nb
      have hk85 := hb63.grown hg79 nb
      have hk86 := hk64.grown hg79 (fun k hk => ltl (hx77 k hk) hz61) nb
      have hk87 := hk65.grown hg79 (fun _ h => h.elim) nb
      exact ⟨hB82, hz83, hk84, hk85, hk86, hk87, hd, hs, ok_pick [1, 2, 3, 4, 5, 44] hok (by kernel_rfl)⟩
     ·skip
      replace h3 := ite_f hc81 h3
      refine gv_pureN 2 [31, 32] [(31, (.slice (some ⟨b39, 0, none⟩) (List.length ([s_0.2.2.2.1, s_0.2.2.2.2.1, s_0.2.2.2.2.2] : List Bool)) 3)), (32, (.int .i64 s53.1))] (by kernel_rfl) ?_
      refine bindE h3 ?_; clear h3; intro x88 hx89 h3
      have hk90 := hk65.grown hg79 (fun _ h => h.elim) nb
      refine gv_idxaddr (t := 68) (e := 4) (a := (some ⟨b39, 0, none⟩)) (len := List.length ([s_0.2.2.2.1, s_0.2.2.2.2.1, s_0.2.2.2.2.2] : List Bool)) (cap := 3) (kk := .i64) (i := s53.1) (sz := 1) [] (fun e => by cases e) rfl rfl rfl (by kernel_rfl) (by kernel_rfl) Tryz.underlying68 (by kernel_rfl) ((hk90.rd (Y := fun k => blk (some ⟨b39, 0, none⟩) = some k) (fun _ h => h.elim) (fun g e => e)).has hx89) (idx_spec hx89).1 (idx_spec hx89).2.1 rfl ?_
      refine gv_load (t := 4) (A := (elemAddr (some ⟨b39, 0, none⟩) ((s53.1 : Int).toNat * 1))) (.bool x88) [] (fun e => by cases e) rfl rfl rfl (by kernel_rfl) (by kernel_rfl) (by kernel_rfl) (inw0 ((hk90.rd (Y := fun k => blk (some ⟨b39, 0, none⟩) = some k) (fun _ h => h.elim) (fun g e => e)).cell hx89)) rfl ?_
      refine gv_pureN 2 [35, 36] [(36, (.bool (!x88)))] (by kernel_rfl) ?_
      refine gv_split (s := 36) (g := (!x88)) (by kernel_rfl) (fun hc91 => ?_) (fun hc91 => ?_)
      ·skip
       replace h3 := ite_t hc91 h3
       refine gv_pureN 2 [37, 38] [(37, (.slice (some ⟨b14, 0, none⟩) (List.length ([(s_0.1.1, s_0.1.2), (s_0.2.1.1, s_0.2.1.2), (s_0.2.2.1.1, s_0.2.2.1.2)] : List (Bool × (List Int)))) 3)), (38, (.int .i64 s53.1))] (by kernel_rfl) ?_
       refine bindE h3 ?_; clear h3; intro x92 hx93 h3
       have hk94 := hk64.grown hg79 (fun k hk => ltl (hx77 k hk) hz61) nb
       refine gv_idxaddr (t := 67) (e := 25) (a := (some ⟨b14, 0, none⟩)) (len := List.length ([(s_0.1.1, s_0.1.2), (s_0.2.1.1, s_0.2.1.2), (s_0.2.2.1.1, s_0.2.2.1.2)] : List (Bool × (List Int)))) (cap := 3) (kk := .i64) (i := s53.1) (sz := 2) [] (fun e => by cases e) rfl rfl rfl (by kernel_rfl) (by kernel_rfl) Tryz.underlying67 (by kernel_rfl) ((hk94.rd (Y := fun k => blk (some ⟨b14, 0, none⟩) = some k ∨ X25 k) (fun _ h => .inr h) (fun g e => .inl e)).has hx93) (idx_spec hx93).1 (idx_spec hx93).2.1 rfl ?_
       obtain ⟨_, ⟨_, _, rfl, rfl, ⟨a96, c97, rfl, hr98⟩⟩, hc95⟩ := hk94.cellsK hx93
       refine gv_loadAgg (t := 25) (A := (elemAddr (some ⟨b14, 0, none⟩) ((s53.1 : Int).toNat * 2))) #[(.bool x92.1), (.slice a96 (List.length x92.2) c97)] [] (fun e => by cases e) rfl rfl rfl (by kernel_rfl) (by kernel_rfl) (by kernel_rfl) (by kernel_rfl) (inw0 (hc95 w78 (fun _ _ => rfl))) rfl ?_
       refine bindE h3 ?_; clear h3; intro r99 hr100 h3
       have hx101 := ltx (fun k hk => ltl (hx77 k hk) hz61) hg79.size
       refine gv_call0 (by kernel_rfl) rfl (by kernel_rfl) enters34 (ref3_NoInt_ok fuel a96 c97 (x92.1, x92.2) w78 (fun k => X25 k) (fun k hk => hx101 k hk) (hr98.wide (fun k hk => hk)) r99 hr100) ?_
       rintro v104 w102 ⟨hg103, rfl⟩
       refine gv_pureN 3 [42, 43, 44] [(44, (.bool (!r99)))] (by kernel_rfl) ?_
       refine gv_sub [1, 2, 3, 4, 5, 44] (σ' := [(1, (bp b1)), (2, (bp b7)), (3, (.slice (some ⟨b14, 0, none⟩) (List.length ([(s_0.1.1, s_0.1.2), (s_0.2.1.1, s_0.2.1.2), (s_0.2.2.1.1, s_0.2.2.1.2)] : List (Bool × (List Int)))) 3)), (4, (.slice (some ⟨b39, 0, none⟩) (List.length ([s_0.2.2.2.1, s_0.2.2.2.2.1, s_0.2.2.2.2.2] : List Bool)) 3)), (5, (.int .i64 s53.1)), (44, (.bool (!r99)))]) (by kernel_rfl) ?_
       refine gv_nil ?_
       have e := sj h3; subst e
       refine gv_goal fun a hd hs hok => ?_
       have hg105 := (grown_trans hg79 hg103)
       have hB106 := bg hB60 hg105 nb
       have hz107 := (nt hg79.size hg103.size)
       have hk108 := hb62.grown hg105 nb
       have hk109 := hb63.grown hg105 nb
       have hk110 := hk94.grown hg103 hx101 nb
       have hk111 := hk90.grown hg103 (fun _ h => h.elim) nb
       exact ⟨hB106, hz107, hk108, hk109, hk110, hk111, hd, hs, ok_pick [1, 2, 3, 4, 5, 44] hok (by kernel_rfl)⟩
      ·skip
       replace h3 := ite_f hc91 h3
       refine gv_pureN 8 [37, 38, 39, 40, 41, 42, 43, 44] [(44, (.bool false))] (by kernel_rfl) ?_
       refine gv_nil ?_
       have e := sj h3; subst e
       refine gv_goal fun a hd hs hok => ?_
       have hB112 := bg hB60 hg79 nb
       have hz113 := hg79.size
       have hk114 := hb62.grown hg79 nb
       have hk115 := hb63.grown hg79 nb
       have hk116 := hk64.grown hg79 (fun k hk => ltl (hx77 k hk) hz61) nb
       exact ⟨hB112, hz113, hk114, hk115, hk116, hk90, hd, hs, ok_pick [1, 2, 3, 4, 5, 44] hok (by kernel_rfl)⟩
    ·rintro a w68 ⟨hB117, hz118, hb119, hb120, hk121, hk122, hd, hs, hok⟩
     refine gv_in ?_ hd hs hok
     clear hd hs hok
     have hz123 := (nt hz61 hz118)
     clear hc66 hk65 hk64 hb63 hb62 hB60
     refine gv_cond (b := j67) (by kernel_rfl) (fun hc124 => ?_) (fun hc124 => ?_)
     ·replace h2 := ite_t hc124 h2
      refine gv_seq <| gv_region <| bindE h2 ?_; clear h2; intro r125 hr126 h2
      refine gv_call0 (by kernel_rfl) rfl (by kernel_rfl) enters35 (ref3_At_ok fuel 6 (-1) w68  r125 hr126) ?_
      rintro v129 w127 ⟨hg128, rfl⟩
      have hk134 := hb120.grown hg128 nb
      refine gv_store0 29 0 (.agg #[(.int .i64 r125.1), (.int .i64 r125.2)]) #[(.int .i64 r125.1), (.int .i64 r125.2)] hk134 (by kernel_rfl) (by kernel_rfl) (by kernel_rfl) ?_
      intro w130 hg131 hb132 hz133
      have hz135 := (nt (nt hz123 hg128.size) hg131.size)
      clear hz133 hk134 hr126 hc124 hz123 hk122 hk121 hb120 hb119 hz118 hz61 hl46 hbe43 hg41 hk38 ap35 ap34 ap32 hlo33 ap31 hl21 ho20 hx24 hx22 hg16 hbe11 hb10 hb4
      refine gv_nil <| gv_cret ?_
      have e := sj h2; subst e
      replace h1 := congrArg some (hR2 _ rfl)
      have e := sj h1; subst e
      replace h0 := cont_inr h0
      have e := sj h0; subst e
      refine gv_ret (gv_done [(.agg #[(.int .i64 r125.1), (.int .i64 r125.2)])] rfl ⟨⟨⟨b7, 0, none⟩, (by kernel_rfl), run_loadVar_row w130 b7 _ 29 _ _ _ hb132 Tryz.underlying29 rfl (by kernel_rfl)⟩, trivial⟩ ?_)
      have hB136 := bg hB117 hg128 nb
      have hB137 := bg hB136 hg131 (rowlo hlo37)
      exact ⟨grown_of_below hB137, rfl⟩
     ·replace h2 := ite_f hc124 h2
      refine gv_skip <| gv_blk <| gv_region <| gv_pureN 3 [5, 22, 23] [(5, (.int .i64 (IntKind.i64.wrap (s53.1 + 1))))] (by kernel_rfl) ?_
      refine gv_nil ?_
      have e := sj h2; subst e
      refine gv_goal fun a hd hs hok => ?_
      have hz138 := hz123
      exact ⟨((IntKind.i64.wrap (s53.1 + 1)), (s53.2.1, s53.2.2)), rfl, hB117, hz138, hb119, hb120, hk121, hk122, hd, hs, ok_pick [1, 2, 3, 4, 5] hok (by kernel_rfl)⟩
   ·replace h2 := ite_f hc66 h2
    refine gv_cexit <| gv_exit rfl ?_
    have e := sj h2; subst e
    replace h1 := congrArg some (hR2 _ rfl)
    have e := sj h1; subst e
    refine gv_goal fun a hd hs hok => ?_
    have hz139 := hz61
    exact ⟨(s53.2.1, s53.2.2), rfl, hB60, hz139, hb62, hb63, hd, hs, ok_pick [1, 2] hok (by kernel_rfl)⟩
 ·rintro a w52 ⟨s51, e, hB140, hz141, hb142, hb143, hd, hs, hok⟩
  subst e
  refine gv_in ?_ hd hs hok
  clear hd hs hok
  replace h0 := cont_inl h0
  clear hz141 hl46 ho45 hz44 hbe43 hb42 hg41 hk38 ap35 hB36 ap34 ap32 ap31 hl21 hx30 ho20 hB29 hx24 hx22 hz28 hx23 hB27 hg26 hz19 hbe18 hb17 hg16 hk13 hz12 hb10 hg9 hz6 hbe5 hg3
  refine gv_seq <| gv_seq <| gv_region <| bindE h0 ?_; clear h0; intro j144 h1 h0
  refine gv_cut_ops (J := fun a w145 => Below w0.heap.size w0 w145 ∧ w52.heap.size ≤ w145.heap.size ∧ Box w145 b7 29 #[(.int .i64 s51.1), (.int .i64 s51.2)] ∧ a.defers = [] ∧ a.tmps.size = 55 ∧ Ok [(2, (bp b7)), (52, (.bool j144))] a.tmps) ?_ ?_
  ·skip
   refine gv_pureN 1 [46] [(46, (.pointer (some ⟨b1, 8, none⟩)))] (by kernel_rfl) ?_
   refine gv_load (t := 4) (A := ⟨b1, 8, none⟩) (.bool s_0.2.2.2.2.2) [] (fun e => by cases e) rfl rfl rfl (by kernel_rfl) (by kernel_rfl) (by kernel_rfl) (inw0 (hb142.cell 8 rfl)) rfl ?_
   refine gv_pureN 1 [48] [(48, (.bool s_0.2.2.2.2.2))] (by kernel_rfl) ?_
   refine gv_split (s := 48) (g := s_0.2.2.2.2.2) (by kernel_rfl) (fun hc146 => ?_) (fun hc146 => ?_)
   ·skip
    replace h1 := ite_t hc146 h1
    refine gv_pureN 1 [49] [(49, (.pointer (some ⟨b1, 4, none⟩)))] (by kernel_rfl) ?_
    refine gv_loadAgg (t := 25) (A := ⟨b1, 4, none⟩) #[(.bool s_0.2.2.1.1), (.slice pa0_2 (List.length s_0.2.2.1.2) pc0_2)] [] (fun e => by cases e) rfl rfl rfl (by kernel_rfl) (by kernel_rfl) (by kernel_rfl) (by kernel_rfl) (inw0 (Box.part hb142 4 _ rfl)) rfl ?_
    refine bindE h1 ?_; clear h1; intro r147 hr148 h1
    refine gv_call0 (by kernel_rfl) rfl (by kernel_rfl) enters34 (ref3_NoInt_ok fuel pa0_2 pc0_2 (s_0.2.2.1.1, s_0.2.2.1.2) w52 (fun k => X0 k) (fun k hk => (fun k (hk : X0 k) => ltl (hX0 k hk) hB140.size) k hk) ((hpa0_2.below hB140 hX0).wide (fun k hk => hk)) r147 hr148) ?_
    rintro v151 w149 ⟨hg150, rfl⟩
    refine gv_pureN 1 [52] [(52, (.bool r147))] (by kernel_rfl) ?_
    refine gv_nil ?_
    have e := sj h1; subst e
    refine gv_goal fun a hd hs hok => ?_
    have hB152 := bg hB140 hg150 nb
    have hz153 := hg150.size
    have hk154 := hb143.grown hg150 nb
    exact ⟨hB152, hz153, hk154, hd, hs, ok_pick [2, 52] hok (by kernel_rfl)⟩
   ·skip
    replace h1 := ite_f hc146 h1
    refine gv_pureN 4 [49, 50, 51, 52] [(52, (.bool false))] (by kernel_rfl) ?_
    refine gv_nil ?_
    have e := sj h1; subst e
    refine gv_goal fun a hd hs hok => ?_
    exact ⟨hB140, (Nat.le_refl _), hb143, hd, hs, ok_pick [2, 52] hok (by kernel_rfl)⟩
  ·rintro a w145 ⟨hB155, hz156, hb157, hd, hs, hok⟩
   refine gv_in ?_ hd hs hok
   clear hd hs hok
   clear hz156 hb143 hb142 hB140 hlo33 hbe11 hb4
   refine gv_cond (b := j144) (by kernel_rfl) (fun hc158 => ?_) (fun hc158 => ?_)
   ·replace h0 := ite_t hc158 h0
    refine gv_seq <| gv_region <| bindE h0 ?_; clear h0; intro r159 hr160 h0
    refine gv_call0 (by kernel_rfl) rfl (by kernel_rfl) enters35 (ref3_At_ok fuel 22 (-1) w145  r159 hr160) ?_
    rintro v163 w161 ⟨hg162, rfl⟩
    have hk168 := hb157.grown hg162 nb
    refine gv_store0 29 0 (.agg #[(.int .i64 r159.1), (.int .i64 r159.2)]) #[(.int .i64 r159.1), (.int .i64 r159.2)] hk168 (by kernel_rfl) (by kernel_rfl) (by kernel_rfl) ?_
    intro w164 hg165 hb166 hz167
    refine gv_nil <| gv_cret ?_
    have e := sj h0; subst e
    refine gv_ret (gv_done [(.agg #[(.int .i64 r159.1), (.int .i64 r159.2)])] rfl ⟨⟨⟨b7, 0, none⟩, (by kernel_rfl), run_loadVar_row w164 b7 _ 29 _ _ _ hb166 Tryz.underlying29 rfl (by kernel_rfl)⟩, trivial⟩ ?_)
    have hB169 := bg hB155 hg162 nb
    have hB170 := bg hB169 hg165 (rowlo hlo37)
    exact ⟨grown_of_below hB170, rfl⟩
   ·replace h0 := ite_f hc158 h0
    refine gv_skip <| gv_seq <| gv_region <| gv_pureN 1 [54] [(54, (.agg #[(.int .i64 0), (.int .i64 0)]))] (by kernel_rfl) ?_
    refine gv_store0 29 0 (.agg #[(.int .i64 0), (.int .i64 0)]) #[(.int .i64 0), (.int .i64 0)] hb157 (by kernel_rfl) (by kernel_rfl) (by kernel_rfl) ?_
    intro w171 hg172 hb173 hz174
    refine gv_nil <| gv_cret ?_
    have e := sj h0; subst e
    refine gv_ret (gv_done [(.agg #[(.int .i64 0), (.int .i64 0)])] rfl ⟨⟨⟨b7, 0, none⟩, (by kernel_rfl), run_loadVar_row w171 b7 _ 29 _ _ _ hb173 Tryz.underlying29 rfl (by kernel_rfl)⟩, trivial⟩ ?_)
    have hB175 := bg hB155 hg172 (rowlo hlo37)
    exact ⟨grown_of_below hB175, rfl⟩

theorem ref3_trim_ok (fuel : Nat) (pa0_0 : Option Addr) (pc0_0 : Nat) (a_0 : (List Int)) (w0 : World) (X0 : Nat → Prop) (hX0 : ∀ k, X0 k → k < w0.heap.size) (hpa0_0 : Rd (iE .i64) w0 X0 pa0_0 pc0_0 a_0) (r0 : (List Int)) (h0 : ref3_trim fuel a_0 = some r0) :
    Calls Tryz.prog 76 ([(.slice pa0_0 (List.length a_0) pc0_0)] : List Value).toArray w0 (Ret fun v w' => w0.grownBy w' none ∧ ∃ (a0_0r : Option Addr) (c0_0r : Nat), ∃ (X0_0r : Nat → Prop), v = tup [(.slice a0_0r (List.length r0) c0_0r)] ∧ Rd (iE .i64) w' X0_0r a0_0r c0_0r r0 ∧ (∀ k, X0_0r k → k < w'.heap.size ∧ (X0 k ∨ w0.heap.size ≤ k))) := by
 have hB0 : Below w0.heap.size w0 w0 := Below.refl _ _
 unfold ref3_trim at h0
 refine calls_run Tryz.func76 rfl Tryz.ntmps76 (by kernel_rfl) ?_
 refine gv_sub [0] (σ' := [(0, (.slice pa0_0 (List.length a_0) pc0_0))]) (by kernel_rfl) ?_
 refine gv_seq <| gv_region <| gv_pureN 1 [2] [] (by kernel_rfl) ?_
 refine gv_nil <| gv_seq <| bindE h0 ?_; clear h0; intro j1 h1 h0
 refine gv_cut_code (J := fun a w2 => ∃ (a0_0j : Option Addr) (c0_0j : Nat), Below w0.heap.size w0 w2 ∧ w0.heap.size ≤ w2.heap.size ∧ Rd (iE .i64) w0 X0 a0_0j c0_0j j1 ∧ a.defers = [] ∧ a.tmps.size = 21 ∧ Ok [(0, (.slice a0_0j (List.length j1) c0_0j))] a.tmps) ?_ ?_
 ·skip
  refine gv_block <| gv_loop (A := fun (s3 : (List Int)) a w4 => ∃ (a0_0j : Option Addr) (c0_0j : Nat), Below w0.heap.size w0 w4 ∧ w0.heap.size ≤ w4.heap.size ∧ Rd (iE .i64) w0 X0 a0_0j c0_0j s3 ∧ a.defers = [] ∧ a.tmps.size = 21 ∧ Ok [(0, (.slice a0_0j (List.length s3) c0_0j))] a.tmps) h1 ?_ ?_
  ·intro a hd hs hok
   exact ⟨pa0_0, pc0_0, hB0, (Nat.le_refl _), hpa0_0, hd, hs, ok_pick [0] hok (by kernel_rfl)⟩
  ·rintro s3 r2 h2 hR2 a w4 ⟨a7, c8, hB5, hz6, hp9, hd, hs, hok⟩
   refine gv_in ?_ hd hs hok
   clear hd hs hok
   refine gv_seq <| gv_seq <| gv_region <| bindE h2 ?_; clear h2; intro j10 h3 h2
   refine gv_cut_ops (J := fun a w11 => Below w0.heap.size w0 w11 ∧ w4.heap.size ≤ w11.heap.size ∧ a.defers = [] ∧ a.tmps.size = 21 ∧ Ok [(0, (.slice a7 (List.length s3) c8)), (14, (.bool j10))] a.tmps) ?_ ?_
   ·skip
    refine gv_pureN 4 [3, 4, 5, 6] [(6, (.bool (decide (((List.length s3 : Nat) : Int) > 0))))] (by kernel_rfl) ?_
    refine gv_split (s := 6) (g := (decide (((List.length s3 : Nat) : Int) > 0))) (by kernel_rfl) (fun hc12 => ?_) (fun hc12 => ?_)
    ·skip
     replace h3 := ite_t hc12 h3
     refine gv_pureN 4 [7, 8, 9, 10] [(7, (.slice a7 (List.length s3) c8)), (10, (.int .i64 (IntKind.i64.wrap (((List.length s3 : Nat) : Int) - 1))))] (by kernel_rfl) ?_
     refine bindE h3 ?_; clear h3; intro x13 hx14 h3
     refine gv_idxaddr (t := 71) (e := 3) (a := a7) (len := List.length s3) (cap := c8) (kk := .i64) (i := (IntKind.i64.wrap (((List.length s3 : Nat) : Int) - 1))) (sz := 1) [] (fun e => by cases e) rfl rfl rfl (by kernel_rfl) (by kernel_rfl) Tryz.underlying71 (by kernel_rfl) ((hp9.below hB5 hX0).has hx14) (idx_spec hx14).1 (idx_spec hx14).2.1 rfl ?_
     refine gv_load (t := 3) (A := (elemAddr a7 (((IntKind.i64.wrap (((List.length s3 : Nat) : Int) - 1)) : Int).toNat * 1))) (.int .i64 x13) [] (fun e => by cases e) rfl rfl rfl (by kernel_rfl) (by kernel_rfl) (by kernel_rfl) (inw0 ((hp9.below hB5 hX0).cell hx14)) rfl ?_
     refine gv_pureN 2 [13, 14] [(14, (.bool (x13 == 0)))] (by kernel_rfl) ?_
     refine gv_nil ?_
     have e := sj h3; subst e
     refine gv_goal fun a hd hs hok => ?_
     exact ⟨hB5, (Nat.le_refl _), hd, hs, ok_pick [0, 14] hok (by kernel_rfl)⟩
    ·skip
     replace h3 := ite_f hc12 h3
     refine gv_pureN 8 [7, 8, 9, 10, 11, 12, 13, 14] [(14, (.bool false))] (by kernel_rfl) ?_
     refine gv_nil ?_
     have e := sj h3; subst e
     refine gv_goal fun a hd hs hok => ?_
     exact ⟨hB5, (Nat.le_refl _), hd, hs, ok_pick [0, 14] hok (by kernel_rfl)⟩
   ·rintro a w11 ⟨hB15, hz16, hd, hs, hok⟩
    refine gv_in ?_ hd hs hok
    clear hd hs hok
    have hz17 := (nt hz6 hz16)
    refine gv_cond (b := j10) (by kernel_rfl) (fun hc18 => ?_) (fun hc18 => ?_)
    ·replace h2 := ite_t hc18 h2
     refine gv_skip <| gv_block <| gv_region <| gv_pureN 4 [15, 16, 17, 18] [(15, (.slice a7 (List.length s3) c8)), (18, (.int .i64 (IntKind.i64.wrap (((List.length s3 : Nat) : Int) - 1))))] (by kernel_rfl) ?_
     refine bindE h2 ?_; clear h2; intro x19 hx20 h2
     refine gv_ssl2 (iE .i64) (t := 71) (e := 3) (xs := s3) (a := a7) (cap := c8) (lo := none) (hi := (some (.int .i64 (IntKind.i64.wrap (((List.length s3 : Nat) : Int) - 1))))) 0 (IntKind.i64.wrap (((List.length s3 : Nat) : Int) - 1)) x19 (fun e => by cases e) rfl rfl rfl (by kernel_rfl) (by kernel_rfl) Tryz.underlying71 (by kernel_rfl) (.inl ⟨rfl, rfl⟩) (.inr ⟨_, rfl⟩) hx20 (hp9.below hB15 hX0).1 ?_
     intro a21 c22 hsub23
     have hp24 := hsub23 _ _ hp9
     refine gv_pureN 1 [0] [(0, (.slice a21 (List.length x19) c22))] (by kernel_rfl) ?_
     refine gv_nil <| gv_blk ?_
     have e := sj h2; subst e
     refine gv_goal fun a hd hs hok => ?_
     have hz25 := hz17
     exact ⟨x19, rfl, a21, c22, hB15, hz25, hp24, hd, hs, ok_pick [0] hok (by kernel_rfl)⟩
    ·replace h2 := ite_f hc18 h2
     refine gv_cexit <| gv_exit rfl ?_
     have e := sj h2; subst e
     replace h1 := congrArg some (hR2 _ rfl)
     have e := sj h1; subst e
     refine gv_goal fun a hd hs hok => ?_
     have hz26 := hz17
     exact ⟨a7, c8, hB15, hz26, hp9, hd, hs, ok_pick [0] hok (by kernel_rfl)⟩
 ·rintro a w2 ⟨a29, c30, hB27, hz28, hp31, hd, hs, hok⟩
  refine gv_in ?_ hd hs hok
  clear hd hs hok
  refine gv_seq <| gv_region <| gv_pureN 2 [2, 20] [(2, (.slice a29 (List.length j1) c30))] (by kernel_rfl) ?_
  refine gv_nil <| gv_cret ?_
  have e := sj h0; subst e
  refine gv_ret (gv_done [(.slice a29 (List.length j1) c30)] rfl ⟨(by kernel_rfl), trivial⟩ ?_)
  exact ⟨grown_of_below hB27, a29, c30, X0, rfl, (hp31.below hB27 hX0), (fun k hk => ⟨(fun k (hk : X0 k) => ltl (hX0 k hk) hB27.size) k hk, (fun k (hk : X0 k) => Or.inl hk) k hk⟩)⟩

theorem ref3_Of_ok (fuel : Nat) (pa0_0 : Option Addr) (pc0_0 : Nat) (limbs_0 : (List Int)) (w0 : World) (X0 : Nat → Prop) (hX0 : ∀ k, X0 k → k < w0.heap.size) (hpa0_0 : Rd (iE .u32) w0 X0 pa0_0 pc0_0 limbs_0) (r0 : (List Int)) (h0 : ref3_Of fuel limbs_0 = some r0) :
    Calls Tryz.prog 57 ([(.slice pa0_0 (List.length limbs_0) pc0_0)] : List Value).toArray w0 (Ret fun v w' => w0.grownBy w' none ∧ ∃ (a0_0r : Option Addr) (c0_0r : Nat), ∃ (X0_0r : Nat → Prop), v = tup [(.slice a0_0r (List.length r0) c0_0r)] ∧ Rd (iE .i64) w' X0_0r a0_0r c0_0r r0 ∧ (∀ k, X0_0r k → k < w'.heap.size ∧ (X0 k ∨ w0.heap.size ≤ k))) := by
 have hB0 : Below w0.heap.size w0 w0 := Below.refl _ _
 unfold ref3_Of at h0
 refine calls_run Tryz.func57 rfl Tryz.ntmps57 (by kernel_rfl) ?_
 refine gv_sub [0] (σ' := [(0, (.slice pa0_0 (List.length limbs_0) pc0_0))]) (by kernel_rfl) ?_
 refine gv_seq <| gv_region <| gv_pureN 1 [2] [] (by kernel_rfl) ?_
 refine gv_nil <| gv_seq <| gv_region <| gv_pureN 1 [3] [(3, (.slice none (List.length ([] : List Int)) 0))] (by kernel_rfl) ?_
 refine gv_nil <| gv_seq <| gv_seq <| gv_region <| gv_pureN 1 [4] [(4, (.int .i64 0))] (by kernel_rfl) ?_
 refine gv_nil <| bindE h0 ?_; clear h0; intro j1 h1 h0
 refine gv_cut_code (J := fun a w2 => ∃ (a3_0j : Option Addr) (c3_0j : Nat), Below w0.heap.size w0 w2 ∧ w0.heap.size ≤ w2.heap.size ∧ Gv.Own (iE .i64) 3 w2 (fun _ => False) a3_0j c3_0j j1 ∧ (∀ g, blk a3_0j = some g → w0.heap.size ≤ g) ∧ a.defers = [] ∧ a.tmps.size = 28 ∧ Ok [(3, (.slice a3_0j (List.length j1) c3_0j))] a.tmps) ?_ ?_
 ·skip
  refine gv_block <| gv_loop (A := fun (s3 : ((List Int) × Int)) a w4 => ∃ (a3_0j : Option Addr) (c3_0j : Nat), Below w0.heap.size w0 w4 ∧ w0.heap.size ≤ w4.heap.size ∧ Gv.Own (iE .i64) 3 w4 (fun _ => False) a3_0j c3_0j s3.1 ∧ (∀ g, blk a3_0j = some g → w0.heap.size ≤ g) ∧ a.defers = [] ∧ a.tmps.size = 28 ∧ Ok [(0, (.slice pa0_0 (List.length limbs_0) pc0_0)), (3, (.slice a3_0j (List.length s3.1) c3_0j)), (4, (.int .i64 s3.2))] a.tmps) h1 ?_ ?_
  ·intro a hd hs hok
   exact ⟨none, 0, hB0, (Nat.le_refl _), (Gv.Own.nil (iE .i64) 3 w0 (fun _ => False)), (fun _ h => by cases h), hd, hs, ok_pick [0, 3, 4] hok (by kernel_rfl)⟩
  ·rintro s3 r2 h2 hR2 a w4 ⟨a7, c8, hB5, hz6, ho9, hl10, hd, hs, hok⟩
   refine gv_in ?_ hd hs hok
   clear hd hs hok
   refine gv_seq <| gv_seq <| gv_region <| gv_pureN 4 [5, 6, 7, 8] [(8, (.bool (decide (s3.2 < ((List.length limbs_0 : Nat) : Int)))))] (by kernel_rfl) ?_
   refine gv_nil <| gv_cond (b := (decide (s3.2 < ((List.length limbs_0 : Nat) : Int)))) (by kernel_rfl) (fun hc11 => ?_) (fun hc11 => ?_)
   ·replace h2 := ite_t hc11 h2
    refine gv_skip <| gv_seq <| gv_block <| gv_drawA (by kernel_rfl) ?_
    intro w12 hg13
    refine gv_pre [0, 1, 2, 3, 7, 8, 9] (bA 16 [0, 1, 2, 3, 7, 8, 9]) 9 (by kernel_rfl) (by kernel_rfl) ?_
    refine gv_pureN 3 [11, 12, 13] [(11, (.slice a7 (List.length s3.1) c8)), (12, (.slice pa0_0 (List.length limbs_0) pc0_0)), (13, (.int .i64 s3.2))] (by kernel_rfl) ?_
    refine bindE h2 ?_; clear h2; intro x14 hx15 h2
    have hB16 := bg hB5 hg13 nb
    refine gv_idxaddr (t := 23) (e := 76) (a := pa0_0) (len := List.length limbs_0) (cap := pc0_0) (kk := .i64) (i := s3.2) (sz := 1) [] (fun e => by cases e) rfl rfl rfl (by kernel_rfl) (by kernel_rfl) Tryz.underlying23 (by kernel_rfl) ((hpa0_0.below hB16 hX0).has hx15) (idx_spec hx15).1 (idx_spec hx15).2.1 rfl ?_
    refine gv_pureN 2 [18, 19] [(18, (.slice pa0_0 (List.length limbs_0) pc0_0)), (19, (.int .i64 s3.2))] (by kernel_rfl) ?_
    refine bindE h2 ?_; clear h2; intro x17 hx18 h2
    refine gv_idxaddr (t := 23) (e := 76) (a := pa0_0) (len := List.length limbs_0) (cap := pc0_0) (kk := .i64) (i := s3.2) (sz := 1) [] (fun e => by cases e) rfl rfl rfl (by kernel_rfl) (by kernel_rfl) Tryz.underlying23 (by kernel_rfl) ((hpa0_0.below hB16 hX0).has hx18) (idx_spec hx18).1 (idx_spec hx18).2.1 rfl ?_
    refine gv_nil <| gv_goA ?_
    refine gv_stage (Cls w12 []) [0, 1, 2, 3, 4, 5, 6, 7, 8, 9, 10, 11, 12] [(4, some true), (5, some true), (6, some true), (10, some true), (11, some true), (12, some true)] (bA 16 [0, 1, 2, 3, 4, 5, 6, 7, 8, 9, 10, 11, 12]) 3 (by kernel_rfl) (by kernel_rfl) (Cls.refl _ _) ?_
    have hC19 := Cls.refl w12 []
    refine gv_load (t := 76) (A := (elemAddr pa0_0 ((s3.2 : Int).toNat * 1))) (.int .u32 x14) [] (fun e => by cases e) rfl rfl rfl (by kernel_rfl) (by kernel_rfl) (by kernel_rfl) (inw1 fun w' hC' => ((hC'.rd (hpa0_0.below hB16 hX0) (fun k (hk : X0 k) => ltl (hX0 k hk) hB16.size) nmx_nil).cell hx15)) rfl ?_
    refine gv_pureN 2 [16, 17] [(17, (.int .i64 (IntKind.i64.wrap (((x14).tmod 65536)))))] (by kernel_rfl) ?_
    refine gv_load (t := 76) (A := (elemAddr pa0_0 ((s3.2 : Int).toNat * 1))) (.int .u32 x17) [] (fun e => by cases e) rfl rfl rfl (by kernel_rfl) (by kernel_rfl) (by kernel_rfl) (inw1 fun w' hC' => ((hC'.rd (hpa0_0.below hB16 hX0) (fun k (hk : X0 k) => ltl (hX0 k hk) hB16.size) nmx_nil).cell hx18)) rfl ?_
    refine gv_pureN 2 [22, 23] [(23, (.int .i64 (IntKind.i64.wrap ((IntKind.u32.wrap ((x17).tdiv 65536))))))] (by kernel_rfl) ?_
    refine gv_nil <| gv_goA ?_
    refine gv_stage (fun _ => True) [0, 1, 2, 3, 4, 5, 6, 7, 8, 9, 10, 11, 12, 13] [(13, some false)] (bA 16 [0, 1, 2, 3, 4, 5, 6, 7, 8, 9, 10, 11, 12, 13]) 2 (by kernel_rfl) (by kernel_rfl) trivial ?_
    refine gv_new (fun b => .slice (some ⟨b, 0, none⟩) 2 2) #[(.int .i64 (IntKind.i64.wrap (((x14).tmod 65536)))), (.int .i64 (IntKind.i64.wrap ((IntKind.u32.wrap ((x17).tdiv 65536)))))] 3 (by decide) rfl rfl (by kernel_rfl) (by kernel_rfl) ?_
    intro b20 w21 hg22 hb23 hbe24 hz25
    refine ⟨(fun _ => trivial), ?_⟩
    have ho26 : Gv.Own (iE .i64) 3 w21 (fun _ => False) (some ⟨b20, 0, none⟩) 2 ([(IntKind.i64.wrap (((x14).tmod 65536))), (IntKind.i64.wrap ((IntKind.u32.wrap ((x17).tdiv 65536))))] : List Int) := Box.ownE hb23 ⟨[(.int .i64 (IntKind.i64.wrap (((x14).tmod 65536))))], [(.int .i64 (IntKind.i64.wrap ((IntKind.u32.wrap ((x17).tdiv 65536)))))], rfl, rfl, ⟨[(.int .i64 (IntKind.i64.wrap ((IntKind.u32.wrap ((x17).tdiv 65536)))))], [], rfl, rfl, rfl⟩⟩ (show 2 ≤ maxLen by decide) (fun h => h)
    have hl27 : ∀ g, blk (some ⟨b20, 0, none⟩) = some g → w0.heap.size ≤ g := loo hbe24 hB16.size
    refine gv_nil <| gv_goA ?_
    refine gv_stage (fun _ => True) [0, 1, 2, 3, 4, 5, 6, 7, 8, 9, 10, 11, 12, 13, 14] [(14, some false)] (bA 16 [0, 1, 2, 3, 4, 5, 6, 7, 8, 9, 10, 11, 12, 13, 14]) 1 (by kernel_rfl) (by kernel_rfl) trivial ?_
    refine bindE h2 ?_; clear h2; intro l31 hx32 h2
    have hg39 := (grown_trans hg13 hg22)
    have hk40 := ho9.grown hg39 (fun _ h => h.elim) nb
    refine gv_append (iE .i64) (t := 71) (ty := 71) (e := 3) (a := a7) (ax := (some ⟨b20, 0, none⟩)) (cap := c8) (cx := 2) (xs := s3.1) (ys := ([(IntKind.i64.wrap (((x14).tmod 65536))), (IntKind.i64.wrap ((IntKind.u32.wrap ((x17).tdiv 65536))))] : List Int)) l31 (X := (fun _ => False)) (Y := (fun k => blk (some ⟨b20, 0, none⟩) = some k)) (by decide) rfl rfl (by kernel_rfl) (by kernel_rfl) Tryz.underlying71 info3 hk40 (ho26.rd (Y := fun k => blk (some ⟨b20, 0, none⟩) = some k) (fun _ h => h.elim) (fun g e => e)) hx32 (.inr fun _ _ _ _ _ h => h) (fun _ h => h.elim) ?_
    intro a33 c34 w35 hg36 ho37 hk38
    refine ⟨(fun _ => trivial), ?_⟩
    have hB42 := bg hB16 hg22 nb
    have hl41 : ∀ g, blk a33 = some g → w0.heap.size ≤ g := blk_step hk38 hl10 hB42.size
    have hk44 := ho9.grown hg13 (fun _ h => h.elim) nb
    have ap45 : ∀ g, blk a7 = some g → ¬ (fun k => blk (some ⟨b20, 0, none⟩) = some k) g := fun g e hx => nl ((lowo hbe24) _ hx) ((fun k (hk : blk a7 = some k) => hk44.lt k hk) g e)
    have ap43 : ∀ g, blk a33 = some g → ¬ (fun k => blk (some ⟨b20, 0, none⟩) = some k) g := blk_neX hk38 ap45 (fun k (hk : blk (some ⟨b20, 0, none⟩) = some k) => ho26.lt k hk)
    have ap47 : ∀ g, blk (some ⟨b20, 0, none⟩) = some g → ¬ (fun k => blk a7 = some k) g := fun g e hx => nl ((lowo hbe24) g e) ((fun k (hk : blk a7 = some k) => hk44.lt k hk) _ hx)
    have ap46 : ∀ g, blk (some ⟨b20, 0, none⟩) = some g → ¬ (fun k => blk a33 = some k) g := fun g e h => blk_rev hk38 (fun h => ((ap47) g e) h) (ho26.lt g e) h
    refine gv_nil <| gv_goA ?_
    refine gv_pre [15] (bA 16 [0, 1, 2, 3, 4, 5, 6, 7, 8, 9, 10, 11, 12, 13, 14, 15]) 0 (by kernel_rfl) (by kernel_rfl) ?_
    refine gv_pureN 1 [3] [(3, (.slice a33 (List.length l31) c34))] (by kernel_rfl) ?_
    refine gv_nil <| gv_goA ?_
    refine gv_stageE (by kernel_rfl) ?_
    refine gv_blk <| gv_region <| gv_pureN 3 [4, 9, 10] [(4, (.int .i64 (IntKind.i64.wrap (s3.2 + 1))))] (by kernel_rfl) ?_
    refine gv_nil ?_
    have e := sj h2; subst e
    refine gv_goal fun a hd hs hok => ?_
    have hB48 := bg hB42 hg36 hl10
    have hz49 := (nt (nt (nt hz6 hg13.size) hg22.size) hg36.size)
    exact ⟨(l31, (IntKind.i64.wrap (s3.2 + 1))), rfl, a33, c34, hB48, hz49, ho37, hl41, hd, hs, ok_pick [0, 3, 4] hok (by kernel_rfl)⟩
   ·replace h2 := ite_f hc11 h2
    refine gv_cexit <| gv_exit rfl ?_
    have e := sj h2; subst e
    replace h1 := congrArg some (hR2 _ rfl)
    have e := sj h1; subst e
    refine gv_goal fun a hd hs hok => ?_
    have hz50 := hz6
    exact ⟨a7, c8, hB5, hz50, ho9, hl10, hd, hs, ok_pick [3] hok (by kernel_rfl)⟩
 ·rintro a w2 ⟨a53, c54, hB51, hz52, ho55, hl56, hd, hs, hok⟩
  refine gv_in ?_ hd hs hok
  clear hd hs hok
  refine gv_seq <| gv_region <| gv_pureN 1 [26] [(26, (.slice a53 (List.length j1) c54))] (by kernel_rfl) ?_
  refine bindE h0 ?_; clear h0; intro r57 hr58 h0
  refine gv_call0 (by kernel_rfl) rfl (by kernel_rfl) enters76 (ref3_trim_ok fuel a53 c54 j1 w2 (fun k => (fun k => blk a53 = some k) k) (fun k hk => (fun k (hk : blk a53 = some k) => ho55.lt k hk) k hk) ((ho55.rd (Y := fun k => blk a53 = some k) (fun _ h => h.elim) (fun g e => e)).wide (fun k hk => hk)) r57 hr58) ?_
  rintro v61 w59 ⟨hg60, a62, c63, X65, rfl, ho64, hx66⟩
  have hx67 : ∀ k, X65 k → k < w59.heap.size := fun k hk => (hx66 k hk).1
  have hx68 : ∀ k, X65 k → X0 k ∨ w0.heap.size ≤ k := fun k hk => (hx66 k hk).2.elim (fun h => (fun k (hk : blk a53 = some k) => Or.inr (hl56 k hk)) k h) (fun h => .inr (Nat.le_trans hB51.size h))
  refine gv_pureN 1 [2] [(2, (.slice a62 (List.length r57) c63))] (by kernel_rfl) ?_
  refine gv_nil <| gv_cret ?_
  have e := sj h0; subst e
  refine gv_ret (gv_done [(.slice a62 (List.length r57) c63)] rfl ⟨(by kernel_rfl), trivial⟩ ?_)
  have hB69 := bg hB51 hg60 nb
  exact ⟨grown_of_below hB69, a62, c63, X65, rfl, ho64, (fun k hk => ⟨hx67 k hk, hx68 k hk⟩)⟩

theorem ref3_IntOf_ok (fuel : Nat) (pa0_0 : Option Addr) (pc0_0 : Nat) (a_0 : (Bool × (List Int))) (w0 : World) (X0 : Nat → Prop) (hX0 : ∀ k, X0 k → k < w0.heap.size) (hpa0_0 : Rd (iE .u32) w0 X0 pa0_0 pc0_0 a_0.2) (r0 : (Bool × (List Int))) (h0 : ref3_IntOf fuel a_0 = some r0) :
    Calls Tryz.prog 37 ([(.agg #[(.bool a_0.1), (.slice pa0_0 (List.length a_0.2) pc0_0)])] : List Value).toArray w0 (Ret fun v w' => w0.grownBy w' none ∧ ∃ (a0_0r : Option Addr) (c0_0r : Nat), ∃ (X0_0r : Nat → Prop), v = tup [(.agg #[(.bool r0.1), (.slice a0_0r (List.length r0.2) c0_0r)])] ∧ Rd (iE .i64) w' X0_0r a0_0r c0_0r r0.2 ∧ (∀ k, X0_0r k → k < w'.heap.size ∧ (X0 k ∨ w0.heap.size ≤ k))) := by
 have hB0 : Below w0.heap.size w0 w0 := Below.refl _ _
 unfold ref3_IntOf at h0
 refine calls_run Tryz.func37 rfl Tryz.ntmps37 (by kernel_rfl) ?_
 refine gv_sub [0] (σ' := [(0, (.agg #[(.bool a_0.1), (.slice pa0_0 (List.length a_0.2) pc0_0)]))]) (by kernel_rfl) ?_
 refine gv_seq <| gv_region <| gv_new0 (fun b => .pointer (some ⟨b, 0, none⟩)) #[(.bool a_0.1), (.slice pa0_0 (List.length a_0.2) pc0_0)] 25 (by kernel_rfl) (by kernel_rfl) ?_
 intro b1 w2 hg3 hb4 hbe5 hz6
 refine gv_new0 (fun b => .pointer (some ⟨b, 0, none⟩)) #[(.bool false), (.slice none (List.length ([] : List Int)) 0)] 73 (by kernel_rfl) (by kernel_rfl) ?_
 intro b7 w8 hg9 hb10 hbe11 hz12
 refine gv_nil <| gv_seq <| gv_drawA (by kernel_rfl) ?_
 intro w13 hg14
 refine gv_pre [0, 2] (bA 7 [0, 2]) 5 (by kernel_rfl) (by kernel_rfl) ?_
 refine gv_pureN 2 [3, 5] [(3, (bp b1)), (5, (.pointer (some ⟨b1, 1, none⟩)))] (by kernel_rfl) ?_
 refine gv_nil <| gv_goA ?_
 refine gv_stage (Cls w13 []) [0, 1, 2, 3, 4] [(1, some true), (3, some true), (4, some false)] (bA 7 [0, 1, 2, 3, 4]) 2 (by kernel_rfl) (by kernel_rfl) (Cls.refl _ _) ?_
 have hC15 := Cls.refl w13 []
 have hg16 := (grown_trans hg9 hg14)
 have hk17 := hb4.grown hg16 nb
 refine gv_load (t := 4) (A := ⟨b1, 0, none⟩) (.bool a_0.1) [] (fun e => by cases e) rfl rfl rfl (by kernel_rfl) (by kernel_rfl) (by kernel_rfl) (inw1 fun w' hC' => ((hC'.box hk17 nm_nil).cell 0 rfl)) rfl ?_
 refine gv_load (t := 23) (A := ⟨b1, 1, none⟩) (.slice pa0_0 (List.length a_0.2) pc0_0) [] (fun e => by cases e) rfl rfl rfl (by kernel_rfl) (by kernel_rfl) (by kernel_rfl) (inw1 fun w' hC' => ((hC'.box hk17 nm_nil).cell 1 rfl)) rfl ?_
 refine bindE h0 ?_; clear h0; intro r18 hr19 h0
 have hg20 := (grown_trans hg3 hg16)
 have hB21 := bg hB0 hg20 nb
 refine gv_call (f := 57) (vs := [(.slice pa0_0 (List.length a_0.2) pc0_0)]) (cap := []) _ (by decide) rfl rfl rfl (by kernel_rfl) (by kernel_rfl) enters57 (ref3_Of_ok fuel pa0_0 pc0_0 a_0.2 w13 (fun k => X0 k) (fun k hk => (fun k (hk : X0 k) => ltl (hX0 k hk) hB21.size) k hk) ((hpa0_0.below hB21 hX0).wide (fun k hk => hk)) r18 hr19) ?_
 rintro v24 w22 ⟨hg23, a25, c26, X28, rfl, ho27, hx29⟩
 refine ⟨(fun _ => hC15.grown hg23 nb), ?_⟩
 have hx30 : ∀ k, X28 k → k < w22.heap.size := fun k hk => (hx29 k hk).1
 have hx31 : ∀ k, X28 k → X0 k ∨ w0.heap.size ≤ k := fun k hk => (hx29 k hk).2.elim (fun h => (fun k (hk : X0 k) => Or.inl hk) k h) (fun h => .inr (Nat.le_trans hB21.size h))
 refine gv_nil <| gv_goA ?_
 refine gv_pre [5] (bA 7 [0, 1, 2, 3, 4, 5]) 1 (by kernel_rfl) (by kernel_rfl) ?_
 refine gv_pureN 1 [8] [(8, (.agg #[(.bool a_0.1), (.slice a25 (List.length r18) c26)]))] (by kernel_rfl) ?_
 refine gv_nil <| gv_goA ?_
 refine gv_stage (fun _ => True) [0, 1, 2, 3, 4, 5, 6] [(6, some false)] (bA 7 [0, 1, 2, 3, 4, 5, 6]) 0 (by kernel_rfl) (by kernel_rfl) trivial ?_
 have hg36 := (grown_trans hg14 hg23)
 have hk37 := hb10.grown hg36 nb
 refine gv_store (t := 73) (b := b7) (off := 0) (v := (.agg #[(.bool a_0.1), (.slice a25 (List.length r18) c26)])) (t' := 73) (cs := #[(.bool false), (.slice none (List.length ([] : List Int)) 0)]) #[(.bool a_0.1), (.slice a25 (List.length r18) c26)] (by decide) rfl rfl (by kernel_rfl) (by kernel_rfl) (by kernel_rfl) (by intro u hu; simp [Value.cells] at hu; rcases hu with rfl | rfl <;> rfl) (show 0 + 2 ≤ 2 by decide) (by rfl) hk37 ?_
 intro w32 hg33 hb34 hz35
 refine ⟨(fun _ => trivial), ?_⟩
 refine gv_nil <| gv_goA ?_
 refine gv_stageE (by kernel_rfl) ?_
 refine gv_cret ?_
 have e := sj h0; subst e
 refine gv_ret (gv_done [(.agg #[(.bool a_0.1), (.slice a25 (List.length r18) c26)])] rfl ⟨⟨⟨b7, 0, none⟩, (by kernel_rfl), run_loadVar_row w32 b7 _ 73 _ _ _ hb34 Tryz.underlying73 rfl (by kernel_rfl)⟩, trivial⟩ ?_)
 have hB38 := bg hB21 hg23 nb
 have hB39 := bg hB0 hg3 nb
 have hlo40 : w0.heap.size ≤ b7 := lob hbe11 hB39.size
 have hB41 := bg hB38 hg33 (rowlo hlo40)
 have hk42 := hb10.grown hg14 nb
 have ap43 : ¬ X28 b7 := fun h => ((hx29 _ h).2.elim (fun h => ((fun (hx : X0 b7) => nl hlo40 (hX0 _ hx)))  h) (fun h => nl h (hk42.lt)))
 have hk44 := ho27.grown hg33 hx30 (rowne ap43)
 have hx45 := ltx hx30 hg33.size
 exact ⟨grown_of_below hB41, a25, c26, X28, rfl, hk44, (fun k hk => ⟨hx45 k hk, hx31 k hk⟩)⟩

theorem ref3_Binary_ok (fuel : Nat) (pa0_0 : Option Addr) (pc0_0 : Nat) (l_0 : (List Bool)) (w0 : World) (X0 : Nat → Prop) (hX0 : ∀ k, X0 k → k < w0.heap.size) (hpa0_0 : Rd tE w0 X0 pa0_0 pc0_0 l_0) (r0 : (List Int)) (h0 : ref3_Binary fuel l_0 = some r0) :
    Calls Tryz.prog 75 ([(.slice pa0_0 (List.length l_0) pc0_0)] : List Value).toArray w0 (Ret fun v w' => w0.grownBy w' none ∧ ∃ (a0_0r : Option Addr) (c0_0r : Nat), ∃ (X0_0r : Nat → Prop), v = tup [(.slice a0_0r (List.length r0) c0_0r)] ∧ Rd (iE .i64) w' X0_0r a0_0r c0_0r r0 ∧ (∀ k, X0_0r k → k < w'.heap.size ∧ (X0 k ∨ w0.heap.size ≤ k))) := by
 have hB0 : Below w0.heap.size w0 w0 := Below.refl _ _
 unfold ref3_Binary at h0
 refine calls_run Tryz.func75 rfl Tryz.ntmps75 (by kernel_rfl) ?_
 refine gv_sub [0] (σ' := [(0, (.slice pa0_0 (List.length l_0) pc0_0))]) (by kernel_rfl) ?_
 refine gv_seq <| gv_region <| gv_pureN 1 [2] [] (by kernel_rfl) ?_
 refine gv_nil <| gv_seq <| gv_region <| gv_pureN 1 [3] [(3, (.slice none (List.length ([] : List Int)) 0))] (by kernel_rfl) ?_
 refine gv_nil <| gv_seq <| gv_seq <| gv_region <| gv_pureN 1 [4] [(4, (.int .i64 0))] (by kernel_rfl) ?_
 refine gv_nil <| bindE h0 ?_; clear h0; intro j1 h1 h0
 refine gv_cut_code (J := fun a w2 => ∃ (a3_0j : Option Addr) (c3_0j : Nat), Below w0.heap.size w0 w2 ∧ w0.heap.size ≤ w2.heap.size ∧ Gv.Own (iE .i64) 3 w2 (fun _ => False) a3_0j c3_0j j1 ∧ (∀ g, blk a3_0j = some g → w0.heap.size ≤ g) ∧ a.defers = [] ∧ a.tmps.size = 41 ∧ Ok [(3, (.slice a3_0j (List.length j1) c3_0j))] a.tmps) ?_ ?_
 ·skip
  refine gv_block <| gv_loop (A := fun (s3 : ((List Int) × Int)) a w4 => ∃ (a3_0j : Option Addr) (c3_0j : Nat), Below w0.heap.size w0 w4 ∧ w0.heap.size ≤ w4.heap.size ∧ Gv.Own (iE .i64) 3 w4 (fun _ => False) a3_0j c3_0j s3.1 ∧ (∀ g, blk a3_0j = some g → w0.heap.size ≤ g) ∧ a.defers = [] ∧ a.tmps.size = 41 ∧ Ok [(0, (.slice pa0_0 (List.length l_0) pc0_0)), (3, (.slice a3_0j (List.length s3.1) c3_0j)), (4, (.int .i64 s3.2))] a.tmps) h1 ?_ ?_
  ·intro a hd hs hok
   exact ⟨none, 0, hB0, (Nat.le_refl _), (Gv.Own.nil (iE .i64) 3 w0 (fun _ => False)), (fun _ h => by cases h), hd, hs, ok_pick [0, 3, 4] hok (by kernel_rfl)⟩
  ·rintro s3 r2 h2 hR2 a w4 ⟨a7, c8, hB5, hz6, ho9, hl10, hd, hs, hok⟩
   refine gv_in ?_ hd hs hok
   clear hd hs hok
   refine gv_seq <| gv_seq <| gv_region <| gv_pureN 4 [7, 8, 9, 10] [(10, (.bool (decide (s3.2 < ((List.length l_0 : Nat) : Int)))))] (by kernel_rfl) ?_
   refine gv_nil <| gv_cond (b := (decide (s3.2 < ((List.length l_0 : Nat) : Int)))) (by kernel_rfl) (fun hc11 => ?_) (fun hc11 => ?_)
   ·replace h2 := ite_t hc11 h2
    refine gv_skip <| gv_seq <| gv_block <| gv_seq <| gv_region <| gv_pureN 1 [5] [(5, (.int .i64 0))] (by kernel_rfl) ?_
    refine gv_nil <| gv_seq <| gv_seq <| gv_region <| gv_pureN 1 [6] [(6, (.int .i64 15))] (by kernel_rfl) ?_
    refine gv_nil <| bindE h2 ?_; clear h2; intro j12 h3 h2
    refine gv_cut_code (J := fun a w13 => Below w0.heap.size w0 w13 ∧ w4.heap.size ≤ w13.heap.size ∧ Gv.Own (iE .i64) 3 w13 (fun _ => False) a7 c8 s3.1 ∧ a.defers = [] ∧ a.tmps.size = 41 ∧ Ok [(0, (.slice pa0_0 (List.length l_0) pc0_0)), (3, (.slice a7 (List.length s3.1) c8)), (4, (.int .i64 s3.2)), (5, (.int .i64 j12))] a.tmps) ?_ ?_
    ·skip
     refine gv_block <| gv_loop (A := fun (s14 : (Int × Int)) a w15 => Below w0.heap.size w0 w15 ∧ w4.heap.size ≤ w15.heap.size ∧ Gv.Own (iE .i64) 3 w15 (fun _ => False) a7 c8 s3.1 ∧ a.defers = [] ∧ a.tmps.size = 41 ∧ Ok [(0, (.slice pa0_0 (List.length l_0) pc0_0)), (3, (.slice a7 (List.length s3.1) c8)), (4, (.int .i64 s3.2)), (5, (.int .i64 s14.1)), (6, (.int .i64 s14.2))] a.tmps) h3 ?_ ?_
     ·intro a hd hs hok
      exact ⟨hB5, (Nat.le_refl _), ho9, hd, hs, ok_pick [0, 3, 4, 5, 6] hok (by kernel_rfl)⟩
     ·rintro s14 r4 h4 hR4 a w15 ⟨hB16, hz17, hk18, hd, hs, hok⟩
      refine gv_in ?_ hd hs hok
      clear hd hs hok
      refine gv_seq <| gv_seq <| gv_region <| gv_pureN 2 [13, 14] [(14, (.bool (decide (s14.2 ≥ 0))))] (by kernel_rfl) ?_
      refine gv_nil <| gv_cond (b := (decide (s14.2 ≥ 0))) (by kernel_rfl) (fun hc19 => ?_) (fun hc19 => ?_)
      ·replace h4 := ite_t hc19 h4
       refine gv_skip <| gv_seq <| gv_block <| gv_seq <| gv_region <| gv_pureN 3 [5, 17, 18] [(5, (.int .i64 (IntKind.i64.wrap (s14.1 * 2))))] (by kernel_rfl) ?_
       refine gv_nil <| gv_seq <| gv_region <| bindE h4 ?_; clear h4; intro j20 h5 h4
       refine gv_cut_ops (J := fun a w21 => Below w0.heap.size w0 w21 ∧ w15.heap.size ≤ w21.heap.size ∧ Gv.Own (iE .i64) 3 w21 (fun _ => False) a7 c8 s3.1 ∧ a.defers = [] ∧ a.tmps.size = 41 ∧ Ok [(0, (.slice pa0_0 (List.length l_0) pc0_0)), (3, (.slice a7 (List.length s3.1) c8)), (4, (.int .i64 s3.2)), (5, (.int .i64 (IntKind.i64.wrap (s14.1 * 2)))), (6, (.int .i64 s14.2)), (32, (.bool j20))] a.tmps) ?_ ?_
       ·skip
        refine gv_pureN 7 [19, 20, 21, 22, 23, 24, 25] [(25, (.bool (decide ((IntKind.i64.wrap (s3.2 + s14.2)) < ((List.length l_0 : Nat) : Int)))))] (by kernel_rfl) ?_
        refine gv_split (s := 25) (g := (decide ((IntKind.i64.wrap (s3.2 + s14.2)) < ((List.length l_0 : Nat) : Int)))) (by kernel_rfl) (fun hc22 => ?_) (fun hc22 => ?_)
        ·skip
         replace h5 := ite_t hc22 h5
         refine gv_pureN 4 [26, 27, 28, 29] [(26, (.slice pa0_0 (List.length l_0) pc0_0)), (29, (.int .i64 (IntKind.i64.wrap (s3.2 + s14.2))))] (by kernel_rfl) ?_
         refine bindE h5 ?_; clear h5; intro x23 hx24 h5
         refine gv_idxaddr (t := 68) (e := 4) (a := pa0_0) (len := List.length l_0) (cap := pc0_0) (kk := .i64) (i := (IntKind.i64.wrap (s3.2 + s14.2))) (sz := 1) [] (fun e => by cases e) rfl rfl rfl (by kernel_rfl) (by kernel_rfl) Tryz.underlying68 (by kernel_rfl) ((hpa0_0.below hB16 hX0).has hx24) (idx_spec hx24).1 (idx_spec hx24).2.1 rfl ?_
         refine gv_load (t := 4) (A := (elemAddr pa0_0 (((IntKind.i64.wrap (s3.2 + s14.2)) : Int).toNat * 1))) (.bool x23) [] (fun e => by cases e) rfl rfl rfl (by kernel_rfl) (by kernel_rfl) (by kernel_rfl) (inw0 ((hpa0_0.below hB16 hX0).cell hx24)) rfl ?_
         refine gv_pureN 1 [32] [(32, (.bool x23))] (by kernel_rfl) ?_
         refine gv_nil ?_
         have e := sj h5; subst e
         refine gv_goal fun a hd hs hok => ?_
         exact ⟨hB16, (Nat.le_refl _), hk18, hd, hs, ok_pick [0, 3, 4, 5, 6, 32] hok (by kernel_rfl)⟩
        ·skip
         replace h5 := ite_f hc22 h5
         refine gv_pureN 7 [26, 27, 28, 29, 30, 31, 32] [(32, (.bool false))] (by kernel_rfl) ?_
         refine gv_nil ?_
         have e := sj h5; subst e
         refine gv_goal fun a hd hs hok => ?_
         exact ⟨hB16, (Nat.le_refl _), hk18, hd, hs, ok_pick [0, 3, 4, 5, 6, 32] hok (by kernel_rfl)⟩
       ·rintro a w21 ⟨hB25, hz26, hk27, hd, hs, hok⟩
        refine gv_in ?_ hd hs hok
        clear hd hs hok
        have hz28 := (nt hz17 hz26)
        clear hz26 hc19 hk18 hz17 hB16 hc11 ho9 hB5
        refine bindE h4 ?_; clear h4; intro j29 h5 h4
        refine gv_cut_code (J := fun a w30 => Below w0.heap.size w0 w30 ∧ w21.heap.size ≤ w30.heap.size ∧ Gv.Own (iE .i64) 3 w30 (fun _ => False) a7 c8 s3.1 ∧ a.defers = [] ∧ a.tmps.size = 41 ∧ Ok [(0, (.slice pa0_0 (List.length l_0) pc0_0)), (3, (.slice a7 (List.length s3.1) c8)), (4, (.int .i64 s3.2)), (5, (.int .i64 j29)), (6, (.int .i64 s14.2))] a.tmps) ?_ ?_
        ·skip
         refine gv_cond (b := j20) (by kernel_rfl) (fun hc31 => ?_) (fun hc31 => ?_)
         ·replace h5 := ite_t hc31 h5
          refine gv_region <| gv_pureN 3 [5, 33, 34] [(5, (.int .i64 (IntKind.i64.wrap ((IntKind.i64.wrap (s14.1 * 2)) + 1))))] (by kernel_rfl) ?_
          refine bindE h5 ?_; clear h5; intro n32 hn33 h5
          refine gv_name (s := 5) (v := (.int .i64 (IntKind.i64.wrap ((IntKind.i64.wrap (s14.1 * 2)) + 1)))) (v' := (.int .i64 n32)) (by kernel_rfl) (congrArg (Value.int .i64) (sj hn33)) ?_
          refine gv_nil ?_
          have e := sj h5; subst e
          refine gv_goal fun a hd hs hok => ?_
          exact ⟨hB25, (Nat.le_refl _), hk27, hd, hs, ok_pick [0, 3, 4, 5, 6] hok (by kernel_rfl)⟩
         ·replace h5 := ite_f hc31 h5
          refine gv_skip ?_
          have e := sj h5; subst e
          refine gv_goal fun a hd hs hok => ?_
          exact ⟨hB25, (Nat.le_refl _), hk27, hd, hs, ok_pick [0, 3, 4, 5, 6] hok (by kernel_rfl)⟩
        ·rintro a w30 ⟨hB34, hz35, hk36, hd, hs, hok⟩
         refine gv_in ?_ hd hs hok
         clear hd hs hok
         have hz37 := (nt hz28 hz35)
         clear hz35 hz28 hk27 hB25
         refine gv_blk <| gv_region <| gv_pureN 3 [6, 15, 16] [(6, (.int .i64 (IntKind.i64.wrap (s14.2 - 1))))] (by kernel_rfl) ?_
         refine gv_nil ?_
         have e := sj h4; subst e
         refine gv_goal fun a hd hs hok => ?_
         have hz38 := hz37
         exact ⟨(j29, (IntKind.i64.wrap (s14.2 - 1))), rfl, hB34, hz38, hk36, hd, hs, ok_pick [0, 3, 4, 5, 6] hok (by kernel_rfl)⟩
      ·replace h4 := ite_f hc19 h4
       refine gv_cexit <| gv_exit rfl ?_
       have e := sj h4; subst e
       replace h3 := congrArg some (hR4 _ rfl)
       have e := sj h3; subst e
       refine gv_goal fun a hd hs hok => ?_
       have hz39 := hz17
       exact ⟨hB16, hz39, hk18, hd, hs, ok_pick [0, 3, 4, 5] hok (by kernel_rfl)⟩
    ·rintro a w13 ⟨hB40, hz41, hk42, hd, hs, hok⟩
     refine gv_in ?_ hd hs hok
     clear hd hs hok
     have hz43 := (nt hz6 hz41)
     clear hz41 hc11 ho9 hz6 hB5
     refine gv_region <| gv_pureN 2 [35, 36] [(35, (.slice a7 (List.length s3.1) c8)), (36, (.int .i64 j12))] (by kernel_rfl) ?_
     refine gv_new0 (fun b => .slice (some ⟨b, 0, none⟩) 1 1) #[(.int .i64 j12)] 3 (by kernel_rfl) (by kernel_rfl) ?_
     intro b44 w45 hg46 hb47 hbe48 hz49
     have ho50 : Gv.Own (iE .i64) 3 w45 (fun _ => False) (some ⟨b44, 0, none⟩) 1 ([j12] : List Int) := Box.ownE hb47 ⟨[(.int .i64 j12)], [], rfl, rfl, rfl⟩ (show 1 ≤ maxLen by decide) (fun h => h)
     have hl51 : ∀ g, blk (some ⟨b44, 0, none⟩) = some g → w0.heap.size ≤ g := loo hbe48 hB40.size
     refine bindE h2 ?_; clear h2; intro l55 hx56 h2
     have hk63 := hk42.grown hg46 (fun _ h => h.elim) nb
     refine gv_append (iE .i64) (t := 71) (ty := 71) (e := 3) (a := a7) (ax := (some ⟨b44, 0, none⟩)) (cap := c8) (cx := 1) (xs := s3.1) (ys := ([j12] : List Int)) l55 (X := (fun _ => False)) (Y := (fun k => blk (some ⟨b44, 0, none⟩) = some k)) (by decide) rfl rfl (by kernel_rfl) (by kernel_rfl) Tryz.underlying71 info3 hk63 (ho50.rd (Y := fun k => blk (some ⟨b44, 0, none⟩) = some k) (fun _ h => h.elim) (fun g e => e)) hx56 (.inr fun _ _ _ _ _ h => h) (fun _ h => h.elim) ?_
     intro a57 c58 w59 hg60 ho61 hk62
     refine ⟨(fun e => by cases e), ?_⟩
     have hB65 := bg hB40 hg46 nb
     have hl64 : ∀ g, blk a57 = some g → w0.heap.size ≤ g := blk_step hk62 hl10 hB65.size
     have ap67 : ∀ g, blk a7 = some g → ¬ (fun k => blk (some ⟨b44, 0, none⟩) = some k) g := fun g e hx => nl ((lowo hbe48) _ hx) ((fun k (hk : blk a7 = some k) => hk42.lt k hk) g e)
     have ap66 : ∀ g, blk a57 = some g → ¬ (fun k => blk (some ⟨b44, 0, none⟩) = some k) g := blk_neX hk62 ap67 (fun k (hk : blk (some ⟨b44, 0, none⟩) = some k) => ho50.lt k hk)
     have ap69 : ∀ g, blk (some ⟨b44, 0, none⟩) = some g → ¬ (fun k => blk a7 = some k) g := fun g e hx => nl ((lowo hbe48) g e) ((fun k (hk : blk a7 = some k) => hk42.lt k hk) _ hx)
     have ap68 : ∀ g, blk (some ⟨b44, 0, none⟩) = some g → ¬ (fun k => blk a57 = some k) g := fun g e h => blk_rev hk62 (fun h => ((ap69) g e) h) (ho50.lt g e) h
     refine gv_pureN 1 [3] [(3, (.slice a57 (List.length l55) c58))] (by kernel_rfl) ?_
     refine gv_nil <| gv_blk <| gv_region <| gv_pureN 3 [4, 11, 12] [(4, (.int .i64 (IntKind.i64.wrap (s3.2 + 16))))] (by kernel_rfl) ?_
     refine gv_nil ?_
     have e := sj h2; subst e
     refine gv_goal fun a hd hs hok => ?_
     have hB70 := bg hB65 hg60 hl10
     have hz71 := (nt (nt hz43 hg46.size) hg60.size)
     exact ⟨(l55, (IntKind.i64.wrap (s3.2 + 16))), rfl, a57, c58, hB70, hz71, ho61, hl64, hd, hs, ok_pick [0, 3, 4] hok (by kernel_rfl)⟩
   ·replace h2 := ite_f hc11 h2
    refine gv_cexit <| gv_exit rfl ?_
    have e := sj h2; subst e
    replace h1 := congrArg some (hR2 _ rfl)
    have e := sj h1; subst e
    refine gv_goal fun a hd hs hok => ?_
    have hz72 := hz6
    exact ⟨a7, c8, hB5, hz72, ho9, hl10, hd, hs, ok_pick [3] hok (by kernel_rfl)⟩
 ·rintro a w2 ⟨a75, c76, hB73, hz74, ho77, hl78, hd, hs, hok⟩
  refine gv_in ?_ hd hs hok
  clear hd hs hok
  refine gv_seq <| gv_region <| gv_pureN 1 [39] [(39, (.slice a75 (List.length j1) c76))] (by kernel_rfl) ?_
  refine bindE h0 ?_; clear h0; intro r79 hr80 h0
  refine gv_call0 (by kernel_rfl) rfl (by kernel_rfl) enters76 (ref3_trim_ok fuel a75 c76 j1 w2 (fun k => (fun k => blk a75 = some k) k) (fun k hk => (fun k (hk : blk a75 = some k) => ho77.lt k hk) k hk) ((ho77.rd (Y := fun k => blk a75 = some k) (fun _ h => h.elim) (fun g e => e)).wide (fun k hk => hk)) r79 hr80) ?_
  rintro v83 w81 ⟨hg82, a84, c85, X87, rfl, ho86, hx88⟩
  have hx89 : ∀ k, X87 k → k < w81.heap.size := fun k hk => (hx88 k hk).1
  have hx90 : ∀ k, X87 k → X0 k ∨ w0.heap.size ≤ k := fun k hk => (hx88 k hk).2.elim (fun h => (fun k (hk : blk a75 = some k) => Or.inr (hl78 k hk)) k h) (fun h => .inr (Nat.le_trans hB73.size h))
  refine gv_pureN 1 [2] [(2, (.slice a84 (List.length r79) c85))] (by kernel_rfl) ?_
  refine gv_nil <| gv_cret ?_
  have e := sj h0; subst e
  refine gv_ret (gv_done [(.slice a84 (List.length r79) c85)] rfl ⟨(by kernel_rfl), trivial⟩ ?_)
  have hB91 := bg hB73 hg82 nb
  exact ⟨grown_of_below hB91, a84, c85, X87, rfl, ho86, (fun k hk => ⟨hx89 k hk, hx90 k hk⟩)⟩

theorem ref3_Number_ok (fuel : Nat) (n_0 : Int) (w0 : World)  (r0 : (Bool × (List Int))) (h0 : ref3_Number fuel n_0 = some r0) :
    Calls Tryz.prog 56 ([(.int .i64 n_0)] : List Value).toArray w0 (Ret fun v w' => w0.grownBy w' none ∧ ∃ (a0_0r : Option Addr) (c0_0r : Nat), ∃ (X0_0r : Nat → Prop), v = tup [(.agg #[(.bool r0.1), (.slice a0_0r (List.length r0.2) c0_0r)])] ∧ Rd (iE .i64) w' X0_0r a0_0r c0_0r r0.2 ∧ (∀ k, X0_0r k → k < w'.heap.size ∧ ((fun _ => False) k ∨ w0.heap.size ≤ k))) := by
 have hB0 : Below w0.heap.size w0 w0 := Below.refl _ _
 unfold ref3_Number at h0
 refine calls_run Tryz.func56 rfl Tryz.ntmps56 (by kernel_rfl) ?_
 refine gv_sub [0] (σ' := [(0, (.int .i64 n_0))]) (by kernel_rfl) ?_
 refine gv_seq <| gv_region <| gv_new0 (fun b => .pointer (some ⟨b, 0, none⟩)) #[(.bool false), (.slice none (List.length ([] : List Int)) 0)] 73 (by kernel_rfl) (by kernel_rfl) ?_
 intro b1 w2 hg3 hb4 hbe5 hz6
 refine gv_nil <| gv_seq <| gv_region <| gv_pureN 1 [3] [(3, (.slice none (List.length ([] : List Bool)) 0))] (by kernel_rfl) ?_
 refine gv_nil <| gv_seq <| gv_region <| gv_pureN 3 [4, 5, 6] [(4, (.bool (decide (n_0 < 0))))] (by kernel_rfl) ?_
 refine gv_nil <| gv_seq <| bindE h0 ?_; clear h0; intro j7 h1 h0
 refine gv_cut_code (J := fun a w8 => ∃ (a3_0j : Option Addr) (c3_0j : Nat), Below w0.heap.size w0 w8 ∧ w2.heap.size ≤ w8.heap.size ∧ Gv.Own tE 4 w8 (fun _ => False) a3_0j c3_0j j7 ∧ (∀ g, blk a3_0j = some g → w0.heap.size ≤ g) ∧ (∀ g, blk a3_0j = some g → ¬ (· = b1) g) ∧ ¬ (fun k => blk a3_0j = some k) b1 ∧ Box w8 b1 73 #[(.bool false), (.slice none (List.length ([] : List Int)) 0)] ∧ a.defers = [] ∧ a.tmps.size = 21 ∧ Ok [(2, (bp b1)), (3, (.slice a3_0j (List.length j7) c3_0j)), (4, (.bool (decide (n_0 < 0))))] a.tmps) ?_ ?_
 ·skip
  refine gv_block <| gv_loop (A := fun (s9 : (Int × (List Bool))) a w10 => ∃ (a3_0j : Option Addr) (c3_0j : Nat), Below w0.heap.size w0 w10 ∧ w2.heap.size ≤ w10.heap.size ∧ Gv.Own tE 4 w10 (fun _ => False) a3_0j c3_0j s9.2 ∧ (∀ g, blk a3_0j = some g → w0.heap.size ≤ g) ∧ (∀ g, blk a3_0j = some g → ¬ (· = b1) g) ∧ ¬ (fun k => blk a3_0j = some k) b1 ∧ Box w10 b1 73 #[(.bool false), (.slice none (List.length ([] : List Int)) 0)] ∧ a.defers = [] ∧ a.tmps.size = 21 ∧ Ok [(0, (.int .i64 s9.1)), (2, (bp b1)), (3, (.slice a3_0j (List.length s9.2) c3_0j)), (4, (.bool (decide (n_0 < 0))))] a.tmps) h1 ?_ ?_
  ·intro a hd hs hok
   have hB11 := bg hB0 hg3 nb
   exact ⟨none, 0, hB11, (Nat.le_refl _), (Gv.Own.nil tE 4 w2 (fun _ => False)), (fun _ h => by cases h), (fun _ h => by cases h), (fun h => by cases h), hb4, hd, hs, ok_pick [0, 2, 3, 4] hok (by kernel_rfl)⟩
  ·rintro s9 r2 h2 hR2 a w10 ⟨a14, c15, hB12, hz13, ho16, hl17, ap18, ap19, hb20, hd, hs, hok⟩
   refine gv_in ?_ hd hs hok
   clear hd hs hok
   refine gv_seq <| gv_seq <| gv_region <| gv_pureN 2 [7, 8] [(8, (.bool (s9.1 != 0)))] (by kernel_rfl) ?_
   refine gv_nil <| gv_cond (b := (s9.1 != 0)) (by kernel_rfl) (fun hc21 => ?_) (fun hc21 => ?_)
   ·replace h2 := ite_t hc21 h2
    refine gv_skip <| gv_block <| gv_seq <| gv_region <| gv_pureN 4 [9, 10, 11, 12] [(9, (.slice a14 (List.length s9.2) c15)), (12, (.bool (((s9.1).tmod 2) != 0)))] (by kernel_rfl) ?_
    refine gv_new0 (fun b => .slice (some ⟨b, 0, none⟩) 1 1) #[(.bool (((s9.1).tmod 2) != 0))] 4 (by kernel_rfl) (by kernel_rfl) ?_
    intro b22 w23 hg24 hb25 hbe26 hz27
    have ho28 : Gv.Own tE 4 w23 (fun _ => False) (some ⟨b22, 0, none⟩) 1 ([(((s9.1).tmod 2) != 0)] : List Bool) := Box.ownE hb25 ⟨[(.bool (((s9.1).tmod 2) != 0))], [], rfl, rfl, rfl⟩ (show 1 ≤ maxLen by decide) (fun h => h)
    have hl29 : ∀ g, blk (some ⟨b22, 0, none⟩) = some g → w0.heap.size ≤ g := loo hbe26 hB12.size
    refine bindE h2 ?_; clear h2; intro l33 hx34 h2
    have hk41 := ho16.grown hg24 (fun _ h => h.elim) nb
    refine gv_append tE (t := 68) (ty := 68) (e := 4) (a := a14) (ax := (some ⟨b22, 0, none⟩)) (cap := c15) (cx := 1) (xs := s9.2) (ys := ([(((s9.1).tmod 2) != 0)] : List Bool)) l33 (X := (fun _ => False)) (Y := (fun k => blk (some ⟨b22, 0, none⟩) = some k)) (by decide) rfl rfl (by kernel_rfl) (by kernel_rfl) Tryz.underlying68 info4 hk41 (ho28.rd (Y := fun k => blk (some ⟨b22, 0, none⟩) = some k) (fun _ h => h.elim) (fun g e => e)) hx34 (.inr fun _ _ _ _ _ h => h) (fun _ h => h.elim) ?_
    intro a35 c36 w37 hg38 ho39 hk40
    refine ⟨(fun e => by cases e), ?_⟩
    have hB43 := bg hB12 hg24 nb
    have hl42 : ∀ g, blk a35 = some g → w0.heap.size ≤ g := blk_step hk40 hl17 hB43.size
    have hk45 := hb20.grown hg24 nb
    have ap44 : ∀ g, blk a35 = some g → ¬ (· = b1) g := blk_neX hk40 ap18 (ltb hk45)
    have ap46 : ¬ (fun k => blk a35 = some k) b1 := fun h => blk_rev hk40 (fun h => (ap19) h) (hk45.lt) h
    have ap48 : ∀ g, blk a14 = some g → ¬ (fun k => blk (some ⟨b22, 0, none⟩) = some k) g := fun g e hx => nl ((lowo hbe26) _ hx) ((fun k (hk : blk a14 = some k) => ho16.lt k hk) g e)
    have ap47 : ∀ g, blk a35 = some g → ¬ (fun k => blk (some ⟨b22, 0, none⟩) = some k) g := blk_neX hk40 ap48 (fun k (hk : blk (some ⟨b22, 0, none⟩) = some k) => ho28.lt k hk)
    have ap50 : ∀ g, blk (some ⟨b22, 0, none⟩) = some g → ¬ (fun k => blk a14 = some k) g := fun g e hx => nl ((lowo hbe26) g e) ((fun k (hk : blk a14 = some k) => ho16.lt k hk) _ hx)
    have ap49 : ∀ g, blk (some ⟨b22, 0, none⟩) = some g → ¬ (fun k => blk a35 = some k) g := fun g e h => blk_rev hk40 (fun h => ((ap50) g e) h) (ho28.lt g e) h
    refine gv_pureN 1 [3] [(3, (.slice a35 (List.length l33) c36))] (by kernel_rfl) ?_
    refine gv_nil <| gv_region <| gv_pureN 3 [0, 15, 16] [(0, (.int .i64 (IntKind.i64.wrap ((s9.1).tdiv 2))))] (by kernel_rfl) ?_
    refine gv_nil <| gv_blk ?_
    have e := sj h2; subst e
    refine gv_goal fun a hd hs hok => ?_
    have hB51 := bg hB43 hg38 hl17
    have hz52 := (nt (nt hz13 hg24.size) hg38.size)
    have hk53 := hk45.grown hg38 ap18
    exact ⟨((IntKind.i64.wrap ((s9.1).tdiv 2)), l33), rfl, a35, c36, hB51, hz52, ho39, hl42, ap44, ap46, hk53, hd, hs, ok_pick [0, 2, 3, 4] hok (by kernel_rfl)⟩
   ·replace h2 := ite_f hc21 h2
    refine gv_cexit <| gv_exit rfl ?_
    have e := sj h2; subst e
    replace h1 := congrArg some (hR2 _ rfl)
    have e := sj h1; subst e
    refine gv_goal fun a hd hs hok => ?_
    have hz54 := hz13
    exact ⟨a14, c15, hB12, hz54, ho16, hl17, ap18, ap19, hb20, hd, hs, ok_pick [2, 3, 4] hok (by kernel_rfl)⟩
 ·rintro a w8 ⟨a57, c58, hB55, hz56, ho59, hl60, ap61, ap62, hb63, hd, hs, hok⟩
  refine gv_in ?_ hd hs hok
  clear hd hs hok
  clear hz56 hz6 hb4 hg3
  refine gv_seq <| gv_region <| gv_pureN 2 [17, 18] [(17, (.bool (decide (n_0 < 0)))), (18, (.slice a57 (List.length j7) c58))] (by kernel_rfl) ?_
  refine bindE h0 ?_; clear h0; intro r64 hr65 h0
  refine gv_call0 (by kernel_rfl) rfl (by kernel_rfl) enters75 (ref3_Binary_ok fuel a57 c58 j7 w8 (fun k => (fun k => blk a57 = some k) k) (fun k hk => (fun k (hk : blk a57 = some k) => ho59.lt k hk) k hk) ((ho59.rd (Y := fun k => blk a57 = some k) (fun _ h => h.elim) (fun g e => e)).wide (fun k hk => hk)) r64 hr65) ?_
  rintro v68 w66 ⟨hg67, a69, c70, X72, rfl, ho71, hx73⟩
  have hx74 : ∀ k, X72 k → k < w66.heap.size := fun k hk => (hx73 k hk).1
  have hx75 : ∀ k, X72 k → (fun _ => False) k ∨ w0.heap.size ≤ k := fun k hk => (hx73 k hk).2.elim (fun h => (fun k (hk : blk a57 = some k) => Or.inr (hl60 k hk)) k h) (fun h => .inr (Nat.le_trans hB55.size h))
  refine gv_pureN 1 [20] [(20, (.agg #[(.bool (decide (n_0 < 0))), (.slice a69 (List.length r64) c70)]))] (by kernel_rfl) ?_
  have hk80 := hb63.grown hg67 nb
  refine gv_store0 73 0 (.agg #[(.bool (decide (n_0 < 0))), (.slice a69 (List.length r64) c70)]) #[(.bool (decide (n_0 < 0))), (.slice a69 (List.length r64) c70)] hk80 (by kernel_rfl) (by kernel_rfl) (by kernel_rfl) ?_
  intro w76 hg77 hb78 hz79
  refine gv_nil <| gv_cret ?_
  have e := sj h0; subst e
  refine gv_ret (gv_done [(.agg #[(.bool (decide (n_0 < 0))), (.slice a69 (List.length r64) c70)])] rfl ⟨⟨⟨b1, 0, none⟩, (by kernel_rfl), run_loadVar_row w76 b1 _ 73 _ _ _ hb78 Tryz.underlying73 rfl (by kernel_rfl)⟩, trivial⟩ ?_)
  have hB81 := bg hB55 hg67 nb
  have hlo82 : w0.heap.size ≤ b1 := lob hbe5 hB0.size
  have hB83 := bg hB81 hg77 (rowlo hlo82)
  have ap84 : ¬ X72 b1 := fun h => ((hx73 _ h).2.elim (fun h => (ap62)  h) (fun h => nl h (hb63.lt)))
  have hk85 := ho71.grown hg77 hx74 (rowne ap84)
  have hx86 := ltx hx74 hg77.size
  exact ⟨grown_of_below hB83, a69, c70, X72, rfl, hk85, (fun k hk => ⟨hx86 k hk, hx75 k hk⟩)⟩

theorem ref3_Compare_ok (fuel : Nat) (pa0_0 : Option Addr) (pc0_0 : Nat) (a_0 : (List Int)) (pa1_0 : Option Addr) (pc1_0 : Nat) (b_1 : (List Int)) (w0 : World) (X0 : Nat → Prop) (hX0 : ∀ k, X0 k → k < w0.heap.size) (hpa0_0 : Rd (iE .i64) w0 X0 pa0_0 pc0_0 a_0) (hpa1_0 : Rd (iE .i64) w0 X0 pa1_0 pc1_0 b_1) (r0 : Int) (h0 : ref3_Compare fuel a_0 b_1 = some r0) :
    Calls Tryz.prog 74 ([(.slice pa0_0 (List.length a_0) pc0_0), (.slice pa1_0 (List.length b_1) pc1_0)] : List Value).toArray w0 (Ret fun v w' => w0.grownBy w' none ∧ v = tup [(.int .i64 r0)]) := by
 have hB0 : Below w0.heap.size w0 w0 := Below.refl _ _
 unfold ref3_Compare at h0
 refine calls_run Tryz.func74 rfl Tryz.ntmps74 (by kernel_rfl) ?_
 refine gv_sub [0, 1] (σ' := [(0, (.slice pa0_0 (List.length a_0) pc0_0)), (1, (.slice pa1_0 (List.length b_1) pc1_0))]) (by kernel_rfl) ?_
 refine gv_seq <| gv_region <| gv_pureN 1 [4] [] (by kernel_rfl) ?_
 refine gv_nil <| gv_seq <| gv_seq <| gv_region <| gv_pureN 5 [6, 7, 8, 9, 10] [(10, (.bool (((List.length a_0 : Nat) : Int) != ((List.length b_1 : Nat) : Int))))] (by kernel_rfl) ?_
 refine gv_nil <| gv_cond (b := (((List.length a_0 : Nat) : Int) != ((List.length b_1 : Nat) : Int))) (by kernel_rfl) (fun hc1 => ?_) (fun hc1 => ?_)
 ·replace h0 := ite_t hc1 h0
  refine gv_seq <| gv_seq <| gv_region <| gv_pureN 5 [11, 12, 13, 14, 15] [(15, (.bool (decide (((List.length a_0 : Nat) : Int) < ((List.length b_1 : Nat) : Int)))))] (by kernel_rfl) ?_
  refine gv_nil <| gv_cond (b := (decide (((List.length a_0 : Nat) : Int) < ((List.length b_1 : Nat) : Int)))) (by kernel_rfl) (fun hc2 => ?_) (fun hc2 => ?_)
  ·replace h0 := ite_t hc2 h0
   refine gv_seq <| gv_region <| gv_pureN 1 [4] [(4, (.int .i64 (-1)))] (by kernel_rfl) ?_
   refine gv_nil <| gv_cret ?_
   have e := sj h0; subst e
   refine gv_ret (gv_done [(.int .i64 (-1))] rfl ⟨(by kernel_rfl), trivial⟩ ?_)
   exact ⟨grown_of_below hB0, rfl⟩
  ·replace h0 := ite_f hc2 h0
   refine gv_skip <| gv_seq <| gv_region <| gv_pureN 1 [4] [(4, (.int .i64 1))] (by kernel_rfl) ?_
   refine gv_nil <| gv_cret ?_
   have e := sj h0; subst e
   refine gv_ret (gv_done [(.int .i64 1)] rfl ⟨(by kernel_rfl), trivial⟩ ?_)
   exact ⟨grown_of_below hB0, rfl⟩
 ·replace h0 := ite_f hc1 h0
  refine gv_skip <| gv_seq <| gv_seq <| gv_region <| gv_pureN 4 [5, 16, 17, 18] [(5, (.int .i64 (IntKind.i64.wrap (((List.length a_0 : Nat) : Int) - 1))))] (by kernel_rfl) ?_
  refine bindE h0 ?_; clear h0; intro n3 hn4 h0
  refine gv_name (s := 5) (v := (.int .i64 (IntKind.i64.wrap (((List.length a_0 : Nat) : Int) - 1)))) (v' := (.int .i64 n3)) (by kernel_rfl) (congrArg (Value.int .i64) (sj hn4)) ?_
  refine gv_nil <| bindE h0 ?_; clear h0; intro j5 h1 h0
  refine gv_cut_code (J := fun a w7 => ∃ s6 : Unit, j5 = .inl s6 ∧ Below w0.heap.size w0 w7 ∧ w0.heap.size ≤ w7.heap.size ∧ a.defers = [] ∧ a.tmps.size = 41 ∧ Ok [] a.tmps) ?_ ?_
  ·skip
   refine gv_block <| gv_loop (A := fun (s8 : Int) a w9 => Below w0.heap.size w0 w9 ∧ w0.heap.size ≤ w9.heap.size ∧ a.defers = [] ∧ a.tmps.size = 41 ∧ Ok [(0, (.slice pa0_0 (List.length a_0) pc0_0)), (1, (.slice pa1_0 (List.length b_1) pc1_0)), (5, (.int .i64 s8))] a.tmps) h1 ?_ ?_
   ·intro a hd hs hok
    exact ⟨hB0, (Nat.le_refl _), hd, hs, ok_pick [0, 1, 5] hok (by kernel_rfl)⟩
   ·rintro s8 r2 h2 hR2 a w9 ⟨hB10, hz11, hd, hs, hok⟩
    refine gv_in ?_ hd hs hok
    clear hd hs hok
    refine gv_seq <| gv_seq <| gv_region <| gv_pureN 2 [19, 20] [(20, (.bool (decide (s8 ≥ 0))))] (by kernel_rfl) ?_
    refine gv_nil <| gv_cond (b := (decide (s8 ≥ 0))) (by kernel_rfl) (fun hc12 => ?_) (fun hc12 => ?_)
    ·replace h2 := ite_t hc12 h2
     refine gv_skip <| gv_seq <| gv_block <| gv_seq <| gv_seq <| gv_drawA (by kernel_rfl) ?_
     intro w13 hg14
     refine gv_pre [0, 1, 2, 4, 5, 6] (bA 9 [0, 1, 2, 4, 5, 6]) 3 (by kernel_rfl) (by kernel_rfl) ?_
     refine gv_pureN 2 [23, 24] [(23, (.slice pa0_0 (List.length a_0) pc0_0)), (24, (.int .i64 s8))] (by kernel_rfl) ?_
     refine bindE h2 ?_; clear h2; intro x15 hx16 h2
     have hB17 := bg hB10 hg14 nb
     refine gv_idxaddr (t := 71) (e := 3) (a := pa0_0) (len := List.length a_0) (cap := pc0_0) (kk := .i64) (i := s8) (sz := 1) [] (fun e => by cases e) rfl rfl rfl (by kernel_rfl) (by kernel_rfl) Tryz.underlying71 (by kernel_rfl) ((hpa0_0.below hB17 hX0).has hx16) (idx_spec hx16).1 (idx_spec hx16).2.1 rfl ?_
     refine gv_pureN 2 [27, 28] [(27, (.slice pa1_0 (List.length b_1) pc1_0)), (28, (.int .i64 s8))] (by kernel_rfl) ?_
     refine bindE h2 ?_; clear h2; intro x18 hx19 h2
     refine gv_idxaddr (t := 71) (e := 3) (a := pa1_0) (len := List.length b_1) (cap := pc1_0) (kk := .i64) (i := s8) (sz := 1) [] (fun e => by cases e) rfl rfl rfl (by kernel_rfl) (by kernel_rfl) Tryz.underlying71 (by kernel_rfl) ((hpa1_0.below hB17 hX0).has hx19) (idx_spec hx19).1 (idx_spec hx19).2.1 rfl ?_
     refine gv_nil <| gv_goA ?_
     refine gv_stage (Cls w13 []) [0, 1, 2, 3, 4, 5, 6, 7] [(3, some true), (7, some true)] (bA 9 [0, 1, 2, 3, 4, 5, 6, 7]) 1 (by kernel_rfl) (by kernel_rfl) (Cls.refl _ _) ?_
     have hC20 := Cls.refl w13 []
     refine gv_load (t := 3) (A := (elemAddr pa0_0 ((s8 : Int).toNat * 1))) (.int .i64 x15) [] (fun e => by cases e) rfl rfl rfl (by kernel_rfl) (by kernel_rfl) (by kernel_rfl) (inw1 fun w' hC' => ((hC'.rd (hpa0_0.below hB17 hX0) (fun k (hk : X0 k) => ltl (hX0 k hk) hB17.size) nmx_nil).cell hx16)) rfl ?_
     refine gv_load (t := 3) (A := (elemAddr pa1_0 ((s8 : Int).toNat * 1))) (.int .i64 x18) [] (fun e => by cases e) rfl rfl rfl (by kernel_rfl) (by kernel_rfl) (by kernel_rfl) (inw1 fun w' hC' => ((hC'.rd (hpa1_0.below hB17 hX0) (fun k (hk : X0 k) => ltl (hX0 k hk) hB17.size) nmx_nil).cell hx19)) rfl ?_
     refine gv_nil <| gv_goA ?_
     refine gv_pre [8] (bA 9 [0, 1, 2, 3, 4, 5, 6, 7, 8]) 0 (by kernel_rfl) (by kernel_rfl) ?_
     refine gv_pureN 1 [31] [(31, (.bool (decide (x15 < x18))))] (by kernel_rfl) ?_
     refine gv_nil <| gv_goA ?_
     refine gv_stageE (by kernel_rfl) ?_
     refine gv_cond (b := (decide (x15 < x18))) (by kernel_rfl) (fun hc21 => ?_) (fun hc21 => ?_)
     ·replace h2 := ite_t hc21 h2
      refine gv_seq <| gv_region <| gv_pureN 1 [4] [(4, (.int .i64 (-1)))] (by kernel_rfl) ?_
      refine gv_nil <| gv_cret ?_
      have e := sj h2; subst e
      replace h1 := congrArg some (hR2 _ rfl)
      have e := sj h1; subst e
      replace h0 := cont_inr h0
      have e := sj h0; subst e
      refine gv_ret (gv_done [(.int .i64 (-1))] rfl ⟨(by kernel_rfl), trivial⟩ ?_)
      exact ⟨grown_of_below hB17, rfl⟩
     ·replace h2 := ite_f hc21 h2
      refine gv_skip <| gv_seq <| gv_drawA (by kernel_rfl) ?_
      intro w22 hg23
      refine gv_pre [0, 1, 2, 4, 5, 6] (bA 9 [0, 1, 2, 4, 5, 6]) 3 (by kernel_rfl) (by kernel_rfl) ?_
      refine gv_pureN 2 [32, 33] [(32, (.slice pa0_0 (List.length a_0) pc0_0)), (33, (.int .i64 s8))] (by kernel_rfl) ?_
      refine bindE h2 ?_; clear h2; intro x24 hx25 h2
      have hB26 := bg hB17 hg23 nb
      refine gv_idxaddr (t := 71) (e := 3) (a := pa0_0) (len := List.length a_0) (cap := pc0_0) (kk := .i64) (i := s8) (sz := 1) [] (fun e => by cases e) rfl rfl rfl (by kernel_rfl) (by kernel_rfl) Tryz.underlying71 (by kernel_rfl) ((hpa0_0.below hB26 hX0).has hx25) (idx_spec hx25).1 (idx_spec hx25).2.1 rfl ?_
      refine gv_pureN 2 [36, 37] [(36, (.slice pa1_0 (List.length b_1) pc1_0)), (37, (.int .i64 s8))] (by kernel_rfl) ?_
      refine bindE h2 ?_; clear h2; intro x27 hx28 h2
      refine gv_idxaddr (t := 71) (e := 3) (a := pa1_0) (len := List.length b_1) (cap := pc1_0) (kk := .i64) (i := s8) (sz := 1) [] (fun e => by cases e) rfl rfl rfl (by kernel_rfl) (by kernel_rfl) Tryz.underlying71 (by kernel_rfl) ((hpa1_0.below hB26 hX0).has hx28) (idx_spec hx28).1 (idx_spec hx28).2.1 rfl ?_
      refine gv_nil <| gv_goA ?_
      refine gv_stage (Cls w22 []) [0, 1, 2, 3, 4, 5, 6, 7] [(3, some true), (7, some true)] (bA 9 [0, 1, 2, 3, 4, 5, 6, 7]) 1 (by kernel_rfl) (by kernel_rfl) (Cls.refl _ _) ?_
      have hC29 := Cls.refl w22 []
      refine gv_load (t := 3) (A := (elemAddr pa0_0 ((s8 : Int).toNat * 1))) (.int .i64 x24) [] (fun e => by cases e) rfl rfl rfl (by kernel_rfl) (by kernel_rfl) (by kernel_rfl) (inw1 fun w' hC' => ((hC'.rd (hpa0_0.below hB26 hX0) (fun k (hk : X0 k) => ltl (hX0 k hk) hB26.size) nmx_nil).cell hx25)) rfl ?_
      refine gv_load (t := 3) (A := (elemAddr pa1_0 ((s8 : Int).toNat * 1))) (.int .i64 x27) [] (fun e => by cases e) rfl rfl rfl (by kernel_rfl) (by kernel_rfl) (by kernel_rfl) (inw1 fun w' hC' => ((hC'.rd (hpa1_0.below hB26 hX0) (fun k (hk : X0 k) => ltl (hX0 k hk) hB26.size) nmx_nil).cell hx28)) rfl ?_
      refine gv_nil <| gv_goA ?_
      refine gv_pre [8] (bA 9 [0, 1, 2, 3, 4, 5, 6, 7, 8]) 0 (by kernel_rfl) (by kernel_rfl) ?_
      refine gv_pureN 1 [40] [(40, (.bool (decide (x24 > x27))))] (by kernel_rfl) ?_
      refine gv_sub [0, 1, 5, 40] (σ' := [(0, (.slice pa0_0 (List.length a_0) pc0_0)), (1, (.slice pa1_0 (List.length b_1) pc1_0)), (5, (.int .i64 s8)), (40, (.bool (decide (x24 > x27))))]) (by kernel_rfl) ?_
      refine gv_nil <| gv_goA ?_
      refine gv_stageE (by kernel_rfl) ?_
      refine gv_cond (b := (decide (x24 > x27))) (by kernel_rfl) (fun hc30 => ?_) (fun hc30 => ?_)
      ·replace h2 := ite_t hc30 h2
       refine gv_seq <| gv_region <| gv_pureN 1 [4] [(4, (.int .i64 1))] (by kernel_rfl) ?_
       refine gv_nil <| gv_cret ?_
       have e := sj h2; subst e
       replace h1 := congrArg some (hR2 _ rfl)
       have e := sj h1; subst e
       replace h0 := cont_inr h0
       have e := sj h0; subst e
       refine gv_ret (gv_done [(.int .i64 1)] rfl ⟨(by kernel_rfl), trivial⟩ ?_)
       exact ⟨grown_of_below hB26, rfl⟩
      ·replace h2 := ite_f hc30 h2
       refine gv_skip <| gv_blk <| gv_region <| gv_pureN 3 [5, 21, 22] [(5, (.int .i64 (IntKind.i64.wrap (s8 - 1))))] (by kernel_rfl) ?_
       refine gv_nil ?_
       have e := sj h2; subst e
       refine gv_goal fun a hd hs hok => ?_
       have hz31 := (nt (nt hz11 hg14.size) hg23.size)
       exact ⟨(IntKind.i64.wrap (s8 - 1)), rfl, hB26, hz31, hd, hs, ok_pick [0, 1, 5] hok (by kernel_rfl)⟩
    ·replace h2 := ite_f hc12 h2
     refine gv_cexit <| gv_exit rfl ?_
     have e := sj h2; subst e
     replace h1 := congrArg some (hR2 _ rfl)
     have e := sj h1; subst e
     refine gv_goal fun a hd hs hok => ?_
     have hz32 := hz11
     exact ⟨(), rfl, hB10, hz32, hd, hs, ok_pick [] hok (by kernel_rfl)⟩
  ·rintro a w7 ⟨s6, e, hB33, hz34, hd, hs, hok⟩
   subst e
   refine gv_in ?_ hd hs hok
   clear hd hs hok
   replace h0 := cont_inl h0
   refine gv_seq <| gv_region <| gv_pureN 1 [4] [(4, (.int .i64 0))] (by kernel_rfl) ?_
   refine gv_nil <| gv_cret ?_
   have e := sj h0; subst e
   refine gv_ret (gv_done [(.int .i64 0)] rfl ⟨(by kernel_rfl), trivial⟩ ?_)
   exact ⟨grown_of_below hB33, rfl⟩

theorem ref3_Int_Order_ok (fuel : Nat) (pa0_0 : Option Addr) (pc0_0 : Nat) (a_0 : (Bool × (List Int))) (pa1_0 : Option Addr) (pc1_0 : Nat) (b_1 : (Bool × (List Int))) (w0 : World) (X0 : Nat → Prop) (hX0 : ∀ k, X0 k → k < w0.heap.size) (hpa0_0 : Rd (iE .i64) w0 X0 pa0_0 pc0_0 a_0.2) (hpa1_0 : Rd (iE .i64) w0 X0 pa1_0 pc1_0 b_1.2) (r0 : Int) (h0 : ref3_Int_Order fuel a_0 b_1 = some r0) :
    Calls Tryz.prog 55 ([(.agg #[(.bool a_0.1), (.slice pa0_0 (List.length a_0.2) pc0_0)]), (.agg #[(.bool b_1.1), (.slice pa1_0 (List.length b_1.2) pc1_0)])] : List Value).toArray w0 (Ret fun v w' => w0.grownBy w' none ∧ v = tup [(.int .i64 r0)]) := by
 have hB0 : Below w0.heap.size w0 w0 := Below.refl _ _
 unfold ref3_Int_Order at h0
 refine calls_run Tryz.func55 rfl Tryz.ntmps55 (by kernel_rfl) ?_
 refine gv_sub [0, 1] (σ' := [(0, (.agg #[(.bool a_0.1), (.slice pa0_0 (List.length a_0.2) pc0_0)])), (1, (.agg #[(.bool b_1.1), (.slice pa1_0 (List.length b_1.2) pc1_0)]))]) (by kernel_rfl) ?_
 refine gv_seq <| gv_region <| gv_new0 (fun b => .pointer (some ⟨b, 0, none⟩)) #[(.bool a_0.1), (.slice pa0_0 (List.length a_0.2) pc0_0)] 73 (by kernel_rfl) (by kernel_rfl) ?_
 intro b1 w2 hg3 hb4 hbe5 hz6
 refine gv_new0 (fun b => .pointer (some ⟨b, 0, none⟩)) #[(.bool b_1.1), (.slice pa1_0 (List.length b_1.2) pc1_0)] 73 (by kernel_rfl) (by kernel_rfl) ?_
 intro b7 w8 hg9 hb10 hbe11 hz12
 refine gv_pureN 1 [4] [] (by kernel_rfl) ?_
 refine gv_nil <| gv_seq <| bindE h0 ?_; clear h0; intro j13 h1 h0
 refine gv_cut_code (J := fun a w14 => Below w0.heap.size w0 w14 ∧ w8.heap.size ≤ w14.heap.size ∧ Box w14 b1 73 #[(.bool a_0.1), (.slice pa0_0 (List.length a_0.2) pc0_0)] ∧ Box w14 b7 73 #[(.bool b_1.1), (.slice pa1_0 (List.length b_1.2) pc1_0)] ∧ a.defers = [] ∧ a.tmps.size = 42 ∧ Ok [(2, (bp b1)), (3, (bp b7)), (5, (.bool j13.1)), (6, (.bool j13.2))] a.tmps) ?_ ?_
 ·skip
  refine gv_drawA (by kernel_rfl) ?_
  intro w15 hg16
  refine gv_pre [0, 8] (bA 18 [0, 8]) 16 (by kernel_rfl) (by kernel_rfl) ?_
  refine gv_pureN 2 [7, 15] [(7, (bp b1)), (15, (bp b7))] (by kernel_rfl) ?_
  refine gv_nil <| gv_goA ?_
  refine gv_stage (Cls w15 []) [0, 1, 2, 3, 4, 5, 6, 7, 8, 9, 10, 11, 12, 13, 14, 15, 16] [(1, some true), (2, some true), (3, some true), (4, some true), (5, some true), (6, some true), (7, some true), (9, some true), (10, some true), (11, some true), (12, some true), (13, some true), (14, some true), (15, some true), (16, some true)] (bA 18 [0, 1, 2, 3, 4, 5, 6, 7, 8, 9, 10, 11, 12, 13, 14, 15, 16]) 1 (by kernel_rfl) (by kernel_rfl) (Cls.refl _ _) ?_
  have hC17 := Cls.refl w15 []
  have hg18 := (grown_trans hg9 hg16)
  have hk19 := hb4.grown hg18 nb
  refine gv_load (t := 4) (A := ⟨b1, 0, none⟩) (.bool a_0.1) [] (fun e => by cases e) rfl rfl rfl (by kernel_rfl) (by kernel_rfl) (by kernel_rfl) (inw1 fun w' hC' => ((hC'.box hk19 nm_nil).cell 0 rfl)) rfl ?_
  refine gv_pureN 1 [9] [(9, (.bool a_0.1))] (by kernel_rfl) ?_
  refine gv_split (s := 9) (g := a_0.1) (by kernel_rfl) (fun hc20 => ?_) (fun hc20 => ?_)
  ·skip
   replace h1 := ite_t hc20 h1
   refine gv_pureN 1 [10] [(10, (.pointer (some ⟨b1, 1, none⟩)))] (by kernel_rfl) ?_
   refine gv_load (t := 71) (A := ⟨b1, 1, none⟩) (.slice pa0_0 (List.length a_0.2) pc0_0) [] (fun e => by cases e) rfl rfl rfl (by kernel_rfl) (by kernel_rfl) (by kernel_rfl) (inw1 fun w' hC' => ((hC'.box hk19 nm_nil).cell 1 rfl)) rfl ?_
   refine gv_pureN 3 [12, 13, 14] [(14, (.bool (decide (((List.length a_0.2 : Nat) : Int) > 0))))] (by kernel_rfl) ?_
   have hk21 := hb10.grown hg16 nb
   refine gv_load (t := 4) (A := ⟨b7, 0, none⟩) (.bool b_1.1) [] (fun e => by cases e) rfl rfl rfl (by kernel_rfl) (by kernel_rfl) (by kernel_rfl) (inw1 fun w' hC' => ((hC'.box hk21 nm_nil).cell 0 rfl)) rfl ?_
   refine gv_pureN 1 [17] [(17, (.bool b_1.1))] (by kernel_rfl) ?_
   refine gv_split (s := 17) (g := b_1.1) (by kernel_rfl) (fun hc22 => ?_) (fun hc22 => ?_)
   ·skip
    replace h1 := ite_t hc22 h1
    refine gv_pureN 1 [18] [(18, (.pointer (some ⟨b7, 1, none⟩)))] (by kernel_rfl) ?_
    refine gv_load (t := 71) (A := ⟨b7, 1, none⟩) (.slice pa1_0 (List.length b_1.2) pc1_0) [] (fun e => by cases e) rfl rfl rfl (by kernel_rfl) (by kernel_rfl) (by kernel_rfl) (inw1 fun w' hC' => ((hC'.box hk21 nm_nil).cell 1 rfl)) rfl ?_
    refine gv_pureN 4 [5, 20, 21, 22] [(5, (.bool (decide (((List.length a_0.2 : Nat) : Int) > 0)))), (22, (.bool (decide (((List.length b_1.2 : Nat) : Int) > 0))))] (by kernel_rfl) ?_
    refine gv_sub [2, 3, 5, 22] (σ' := [(2, (bp b1)), (3, (bp b7)), (5, (.bool (decide (((List.length a_0.2 : Nat) : Int) > 0)))), (22, (.bool (decide (((List.length b_1.2 : Nat) : Int) > 0))))]) (by kernel_rfl) ?_
    refine bindE h1 ?_; clear h1; intro n23 hn24 h1
    refine gv_name (s := 5) (v := (.bool (decide (((List.length a_0.2 : Nat) : Int) > 0)))) (v' := (.bool n23)) (by kernel_rfl) (congrArg (Value.bool) (sj hn24)) ?_
    refine gv_nil <| gv_goA ?_
    refine gv_pre [17] (bA 18 [0, 1, 2, 3, 4, 5, 6, 7, 8, 9, 10, 11, 12, 13, 14, 15, 16, 17]) 0 (by kernel_rfl) (by kernel_rfl) ?_
    refine gv_pureN 1 [6] [(6, (.bool (decide (((List.length b_1.2 : Nat) : Int) > 0))))] (by kernel_rfl) ?_
    refine bindE h1 ?_; clear h1; intro n25 hn26 h1
    refine gv_name (s := 6) (v := (.bool (decide (((List.length b_1.2 : Nat) : Int) > 0)))) (v' := (.bool n25)) (by kernel_rfl) (congrArg (Value.bool) (sj hn26)) ?_
    refine gv_nil <| gv_goA ?_
    refine gv_stageE (by kernel_rfl) ?_
    have e := sj h1; subst e
    refine gv_goal fun a hd hs hok => ?_
    have hg27 := (grown_trans hg3 hg18)
    have hB28 := bg hB0 hg27 nb
    have hz29 := hg16.size
    exact ⟨hB28, hz29, hk19, hk21, hd, hs, ok_pick [2, 3, 5, 6] hok (by kernel_rfl)⟩
   ·skip
    replace h1 := ite_f hc22 h1
    refine gv_pureN 6 [5, 18, 19, 20, 21, 22] [(5, (.bool (decide (((List.length a_0.2 : Nat) : Int) > 0)))), (22, (.bool false))] (by kernel_rfl) ?_
    refine bindE h1 ?_; clear h1; intro n30 hn31 h1
    refine gv_name (s := 5) (v := (.bool (decide (((List.length a_0.2 : Nat) : Int) > 0)))) (v' := (.bool n30)) (by kernel_rfl) (congrArg (Value.bool) (sj hn31)) ?_
    refine gv_nil <| gv_goA ?_
    refine gv_pre [17] (bA 18 [0, 1, 2, 3, 4, 5, 6, 7, 8, 9, 10, 11, 12, 13, 14, 15, 16, 17]) 0 (by kernel_rfl) (by kernel_rfl) ?_
    refine gv_pureN 1 [6] [(6, (.bool false))] (by kernel_rfl) ?_
    refine gv_nil <| gv_goA ?_
    refine gv_stageE (by kernel_rfl) ?_
    have e := sj h1; subst e
    refine gv_goal fun a hd hs hok => ?_
    have hg32 := (grown_trans hg3 hg18)
    have hB33 := bg hB0 hg32 nb
    have hz34 := hg16.size
    exact ⟨hB33, hz34, hk19, hk21, hd, hs, ok_pick [2, 3, 5, 6] hok (by kernel_rfl)⟩
  ·skip
   replace h1 := ite_f hc20 h1
   refine gv_pureN 5 [10, 11, 12, 13, 14] [(14, (.bool false))] (by kernel_rfl) ?_
   have hk35 := hb10.grown hg16 nb
   refine gv_load (t := 4) (A := ⟨b7, 0, none⟩) (.bool b_1.1) [] (fun e => by cases e) rfl rfl rfl (by kernel_rfl) (by kernel_rfl) (by kernel_rfl) (inw1 fun w' hC' => ((hC'.box hk35 nm_nil).cell 0 rfl)) rfl ?_
   refine gv_pureN 1 [17] [(17, (.bool b_1.1))] (by kernel_rfl) ?_
   refine gv_split (s := 17) (g := b_1.1) (by kernel_rfl) (fun hc36 => ?_) (fun hc36 => ?_)
   ·skip
    replace h1 := ite_t hc36 h1
    refine gv_pureN 1 [18] [(18, (.pointer (some ⟨b7, 1, none⟩)))] (by kernel_rfl) ?_
    refine gv_load (t := 71) (A := ⟨b7, 1, none⟩) (.slice pa1_0 (List.length b_1.2) pc1_0) [] (fun e => by cases e) rfl rfl rfl (by kernel_rfl) (by kernel_rfl) (by kernel_rfl) (inw1 fun w' hC' => ((hC'.box hk35 nm_nil).cell 1 rfl)) rfl ?_
    refine gv_pureN 4 [5, 20, 21, 22] [(5, (.bool false)), (22, (.bool (decide (((List.length b_1.2 : Nat) : Int) > 0))))] (by kernel_rfl) ?_
    refine gv_nil <| gv_goA ?_
    refine gv_pre [17] (bA 18 [0, 1, 2, 3, 4, 5, 6, 7, 8, 9, 10, 11, 12, 13, 14, 15, 16, 17]) 0 (by kernel_rfl) (by kernel_rfl) ?_
    refine gv_pureN 1 [6] [(6, (.bool (decide (((List.length b_1.2 : Nat) : Int) > 0))))] (by kernel_rfl) ?_
    refine bindE h1 ?_; clear h1; intro n37 hn38 h1
    refine gv_name (s := 6) (v := (.bool (decide (((List.length b_1.2 : Nat) : Int) > 0)))) (v' := (.bool n37)) (by kernel_rfl) (congrArg (Value.bool) (sj hn38)) ?_
    refine gv_nil <| gv_goA ?_
    refine gv_stageE (by kernel_rfl) ?_
    have e := sj h1; subst e
    refine gv_goal fun a hd hs hok => ?_
    have hg39 := (grown_trans hg3 hg18)
    have hB40 := bg hB0 hg39 nb
    have hz41 := hg16.size
    exact ⟨hB40, hz41, hk19, hk35, hd, hs, ok_pick [2, 3, 5, 6] hok (by kernel_rfl)⟩
   ·skip
    replace h1 := ite_f hc36 h1
    refine gv_pureN 6 [5, 18, 19, 20, 21, 22] [(5, (.bool false)), (22, (.bool false))] (by kernel_rfl) ?_
    refine gv_nil <| gv_goA ?_
    refine gv_pre [17] (bA 18 [0, 1, 2, 3, 4, 5, 6, 7, 8, 9, 10, 11, 12, 13, 14, 15, 16, 17]) 0 (by kernel_rfl) (by kernel_rfl) ?_
    refine gv_pureN 1 [6] [(6, (.bool false))] (by kernel_rfl) ?_
    refine gv_nil <| gv_goA ?_
    refine gv_stageE (by kernel_rfl) ?_
    have e := sj h1; subst e
    refine gv_goal fun a hd hs hok => ?_
    have hg42 := (grown_trans hg3 hg18)
    have hB43 := bg hB0 hg42 nb
    have hz44 := hg16.size
    exact ⟨hB43, hz44, hk19, hk35, hd, hs, ok_pick [2, 3, 5, 6] hok (by kernel_rfl)⟩
 ·rintro a w14 ⟨hB45, hz46, hb47, hb48, hd, hs, hok⟩
  refine gv_in ?_ hd hs hok
  clear hd hs hok
  clear hz46 hz12 hb10 hg9 hz6
  refine gv_seq <| gv_block <| gv_seq <| gv_region <| gv_cut_ops (J := fun a w49 => w14 = w49 ∧ a.defers = [] ∧ a.tmps.size = 42 ∧ Ok [(2, (bp b1)), (3, (bp b7)), (5, (.bool j13.1)), (6, (.bool j13.2)), (23, (.bool (j13.1 && j13.2)))] a.tmps) ?_ ?_
  ·skip
   refine gv_pureN 2 [24, 25] [(25, (.bool j13.1))] (by kernel_rfl) ?_
   refine gv_split (s := 25) (g := j13.1) (by kernel_rfl) (fun hc50 => ?_) (fun hc50 => ?_)
   ·skip
    refine gv_pureN 3 [23, 26, 27] [(23, (.bool j13.2))] (by kernel_rfl) ?_
    refine gv_nil <| gv_sub [2, 3, 5, 6, 23] (σ' := [(2, (bp b1)), (3, (bp b7)), (5, (.bool j13.1)), (6, (.bool j13.2)), (23, (.bool j13.2))]) (by kernel_rfl) ?_
    refine gv_goal fun a hd hs hok => ⟨rfl, hd, hs, ?_⟩
    obtain ⟨q2, q3, q5, q6, q23, _⟩ := hok
    exact ⟨q2, q3, q5, q6, (by rw [hc50]; exact q23), trivial⟩
   ·skip
    refine gv_pureN 3 [23, 26, 27] [(23, (.bool false))] (by kernel_rfl) ?_
    refine gv_nil <| gv_sub [2, 3, 5, 6, 23] (σ' := [(2, (bp b1)), (3, (bp b7)), (5, (.bool j13.1)), (6, (.bool j13.2)), (23, (.bool false))]) (by kernel_rfl) ?_
    refine gv_goal fun a hd hs hok => ⟨rfl, hd, hs, ?_⟩
    obtain ⟨q2, q3, q5, q6, q23, _⟩ := hok
    exact ⟨q2, q3, q5, q6, (by rw [hc50]; exact q23), trivial⟩
  ·rintro a w49 ⟨e, hd, hs, hok⟩; subst e
   refine gv_in ?_ hd hs hok
   clear hd hs hok
   refine gv_cond (b := (j13.1 && j13.2)) (by kernel_rfl) (fun hc51 => ?_) (fun hc51 => ?_)
   ·replace h0 := ite_t hc51 h0
    refine gv_seq <| gv_region <| gv_pureN 1 [28] [(28, (.pointer (some ⟨b7, 1, none⟩)))] (by kernel_rfl) ?_
    refine gv_load (t := 71) (A := ⟨b7, 1, none⟩) (.slice pa1_0 (List.length b_1.2) pc1_0) [] (fun e => by cases e) rfl rfl rfl (by kernel_rfl) (by kernel_rfl) (by kernel_rfl) (inw0 (hb48.cell 1 rfl)) rfl ?_
    refine gv_pureN 1 [30] [(30, (.pointer (some ⟨b1, 1, none⟩)))] (by kernel_rfl) ?_
    refine gv_load (t := 71) (A := ⟨b1, 1, none⟩) (.slice pa0_0 (List.length a_0.2) pc0_0) [] (fun e => by cases e) rfl rfl rfl (by kernel_rfl) (by kernel_rfl) (by kernel_rfl) (inw0 (hb47.cell 1 rfl)) rfl ?_
    refine bindE h0 ?_; clear h0; intro r52 hr53 h0
    refine gv_call0 (by kernel_rfl) rfl (by kernel_rfl) enters74 (ref3_Compare_ok fuel pa1_0 pc1_0 b_1.2 pa0_0 pc0_0 a_0.2 w14 (fun k => X0 k ∨ X0 k) (fun k hk => (hk).elim (fun h => (fun k (hk : X0 k) => ltl (hX0 k hk) hB45.size) k h) (fun h => (fun k (hk : X0 k) => ltl (hX0 k hk) hB45.size) k h)) ((hpa1_0.below hB45 hX0).wide (fun k hk => (.inl hk))) ((hpa0_0.below hB45 hX0).wide (fun k hk => (.inr hk))) r52 hr53) ?_
    rintro v56 w54 ⟨hg55, rfl⟩
    refine gv_pureN 1 [4] [(4, (.int .i64 r52))] (by kernel_rfl) ?_
    refine gv_nil <| gv_cret ?_
    have e := sj h0; subst e
    refine gv_ret (gv_done [(.int .i64 r52)] rfl ⟨(by kernel_rfl), trivial⟩ ?_)
    have hB57 := bg hB45 hg55 nb
    exact ⟨grown_of_below hB57, rfl⟩
   ·replace h0 := ite_f hc51 h0
    refine gv_seq <| gv_region <| gv_pureN 2 [33, 34] [(33, (.bool j13.1))] (by kernel_rfl) ?_
    refine gv_nil <| gv_cond (b := j13.1) (by kernel_rfl) (fun hc58 => ?_) (fun hc58 => ?_)
    ·replace h0 := ite_t hc58 h0
     refine gv_seq <| gv_region <| gv_pureN 1 [4] [(4, (.int .i64 (-1)))] (by kernel_rfl) ?_
     refine gv_nil <| gv_cret ?_
     have e := sj h0; subst e
     refine gv_ret (gv_done [(.int .i64 (-1))] rfl ⟨(by kernel_rfl), trivial⟩ ?_)
     exact ⟨grown_of_below hB45, rfl⟩
    ·replace h0 := ite_f hc58 h0
     refine gv_seq <| gv_region <| gv_pureN 2 [35, 36] [(35, (.bool j13.2))] (by kernel_rfl) ?_
     refine gv_nil <| gv_cond (b := j13.2) (by kernel_rfl) (fun hc59 => ?_) (fun hc59 => ?_)
     ·replace h0 := ite_t hc59 h0
      refine gv_seq <| gv_region <| gv_pureN 1 [4] [(4, (.int .i64 1))] (by kernel_rfl) ?_
      refine gv_nil <| gv_cret ?_
      have e := sj h0; subst e
      refine gv_ret (gv_done [(.int .i64 1)] rfl ⟨(by kernel_rfl), trivial⟩ ?_)
      exact ⟨grown_of_below hB45, rfl⟩
     ·replace h0 := ite_f hc59 h0
      refine gv_skip <| gv_blk <| gv_seq <| gv_region <| gv_pureN 1 [37] [(37, (.pointer (some ⟨b1, 1, none⟩)))] (by kernel_rfl) ?_
      refine gv_load (t := 71) (A := ⟨b1, 1, none⟩) (.slice pa0_0 (List.length a_0.2) pc0_0) [] (fun e => by cases e) rfl rfl rfl (by kernel_rfl) (by kernel_rfl) (by kernel_rfl) (inw0 (hb47.cell 1 rfl)) rfl ?_
      refine gv_pureN 1 [39] [(39, (.pointer (some ⟨b7, 1, none⟩)))] (by kernel_rfl) ?_
      refine gv_load (t := 71) (A := ⟨b7, 1, none⟩) (.slice pa1_0 (List.length b_1.2) pc1_0) [] (fun e => by cases e) rfl rfl rfl (by kernel_rfl) (by kernel_rfl) (by kernel_rfl) (inw0 (hb48.cell 1 rfl)) rfl ?_
      refine bindE h0 ?_; clear h0; intro r60 hr61 h0
      refine gv_call0 (by kernel_rfl) rfl (by kernel_rfl) enters74 (ref3_Compare_ok fuel pa0_0 pc0_0 a_0.2 pa1_0 pc1_0 b_1.2 w14 (fun k => X0 k ∨ X0 k) (fun k hk => (hk).elim (fun h => (fun k (hk : X0 k) => ltl (hX0 k hk) hB45.size) k h) (fun h => (fun k (hk : X0 k) => ltl (hX0 k hk) hB45.size) k h)) ((hpa0_0.below hB45 hX0).wide (fun k hk => (.inl hk))) ((hpa1_0.below hB45 hX0).wide (fun k hk => (.inr hk))) r60 hr61) ?_
      rintro v64 w62 ⟨hg63, rfl⟩
      refine gv_pureN 1 [4] [(4, (.int .i64 r60))] (by kernel_rfl) ?_
      refine gv_nil <| gv_cret ?_
      have e := sj h0; subst e
      refine gv_ret (gv_done [(.int .i64 r60)] rfl ⟨(by kernel_rfl), trivial⟩ ?_)
      have hB65 := bg hB45 hg63 nb
      exact ⟨grown_of_below hB65, rfl⟩

theorem ref3_near_ok (fuel : Nat) (pa0_0 : Option Addr) (pc0_0 : Nat) (a_0 : (Bool × (List Int))) (low_1 : Int) (high_2 : Int) (w0 : World) (X0 : Nat → Prop) (hX0 : ∀ k, X0 k → k < w0.heap.size) (hpa0_0 : Rd (iE .i64) w0 X0 pa0_0 pc0_0 a_0.2) (r0 : Int) (h0 : ref3_near fuel a_0 low_1 high_2 = some r0) :
    Calls Tryz.prog 36 ([(.agg #[(.bool a_0.1), (.slice pa0_0 (List.length a_0.2) pc0_0)]), (.int .i64 low_1), (.int .i64 high_2)] : List Value).toArray w0 (Ret fun v w' => w0.grownBy w' none ∧ v = tup [(.int .i64 r0)]) := by
 have hB0 : Below w0.heap.size w0 w0 := Below.refl _ _
 unfold ref3_near at h0
 refine calls_run Tryz.func36 rfl Tryz.ntmps36 (by kernel_rfl) ?_
 refine gv_sub [0, 1, 2] (σ' := [(0, (.agg #[(.bool a_0.1), (.slice pa0_0 (List.length a_0.2) pc0_0)])), (1, (.int .i64 low_1)), (2, (.int .i64 high_2))]) (by kernel_rfl) ?_
 refine gv_seq <| gv_region <| gv_new0 (fun b => .pointer (some ⟨b, 0, none⟩)) #[(.bool a_0.1), (.slice pa0_0 (List.length a_0.2) pc0_0)] 73 (by kernel_rfl) (by kernel_rfl) ?_
 intro b1 w2 hg3 hb4 hbe5 hz6
 refine gv_pureN 1 [6] [] (by kernel_rfl) ?_
 refine gv_nil <| gv_seq <| gv_seq <| gv_drawA (by kernel_rfl) ?_
 intro w7 hg8
 refine gv_pre [1] (bA 5 [1]) 4 (by kernel_rfl) (by kernel_rfl) ?_
 refine gv_pureN 1 [9] [(9, (.int .i64 low_1))] (by kernel_rfl) ?_
 refine gv_nil <| gv_goA ?_
 refine gv_stage (Cls w7 []) [0, 1, 2] [(0, some true), (2, some false)] (bA 5 [0, 1, 2]) 2 (by kernel_rfl) (by kernel_rfl) (Cls.refl _ _) ?_
 have hC9 := Cls.refl w7 []
 have hk10 := hb4.grown hg8 nb
 refine gv_loadBox (t := 73) (b := b1) (t' := 73) (fr := (0, 0)) #[(.bool a_0.1), (.slice pa0_0 (List.length a_0.2) pc0_0)] [] (fun e => by cases e) rfl rfl rfl (by kernel_rfl) (by kernel_rfl) (by kernel_rfl) (by kernel_rfl) (inw1 fun w' hC' => (hC'.box hk10 nm_nil)) rfl ?_
 refine bindE h0 ?_; clear h0; intro r11 hr12 h0
 refine gv_call (f := 56) (vs := [(.int .i64 low_1)]) (cap := []) _ (by decide) rfl rfl rfl (by kernel_rfl) (by kernel_rfl) enters56 (ref3_Number_ok fuel low_1 w7  r11 hr12) ?_
 rintro v15 w13 ⟨hg14, a16, c17, X19, rfl, ho18, hx20⟩
 refine ⟨(fun _ => hC9.grown hg14 nb), ?_⟩
 have hx21 : ∀ k, X19 k → k < w13.heap.size := fun k hk => (hx20 k hk).1
 have hg23 := (grown_trans hg3 hg8)
 have hB24 := bg hB0 hg23 nb
 have hx22 : ∀ k, X19 k → X0 k ∨ w0.heap.size ≤ k := fun k hk => (hx20 k hk).2.elim (fun h => h.elim) (fun h => .inr (Nat.le_trans hB24.size h))
 refine gv_nil <| gv_goA ?_
 refine gv_stage (fun _ => True) [0, 1, 2, 3] [(3, some false)] (bA 5 [0, 1, 2, 3]) 1 (by kernel_rfl) (by kernel_rfl) trivial ?_
 refine bindE h0 ?_; clear h0; intro r25 hr26 h0
 have hB27 := bg hB24 hg14 nb
 refine gv_call (f := 55) (vs := [(.agg #[(.bool a_0.1), (.slice pa0_0 (List.length a_0.2) pc0_0)]), (.agg #[(.bool r11.1), (.slice a16 (List.length r11.2) c17)])]) (cap := []) _ (by decide) rfl rfl rfl (by kernel_rfl) (by kernel_rfl) enters55 (ref3_Int_Order_ok fuel pa0_0 pc0_0 (a_0.1, a_0.2) a16 c17 (r11.1, r11.2) w13 (fun k => X0 k ∨ X19 k) (fun k hk => (hk).elim (fun h => (fun k (hk : X0 k) => ltl (hX0 k hk) hB27.size) k h) (fun h => hx21 k h)) ((hpa0_0.below hB27 hX0).wide (fun k hk => (.inl hk))) (ho18.wide (fun k hk => (.inr hk))) r25 hr26) ?_
 rintro v30 w28 ⟨hg29, rfl⟩
 refine ⟨(fun _ => trivial), ?_⟩
 refine gv_nil <| gv_goA ?_
 refine gv_pre [4] (bA 5 [0, 1, 2, 3, 4]) 0 (by kernel_rfl) (by kernel_rfl) ?_
 refine gv_pureN 1 [12] [(12, (.bool (decide (r25 ≤ 0))))] (by kernel_rfl) ?_
 refine gv_nil <| gv_goA ?_
 refine gv_stageE (by kernel_rfl) ?_
 refine gv_cond (b := (decide (r25 ≤ 0))) (by kernel_rfl) (fun hc31 => ?_) (fun hc31 => ?_)
 ·replace h0 := ite_t hc31 h0
  refine gv_seq <| gv_region <| gv_pureN 2 [6, 13] [(6, (.int .i64 low_1))] (by kernel_rfl) ?_
  refine gv_nil <| gv_cret ?_
  have e := sj h0; subst e
  refine gv_ret (gv_done [(.int .i64 low_1)] rfl ⟨(by kernel_rfl), trivial⟩ ?_)
  have hB32 := bg hB27 hg29 nb
  exact ⟨grown_of_below hB32, rfl⟩
 ·replace h0 := ite_f hc31 h0
  refine gv_skip <| gv_seq <| gv_seq <| gv_drawA (by kernel_rfl) ?_
  intro w33 hg34
  refine gv_pre [1] (bA 5 [1]) 4 (by kernel_rfl) (by kernel_rfl) ?_
  refine gv_pureN 1 [15] [(15, (.int .i64 high_2))] (by kernel_rfl) ?_
  refine gv_nil <| gv_goA ?_
  refine gv_stage (Cls w33 []) [0, 1, 2] [(0, some true), (2, some false)] (bA 5 [0, 1, 2]) 2 (by kernel_rfl) (by kernel_rfl) (Cls.refl _ _) ?_
  have hC35 := Cls.refl w33 []
  have hg36 := (grown_trans (grown_trans hg14 hg29) hg34)
  have hk37 := hk10.grown hg36 nb
  refine gv_loadBox (t := 73) (b := b1) (t' := 73) (fr := (0, 0)) #[(.bool a_0.1), (.slice pa0_0 (List.length a_0.2) pc0_0)] [] (fun e => by cases e) rfl rfl rfl (by kernel_rfl) (by kernel_rfl) (by kernel_rfl) (by kernel_rfl) (inw1 fun w' hC' => (hC'.box hk37 nm_nil)) rfl ?_
  refine bindE h0 ?_; clear h0; intro r38 hr39 h0
  refine gv_call (f := 56) (vs := [(.int .i64 high_2)]) (cap := []) _ (by decide) rfl rfl rfl (by kernel_rfl) (by kernel_rfl) enters56 (ref3_Number_ok fuel high_2 w33  r38 hr39) ?_
  rintro v42 w40 ⟨hg41, a43, c44, X46, rfl, ho45, hx47⟩
  refine ⟨(fun _ => hC35.grown hg41 nb), ?_⟩
  have hx48 : ∀ k, X46 k → k < w40.heap.size := fun k hk => (hx47 k hk).1
  have hg50 := (grown_trans hg29 hg34)
  have hB51 := bg hB27 hg50 nb
  have hx49 : ∀ k, X46 k → X0 k ∨ w0.heap.size ≤ k := fun k hk => (hx47 k hk).2.elim (fun h => h.elim) (fun h => .inr (Nat.le_trans hB51.size h))
  refine gv_nil <| gv_goA ?_
  refine gv_stage (fun _ => True) [0, 1, 2, 3] [(3, some false)] (bA 5 [0, 1, 2, 3]) 1 (by kernel_rfl) (by kernel_rfl) trivial ?_
  refine bindE h0 ?_; clear h0; intro r52 hr53 h0
  have hB54 := bg hB51 hg41 nb
  refine gv_call (f := 55) (vs := [(.agg #[(.bool a_0.1), (.slice pa0_0 (List.length a_0.2) pc0_0)]), (.agg #[(.bool r38.1), (.slice a43 (List.length r38.2) c44)])]) (cap := []) _ (by decide) rfl rfl rfl (by kernel_rfl) (by kernel_rfl) enters55 (ref3_Int_Order_ok fuel pa0_0 pc0_0 (a_0.1, a_0.2) a43 c44 (r38.1, r38.2) w40 (fun k => X0 k ∨ X46 k) (fun k hk => (hk).elim (fun h => (fun k (hk : X0 k) => ltl (hX0 k hk) hB54.size) k h) (fun h => hx48 k h)) ((hpa0_0.below hB54 hX0).wide (fun k hk => (.inl hk))) (ho45.wide (fun k hk => (.inr hk))) r52 hr53) ?_
  rintro v57 w55 ⟨hg56, rfl⟩
  refine ⟨(fun _ => trivial), ?_⟩
  refine gv_nil <| gv_goA ?_
  refine gv_pre [4] (bA 5 [0, 1, 2, 3, 4]) 0 (by kernel_rfl) (by kernel_rfl) ?_
  refine gv_pureN 1 [18] [(18, (.bool (decide (r52 ≥ 0))))] (by kernel_rfl) ?_
  refine gv_nil <| gv_goA ?_
  refine gv_stageE (by kernel_rfl) ?_
  refine gv_cond (b := (decide (r52 ≥ 0))) (by kernel_rfl) (fun hc58 => ?_) (fun hc58 => ?_)
  ·replace h0 := ite_t hc58 h0
   refine gv_seq <| gv_region <| gv_pureN 2 [6, 19] [(6, (.int .i64 high_2))] (by kernel_rfl) ?_
   refine gv_nil <| gv_cret ?_
   have e := sj h0; subst e
   refine gv_ret (gv_done [(.int .i64 high_2)] rfl ⟨(by kernel_rfl), trivial⟩ ?_)
   have hB59 := bg hB54 hg56 nb
   exact ⟨grown_of_below hB59, rfl⟩
  ·replace h0 := ite_f hc58 h0
   refine gv_skip <| gv_seq <| gv_region <| gv_pureN 2 [7, 20] [(7, (.int .i64 low_1))] (by kernel_rfl) ?_
   refine gv_nil <| gv_seq <| bindE h0 ?_; clear h0; intro j60 h1 h0
   refine gv_cut_code (J := fun a w61 => Below w0.heap.size w0 w61 ∧ w55.heap.size ≤ w61.heap.size ∧ a.defers = [] ∧ a.tmps.size = 29 ∧ Ok [(7, (.int .i64 j60))] a.tmps) ?_ ?_
   ·skip
    refine gv_block <| gv_loop (A := fun (s62 : Int) a w63 => Below w0.heap.size w0 w63 ∧ w55.heap.size ≤ w63.heap.size ∧ Box w63 b1 73 #[(.bool a_0.1), (.slice pa0_0 (List.length a_0.2) pc0_0)] ∧ a.defers = [] ∧ a.tmps.size = 29 ∧ Ok [(3, (bp b1)), (7, (.int .i64 s62))] a.tmps) h1 ?_ ?_
    ·intro a hd hs hok
     have hB64 := bg hB54 hg56 nb
     have hg65 := (grown_trans hg41 hg56)
     have hk66 := hk37.grown hg65 nb
     exact ⟨hB64, (Nat.le_refl _), hk66, hd, hs, ok_pick [3, 7] hok (by kernel_rfl)⟩
    ·rintro s62 r2 h2 hR2 a w63 ⟨hB67, hz68, hb69, hd, hs, hok⟩
     refine gv_in ?_ hd hs hok
     clear hd hs hok
     clear hc58 hB54 hr53 hB51 hg50 hx47 hr39 hg36 hC35 hc31 hB27 hr26 hB24 hg23 hx20 hg14 hr12 hk10 hC9 hg8 hz6 hb4 hg3
     refine gv_seq <| gv_seq <| gv_drawA (by kernel_rfl) ?_
     intro w70 hg71
     refine gv_pre [1] (bA 5 [1]) 4 (by kernel_rfl) (by kernel_rfl) ?_
     have hz72 := (nt hz68 hg71.size)
     clear hz68 hg56 hx49 hx48 ho45 hg41 hk37 hg34 hg29 hx22 hx21 ho18
     refine gv_pureN 1 [22] [(22, (.int .i64 s62))] (by kernel_rfl) ?_
     refine gv_nil <| gv_goA ?_
     refine gv_stage (Cls w70 []) [0, 1, 2] [(0, some true), (2, some false)] (bA 5 [0, 1, 2]) 2 (by kernel_rfl) (by kernel_rfl) (Cls.refl _ _) ?_
     have hC73 := Cls.refl w70 []
     have hk74 := hb69.grown hg71 nb
     refine gv_loadBox (t := 73) (b := b1) (t' := 73) (fr := (0, 0)) #[(.bool a_0.1), (.slice pa0_0 (List.length a_0.2) pc0_0)] [] (fun e => by cases e) rfl rfl rfl (by kernel_rfl) (by kernel_rfl) (by kernel_rfl) (by kernel_rfl) (inw1 fun w' hC' => (hC'.box hk74 nm_nil)) rfl ?_
     refine bindE h2 ?_; clear h2; intro r75 hr76 h2
     refine gv_call (f := 56) (vs := [(.int .i64 s62)]) (cap := []) _ (by decide) rfl rfl rfl (by kernel_rfl) (by kernel_rfl) enters56 (ref3_Number_ok fuel s62 w70  r75 hr76) ?_
     rintro v79 w77 ⟨hg78, a80, c81, X83, rfl, ho82, hx84⟩
     refine ⟨(fun _ => hC73.grown hg78 nb), ?_⟩
     have hx85 : ∀ k, X83 k → k < w77.heap.size := fun k hk => (hx84 k hk).1
     have hB87 := bg hB67 hg71 nb
     have hx86 : ∀ k, X83 k → X0 k ∨ w0.heap.size ≤ k := fun k hk => (hx84 k hk).2.elim (fun h => h.elim) (fun h => .inr (Nat.le_trans hB87.size h))
     refine gv_nil <| gv_goA ?_
     refine gv_stage (fun _ => True) [0, 1, 2, 3] [(3, some false)] (bA 5 [0, 1, 2, 3]) 1 (by kernel_rfl) (by kernel_rfl) trivial ?_
     refine bindE h2 ?_; clear h2; intro r88 hr89 h2
     have hB90 := bg hB87 hg78 nb
     refine gv_call (f := 55) (vs := [(.agg #[(.bool a_0.1), (.slice pa0_0 (List.length a_0.2) pc0_0)]), (.agg #[(.bool r75.1), (.slice a80 (List.length r75.2) c81)])]) (cap := []) _ (by decide) rfl rfl rfl (by kernel_rfl) (by kernel_rfl) enters55 (ref3_Int_Order_ok fuel pa0_0 pc0_0 (a_0.1, a_0.2) a80 c81 (r75.1, r75.2) w77 (fun k => X0 k ∨ X83 k) (fun k hk => (hk).elim (fun h => (fun k (hk : X0 k) => ltl (hX0 k hk) hB90.size) k h) (fun h => hx85 k h)) ((hpa0_0.below hB90 hX0).wide (fun k hk => (.inl hk))) (ho82.wide (fun k hk => (.inr hk))) r88 hr89) ?_
     rintro v93 w91 ⟨hg92, rfl⟩
     refine ⟨(fun _ => trivial), ?_⟩
     refine gv_nil <| gv_goA ?_
     refine gv_pre [4] (bA 5 [0, 1, 2, 3, 4]) 0 (by kernel_rfl) (by kernel_rfl) ?_
     refine gv_pureN 1 [25] [(25, (.bool (r88 != 0)))] (by kernel_rfl) ?_
     refine gv_nil <| gv_goA ?_
     refine gv_stageE (by kernel_rfl) ?_
     refine gv_cond (b := (r88 != 0)) (by kernel_rfl) (fun hc94 => ?_) (fun hc94 => ?_)
     ·replace h2 := ite_t hc94 h2
      refine gv_skip <| gv_block <| gv_region <| gv_pureN 3 [7, 26, 27] [(7, (.int .i64 (IntKind.i64.wrap (s62 + 1))))] (by kernel_rfl) ?_
      refine gv_nil <| gv_blk ?_
      have e := sj h2; subst e
      refine gv_goal fun a hd hs hok => ?_
      have hB95 := bg hB90 hg92 nb
      have hz96 := (nt (nt hz72 hg78.size) hg92.size)
      have hg97 := (grown_trans hg78 hg92)
      have hk98 := hk74.grown hg97 nb
      exact ⟨(IntKind.i64.wrap (s62 + 1)), rfl, hB95, hz96, hk98, hd, hs, ok_pick [3, 7] hok (by kernel_rfl)⟩
     ·replace h2 := ite_f hc94 h2
      refine gv_cexit <| gv_exit rfl ?_
      have e := sj h2; subst e
      replace h1 := congrArg some (hR2 _ rfl)
      have e := sj h1; subst e
      refine gv_goal fun a hd hs hok => ?_
      have hB99 := bg hB90 hg92 nb
      have hz100 := (nt (nt hz72 hg78.size) hg92.size)
      exact ⟨hB99, hz100, hd, hs, ok_pick [7] hok (by kernel_rfl)⟩
   ·rintro a w61 ⟨hB101, hz102, hd, hs, hok⟩
    refine gv_in ?_ hd hs hok
    clear hd hs hok
    clear hc58 hB54 hr53 hB51 hg50 hx47 hr39 hg36 hC35 hc31 hB27 hr26 hB24 hg23 hx20 hg14 hr12 hk10 hC9 hg8 hz6 hb4 hg3
    refine gv_seq <| gv_region <| gv_pureN 2 [6, 28] [(6, (.int .i64 j60))] (by kernel_rfl) ?_
    refine gv_nil <| gv_cret ?_
    have e := sj h0; subst e
    refine gv_ret (gv_done [(.int .i64 j60)] rfl ⟨(by kernel_rfl), trivial⟩ ?_)
    exact ⟨grown_of_below hB101, rfl⟩

theorem ref3_Plus_ok (fuel : Nat) (pa0_0 : Option Addr) (pc0_0 : Nat) (a_0 : (List Int)) (pa1_0 : Option Addr) (pc1_0 : Nat) (b_1 : (List Int)) (w0 : World) (X0 : Nat → Prop) (hX0 : ∀ k, X0 k → k < w0.heap.size) (hpa0_0 : Rd (iE .i64) w0 X0 pa0_0 pc0_0 a_0) (hpa1_0 : Rd (iE .i64) w0 X0 pa1_0 pc1_0 b_1) (r0 : (List Int)) (h0 : ref3_Plus fuel a_0 b_1 = some r0) :
    Calls Tryz.prog 77 ([(.slice pa0_0 (List.length a_0) pc0_0), (.slice pa1_0 (List.length b_1) pc1_0)] : List Value).toArray w0 (Ret fun v w' => w0.grownBy w' none ∧ ∃ (a0_0r : Option Addr) (c0_0r : Nat), ∃ (X0_0r : Nat → Prop), v = tup [(.slice a0_0r (List.length r0) c0_0r)] ∧ Rd (iE .i64) w' X0_0r a0_0r c0_0r r0 ∧ (∀ k, X0_0r k → k < w'.heap.size ∧ (X0 k ∨ w0.heap.size ≤ k))) := by
 have hB0 : Below w0.heap.size w0 w0 := Below.refl _ _
 unfold ref3_Plus at h0
 refine calls_run Tryz.func77 rfl Tryz.ntmps77 (by kernel_rfl) ?_
 refine gv_sub [0, 1] (σ' := [(0, (.slice pa0_0 (List.length a_0) pc0_0)), (1, (.slice pa1_0 (List.length b_1) pc1_0))]) (by kernel_rfl) ?_
 refine gv_seq <| gv_region <| gv_pureN 1 [4] [] (by kernel_rfl) ?_
 refine gv_nil <| gv_seq <| gv_region <| gv_pureN 1 [5] [(5, (.slice none (List.length ([] : List Int)) 0))] (by kernel_rfl) ?_
 refine gv_nil <| gv_seq <| gv_region <| gv_pureN 1 [6] [(6, (.int .i64 0))] (by kernel_rfl) ?_
 refine gv_nil <| gv_seq <| gv_seq <| gv_region <| gv_pureN 1 [7] [(7, (.int .i64 0))] (by kernel_rfl) ?_
 refine gv_nil <| bindE h0 ?_; clear h0; intro j1 h1 h0
 refine gv_cut_code (J := fun a w2 => ∃ (a5_0j : Option Addr) (c5_0j : Nat), Below w0.heap.size w0 w2 ∧ w0.heap.size ≤ w2.heap.size ∧ Gv.Own (iE .i64) 3 w2 (fun _ => False) a5_0j c5_0j j1 ∧ (∀ g, blk a5_0j = some g → w0.heap.size ≤ g) ∧ a.defers = [] ∧ a.tmps.size = 53 ∧ Ok [(5, (.slice a5_0j (List.length j1) c5_0j))] a.tmps) ?_ ?_
 ·skip
  refine gv_block <| gv_loop (A := fun (s3 : ((List Int) × Int × Int)) a w4 => ∃ (a5_0j : Option Addr) (c5_0j : Nat), Below w0.heap.size w0 w4 ∧ w0.heap.size ≤ w4.heap.size ∧ Gv.Own (iE .i64) 3 w4 (fun _ => False) a5_0j c5_0j s3.1 ∧ (∀ g, blk a5_0j = some g → w0.heap.size ≤ g) ∧ a.defers = [] ∧ a.tmps.size = 53 ∧ Ok [(0, (.slice pa0_0 (List.length a_0) pc0_0)), (1, (.slice pa1_0 (List.length b_1) pc1_0)), (5, (.slice a5_0j (List.length s3.1) c5_0j)), (6, (.int .i64 s3.2.1)), (7, (.int .i64 s3.2.2))] a.tmps) h1 ?_ ?_
  ·intro a hd hs hok
   exact ⟨none, 0, hB0, (Nat.le_refl _), (Gv.Own.nil (iE .i64) 3 w0 (fun _ => False)), (fun _ h => by cases h), hd, hs, ok_pick [0, 1, 5, 6, 7] hok (by kernel_rfl)⟩
  ·rintro s3 r2 h2 hR2 a w4 ⟨a7, c8, hB5, hz6, ho9, hl10, hd, hs, hok⟩
   refine gv_in ?_ hd hs hok
   clear hd hs hok
   refine gv_seq <| gv_seq <| gv_region <| gv_cut_ops (J := fun a w11 => w4 = w11 ∧ a.defers = [] ∧ a.tmps.size = 53 ∧ Ok [(0, (.slice pa0_0 (List.length a_0) pc0_0)), (1, (.slice pa1_0 (List.length b_1) pc1_0)), (5, (.slice a7 (List.length s3.1) c8)), (6, (.int .i64 s3.2.1)), (7, (.int .i64 s3.2.2)), (21, (.bool ((decide (s3.2.2 < ((List.length a_0 : Nat) : Int))) || ((decide (s3.2.2 < ((List.length b_1 : Nat) : Int))) || (decide (s3.2.1 > 0))))))] a.tmps) ?_ ?_
   ·skip
    refine gv_pureN 5 [8, 9, 10, 11, 12] [(12, (.bool (decide (s3.2.2 < ((List.length a_0 : Nat) : Int)))))] (by kernel_rfl) ?_
    refine gv_split (s := 12) (g := (decide (s3.2.2 < ((List.length a_0 : Nat) : Int)))) (by kernel_rfl) (fun hc12 => ?_) (fun hc12 => ?_)
    ·skip
     refine gv_pureN 9 [13, 14, 15, 16, 17, 18, 19, 20, 21] [(21, (.bool true))] (by kernel_rfl) ?_
     refine gv_nil <| gv_sub [0, 1, 5, 6, 7, 21] (σ' := [(0, (.slice pa0_0 (List.length a_0) pc0_0)), (1, (.slice pa1_0 (List.length b_1) pc1_0)), (5, (.slice a7 (List.length s3.1) c8)), (6, (.int .i64 s3.2.1)), (7, (.int .i64 s3.2.2)), (21, (.bool true))]) (by kernel_rfl) ?_
     refine gv_goal fun a hd hs hok => ⟨rfl, hd, hs, ?_⟩
     obtain ⟨q0, q1, q5, q6, q7, q21, _⟩ := hok
     exact ⟨q0, q1, q5, q6, q7, (by rw [hc12]; exact q21), trivial⟩
    ·skip
     refine gv_pureN 6 [13, 14, 15, 16, 17, 18] [(18, (.bool (decide (s3.2.2 < ((List.length b_1 : Nat) : Int)))))] (by kernel_rfl) ?_
     refine gv_split (s := 18) (g := (decide (s3.2.2 < ((List.length b_1 : Nat) : Int)))) (by kernel_rfl) (fun hc13 => ?_) (fun hc13 => ?_)
     ·skip
      refine gv_pureN 3 [19, 20, 21] [(21, (.bool true))] (by kernel_rfl) ?_
      refine gv_nil <| gv_sub [0, 1, 5, 6, 7, 21] (σ' := [(0, (.slice pa0_0 (List.length a_0) pc0_0)), (1, (.slice pa1_0 (List.length b_1) pc1_0)), (5, (.slice a7 (List.length s3.1) c8)), (6, (.int .i64 s3.2.1)), (7, (.int .i64 s3.2.2)), (21, (.bool true))]) (by kernel_rfl) ?_
      refine gv_goal fun a hd hs hok => ⟨rfl, hd, hs, ?_⟩
      obtain ⟨q0, q1, q5, q6, q7, q21, _⟩ := hok
      exact ⟨q0, q1, q5, q6, q7, (by rw [hc12, hc13]; exact q21), trivial⟩
     ·skip
      refine gv_pureN 3 [19, 20, 21] [(21, (.bool (decide (s3.2.1 > 0))))] (by kernel_rfl) ?_
      refine gv_nil <| gv_sub [0, 1, 5, 6, 7, 21] (σ' := [(0, (.slice pa0_0 (List.length a_0) pc0_0)), (1, (.slice pa1_0 (List.length b_1) pc1_0)), (5, (.slice a7 (List.length s3.1) c8)), (6, (.int .i64 s3.2.1)), (7, (.int .i64 s3.2.2)), (21, (.bool (decide (s3.2.1 > 0))))]) (by kernel_rfl) ?_
      refine gv_goal fun a hd hs hok => ⟨rfl, hd, hs, ?_⟩
      obtain ⟨q0, q1, q5, q6, q7, q21, _⟩ := hok
      exact ⟨q0, q1, q5, q6, q7, (by rw [hc12, hc13]; exact q21), trivial⟩
   ·rintro a w11 ⟨e, hd, hs, hok⟩; subst e
    refine gv_in ?_ hd hs hok
    clear hd hs hok
    refine gv_cond (b := ((decide (s3.2.2 < ((List.length a_0 : Nat) : Int))) || ((decide (s3.2.2 < ((List.length b_1 : Nat) : Int))) || (decide (s3.2.1 > 0))))) (by kernel_rfl) (fun hc14 => ?_) (fun hc14 => ?_)
    ·replace h2 := ite_t hc14 h2
     refine gv_skip <| gv_seq <| gv_block <| gv_seq <| gv_seq <| gv_region <| gv_pureN 4 [24, 25, 26, 27] [(27, (.bool (decide (s3.2.2 < ((List.length a_0 : Nat) : Int)))))] (by kernel_rfl) ?_
     refine gv_nil <| bindE h2 ?_; clear h2; intro j15 h3 h2
     refine gv_cut_code (J := fun a w16 => Below w0.heap.size w0 w16 ∧ w4.heap.size ≤ w16.heap.size ∧ Gv.Own (iE .i64) 3 w16 (fun _ => False) a7 c8 s3.1 ∧ a.defers = [] ∧ a.tmps.size = 53 ∧ Ok [(0, (.slice pa0_0 (List.length a_0) pc0_0)), (1, (.slice pa1_0 (List.length b_1) pc1_0)), (5, (.slice a7 (List.length s3.1) c8)), (6, (.int .i64 j15)), (7, (.int .i64 s3.2.2))] a.tmps) ?_ ?_
     ·skip
      refine gv_cond (b := (decide (s3.2.2 < ((List.length a_0 : Nat) : Int)))) (by kernel_rfl) (fun hc17 => ?_) (fun hc17 => ?_)
      ·replace h3 := ite_t hc17 h3
       refine gv_region <| gv_pureN 3 [28, 29, 30] [(28, (.int .i64 s3.2.1)), (29, (.slice pa0_0 (List.length a_0) pc0_0)), (30, (.int .i64 s3.2.2))] (by kernel_rfl) ?_
       refine bindE h3 ?_; clear h3; intro x18 hx19 h3
       refine gv_idxaddr (t := 71) (e := 3) (a := pa0_0) (len := List.length a_0) (cap := pc0_0) (kk := .i64) (i := s3.2.2) (sz := 1) [] (fun e => by cases e) rfl rfl rfl (by kernel_rfl) (by kernel_rfl) Tryz.underlying71 (by kernel_rfl) ((hpa0_0.below hB5 hX0).has hx19) (idx_spec hx19).1 (idx_spec hx19).2.1 rfl ?_
       refine gv_load (t := 3) (A := (elemAddr pa0_0 ((s3.2.2 : Int).toNat * 1))) (.int .i64 x18) [] (fun e => by cases e) rfl rfl rfl (by kernel_rfl) (by kernel_rfl) (by kernel_rfl) (inw0 ((hpa0_0.below hB5 hX0).cell hx19)) rfl ?_
       refine gv_pureN 2 [6, 33] [(6, (.int .i64 (IntKind.i64.wrap (s3.2.1 + x18))))] (by kernel_rfl) ?_
       refine gv_nil ?_
       have e := sj h3; subst e
       refine gv_goal fun a hd hs hok => ?_
       exact ⟨hB5, (Nat.le_refl _), ho9, hd, hs, ok_pick [0, 1, 5, 6, 7] hok (by kernel_rfl)⟩
      ·replace h3 := ite_f hc17 h3
       refine gv_skip ?_
       have e := sj h3; subst e
       refine gv_goal fun a hd hs hok => ?_
       exact ⟨hB5, (Nat.le_refl _), ho9, hd, hs, ok_pick [0, 1, 5, 6, 7] hok (by kernel_rfl)⟩
     ·rintro a w16 ⟨hB20, hz21, hk22, hd, hs, hok⟩
      refine gv_in ?_ hd hs hok
      clear hd hs hok
      have hz23 := (nt hz6 hz21)
      clear hz21 hc14 ho9 hz6 hB5
      refine gv_seq <| gv_seq <| gv_region <| gv_pureN 4 [34, 35, 36, 37] [(37, (.bool (decide (s3.2.2 < ((List.length b_1 : Nat) : Int)))))] (by kernel_rfl) ?_
      refine gv_nil <| bindE h2 ?_; clear h2; intro j24 h3 h2
      refine gv_cut_code (J := fun a w25 => Below w0.heap.size w0 w25 ∧ w16.heap.size ≤ w25.heap.size ∧ Gv.Own (iE .i64) 3 w25 (fun _ => False) a7 c8 s3.1 ∧ a.defers = [] ∧ a.tmps.size = 53 ∧ Ok [(0, (.slice pa0_0 (List.length a_0) pc0_0)), (1, (.slice pa1_0 (List.length b_1) pc1_0)), (5, (.slice a7 (List.length s3.1) c8)), (6, (.int .i64 j24)), (7, (.int .i64 s3.2.2))] a.tmps) ?_ ?_
      ·skip
       refine gv_cond (b := (decide (s3.2.2 < ((List.length b_1 : Nat) : Int)))) (by kernel_rfl) (fun hc26 => ?_) (fun hc26 => ?_)
       ·replace h3 := ite_t hc26 h3
        refine gv_region <| gv_pureN 3 [38, 39, 40] [(38, (.int .i64 j15)), (39, (.slice pa1_0 (List.length b_1) pc1_0)), (40, (.int .i64 s3.2.2))] (by kernel_rfl) ?_
        refine bindE h3 ?_; clear h3; intro x27 hx28 h3
        refine gv_idxaddr (t := 71) (e := 3) (a := pa1_0) (len := List.length b_1) (cap := pc1_0) (kk := .i64) (i := s3.2.2) (sz := 1) [] (fun e => by cases e) rfl rfl rfl (by kernel_rfl) (by kernel_rfl) Tryz.underlying71 (by kernel_rfl) ((hpa1_0.below hB20 hX0).has hx28) (idx_spec hx28).1 (idx_spec hx28).2.1 rfl ?_
        refine gv_load (t := 3) (A := (elemAddr pa1_0 ((s3.2.2 : Int).toNat * 1))) (.int .i64 x27) [] (fun e => by cases e) rfl rfl rfl (by kernel_rfl) (by kernel_rfl) (by kernel_rfl) (inw0 ((hpa1_0.below hB20 hX0).cell hx28)) rfl ?_
        refine gv_pureN 2 [6, 43] [(6, (.int .i64 (IntKind.i64.wrap (j15 + x27))))] (by kernel_rfl) ?_
        refine gv_nil ?_
        have e := sj h3; subst e
        refine gv_goal fun a hd hs hok => ?_
        exact ⟨hB20, (Nat.le_refl _), hk22, hd, hs, ok_pick [0, 1, 5, 6, 7] hok (by kernel_rfl)⟩
       ·replace h3 := ite_f hc26 h3
        refine gv_skip ?_
        have e := sj h3; subst e
        refine gv_goal fun a hd hs hok => ?_
        exact ⟨hB20, (Nat.le_refl _), hk22, hd, hs, ok_pick [0, 1, 5, 6, 7] hok (by kernel_rfl)⟩
      ·rintro a w25 ⟨hB29, hz30, hk31, hd, hs, hok⟩
       refine gv_in ?_ hd hs hok
       clear hd hs hok
       have hz32 := (nt hz23 hz30)
       clear hz30 hz23 hk22 hB20
       refine gv_seq <| gv_region <| gv_pureN 3 [44, 45, 46] [(44, (.slice a7 (List.length s3.1) c8)), (46, (.int .i64 ((j24).tmod 65536)))] (by kernel_rfl) ?_
       refine gv_new0 (fun b => .slice (some ⟨b, 0, none⟩) 1 1) #[(.int .i64 ((j24).tmod 65536))] 3 (by kernel_rfl) (by kernel_rfl) ?_
       intro b33 w34 hg35 hb36 hbe37 hz38
       have ho39 : Gv.Own (iE .i64) 3 w34 (fun _ => False) (some ⟨b33, 0, none⟩) 1 ([((j24).tmod 65536)] : List Int) := Box.ownE hb36 ⟨[(.int .i64 ((j24).tmod 65536))], [], rfl, rfl, rfl⟩ (show 1 ≤ maxLen by decide) (fun h => h)
       have hl40 : ∀ g, blk (some ⟨b33, 0, none⟩) = some g → w0.heap.size ≤ g := loo hbe37 hB29.size
       refine bindE h2 ?_; clear h2; intro l44 hx45 h2
       have hk52 := hk31.grown hg35 (fun _ h => h.elim) nb
       refine gv_append (iE .i64) (t := 71) (ty := 71) (e := 3) (a := a7) (ax := (some ⟨b33, 0, none⟩)) (cap := c8) (cx := 1) (xs := s3.1) (ys := ([((j24).tmod 65536)] : List Int)) l44 (X := (fun _ => False)) (Y := (fun k => blk (some ⟨b33, 0, none⟩) = some k)) (by decide) rfl rfl (by kernel_rfl) (by kernel_rfl) Tryz.underlying71 info3 hk52 (ho39.rd (Y := fun k => blk (some ⟨b33, 0, none⟩) = some k) (fun _ h => h.elim) (fun g e => e)) hx45 (.inr fun _ _ _ _ _ h => h) (fun _ h => h.elim) ?_
       intro a46 c47 w48 hg49 ho50 hk51
       refine ⟨(fun e => by cases e), ?_⟩
       have hB54 := bg hB29 hg35 nb
       have hl53 : ∀ g, blk a46 = some g → w0.heap.size ≤ g := blk_step hk51 hl10 hB54.size
       have ap56 : ∀ g, blk a7 = some g → ¬ (fun k => blk (some ⟨b33, 0, none⟩) = some k) g := fun g e hx => nl ((lowo hbe37) _ hx) ((fun k (hk : blk a7 = some k) => hk31.lt k hk) g e)
       have ap55 : ∀ g, blk a46 = some g → ¬ (fun k => blk (some ⟨b33, 0, none⟩) = some k) g := blk_neX hk51 ap56 (fun k (hk : blk (some ⟨b33, 0, none⟩) = some k) => ho39.lt k hk)
       have ap58 : ∀ g, blk (some ⟨b33, 0, none⟩) = some g → ¬ (fun k => blk a7 = some k) g := fun g e hx => nl ((lowo hbe37) g e) ((fun k (hk : blk a7 = some k) => hk31.lt k hk) _ hx)
       have ap57 : ∀ g, blk (some ⟨b33, 0, none⟩) = some g → ¬ (fun k => blk a46 = some k) g := fun g e h => blk_rev hk51 (fun h => ((ap58) g e) h) (ho39.lt g e) h
       refine gv_pureN 1 [5] [(5, (.slice a46 (List.length l44) c47))] (by kernel_rfl) ?_
       refine gv_nil <| gv_region <| gv_pureN 3 [6, 49, 50] [(6, (.int .i64 (IntKind.i64.wrap ((j24).tdiv 65536))))] (by kernel_rfl) ?_
       refine gv_nil <| gv_blk <| gv_region <| gv_pureN 3 [7, 22, 23] [(7, (.int .i64 (IntKind.i64.wrap (s3.2.2 + 1))))] (by kernel_rfl) ?_
       refine gv_nil ?_
       have e := sj h2; subst e
       refine gv_goal fun a hd hs hok => ?_
       have hB59 := bg hB54 hg49 hl10
       have hz60 := (nt (nt hz32 hg35.size) hg49.size)
       exact ⟨(l44, (IntKind.i64.wrap ((j24).tdiv 65536)), (IntKind.i64.wrap (s3.2.2 + 1))), rfl, a46, c47, hB59, hz60, ho50, hl53, hd, hs, ok_pick [0, 1, 5, 6, 7] hok (by kernel_rfl)⟩
    ·replace h2 := ite_f hc14 h2
     refine gv_cexit <| gv_exit rfl ?_
     have e := sj h2; subst e
     replace h1 := congrArg some (hR2 _ rfl)
     have e := sj h1; subst e
     refine gv_goal fun a hd hs hok => ?_
     have hz61 := hz6
     exact ⟨a7, c8, hB5, hz61, ho9, hl10, hd, hs, ok_pick [5] hok (by kernel_rfl)⟩
 ·rintro a w2 ⟨a64, c65, hB62, hz63, ho66, hl67, hd, hs, hok⟩
  refine gv_in ?_ hd hs hok
  clear hd hs hok
  refine gv_seq <| gv_region <| gv_pureN 1 [51] [(51, (.slice a64 (List.length j1) c65))] (by kernel_rfl) ?_
  refine bindE h0 ?_; clear h0; intro r68 hr69 h0
  refine gv_call0 (by kernel_rfl) rfl (by kernel_rfl) enters76 (ref3_trim_ok fuel a64 c65 j1 w2 (fun k => (fun k => blk a64 = some k) k) (fun k hk => (fun k (hk : blk a64 = some k) => ho66.lt k hk) k hk) ((ho66.rd (Y := fun k => blk a64 = some k) (fun _ h => h.elim) (fun g e => e)).wide (fun k hk => hk)) r68 hr69) ?_
  rintro v72 w70 ⟨hg71, a73, c74, X76, rfl, ho75, hx77⟩
  have hx78 : ∀ k, X76 k → k < w70.heap.size := fun k hk => (hx77 k hk).1
  have hx79 : ∀ k, X76 k → X0 k ∨ w0.heap.size ≤ k := fun k hk => (hx77 k hk).2.elim (fun h => (fun k (hk : blk a64 = some k) => Or.inr (hl67 k hk)) k h) (fun h => .inr (Nat.le_trans hB62.size h))
  refine gv_pureN 1 [4] [(4, (.slice a73 (List.length r68) c74))] (by kernel_rfl) ?_
  refine gv_nil <| gv_cret ?_
  have e := sj h0; subst e
  refine gv_ret (gv_done [(.slice a73 (List.length r68) c74)] rfl ⟨(by kernel_rfl), trivial⟩ ?_)
  have hB80 := bg hB62 hg71 nb
  exact ⟨grown_of_below hB80, a73, c74, X76, rfl, ho75, (fun k hk => ⟨hx78 k hk, hx79 k hk⟩)⟩

theorem ref3_Minus_ok (fuel : Nat) (pa0_0 : Option Addr) (pc0_0 : Nat) (a_0 : (List Int)) (pa1_0 : Option Addr) (pc1_0 : Nat) (b_1 : (List Int)) (w0 : World) (X0 : Nat → Prop) (hX0 : ∀ k, X0 k → k < w0.heap.size) (hpa0_0 : Rd (iE .i64) w0 X0 pa0_0 pc0_0 a_0) (hpa1_0 : Rd (iE .i64) w0 X0 pa1_0 pc1_0 b_1) (r0 : (List Int)) (h0 : ref3_Minus fuel a_0 b_1 = some r0) :
    Calls Tryz.prog 78 ([(.slice pa0_0 (List.length a_0) pc0_0), (.slice pa1_0 (List.length b_1) pc1_0)] : List Value).toArray w0 (Ret fun v w' => w0.grownBy w' none ∧ ∃ (a0_0r : Option Addr) (c0_0r : Nat), ∃ (X0_0r : Nat → Prop), v = tup [(.slice a0_0r (List.length r0) c0_0r)] ∧ Rd (iE .i64) w' X0_0r a0_0r c0_0r r0 ∧ (∀ k, X0_0r k → k < w'.heap.size ∧ (X0 k ∨ w0.heap.size ≤ k))) := by
 have hB0 : Below w0.heap.size w0 w0 := Below.refl _ _
 unfold ref3_Minus at h0
 refine calls_run Tryz.func78 rfl Tryz.ntmps78 (by kernel_rfl) ?_
 refine gv_sub [0, 1] (σ' := [(0, (.slice pa0_0 (List.length a_0) pc0_0)), (1, (.slice pa1_0 (List.length b_1) pc1_0))]) (by kernel_rfl) ?_
 refine gv_seq <| gv_region <| gv_pureN 1 [4] [] (by kernel_rfl) ?_
 refine gv_nil <| gv_seq <| gv_region <| gv_pureN 1 [5] [(5, (.slice none (List.length ([] : List Int)) 0))] (by kernel_rfl) ?_
 refine gv_nil <| gv_seq <| gv_region <| gv_pureN 1 [6] [(6, (.int .i64 0))] (by kernel_rfl) ?_
 refine gv_nil <| gv_seq <| gv_seq <| gv_region <| gv_pureN 1 [7] [(7, (.int .i64 0))] (by kernel_rfl) ?_
 refine gv_nil <| bindE h0 ?_; clear h0; intro j1 h1 h0
 refine gv_cut_code (J := fun a w2 => ∃ (a5_0j : Option Addr) (c5_0j : Nat), Below w0.heap.size w0 w2 ∧ w0.heap.size ≤ w2.heap.size ∧ Gv.Own (iE .i64) 3 w2 (fun _ => False) a5_0j c5_0j j1 ∧ (∀ g, blk a5_0j = some g → w0.heap.size ≤ g) ∧ a.defers = [] ∧ a.tmps.size = 41 ∧ Ok [(5, (.slice a5_0j (List.length j1) c5_0j))] a.tmps) ?_ ?_
 ·skip
  refine gv_block <| gv_loop (A := fun (s3 : ((List Int) × Int × Int)) a w4 => ∃ (a5_0j : Option Addr) (c5_0j : Nat), Below w0.heap.size w0 w4 ∧ w0.heap.size ≤ w4.heap.size ∧ Gv.Own (iE .i64) 3 w4 (fun _ => False) a5_0j c5_0j s3.1 ∧ (∀ g, blk a5_0j = some g → w0.heap.size ≤ g) ∧ a.defers = [] ∧ a.tmps.size = 41 ∧ Ok [(0, (.slice pa0_0 (List.length a_0) pc0_0)), (1, (.slice pa1_0 (List.length b_1) pc1_0)), (5, (.slice a5_0j (List.length s3.1) c5_0j)), (6, (.int .i64 s3.2.1)), (7, (.int .i64 s3.2.2))] a.tmps) h1 ?_ ?_
  ·intro a hd hs hok
   exact ⟨none, 0, hB0, (Nat.le_refl _), (Gv.Own.nil (iE .i64) 3 w0 (fun _ => False)), (fun _ h => by cases h), hd, hs, ok_pick [0, 1, 5, 6, 7] hok (by kernel_rfl)⟩
  ·rintro s3 r2 h2 hR2 a w4 ⟨a7, c8, hB5, hz6, ho9, hl10, hd, hs, hok⟩
   refine gv_in ?_ hd hs hok
   clear hd hs hok
   refine gv_seq <| gv_seq <| gv_region <| gv_pureN 4 [9, 10, 11, 12] [(12, (.bool (decide (s3.2.2 < ((List.length a_0 : Nat) : Int)))))] (by kernel_rfl) ?_
   refine gv_nil <| gv_cond (b := (decide (s3.2.2 < ((List.length a_0 : Nat) : Int)))) (by kernel_rfl) (fun hc11 => ?_) (fun hc11 => ?_)
   ·replace h2 := ite_t hc11 h2
    refine gv_skip <| gv_seq <| gv_block <| gv_seq <| gv_region <| gv_pureN 2 [15, 16] [(15, (.slice pa0_0 (List.length a_0) pc0_0)), (16, (.int .i64 s3.2.2))] (by kernel_rfl) ?_
    refine bindE h2 ?_; clear h2; intro x12 hx13 h2
    refine gv_idxaddr (t := 71) (e := 3) (a := pa0_0) (len := List.length a_0) (cap := pc0_0) (kk := .i64) (i := s3.2.2) (sz := 1) [] (fun e => by cases e) rfl rfl rfl (by kernel_rfl) (by kernel_rfl) Tryz.underlying71 (by kernel_rfl) ((hpa0_0.below hB5 hX0).has hx13) (idx_spec hx13).1 (idx_spec hx13).2.1 rfl ?_
    refine gv_load (t := 3) (A := (elemAddr pa0_0 ((s3.2.2 : Int).toNat * 1))) (.int .i64 x12) [] (fun e => by cases e) rfl rfl rfl (by kernel_rfl) (by kernel_rfl) (by kernel_rfl) (inw0 ((hpa0_0.below hB5 hX0).cell hx13)) rfl ?_
    refine gv_pureN 3 [8, 19, 20] [(8, (.int .i64 (IntKind.i64.wrap (x12 - s3.2.1))))] (by kernel_rfl) ?_
    refine gv_nil <| gv_seq <| gv_seq <| gv_region <| gv_pureN 4 [21, 22, 23, 24] [(24, (.bool (decide (s3.2.2 < ((List.length b_1 : Nat) : Int)))))] (by kernel_rfl) ?_
    refine gv_nil <| bindE h2 ?_; clear h2; intro j14 h3 h2
    refine gv_cut_code (J := fun a w15 => Below w0.heap.size w0 w15 ∧ w4.heap.size ≤ w15.heap.size ∧ Gv.Own (iE .i64) 3 w15 (fun _ => False) a7 c8 s3.1 ∧ a.defers = [] ∧ a.tmps.size = 41 ∧ Ok [(0, (.slice pa0_0 (List.length a_0) pc0_0)), (1, (.slice pa1_0 (List.length b_1) pc1_0)), (5, (.slice a7 (List.length s3.1) c8)), (7, (.int .i64 s3.2.2)), (8, (.int .i64 j14))] a.tmps) ?_ ?_
    ·skip
     refine gv_cond (b := (decide (s3.2.2 < ((List.length b_1 : Nat) : Int)))) (by kernel_rfl) (fun hc16 => ?_) (fun hc16 => ?_)
     ·replace h3 := ite_t hc16 h3
      refine gv_region <| gv_pureN 3 [25, 26, 27] [(25, (.int .i64 (IntKind.i64.wrap (x12 - s3.2.1)))), (26, (.slice pa1_0 (List.length b_1) pc1_0)), (27, (.int .i64 s3.2.2))] (by kernel_rfl) ?_
      refine bindE h3 ?_; clear h3; intro x17 hx18 h3
      refine gv_idxaddr (t := 71) (e := 3) (a := pa1_0) (len := List.length b_1) (cap := pc1_0) (kk := .i64) (i := s3.2.2) (sz := 1) [] (fun e => by cases e) rfl rfl rfl (by kernel_rfl) (by kernel_rfl) Tryz.underlying71 (by kernel_rfl) ((hpa1_0.below hB5 hX0).has hx18) (idx_spec hx18).1 (idx_spec hx18).2.1 rfl ?_
      refine gv_load (t := 3) (A := (elemAddr pa1_0 ((s3.2.2 : Int).toNat * 1))) (.int .i64 x17) [] (fun e => by cases e) rfl rfl rfl (by kernel_rfl) (by kernel_rfl) (by kernel_rfl) (inw0 ((hpa1_0.below hB5 hX0).cell hx18)) rfl ?_
      refine gv_pureN 2 [8, 30] [(8, (.int .i64 (IntKind.i64.wrap ((IntKind.i64.wrap (x12 - s3.2.1)) - x17))))] (by kernel_rfl) ?_
      refine bindE h3 ?_; clear h3; intro n19 hn20 h3
      refine gv_name (s := 8) (v := (.int .i64 (IntKind.i64.wrap ((IntKind.i64.wrap (x12 - s3.2.1)) - x17)))) (v' := (.int .i64 n19)) (by kernel_rfl) (congrArg (Value.int .i64) (sj hn20)) ?_
      refine gv_nil ?_
      have e := sj h3; subst e
      refine gv_goal fun a hd hs hok => ?_
      exact ⟨hB5, (Nat.le_refl _), ho9, hd, hs, ok_pick [0, 1, 5, 7, 8] hok (by kernel_rfl)⟩
     ·replace h3 := ite_f hc16 h3
      refine gv_skip ?_
      have e := sj h3; subst e
      refine gv_goal fun a hd hs hok => ?_
      exact ⟨hB5, (Nat.le_refl _), ho9, hd, hs, ok_pick [0, 1, 5, 7, 8] hok (by kernel_rfl)⟩
    ·rintro a w15 ⟨hB21, hz22, hk23, hd, hs, hok⟩
     refine gv_in ?_ hd hs hok
     clear hd hs hok
     have hz24 := (nt hz6 hz22)
     clear hz22 hx13 hc11 ho9 hz6 hB5
     refine gv_seq <| gv_region <| gv_pureN 1 [6] [(6, (.int .i64 0))] (by kernel_rfl) ?_
     refine gv_nil <| gv_seq <| gv_seq <| gv_region <| gv_pureN 2 [31, 32] [(32, (.bool (decide (j14 < 0))))] (by kernel_rfl) ?_
     refine gv_nil <| bindE h2 ?_; clear h2; intro j25 h3 h2
     refine gv_cut_code (J := fun a w26 => Below w0.heap.size w0 w26 ∧ w15.heap.size ≤ w26.heap.size ∧ Gv.Own (iE .i64) 3 w26 (fun _ => False) a7 c8 s3.1 ∧ a.defers = [] ∧ a.tmps.size = 41 ∧ Ok [(0, (.slice pa0_0 (List.length a_0) pc0_0)), (1, (.slice pa1_0 (List.length b_1) pc1_0)), (5, (.slice a7 (List.length s3.1) c8)), (6, (.int .i64 j25.1)), (7, (.int .i64 s3.2.2)), (8, (.int .i64 j25.2))] a.tmps) ?_ ?_
     ·skip
      refine gv_cond (b := (decide (j14 < 0))) (by kernel_rfl) (fun hc27 => ?_) (fun hc27 => ?_)
      ·replace h3 := ite_t hc27 h3
       refine gv_seq <| gv_region <| gv_pureN 3 [8, 33, 34] [(8, (.int .i64 (IntKind.i64.wrap (j14 + 65536))))] (by kernel_rfl) ?_
       refine gv_nil <| gv_region <| gv_pureN 1 [6] [(6, (.int .i64 1))] (by kernel_rfl) ?_
       refine gv_nil ?_
       have e := sj h3; subst e
       refine gv_goal fun a hd hs hok => ?_
       exact ⟨hB21, (Nat.le_refl _), hk23, hd, hs, ok_pick [0, 1, 5, 6, 7, 8] hok (by kernel_rfl)⟩
      ·replace h3 := ite_f hc27 h3
       refine gv_skip ?_
       have e := sj h3; subst e
       refine gv_goal fun a hd hs hok => ?_
       exact ⟨hB21, (Nat.le_refl _), hk23, hd, hs, ok_pick [0, 1, 5, 6, 7, 8] hok (by kernel_rfl)⟩
     ·rintro a w26 ⟨hB28, hz29, hk30, hd, hs, hok⟩
      refine gv_in ?_ hd hs hok
      clear hd hs hok
      have hz31 := (nt hz24 hz29)
      clear hz29 hz24 hk23 hB21
      refine gv_region <| gv_pureN 2 [35, 36] [(35, (.slice a7 (List.length s3.1) c8)), (36, (.int .i64 j25.2))] (by kernel_rfl) ?_
      refine gv_new0 (fun b => .slice (some ⟨b, 0, none⟩) 1 1) #[(.int .i64 j25.2)] 3 (by kernel_rfl) (by kernel_rfl) ?_
      intro b32 w33 hg34 hb35 hbe36 hz37
      have ho38 : Gv.Own (iE .i64) 3 w33 (fun _ => False) (some ⟨b32, 0, none⟩) 1 ([j25.2] : List Int) := Box.ownE hb35 ⟨[(.int .i64 j25.2)], [], rfl, rfl, rfl⟩ (show 1 ≤ maxLen by decide) (fun h => h)
      have hl39 : ∀ g, blk (some ⟨b32, 0, none⟩) = some g → w0.heap.size ≤ g := loo hbe36 hB28.size
      refine bindE h2 ?_; clear h2; intro l43 hx44 h2
      have hk51 := hk30.grown hg34 (fun _ h => h.elim) nb
      refine gv_append (iE .i64) (t := 71) (ty := 71) (e := 3) (a := a7) (ax := (some ⟨b32, 0, none⟩)) (cap := c8) (cx := 1) (xs := s3.1) (ys := ([j25.2] : List Int)) l43 (X := (fun _ => False)) (Y := (fun k => blk (some ⟨b32, 0, none⟩) = some k)) (by decide) rfl rfl (by kernel_rfl) (by kernel_rfl) Tryz.underlying71 info3 hk51 (ho38.rd (Y := fun k => blk (some ⟨b32, 0, none⟩) = some k) (fun _ h => h.elim) (fun g e => e)) hx44 (.inr fun _ _ _ _ _ h => h) (fun _ h => h.elim) ?_
      intro a45 c46 w47 hg48 ho49 hk50
      refine ⟨(fun e => by cases e), ?_⟩
      have hB53 := bg hB28 hg34 nb
      have hl52 : ∀ g, blk a45 = some g → w0.heap.size ≤ g := blk_step hk50 hl10 hB53.size
      have ap55 : ∀ g, blk a7 = some g → ¬ (fun k => blk (some ⟨b32, 0, none⟩) = some k) g := fun g e hx => nl ((lowo hbe36) _ hx) ((fun k (hk : blk a7 = some k) => hk30.lt k hk) g e)
      have ap54 : ∀ g, blk a45 = some g → ¬ (fun k => blk (some ⟨b32, 0, none⟩) = some k) g := blk_neX hk50 ap55 (fun k (hk : blk (some ⟨b32, 0, none⟩) = some k) => ho38.lt k hk)
      have ap57 : ∀ g, blk (some ⟨b32, 0, none⟩) = some g → ¬ (fun k => blk a7 = some k) g := fun g e hx => nl ((lowo hbe36) g e) ((fun k (hk : blk a7 = some k) => hk30.lt k hk) _ hx)
      have ap56 : ∀ g, blk (some ⟨b32, 0, none⟩) = some g → ¬ (fun k => blk a45 = some k) g := fun g e h => blk_rev hk50 (fun h => ((ap57) g e) h) (ho38.lt g e) h
      refine gv_pureN 1 [5] [(5, (.slice a45 (List.length l43) c46))] (by kernel_rfl) ?_
      refine gv_nil <| gv_blk <| gv_region <| gv_pureN 3 [7, 13, 14] [(7, (.int .i64 (IntKind.i64.wrap (s3.2.2 + 1))))] (by kernel_rfl) ?_
      refine gv_nil ?_
      have e := sj h2; subst e
      refine gv_goal fun a hd hs hok => ?_
      have hB58 := bg hB53 hg48 hl10
      have hz59 := (nt (nt hz31 hg34.size) hg48.size)
      exact ⟨(l43, j25.1, (IntKind.i64.wrap (s3.2.2 + 1))), rfl, a45, c46, hB58, hz59, ho49, hl52, hd, hs, ok_pick [0, 1, 5, 6, 7] hok (by kernel_rfl)⟩
   ·replace h2 := ite_f hc11 h2
    refine gv_cexit <| gv_exit rfl ?_
    have e := sj h2; subst e
    replace h1 := congrArg some (hR2 _ rfl)
    have e := sj h1; subst e
    refine gv_goal fun a hd hs hok => ?_
    have hz60 := hz6
    exact ⟨a7, c8, hB5, hz60, ho9, hl10, hd, hs, ok_pick [5] hok (by kernel_rfl)⟩
 ·rintro a w2 ⟨a63, c64, hB61, hz62, ho65, hl66, hd, hs, hok⟩
  refine gv_in ?_ hd hs hok
  clear hd hs hok
  refine gv_seq <| gv_region <| gv_pureN 1 [39] [(39, (.slice a63 (List.length j1) c64))] (by kernel_rfl) ?_
  refine bindE h0 ?_; clear h0; intro r67 hr68 h0
  refine gv_call0 (by kernel_rfl) rfl (by kernel_rfl) enters76 (ref3_trim_ok fuel a63 c64 j1 w2 (fun k => (fun k => blk a63 = some k) k) (fun k hk => (fun k (hk : blk a63 = some k) => ho65.lt k hk) k hk) ((ho65.rd (Y := fun k => blk a63 = some k) (fun _ h => h.elim) (fun g e => e)).wide (fun k hk => hk)) r67 hr68) ?_
  rintro v71 w69 ⟨hg70, a72, c73, X75, rfl, ho74, hx76⟩
  have hx77 : ∀ k, X75 k → k < w69.heap.size := fun k hk => (hx76 k hk).1
  have hx78 : ∀ k, X75 k → X0 k ∨ w0.heap.size ≤ k := fun k hk => (hx76 k hk).2.elim (fun h => (fun k (hk : blk a63 = some k) => Or.inr (hl66 k hk)) k h) (fun h => .inr (Nat.le_trans hB61.size h))
  refine gv_pureN 1 [4] [(4, (.slice a72 (List.length r67) c73))] (by kernel_rfl) ?_
  refine gv_nil <| gv_cret ?_
  have e := sj h0; subst e
  refine gv_ret (gv_done [(.slice a72 (List.length r67) c73)] rfl ⟨(by kernel_rfl), trivial⟩ ?_)
  have hB79 := bg hB61 hg70 nb
  exact ⟨grown_of_below hB79, a72, c73, X75, rfl, ho74, (fun k hk => ⟨hx77 k hk, hx78 k hk⟩)⟩

theorem ref3_Int_Plus_ok (fuel : Nat) (pa0_0 : Option Addr) (pc0_0 : Nat) (a_0 : (Bool × (List Int))) (pa1_0 : Option Addr) (pc1_0 : Nat) (b_1 : (Bool × (List Int))) (w0 : World) (X0 : Nat → Prop) (hX0 : ∀ k, X0 k → k < w0.heap.size) (hpa0_0 : Rd (iE .i64) w0 X0 pa0_0 pc0_0 a_0.2) (hpa1_0 : Rd (iE .i64) w0 X0 pa1_0 pc1_0 b_1.2) (r0 : (Bool × (List Int))) (h0 : ref3_Int_Plus fuel a_0 b_1 = some r0) :
    Calls Tryz.prog 58 ([(.agg #[(.bool a_0.1), (.slice pa0_0 (List.length a_0.2) pc0_0)]), (.agg #[(.bool b_1.1), (.slice pa1_0 (List.length b_1.2) pc1_0)])] : List Value).toArray w0 (Ret fun v w' => w0.grownBy w' none ∧ ∃ (a0_0r : Option Addr) (c0_0r : Nat), ∃ (X0_0r : Nat → Prop), v = tup [(.agg #[(.bool r0.1), (.slice a0_0r (List.length r0.2) c0_0r)])] ∧ Rd (iE .i64) w' X0_0r a0_0r c0_0r r0.2 ∧ (∀ k, X0_0r k → k < w'.heap.size ∧ (X0 k ∨ w0.heap.size ≤ k))) := by
 have hB0 : Below w0.heap.size w0 w0 := Below.refl _ _
 unfold ref3_Int_Plus at h0
 refine calls_run Tryz.func58 rfl Tryz.ntmps58 (by kernel_rfl) ?_
 refine gv_sub [0, 1] (σ' := [(0, (.agg #[(.bool a_0.1), (.slice pa0_0 (List.length a_0.2) pc0_0)])), (1, (.agg #[(.bool b_1.1), (.slice pa1_0 (List.length b_1.2) pc1_0)]))]) (by kernel_rfl) ?_
 refine gv_seq <| gv_region <| gv_new0 (fun b => .pointer (some ⟨b, 0, none⟩)) #[(.bool a_0.1), (.slice pa0_0 (List.length a_0.2) pc0_0)] 73 (by kernel_rfl) (by kernel_rfl) ?_
 intro b1 w2 hg3 hb4 hbe5 hz6
 refine gv_new0 (fun b => .pointer (some ⟨b, 0, none⟩)) #[(.bool b_1.1), (.slice pa1_0 (List.length b_1.2) pc1_0)] 73 (by kernel_rfl) (by kernel_rfl) ?_
 intro b7 w8 hg9 hb10 hbe11 hz12
 refine gv_new0 (fun b => .pointer (some ⟨b, 0, none⟩)) #[(.bool false), (.slice none (List.length ([] : List Int)) 0)] 73 (by kernel_rfl) (by kernel_rfl) ?_
 intro b13 w14 hg15 hb16 hbe17 hz18
 refine gv_nil <| gv_seq <| gv_block <| gv_seq <| gv_region <| gv_pureN 1 [6] [(6, (bp b1))] (by kernel_rfl) ?_
 have hg19 := (grown_trans hg9 hg15)
 have hk20 := hb4.grown hg19 nb
 refine gv_load (t := 4) (A := ⟨b1, 0, none⟩) (.bool a_0.1) [] (fun e => by cases e) rfl rfl rfl (by kernel_rfl) (by kernel_rfl) (by kernel_rfl) (inw0 (hk20.cell 0 rfl)) rfl ?_
 refine gv_pureN 1 [8] [(8, (bp b7))] (by kernel_rfl) ?_
 have hk21 := hb10.grown hg15 nb
 refine gv_load (t := 4) (A := ⟨b7, 0, none⟩) (.bool b_1.1) [] (fun e => by cases e) rfl rfl rfl (by kernel_rfl) (by kernel_rfl) (by kernel_rfl) (inw0 (hk21.cell 0 rfl)) rfl ?_
 refine gv_pureN 2 [5, 10] [(5, (.bool (a_0.1 == b_1.1)))] (by kernel_rfl) ?_
 refine gv_nil <| gv_cond (b := (a_0.1 == b_1.1)) (by kernel_rfl) (fun hc22 => ?_) (fun hc22 => ?_)
 ·replace h0 := ite_t hc22 h0
  refine gv_seq <| gv_drawA (by kernel_rfl) ?_
  intro w23 hg24
  refine gv_pre [0, 2, 4] (bA 9 [0, 2, 4]) 6 (by kernel_rfl) (by kernel_rfl) ?_
  refine gv_pureN 3 [11, 13, 15] [(11, (bp b1)), (13, (.pointer (some ⟨b1, 1, none⟩))), (15, (.pointer (some ⟨b7, 1, none⟩)))] (by kernel_rfl) ?_
  refine gv_nil <| gv_goA ?_
  refine gv_stage (Cls w23 []) [0, 1, 2, 3, 4, 5, 6] [(1, some true), (3, some true), (5, some true), (6, some false)] (bA 9 [0, 1, 2, 3, 4, 5, 6]) 2 (by kernel_rfl) (by kernel_rfl) (Cls.refl _ _) ?_
  have hC25 := Cls.refl w23 []
  have hk26 := hk20.grown hg24 nb
  refine gv_load (t := 4) (A := ⟨b1, 0, none⟩) (.bool a_0.1) [] (fun e => by cases e) rfl rfl rfl (by kernel_rfl) (by kernel_rfl) (by kernel_rfl) (inw1 fun w' hC' => ((hC'.box hk26 nm_nil).cell 0 rfl)) rfl ?_
  refine gv_load (t := 71) (A := ⟨b1, 1, none⟩) (.slice pa0_0 (List.length a_0.2) pc0_0) [] (fun e => by cases e) rfl rfl rfl (by kernel_rfl) (by kernel_rfl) (by kernel_rfl) (inw1 fun w' hC' => ((hC'.box hk26 nm_nil).cell 1 rfl)) rfl ?_
  have hk27 := hk21.grown hg24 nb
  refine gv_load (t := 71) (A := ⟨b7, 1, none⟩) (.slice pa1_0 (List.length b_1.2) pc1_0) [] (fun e => by cases e) rfl rfl rfl (by kernel_rfl) (by kernel_rfl) (by kernel_rfl) (inw1 fun w' hC' => ((hC'.box hk27 nm_nil).cell 1 rfl)) rfl ?_
  refine bindE h0 ?_; clear h0; intro r28 hr29 h0
  have hg30 := (grown_trans (grown_trans hg3 hg19) hg24)
  have hB31 := bg hB0 hg30 nb
  refine gv_call (f := 77) (vs := [(.slice pa0_0 (List.length a_0.2) pc0_0), (.slice pa1_0 (List.length b_1.2) pc1_0)]) (cap := []) _ (by decide) rfl rfl rfl (by kernel_rfl) (by kernel_rfl) enters77 (ref3_Plus_ok fuel pa0_0 pc0_0 a_0.2 pa1_0 pc1_0 b_1.2 w23 (fun k => X0 k ∨ X0 k) (fun k hk => (hk).elim (fun h => (fun k (hk : X0 k) => ltl (hX0 k hk) hB31.size) k h) (fun h => (fun k (hk : X0 k) => ltl (hX0 k hk) hB31.size) k h)) ((hpa0_0.below hB31 hX0).wide (fun k hk => (.inl hk))) ((hpa1_0.below hB31 hX0).wide (fun k hk => (.inr hk))) r28 hr29) ?_
  rintro v34 w32 ⟨hg33, a35, c36, X38, rfl, ho37, hx39⟩
  refine ⟨(fun _ => hC25.grown hg33 nb), ?_⟩
  have hx40 : ∀ k, X38 k → k < w32.heap.size := fun k hk => (hx39 k hk).1
  have hx41 : ∀ k, X38 k → X0 k ∨ w0.heap.size ≤ k := fun k hk => (hx39 k hk).2.elim (fun h => (h).elim (fun h => (fun k (hk : X0 k) => Or.inl hk) k h) (fun h => (fun k (hk : X0 k) => Or.inl hk) k h)) (fun h => .inr (Nat.le_trans hB31.size h))
  refine gv_nil <| gv_goA ?_
  refine gv_pre [7] (bA 9 [0, 1, 2, 3, 4, 5, 6, 7]) 1 (by kernel_rfl) (by kernel_rfl) ?_
  refine gv_pureN 1 [18] [(18, (.agg #[(.bool a_0.1), (.slice a35 (List.length r28) c36)]))] (by kernel_rfl) ?_
  refine gv_sub [4, 18] (σ' := [(4, (bp b13)), (18, (.agg #[(.bool a_0.1), (.slice a35 (List.length r28) c36)]))]) (by kernel_rfl) ?_
  refine gv_nil <| gv_goA ?_
  refine gv_stage (fun _ => True) [0, 1, 2, 3, 4, 5, 6, 7, 8] [(8, some false)] (bA 9 [0, 1, 2, 3, 4, 5, 6, 7, 8]) 0 (by kernel_rfl) (by kernel_rfl) trivial ?_
  have hg46 := (grown_trans hg24 hg33)
  have hk47 := hb16.grown hg46 nb
  refine gv_store (t := 73) (b := b13) (off := 0) (v := (.agg #[(.bool a_0.1), (.slice a35 (List.length r28) c36)])) (t' := 73) (cs := #[(.bool false), (.slice none (List.length ([] : List Int)) 0)]) #[(.bool a_0.1), (.slice a35 (List.length r28) c36)] (by decide) rfl rfl (by kernel_rfl) (by kernel_rfl) (by kernel_rfl) (by intro u hu; simp [Value.cells] at hu; rcases hu with rfl | rfl <;> rfl) (show 0 + 2 ≤ 2 by decide) (by rfl) hk47 ?_
  intro w42 hg43 hb44 hz45
  refine ⟨(fun _ => trivial), ?_⟩
  refine gv_nil <| gv_goA ?_
  refine gv_stageE (by kernel_rfl) ?_
  refine gv_cret ?_
  have e := sj h0; subst e
  refine gv_ret (gv_done [(.agg #[(.bool a_0.1), (.slice a35 (List.length r28) c36)])] rfl ⟨⟨⟨b13, 0, none⟩, (by kernel_rfl), run_loadVar_row w42 b13 _ 73 _ _ _ hb44 Tryz.underlying73 rfl (by kernel_rfl)⟩, trivial⟩ ?_)
  have hB48 := bg hB31 hg33 nb
  have hg49 := (grown_trans hg3 hg9)
  have hB50 := bg hB0 hg49 nb
  have hlo51 : w0.heap.size ≤ b13 := lob hbe17 hB50.size
  have hB52 := bg hB48 hg43 (rowlo hlo51)
  have hk53 := hb16.grown hg24 nb
  have ap54 : ¬ X38 b13 := fun h => ((hx39 _ h).2.elim (fun h => (h).elim (fun h => ((fun (hx : X0 b13) => nl hlo51 (hX0 _ hx)))  h) (fun h => ((fun (hx : X0 b13) => nl hlo51 (hX0 _ hx)))  h)) (fun h => nl h (hk53.lt)))
  have hk55 := ho37.grown hg43 hx40 (rowne ap54)
  have hx56 := ltx hx40 hg43.size
  exact ⟨grown_of_below hB52, a35, c36, X38, rfl, hk55, (fun k hk => ⟨hx56 k hk, hx41 k hk⟩)⟩
 ·replace h0 := ite_f hc22 h0
  refine gv_seq <| gv_region <| gv_pureN 1 [20] [(20, (.pointer (some ⟨b1, 1, none⟩)))] (by kernel_rfl) ?_
  refine gv_load (t := 71) (A := ⟨b1, 1, none⟩) (.slice pa0_0 (List.length a_0.2) pc0_0) [] (fun e => by cases e) rfl rfl rfl (by kernel_rfl) (by kernel_rfl) (by kernel_rfl) (inw0 (hk20.cell 1 rfl)) rfl ?_
  refine gv_pureN 1 [22] [(22, (.pointer (some ⟨b7, 1, none⟩)))] (by kernel_rfl) ?_
  refine gv_load (t := 71) (A := ⟨b7, 1, none⟩) (.slice pa1_0 (List.length b_1.2) pc1_0) [] (fun e => by cases e) rfl rfl rfl (by kernel_rfl) (by kernel_rfl) (by kernel_rfl) (inw0 (hk21.cell 1 rfl)) rfl ?_
  refine bindE h0 ?_; clear h0; intro r57 hr58 h0
  have hg59 := (grown_trans hg3 hg19)
  have hB60 := bg hB0 hg59 nb
  refine gv_call0 (by kernel_rfl) rfl (by kernel_rfl) enters74 (ref3_Compare_ok fuel pa0_0 pc0_0 a_0.2 pa1_0 pc1_0 b_1.2 w14 (fun k => X0 k ∨ X0 k) (fun k hk => (hk).elim (fun h => (fun k (hk : X0 k) => ltl (hX0 k hk) hB60.size) k h) (fun h => (fun k (hk : X0 k) => ltl (hX0 k hk) hB60.size) k h)) ((hpa0_0.below hB60 hX0).wide (fun k hk => (.inl hk))) ((hpa1_0.below hB60 hX0).wide (fun k hk => (.inr hk))) r57 hr58) ?_
  rintro v63 w61 ⟨hg62, rfl⟩
  refine gv_pureN 2 [19, 25] [(19, (.bool (decide (r57 ≥ 0))))] (by kernel_rfl) ?_
  refine gv_sub [2, 3, 4, 19] (σ' := [(2, (bp b1)), (3, (bp b7)), (4, (bp b13)), (19, (.bool (decide (r57 ≥ 0))))]) (by kernel_rfl) ?_
  refine gv_nil <| gv_cond (b := (decide (r57 ≥ 0))) (by kernel_rfl) (fun hc64 => ?_) (fun hc64 => ?_)
  ·replace h0 := ite_t hc64 h0
   refine gv_seq <| gv_drawA (by kernel_rfl) ?_
   intro w65 hg66
   refine gv_pre [0, 2, 4] (bA 9 [0, 2, 4]) 6 (by kernel_rfl) (by kernel_rfl) ?_
   clear hc64 hg59 hr58 hc22 hg19 hz18 hg15 hz12 hz6
   refine gv_pureN 3 [26, 28, 30] [(26, (bp b1)), (28, (.pointer (some ⟨b1, 1, none⟩))), (30, (.pointer (some ⟨b7, 1, none⟩)))] (by kernel_rfl) ?_
   refine gv_nil <| gv_goA ?_
   refine gv_stage (Cls w65 []) [0, 1, 2, 3, 4, 5, 6] [(1, some true), (3, some true), (5, some true), (6, some false)] (bA 9 [0, 1, 2, 3, 4, 5, 6]) 2 (by kernel_rfl) (by kernel_rfl) (Cls.refl _ _) ?_
   have hC67 := Cls.refl w65 []
   have hg68 := (grown_trans hg62 hg66)
   have hk69 := hk20.grown hg68 nb
   refine gv_load (t := 4) (A := ⟨b1, 0, none⟩) (.bool a_0.1) [] (fun e => by cases e) rfl rfl rfl (by kernel_rfl) (by kernel_rfl) (by kernel_rfl) (inw1 fun w' hC' => ((hC'.box hk69 nm_nil).cell 0 rfl)) rfl ?_
   refine gv_load (t := 71) (A := ⟨b1, 1, none⟩) (.slice pa0_0 (List.length a_0.2) pc0_0) [] (fun e => by cases e) rfl rfl rfl (by kernel_rfl) (by kernel_rfl) (by kernel_rfl) (inw1 fun w' hC' => ((hC'.box hk69 nm_nil).cell 1 rfl)) rfl ?_
   have hk70 := hk21.grown hg68 nb
   refine gv_load (t := 71) (A := ⟨b7, 1, none⟩) (.slice pa1_0 (List.length b_1.2) pc1_0) [] (fun e => by cases e) rfl rfl rfl (by kernel_rfl) (by kernel_rfl) (by kernel_rfl) (inw1 fun w' hC' => ((hC'.box hk70 nm_nil).cell 1 rfl)) rfl ?_
   refine bindE h0 ?_; clear h0; intro r71 hr72 h0
   have hB73 := bg hB60 hg68 nb
   refine gv_call (f := 78) (vs := [(.slice pa0_0 (List.length a_0.2) pc0_0), (.slice pa1_0 (List.length b_1.2) pc1_0)]) (cap := []) _ (by decide) rfl rfl rfl (by kernel_rfl) (by kernel_rfl) enters78 (ref3_Minus_ok fuel pa0_0 pc0_0 a_0.2 pa1_0 pc1_0 b_1.2 w65 (fun k => X0 k ∨ X0 k) (fun k hk => (hk).elim (fun h => (fun k (hk : X0 k) => ltl (hX0 k hk) hB73.size) k h) (fun h => (fun k (hk : X0 k) => ltl (hX0 k hk) hB73.size) k h)) ((hpa0_0.below hB73 hX0).wide (fun k hk => (.inl hk))) ((hpa1_0.below hB73 hX0).wide (fun k hk => (.inr hk))) r71 hr72) ?_
   rintro v76 w74 ⟨hg75, a77, c78, X80, rfl, ho79, hx81⟩
   refine ⟨(fun _ => hC67.grown hg75 nb), ?_⟩
   have hx82 : ∀ k, X80 k → k < w74.heap.size := fun k hk => (hx81 k hk).1
   have hx83 : ∀ k, X80 k → X0 k ∨ w0.heap.size ≤ k := fun k hk => (hx81 k hk).2.elim (fun h => (h).elim (fun h => (fun k (hk : X0 k) => Or.inl hk) k h) (fun h => (fun k (hk : X0 k) => Or.inl hk) k h)) (fun h => .inr (Nat.le_trans hB73.size h))
   refine gv_nil <| gv_goA ?_
   refine gv_pre [7] (bA 9 [0, 1, 2, 3, 4, 5, 6, 7]) 1 (by kernel_rfl) (by kernel_rfl) ?_
   refine gv_pureN 1 [33] [(33, (.agg #[(.bool a_0.1), (.slice a77 (List.length r71) c78)]))] (by kernel_rfl) ?_
   refine gv_nil <| gv_goA ?_
   refine gv_stage (fun _ => True) [0, 1, 2, 3, 4, 5, 6, 7, 8] [(8, some false)] (bA 9 [0, 1, 2, 3, 4, 5, 6, 7, 8]) 0 (by kernel_rfl) (by kernel_rfl) trivial ?_
   have hg88 := (grown_trans hg68 hg75)
   have hk89 := hb16.grown hg88 nb
   refine gv_store (t := 73) (b := b13) (off := 0) (v := (.agg #[(.bool a_0.1), (.slice a77 (List.length r71) c78)])) (t' := 73) (cs := #[(.bool false), (.slice none (List.length ([] : List Int)) 0)]) #[(.bool a_0.1), (.slice a77 (List.length r71) c78)] (by decide) rfl rfl (by kernel_rfl) (by kernel_rfl) (by kernel_rfl) (by intro u hu; simp [Value.cells] at hu; rcases hu with rfl | rfl <;> rfl) (show 0 + 2 ≤ 2 by decide) (by rfl) hk89 ?_
   intro w84 hg85 hb86 hz87
   refine ⟨(fun _ => trivial), ?_⟩
   refine gv_nil <| gv_goA ?_
   refine gv_stageE (by kernel_rfl) ?_
   refine gv_cret ?_
   have e := sj h0; subst e
   refine gv_ret (gv_done [(.agg #[(.bool a_0.1), (.slice a77 (List.length r71) c78)])] rfl ⟨⟨⟨b13, 0, none⟩, (by kernel_rfl), run_loadVar_row w84 b13 _ 73 _ _ _ hb86 Tryz.underlying73 rfl (by kernel_rfl)⟩, trivial⟩ ?_)
   have hB90 := bg hB73 hg75 nb
   have hg91 := (grown_trans hg3 hg9)
   have hB92 := bg hB0 hg91 nb
   have hlo93 : w0.heap.size ≤ b13 := lob hbe17 hB92.size
   have hB94 := bg hB90 hg85 (rowlo hlo93)
   have hk95 := hb16.grown hg68 nb
   have ap96 : ¬ X80 b13 := fun h => ((hx81 _ h).2.elim (fun h => (h).elim (fun h => ((fun (hx : X0 b13) => nl hlo93 (hX0 _ hx)))  h) (fun h => ((fun (hx : X0 b13) => nl hlo93 (hX0 _ hx)))  h)) (fun h => nl h (hk95.lt)))
   have hk97 := ho79.grown hg85 hx82 (rowne ap96)
   have hx98 := ltx hx82 hg85.size
   exact ⟨grown_of_below hB94, a77, c78, X80, rfl, hk97, (fun k hk => ⟨hx98 k hk, hx83 k hk⟩)⟩
  ·replace h0 := ite_f hc64 h0
   refine gv_skip <| gv_blk <| gv_seq <| gv_drawA (by kernel_rfl) ?_
   intro w99 hg100
   refine gv_pre [0, 2, 4] (bA 9 [0, 2, 4]) 6 (by kernel_rfl) (by kernel_rfl) ?_
   refine gv_pureN 3 [34, 36, 38] [(34, (bp b7)), (36, (.pointer (some ⟨b7, 1, none⟩))), (38, (.pointer (some ⟨b1, 1, none⟩)))] (by kernel_rfl) ?_
   refine gv_nil <| gv_goA ?_
   refine gv_stage (Cls w99 []) [0, 1, 2, 3, 4, 5, 6] [(1, some true), (3, some true), (5, some true), (6, some false)] (bA 9 [0, 1, 2, 3, 4, 5, 6]) 2 (by kernel_rfl) (by kernel_rfl) (Cls.refl _ _) ?_
   have hC101 := Cls.refl w99 []
   have hg102 := (grown_trans hg62 hg100)
   have hk103 := hk21.grown hg102 nb
   refine gv_load (t := 4) (A := ⟨b7, 0, none⟩) (.bool b_1.1) [] (fun e => by cases e) rfl rfl rfl (by kernel_rfl) (by kernel_rfl) (by kernel_rfl) (inw1 fun w' hC' => ((hC'.box hk103 nm_nil).cell 0 rfl)) rfl ?_
   refine gv_load (t := 71) (A := ⟨b7, 1, none⟩) (.slice pa1_0 (List.length b_1.2) pc1_0) [] (fun e => by cases e) rfl rfl rfl (by kernel_rfl) (by kernel_rfl) (by kernel_rfl) (inw1 fun w' hC' => ((hC'.box hk103 nm_nil).cell 1 rfl)) rfl ?_
   have hk104 := hk20.grown hg102 nb
   refine gv_load (t := 71) (A := ⟨b1, 1, none⟩) (.slice pa0_0 (List.length a_0.2) pc0_0) [] (fun e => by cases e) rfl rfl rfl (by kernel_rfl) (by kernel_rfl) (by kernel_rfl) (inw1 fun w' hC' => ((hC'.box hk104 nm_nil).cell 1 rfl)) rfl ?_
   refine bindE h0 ?_; clear h0; intro r105 hr106 h0
   have hB107 := bg hB60 hg102 nb
   refine gv_call (f := 78) (vs := [(.slice pa1_0 (List.length b_1.2) pc1_0), (.slice pa0_0 (List.length a_0.2) pc0_0)]) (cap := []) _ (by decide) rfl rfl rfl (by kernel_rfl) (by kernel_rfl) enters78 (ref3_Minus_ok fuel pa1_0 pc1_0 b_1.2 pa0_0 pc0_0 a_0.2 w99 (fun k => X0 k ∨ X0 k) (fun k hk => (hk).elim (fun h => (fun k (hk : X0 k) => ltl (hX0 k hk) hB107.size) k h) (fun h => (fun k (hk : X0 k) => ltl (hX0 k hk) hB107.size) k h)) ((hpa1_0.below hB107 hX0).wide (fun k hk => (.inl hk))) ((hpa0_0.below hB107 hX0).wide (fun k hk => (.inr hk))) r105 hr106) ?_
   rintro v110 w108 ⟨hg109, a111, c112, X114, rfl, ho113, hx115⟩
   refine ⟨(fun _ => hC101.grown hg109 nb), ?_⟩
   have hx116 : ∀ k, X114 k → k < w108.heap.size := fun k hk => (hx115 k hk).1
   have hx117 : ∀ k, X114 k → X0 k ∨ w0.heap.size ≤ k := fun k hk => (hx115 k hk).2.elim (fun h => (h).elim (fun h => (fun k (hk : X0 k) => Or.inl hk) k h) (fun h => (fun k (hk : X0 k) => Or.inl hk) k h)) (fun h => .inr (Nat.le_trans hB107.size h))
   refine gv_nil <| gv_goA ?_
   refine gv_pre [7] (bA 9 [0, 1, 2, 3, 4, 5, 6, 7]) 1 (by kernel_rfl) (by kernel_rfl) ?_
   refine gv_pureN 1 [41] [(41, (.agg #[(.bool b_1.1), (.slice a111 (List.length r105) c112)]))] (by kernel_rfl) ?_
   refine gv_nil <| gv_goA ?_
   refine gv_stage (fun _ => True) [0, 1, 2, 3, 4, 5, 6, 7, 8] [(8, some false)] (bA 9 [0, 1, 2, 3, 4, 5, 6, 7, 8]) 0 (by kernel_rfl) (by kernel_rfl) trivial ?_
   have hg122 := (grown_trans hg102 hg109)
   have hk123 := hb16.grown hg122 nb
   refine gv_store (t := 73) (b := b13) (off := 0) (v := (.agg #[(.bool b_1.1), (.slice a111 (List.length r105) c112)])) (t' := 73) (cs := #[(.bool false), (.slice none (List.length ([] : List Int)) 0)]) #[(.bool b_1.1), (.slice a111 (List.length r105) c112)] (by decide) rfl rfl (by kernel_rfl) (by kernel_rfl) (by kernel_rfl) (by intro u hu; simp [Value.cells] at hu; rcases hu with rfl | rfl <;> rfl) (show 0 + 2 ≤ 2 by decide) (by rfl) hk123 ?_
   intro w118 hg119 hb120 hz121
   refine ⟨(fun _ => trivial), ?_⟩
   refine gv_nil <| gv_goA ?_
   refine gv_stageE (by kernel_rfl) ?_
   refine gv_cret ?_
   have e := sj h0; subst e
   refine gv_ret (gv_done [(.agg #[(.bool b_1.1), (.slice a111 (List.length r105) c112)])] rfl ⟨⟨⟨b13, 0, none⟩, (by kernel_rfl), run_loadVar_row w118 b13 _ 73 _ _ _ hb120 Tryz.underlying73 rfl (by kernel_rfl)⟩, trivial⟩ ?_)
   have hB124 := bg hB107 hg109 nb
   have hg125 := (grown_trans hg3 hg9)
   have hB126 := bg hB0 hg125 nb
   have hlo127 : w0.heap.size ≤ b13 := lob hbe17 hB126.size
   have hB128 := bg hB124 hg119 (rowlo hlo127)
   have hk129 := hb16.grown hg102 nb
   have ap130 : ¬ X114 b13 := fun h => ((hx115 _ h).2.elim (fun h => (h).elim (fun h => ((fun (hx : X0 b13) => nl hlo127 (hX0 _ hx)))  h) (fun h => ((fun (hx : X0 b13) => nl hlo127 (hX0 _ hx)))  h)) (fun h => nl h (hk129.lt)))
   have hk131 := ho113.grown hg119 hx116 (rowne ap130)
   have hx132 := ltx hx116 hg119.size
   exact ⟨grown_of_below hB128, a111, c112, X114, rfl, hk131, (fun k hk => ⟨hx132 k hk, hx117 k hk⟩)⟩

end Go.Proofs.YtkmcegicngjhbaaGreatDoor
