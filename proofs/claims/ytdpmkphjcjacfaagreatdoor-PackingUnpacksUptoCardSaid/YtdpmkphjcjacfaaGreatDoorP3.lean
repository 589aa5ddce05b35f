import Derived.Test.YtdpmkphjcjacfaaGreatDoorP2
set_option linter.all false
set_option maxHeartbeats 4000000
set_option maxRecDepth 100000
/- Own work, printed by a program of mine: the walk of each function: a call returns what the plain function says. -/
namespace Go.Proofs.YtdpmkphjcjacfaaGreatDoor
open Go.Gv Go.Gv.D Go.RowKit
open List (length)
theorem packing_values_ok (fuel : Nat) (pa0_0 : Option Addr) (pc0_0 : Nat) (l_0 : (List (Int × Int × Bool))) (w0 : World) (X0 : Nat → Prop) (hX0 : ∀ k, X0 k → k < w0.heap.size) (hpa0_0 : Rd (prE (iE .u8) (prE (iE .i64) tE)) w0 X0 pa0_0 pc0_0 l_0) (r0 : Int) (h0 : packing_values fuel l_0 = some r0) :
    Calls Tryz.prog 32 ([(.slice pa0_0 (length l_0) pc0_0)] : List Value).toArray w0 (Ret fun v w' => w0.grownBy w' none ∧ v = tup [(.int .i64 r0)]) := by
 have hB0 : Below w0.heap.size w0 w0 := Below.refl _ _
 unfold packing_values at h0
 refine calls_run Tryz.func32 rfl Tryz.ntmps32 (by kernel_rfl) ?_
 refine gv_sub [0] (σ' := [(0, (.slice pa0_0 (length l_0) pc0_0))]) (by kernel_rfl) ?_
 refine gv_seq <| gv_region <| pN 1 [2] [] ?_
 refine gv_nil <| gv_seq <| gv_region <| pN 1 [3] [(3, (.int .i64 0))] ?_
 refine gv_nil <| gv_seq <| gv_seq <| gv_region <| pN 3 [6, 7, 8] [(6, (.slice pa0_0 (length l_0) pc0_0)), (7, (.int .i64 ((length l_0 : Nat) : Int))), (8, (.int .i64 0))] ?_
 refine gv_nil <| bindE h0 ?_; clear h0; intro j1 h1 h0
 refine gv_cut_code (J := fun a w2 => Below w0.heap.size w0 w2 ∧ w0.heap.size ≤ w2.heap.size ∧ a.defers = [] ∧ a.tmps.size = 19 ∧ Ok [(3, (.int .i64 j1))] a.tmps) ?_ ?_
 ·skip
  refine gv_block <| gv_loop (A := fun (s3 : (Int × Int)) a w4 => Below w0.heap.size w0 w4 ∧ w0.heap.size ≤ w4.heap.size ∧ a.defers = [] ∧ a.tmps.size = 19 ∧ Ok [(3, (.int .i64 s3.1)), (6, (.slice pa0_0 (length l_0) pc0_0)), (7, (.int .i64 ((length l_0 : Nat) : Int))), (8, (.int .i64 s3.2))] a.tmps) h1 ?_ ?_
  ·intro a hd hs hok
   exact ⟨hB0, nrf, hd, hs, okp [3, 6, 7, 8] hok⟩
  ·rintro s3 r2 h2 hR2 a w4 ⟨hB5, hz6, hd, hs, hok⟩
   refine gv_in ?_ hd hs hok
   clear hd hs hok
   refine gv_seq <| gv_region <| pN 1 [9] [(9, (.bool (decide (s3.2 < ((length l_0 : Nat) : Int)))))] ?_
   refine gv_nil <| gv_seq <| gv_cond (b := (decide (s3.2 < ((length l_0 : Nat) : Int)))) (by kernel_rfl) (fun hc7 => ?_) (fun hc7 => ?_)
   ·replace h2 := ite_t hc7 h2
    refine gv_skip <| gv_seq <| gv_block <| gv_seq <| gv_region <| bindE h2 ?_; clear h2; intro x8 hx9 h2
    refine gv_idxaddr (t := 22) (e := 49) (a := pa0_0) (len := length l_0) (cap := pc0_0) (kk := .i64) (i := s3.2) (sz := 3) [] (fun e => by cases e) rfl rfl rfl (by kernel_rfl) (by kernel_rfl) Tryz.underlying22 (by kernel_rfl) ((hpa0_0.below hB5 hX0).has hx9) (idx_spec hx9).1 (idx_spec hx9).2.1 rfl ?_
    obtain ⟨_, ⟨_, _, rfl, rfl, ⟨_, _, rfl, rfl, rfl⟩⟩, hc10⟩ := hpa0_0.cellsK hx9
    refine gv_loadAgg (t := 49) (A := (elemAddr pa0_0 ((s3.2 : Int).toNat * 3))) #[(.int .u8 x8.1), (.int .i64 x8.2.1), (.bool x8.2.2)] [] (fun e => by cases e) rfl rfl rfl (by kernel_rfl) (by kernel_rfl) (by kernel_rfl) (by kernel_rfl) (inw0 (hc10 w4 (fun k hk => hB5.block k (hX0 k hk)))) rfl ?_
    refine gv_new0 (fun b => .pointer (some ⟨b, 0, none⟩)) #[(.int .u8 0), (.int .i64 0), (.bool false)] 49 (by kernel_rfl) (by kernel_rfl) ?_
    intro b11 w12 hg13 hb14 hbe15 hz16
    refine gv_store0 49 0 (.agg #[(.int .u8 x8.1), (.int .i64 x8.2.1), (.bool x8.2.2)]) #[(.int .u8 x8.1), (.int .i64 x8.2.1), (.bool x8.2.2)] hb14 (by kernel_rfl) (by kernel_rfl) (by kernel_rfl) ?_
    intro w17 hg18 hb19 hz20
    refine gv_nil <| gv_seq <| gv_region <| pN 1 [12] [(12, (bp b11))] ?_
    refine gv_load (t := 5) (A := ⟨b11, 0, none⟩) (.int .u8 x8.1) [] (fun e => by cases e) rfl rfl rfl (by kernel_rfl) (by kernel_rfl) (by kernel_rfl) (inw0 (hb19.cell 0 rfl)) rfl ?_
    refine pN 1 [14] [(14, (.bool (x8.1 != 120)))] ?_
    refine gv_nil <| bindE h2 ?_; clear h2; intro j21 h3 h2
    refine gv_cut_code (J := fun a w22 => Below w0.heap.size w0 w22 ∧ w17.heap.size ≤ w22.heap.size ∧ a.defers = [] ∧ a.tmps.size = 19 ∧ Ok [(3, (.int .i64 j21)), (6, (.slice pa0_0 (length l_0) pc0_0)), (7, (.int .i64 ((length l_0 : Nat) : Int))), (8, (.int .i64 s3.2))] a.tmps) ?_ ?_
    ·skip
     refine gv_cond (b := (x8.1 != 120)) (by kernel_rfl) (fun hc23 => ?_) (fun hc23 => ?_)
     ·replace h3 := ite_t hc23 h3
      refine gv_region <| pN 3 [3, 15, 16] [(3, (.int .i64 (IntKind.i64.wrap (s3.1 + 1))))] ?_
      refine gv_nil ?_
      have e := sj h3; subst e
      refine gv_goal fun a hd hs hok => ?_
      have hB24 := bg hB5 hg13 nb
      have hlo25 : w0.heap.size ≤ b11 := lob hbe15 hB5.size
      have hB26 := bg hB24 hg18 (rowlo hlo25)
      exact ⟨hB26, nrf, hd, hs, okp [3, 6, 7, 8] hok⟩
     ·replace h3 := ite_f hc23 h3
      refine gv_skip ?_
      have e := sj h3; subst e
      refine gv_goal fun a hd hs hok => ?_
      have hB27 := bg hB5 hg13 nb
      have hlo28 : w0.heap.size ≤ b11 := lob hbe15 hB5.size
      have hB29 := bg hB27 hg18 (rowlo hlo28)
      exact ⟨hB29, nrf, hd, hs, okp [3, 6, 7, 8] hok⟩
    ·rintro a w22 ⟨hB30, hz31, hd, hs, hok⟩
     refine gv_in ?_ hd hs hok
     clear hd hs hok
     have hz32 := (nt (nt (nt hz6 hg13.size) hg18.size) hz31)
     clear hz31 hz20 hb19 hg18 hz16 hbe15 hb14 hg13 hc10 hx9 hc7 hz6 hB5
     refine gv_blk <| gv_region <| pN 2 [8, 17] [(8, (.int .i64 (IntKind.i64.wrap (s3.2 + 1))))] ?_
     refine gv_nil ?_
     have e := sj h2; subst e
     refine gv_goal fun a hd hs hok => ?_
     have hz33 := hz32
     exact ⟨(j21, (IntKind.i64.wrap (s3.2 + 1))), rfl, hB30, hz33, hd, hs, okp [3, 6, 7, 8] hok⟩
   ·replace h2 := ite_f hc7 h2
    refine gv_cexit <| gv_exit rfl ?_
    have e := sj h2; subst e
    replace h1 := congrArg some (hR2 _ rfl)
    have e := sj h1; subst e
    refine gv_goal fun a hd hs hok => ?_
    have hz34 := hz6
    exact ⟨hB5, hz34, hd, hs, okp [3] hok⟩
 ·rintro a w2 ⟨hB35, hz36, hd, hs, hok⟩
  refine gv_in ?_ hd hs hok
  clear hd hs hok
  refine gv_seq <| gv_region <| pN 2 [2, 18] [(2, (.int .i64 j1))] ?_
  refine gv_nil <| gv_cret ?_
  have e := sj h0; subst e
  refine gv_ret (gv_done [(.int .i64 j1)] rfl ⟨(by kernel_rfl), trivial⟩ ?_)
  exact ⟨grown_of_below hB35, rfl⟩

theorem integer_Valid_ok (fuel : Nat) (pa0_0 : Option Addr) (pc0_0 : Nat) (a_0 : (Bool × (List Int))) (w0 : World) (X0 : Nat → Prop) (hX0 : ∀ k, X0 k → k < w0.heap.size) (hpa0_0 : Rd (iE .u32) w0 X0 pa0_0 pc0_0 a_0.2) (r0 : Bool) (h0 : integer_Valid fuel a_0 = some r0) :
    Calls Tryz.prog 57 ([(.agg #[(.bool a_0.1), (.slice pa0_0 (length a_0.2) pc0_0)])] : List Value).toArray w0 (Ret fun v w' => w0.grownBy w' none ∧ v = tup [(.bool r0)]) := by
 have hB0 : Below w0.heap.size w0 w0 := Below.refl _ _
 unfold integer_Valid at h0
 refine calls_run Tryz.func57 rfl Tryz.ntmps57 (by kernel_rfl) ?_
 refine gv_sub [0] (σ' := [(0, (.agg #[(.bool a_0.1), (.slice pa0_0 (length a_0.2) pc0_0)]))]) (by kernel_rfl) ?_
 refine gv_seq <| gv_region <| gv_new0 (fun b => .pointer (some ⟨b, 0, none⟩)) #[(.bool a_0.1), (.slice pa0_0 (length a_0.2) pc0_0)] 39 (by kernel_rfl) (by kernel_rfl) ?_
 intro b1 w2 hg3 hb4 hbe5 hz6
 refine pN 1 [2] [] ?_
 refine gv_nil <| gv_seq <| gv_region <| pN 1 [4] [(4, (.pointer (some ⟨b1, 1, none⟩)))] ?_
 refine gv_load (t := 37) (A := ⟨b1, 1, none⟩) (.slice pa0_0 (length a_0.2) pc0_0) [] (fun e => by cases e) rfl rfl rfl (by kernel_rfl) (by kernel_rfl) (by kernel_rfl) (inw0 (hb4.cell 1 rfl)) rfl ?_
 refine pN 2 [3, 6] [(3, (.int .i64 ((length a_0.2 : Nat) : Int)))] ?_
 refine gv_nil <| gv_seq <| gv_region <| bindE h0 ?_; clear h0; intro j7 h1 h0
 refine gv_cut_ops (J := fun a w8 => Below w0.heap.size w0 w8 ∧ w2.heap.size ≤ w8.heap.size ∧ a.defers = [] ∧ a.tmps.size = 31 ∧ Ok [(2, (.bool j7))] a.tmps) ?_ ?_
 ·skip
  refine pN 3 [7, 8, 9] [(9, (.bool (decide (((length a_0.2 : Nat) : Int) ≤ 128))))] ?_
  refine gv_split (s := 9) (g := (decide (((length a_0.2 : Nat) : Int) ≤ 128))) (by kernel_rfl) (fun hc9 => ?_) (fun hc9 => ?_)
  ·skip
   replace h1 := ite_t hc9 h1
   refine pN 3 [10, 11, 12] [(12, (.bool (((length a_0.2 : Nat) : Int) == 0)))] ?_
   refine gv_split (s := 12) (g := (((length a_0.2 : Nat) : Int) == 0)) (by kernel_rfl) (fun hc10 => ?_) (fun hc10 => ?_)
   ·skip
    replace h1 := ite_t hc10 h1
    refine pN 1 [13] [(13, (bp b1))] ?_
    refine gv_load (t := 4) (A := ⟨b1, 0, none⟩) (.bool a_0.1) [] (fun e => by cases e) rfl rfl rfl (by kernel_rfl) (by kernel_rfl) (by kernel_rfl) (inw0 (hb4.cell 0 rfl)) rfl ?_
    refine pN 3 [15, 16, 17] [(17, (.bool (!a_0.1)))] ?_
    refine gv_split (s := 17) (g := (!a_0.1)) (by kernel_rfl) (fun hc11 => ?_) (fun hc11 => ?_)
    ·skip
     replace h1 := ite_t hc11 h1
     refine pN 14 [2, 18, 19, 20, 21, 22, 23, 24, 25, 26, 27, 28, 29, 30] [(2, (.bool true))] ?_
     refine gv_nil ?_
     have e := sj h1; subst e
     refine gv_goal fun a hd hs hok => ?_
     have hB12 := bg hB0 hg3 nb
     exact ⟨hB12, nrf, hd, hs, okp [2] hok⟩
    ·skip
     replace h1 := ite_f hc11 h1
     refine pN 3 [18, 19, 20] [(20, (.bool (decide (((length a_0.2 : Nat) : Int) > 0))))] ?_
     refine gv_split (s := 20) (g := (decide (((length a_0.2 : Nat) : Int) > 0))) (by kernel_rfl) (fun hc13 => ?_) (fun hc13 => ?_)
     ·skip
      replace h1 := ite_t hc13 h1
      refine pN 1 [21] [(21, (.pointer (some ⟨b1, 1, none⟩)))] ?_
      refine gv_load (t := 37) (A := ⟨b1, 1, none⟩) (.slice pa0_0 (length a_0.2) pc0_0) [] (fun e => by cases e) rfl rfl rfl (by kernel_rfl) (by kernel_rfl) (by kernel_rfl) (inw0 (hb4.cell 1 rfl)) rfl ?_
      refine pN 2 [23, 24] [(24, (.int .i64 (IntKind.i64.wrap (((length a_0.2 : Nat) : Int) - 1))))] ?_
      refine gv_sub [9, 17, 20, 22, 24] (σ' := [(9, (.bool true)), (17, (.bool false)), (20, (.bool true)), (22, (.slice pa0_0 (length a_0.2) pc0_0)), (24, (.int .i64 (IntKind.i64.wrap (((length a_0.2 : Nat) : Int) - 1))))]) (by kernel_rfl) ?_
      refine bindE h1 ?_; clear h1; intro x14 hx15 h1
      have hB16 := bg hB0 hg3 nb
      refine gv_idxaddr (t := 37) (e := 107) (a := pa0_0) (len := length a_0.2) (cap := pc0_0) (kk := .i64) (i := (IntKind.i64.wrap (((length a_0.2 : Nat) : Int) - 1))) (sz := 1) [] (fun e => by cases e) rfl rfl rfl (by kernel_rfl) (by kernel_rfl) Tryz.underlying37 (by kernel_rfl) ((hpa0_0.below hB16 hX0).has hx15) (idx_spec hx15).1 (idx_spec hx15).2.1 rfl ?_
      refine gv_load (t := 107) (A := (elemAddr pa0_0 (((IntKind.i64.wrap (((length a_0.2 : Nat) : Int) - 1)) : Int).toNat * 1))) (.int .u32 x14) [] (fun e => by cases e) rfl rfl rfl (by kernel_rfl) (by kernel_rfl) (by kernel_rfl) (inw0 ((hpa0_0.below hB16 hX0).cell hx15)) rfl ?_
      refine pN 5 [2, 27, 28, 29, 30] [(2, (.bool (x14 != 0)))] ?_
      refine gv_nil ?_
      have e := sj h1; subst e
      refine gv_goal fun a hd hs hok => ?_
      exact ⟨hB16, nrf, hd, hs, okp [2] hok⟩
     ·skip
      replace h1 := ite_f hc13 h1
      refine pN 11 [2, 21, 22, 23, 24, 25, 26, 27, 28, 29, 30] [(2, (.bool false))] ?_
      refine gv_nil ?_
      have e := sj h1; subst e
      refine gv_goal fun a hd hs hok => ?_
      have hB17 := bg hB0 hg3 nb
      exact ⟨hB17, nrf, hd, hs, okp [2] hok⟩
   ·skip
    replace h1 := ite_f hc10 h1
    refine pN 8 [13, 14, 15, 16, 17, 18, 19, 20] [(17, (.bool false)), (20, (.bool (decide (((length a_0.2 : Nat) : Int) > 0))))] ?_
    refine gv_split (s := 20) (g := (decide (((length a_0.2 : Nat) : Int) > 0))) (by kernel_rfl) (fun hc18 => ?_) (fun hc18 => ?_)
    ·skip
     replace h1 := ite_t hc18 h1
     refine pN 1 [21] [(21, (.pointer (some ⟨b1, 1, none⟩)))] ?_
     refine gv_load (t := 37) (A := ⟨b1, 1, none⟩) (.slice pa0_0 (length a_0.2) pc0_0) [] (fun e => by cases e) rfl rfl rfl (by kernel_rfl) (by kernel_rfl) (by kernel_rfl) (inw0 (hb4.cell 1 rfl)) rfl ?_
     refine pN 2 [23, 24] [(24, (.int .i64 (IntKind.i64.wrap (((length a_0.2 : Nat) : Int) - 1))))] ?_
     refine bindE h1 ?_; clear h1; intro x19 hx20 h1
     have hB21 := bg hB0 hg3 nb
     refine gv_idxaddr (t := 37) (e := 107) (a := pa0_0) (len := length a_0.2) (cap := pc0_0) (kk := .i64) (i := (IntKind.i64.wrap (((length a_0.2 : Nat) : Int) - 1))) (sz := 1) [] (fun e => by cases e) rfl rfl rfl (by kernel_rfl) (by kernel_rfl) Tryz.underlying37 (by kernel_rfl) ((hpa0_0.below hB21 hX0).has hx20) (idx_spec hx20).1 (idx_spec hx20).2.1 rfl ?_
     refine gv_load (t := 107) (A := (elemAddr pa0_0 (((IntKind.i64.wrap (((length a_0.2 : Nat) : Int) - 1)) : Int).toNat * 1))) (.int .u32 x19) [] (fun e => by cases e) rfl rfl rfl (by kernel_rfl) (by kernel_rfl) (by kernel_rfl) (inw0 ((hpa0_0.below hB21 hX0).cell hx20)) rfl ?_
     refine pN 5 [2, 27, 28, 29, 30] [(2, (.bool (x19 != 0)))] ?_
     refine gv_sub [2] (σ' := [(2, (.bool (x19 != 0)))]) (by kernel_rfl) ?_
     refine gv_nil ?_
     have e := sj h1; subst e
     refine gv_goal fun a hd hs hok => ?_
     exact ⟨hB21, nrf, hd, hs, okp [2] hok⟩
    ·skip
     replace h1 := ite_f hc18 h1
     refine pN 11 [2, 21, 22, 23, 24, 25, 26, 27, 28, 29, 30] [(2, (.bool false))] ?_
     refine gv_nil ?_
     have e := sj h1; subst e
     refine gv_goal fun a hd hs hok => ?_
     have hB22 := bg hB0 hg3 nb
     exact ⟨hB22, nrf, hd, hs, okp [2] hok⟩
  ·skip
   replace h1 := ite_f hc9 h1
   refine pN 22 [2, 10, 11, 12, 13, 14, 15, 16, 17, 18, 19, 20, 21, 22, 23, 24, 25, 26, 27, 28, 29, 30] [(2, (.bool false))] ?_
   refine gv_nil ?_
   have e := sj h1; subst e
   refine gv_goal fun a hd hs hok => ?_
   have hB23 := bg hB0 hg3 nb
   exact ⟨hB23, nrf, hd, hs, okp [2] hok⟩
 ·rintro a w8 ⟨hB24, hz25, hd, hs, hok⟩
  refine gv_in ?_ hd hs hok
  clear hd hs hok
  clear hz25 hz6 hbe5 hb4 hg3
  refine gv_cret ?_
  have e := sj h0; subst e
  refine gv_ret (gv_done [(.bool j7)] rfl ⟨(by kernel_rfl), trivial⟩ ?_)
  exact ⟨grown_of_below hB24, rfl⟩

theorem packing_valid_ok (fuel : Nat) (pa0_0 : Option Addr) (pc0_0 : Nat) (pa0_1 : Option Addr) (pc0_1 : Nat) (v_0 : (Int × (Bool × (List Int)) × (Bool × (List Int)) × ByteArray × Int)) (w0 : World) (X0 : Nat → Prop) (hX0 : ∀ k, X0 k → k < w0.heap.size) (hpa0_0 : Rd (iE .u32) w0 X0 pa0_0 pc0_0 v_0.2.1.2) (hpa0_1 : Rd (iE .u32) w0 X0 pa0_1 pc0_1 v_0.2.2.1.2) (r0 : Bool) (h0 : packing_valid fuel v_0 = some r0) :
    Calls Tryz.prog 33 ([(.agg #[(.int .i64 v_0.1), (.bool v_0.2.1.1), (.slice pa0_0 (length v_0.2.1.2) pc0_0), (.bool v_0.2.2.1.1), (.slice pa0_1 (length v_0.2.2.1.2) pc0_1), (.string v_0.2.2.2.1), (.int .i64 v_0.2.2.2.2)])] : List Value).toArray w0 (Ret fun v w' => w0.grownBy w' none ∧ v = tup [(.bool r0)]) := by
 have hB0 : Below w0.heap.size w0 w0 := Below.refl _ _
 unfold packing_valid at h0
 refine calls_run Tryz.func33 rfl Tryz.ntmps33 (by kernel_rfl) ?_
 refine gv_sub [0] (σ' := [(0, (.agg #[(.int .i64 v_0.1), (.bool v_0.2.1.1), (.slice pa0_0 (length v_0.2.1.2) pc0_0), (.bool v_0.2.2.1.1), (.slice pa0_1 (length v_0.2.2.1.2) pc0_1), (.string v_0.2.2.2.1), (.int .i64 v_0.2.2.2.2)]))]) (by kernel_rfl) ?_
 refine gv_seq <| gv_region <| gv_new0 (fun b => .pointer (some ⟨b, 0, none⟩)) #[(.int .i64 v_0.1), (.bool v_0.2.1.1), (.slice pa0_0 (length v_0.2.1.2) pc0_0), (.bool v_0.2.2.1.1), (.slice pa0_1 (length v_0.2.2.1.2) pc0_1), (.string v_0.2.2.2.1), (.int .i64 v_0.2.2.2.2)] 41 (by kernel_rfl) (by kernel_rfl) ?_
 intro b1 w2 hg3 hb4 hbe5 hz6
 refine pN 1 [2] [] ?_
 refine gv_nil <| gv_seq <| gv_seq <| gv_region <| pN 1 [3] [(3, (bp b1))] ?_
 refine gv_load (t := 3) (A := ⟨b1, 0, none⟩) (.int .i64 v_0.1) [] (fun e => by cases e) rfl rfl rfl (by kernel_rfl) (by kernel_rfl) (by kernel_rfl) (inw0 (hb4.cell 0 rfl)) rfl ?_
 refine gv_nil <| gv_block <| gv_seq <| gv_region <| pN 2 [5, 6] [(5, (.bool (v_0.1 == 2)))] ?_
 refine gv_nil <| gv_cond (b := (v_0.1 == 2)) (by kernel_rfl) (fun hc7 => ?_) (fun hc7 => ?_)
 ·replace h0 := ite_t hc7 h0
  refine gv_seq <| gv_region <| pN 1 [7] [(7, (.pointer (some ⟨b1, 1, none⟩)))] ?_
  refine gv_loadAgg (t := 39) (A := ⟨b1, 1, none⟩) #[(.bool v_0.2.1.1), (.slice pa0_0 (length v_0.2.1.2) pc0_0)] [] (fun e => by cases e) rfl rfl rfl (by kernel_rfl) (by kernel_rfl) (by kernel_rfl) (by kernel_rfl) (inw0 (Box.part hb4 1 _ rfl)) rfl ?_
  refine bindE h0 ?_; clear h0; intro r8 hr9 h0
  have hB10 := bg hB0 hg3 nb
  refine gv_call0 (by kernel_rfl) rfl (by kernel_rfl) enters57 (integer_Valid_ok fuel pa0_0 pc0_0 (v_0.2.1.1, v_0.2.1.2) w2 (fun k => X0 k) (fun k hk => (fun k (hk : X0 k) => ltl (hX0 k hk) hB10.size) k hk) ((hpa0_0.below hB10 hX0).wide (fun k hk => hk)) r8 hr9) ?_
  rintro v13 w11 ⟨hg12, rfl⟩
  refine pN 1 [2] [(2, (.bool r8))] ?_
  refine gv_nil <| gv_cret ?_
  have e := sj h0; subst e
  refine gv_ret (gv_done [(.bool r8)] rfl ⟨(by kernel_rfl), trivial⟩ ?_)
  have hB14 := bg hB10 hg12 nb
  exact ⟨grown_of_below hB14, rfl⟩
 ·replace h0 := ite_f hc7 h0
  refine gv_seq <| gv_region <| pN 2 [10, 11] [(10, (.bool (v_0.1 == 1)))] ?_
  refine gv_nil <| gv_cond (b := (v_0.1 == 1)) (by kernel_rfl) (fun hc15 => ?_) (fun hc15 => ?_)
  ·replace h0 := ite_t hc15 h0
   refine gv_seq <| gv_region <| bindE h0 ?_; clear h0; intro j16 h1 h0
   refine gv_cut_ops (J := fun a w17 => Below w0.heap.size w0 w17 ∧ w2.heap.size ≤ w17.heap.size ∧ a.defers = [] ∧ a.tmps.size = 20 ∧ Ok [(2, (.bool j16))] a.tmps) ?_ ?_
   ·skip
    refine pN 1 [12] [(12, (.pointer (some ⟨b1, 6, none⟩)))] ?_
    refine gv_load (t := 3) (A := ⟨b1, 6, none⟩) (.int .i64 v_0.2.2.2.2) [] (fun e => by cases e) rfl rfl rfl (by kernel_rfl) (by kernel_rfl) (by kernel_rfl) (inw0 (hb4.cell 6 rfl)) rfl ?_
    refine pN 2 [14, 15] [(15, (.bool (v_0.2.2.2.2 == 0)))] ?_
    refine gv_split (s := 15) (g := (v_0.2.2.2.2 == 0)) (by kernel_rfl) (fun hc18 => ?_) (fun hc18 => ?_)
    ·skip
     replace h1 := ite_t hc18 h1
     refine pN 5 [2, 16, 17, 18, 19] [(2, (.bool true))] ?_
     refine gv_nil ?_
     have e := sj h1; subst e
     refine gv_goal fun a hd hs hok => ?_
     have hB19 := bg hB0 hg3 nb
     exact ⟨hB19, nrf, hd, hs, okp [2] hok⟩
    ·skip
     replace h1 := ite_f hc18 h1
     refine pN 1 [16] [(16, (.pointer (some ⟨b1, 6, none⟩)))] ?_
     refine gv_load (t := 3) (A := ⟨b1, 6, none⟩) (.int .i64 v_0.2.2.2.2) [] (fun e => by cases e) rfl rfl rfl (by kernel_rfl) (by kernel_rfl) (by kernel_rfl) (inw0 (hb4.cell 6 rfl)) rfl ?_
     refine pN 3 [2, 18, 19] [(2, (.bool (v_0.2.2.2.2 == 1)))] ?_
     refine gv_nil ?_
     have e := sj h1; subst e
     refine gv_goal fun a hd hs hok => ?_
     have hB20 := bg hB0 hg3 nb
     exact ⟨hB20, nrf, hd, hs, okp [2] hok⟩
   ·rintro a w17 ⟨hB21, hz22, hd, hs, hok⟩
    refine gv_in ?_ hd hs hok
    clear hd hs hok
    clear hz22 hc15 hc7 hz6 hbe5 hb4 hg3
    refine gv_cret ?_
    have e := sj h0; subst e
    refine gv_ret (gv_done [(.bool j16)] rfl ⟨(by kernel_rfl), trivial⟩ ?_)
    exact ⟨grown_of_below hB21, rfl⟩
  ·replace h0 := ite_f hc15 h0
   refine gv_skip <| gv_blk <| gv_seq <| gv_region <| pN 1 [2] [(2, (.bool true))] ?_
   refine gv_nil <| gv_cret ?_
   have e := sj h0; subst e
   refine gv_ret (gv_done [(.bool true)] rfl ⟨(by kernel_rfl), trivial⟩ ?_)
   have hB23 := bg hB0 hg3 nb
   exact ⟨grown_of_below hB23, rfl⟩

theorem packing_word_ok (fuel : Nat) (pa0_0 : Option Addr) (pc0_0 : Nat) (a_0 : (Bool × (List Int))) (n_1 : Int) (signed_2 : Bool) (w0 : World) (X0 : Nat → Prop) (hX0 : ∀ k, X0 k → k < w0.heap.size) (hpa0_0 : Rd (iE .u32) w0 X0 pa0_0 pc0_0 a_0.2) (r0 : (Int × Bool)) (h0 : packing_word fuel a_0 n_1 signed_2 = some r0) :
    Calls Tryz.prog 58 ([(.agg #[(.bool a_0.1), (.slice pa0_0 (length a_0.2) pc0_0)]), (.int .i64 n_1), (.bool signed_2)] : List Value).toArray w0 (Ret fun v w' => w0.grownBy w' none ∧ v = tup [(.int .u64 r0.1), (.bool r0.2)]) := by
 have hB0 : Below w0.heap.size w0 w0 := Below.refl _ _
 unfold packing_word at h0
 refine calls_run Tryz.func58 rfl Tryz.ntmps58 (by kernel_rfl) ?_
 refine gv_sub [0, 1, 2] (σ' := [(0, (.agg #[(.bool a_0.1), (.slice pa0_0 (length a_0.2) pc0_0)])), (1, (.int .i64 n_1)), (2, (.bool signed_2))]) (by kernel_rfl) ?_
 refine gv_seq <| gv_region <| gv_new0 (fun b => .pointer (some ⟨b, 0, none⟩)) #[(.bool a_0.1), (.slice pa0_0 (length a_0.2) pc0_0)] 39 (by kernel_rfl) (by kernel_rfl) ?_
 intro b1 w2 hg3 hb4 hbe5 hz6
 refine pN 2 [6, 7] [] ?_
 refine gv_nil <| gv_seq <| gv_region <| pN 1 [8] [(8, (.int .u64 0))] ?_
 refine gv_nil <| gv_seq <| gv_seq <| gv_region <| pN 1 [12] [(12, (.pointer (some ⟨b1, 1, none⟩)))] ?_
 refine gv_load (t := 37) (A := ⟨b1, 1, none⟩) (.slice pa0_0 (length a_0.2) pc0_0) [] (fun e => by cases e) rfl rfl rfl (by kernel_rfl) (by kernel_rfl) (by kernel_rfl) (inw0 (hb4.cell 1 rfl)) rfl ?_
 refine pN 2 [14, 15] [(15, (.bool (decide (((length a_0.2 : Nat) : Int) > 2))))] ?_
 refine gv_nil <| gv_cond (b := (decide (((length a_0.2 : Nat) : Int) > 2))) (by kernel_rfl) (fun hc7 => ?_) (fun hc7 => ?_)
 ·replace h0 := ite_t hc7 h0
  refine gv_seq <| gv_region <| pN 2 [6, 7] [(6, (.int .u64 0)), (7, (.bool false))] ?_
  refine gv_nil <| gv_cret ?_
  have e := sj h0; subst e
  refine gv_ret (gv_done [(.int .u64 0), (.bool false)] rfl ⟨(by kernel_rfl), (by kernel_rfl), trivial⟩ ?_)
  have hB8 := bg hB0 hg3 nb
  exact ⟨grown_of_below hB8, rfl⟩
 ·replace h0 := ite_f hc7 h0
  refine gv_skip <| gv_seq <| gv_seq <| gv_region <| pN 1 [16] [(16, (.pointer (some ⟨b1, 1, none⟩)))] ?_
  refine gv_load (t := 37) (A := ⟨b1, 1, none⟩) (.slice pa0_0 (length a_0.2) pc0_0) [] (fun e => by cases e) rfl rfl rfl (by kernel_rfl) (by kernel_rfl) (by kernel_rfl) (inw0 (hb4.cell 1 rfl)) rfl ?_
  refine pN 2 [18, 19] [(18, (.int .i64 ((length a_0.2 : Nat) : Int))), (19, (.int .i64 0))] ?_
  refine gv_nil <| bindE h0 ?_; clear h0; intro j9 h1 h0
  refine gv_cut_code (J := fun a w10 => Below w0.heap.size w0 w10 ∧ w2.heap.size ≤ w10.heap.size ∧ Box w10 b1 39 #[(.bool a_0.1), (.slice pa0_0 (length a_0.2) pc0_0)] ∧ a.defers = [] ∧ a.tmps.size = 61 ∧ Ok [(1, (.int .i64 n_1)), (2, (.bool signed_2)), (3, (bp b1)), (8, (.int .u64 j9))] a.tmps) ?_ ?_
  ·skip
   refine gv_block <| gv_loop (A := fun (s11 : (Int × Int)) a w12 => Below w0.heap.size w0 w12 ∧ w2.heap.size ≤ w12.heap.size ∧ Box w12 b1 39 #[(.bool a_0.1), (.slice pa0_0 (length a_0.2) pc0_0)] ∧ a.defers = [] ∧ a.tmps.size = 61 ∧ Ok [(1, (.int .i64 n_1)), (2, (.bool signed_2)), (3, (bp b1)), (8, (.int .u64 s11.1)), (17, (.slice pa0_0 (length a_0.2) pc0_0)), (18, (.int .i64 ((length a_0.2 : Nat) : Int))), (19, (.int .i64 s11.2))] a.tmps) h1 ?_ ?_
   ·intro a hd hs hok
    have hB13 := bg hB0 hg3 nb
    exact ⟨hB13, nrf, hb4, hd, hs, okp [1, 2, 3, 8, 17, 18, 19] hok⟩
   ·rintro s11 r2 h2 hR2 a w12 ⟨hB14, hz15, hb16, hd, hs, hok⟩
    refine gv_in ?_ hd hs hok
    clear hd hs hok
    clear hc7 hz6 hb4 hg3
    refine gv_seq <| gv_region <| pN 1 [20] [(20, (.bool (decide (s11.2 < ((length a_0.2 : Nat) : Int)))))] ?_
    refine gv_nil <| gv_seq <| gv_cond (b := (decide (s11.2 < ((length a_0.2 : Nat) : Int)))) (by kernel_rfl) (fun hc17 => ?_) (fun hc17 => ?_)
    ·replace h2 := ite_t hc17 h2
     refine gv_skip <| gv_seq <| gv_block <| gv_seq <| gv_region <| pN 1 [21] [(21, (.int .i64 s11.2))] ?_
     refine bindE h2 ?_; clear h2; intro x18 hx19 h2
     refine gv_idxaddr (t := 37) (e := 107) (a := pa0_0) (len := length a_0.2) (cap := pc0_0) (kk := .i64) (i := s11.2) (sz := 1) [] (fun e => by cases e) rfl rfl rfl (by kernel_rfl) (by kernel_rfl) Tryz.underlying37 (by kernel_rfl) ((hpa0_0.below hB14 hX0).has hx19) (idx_spec hx19).1 (idx_spec hx19).2.1 rfl ?_
     refine gv_load (t := 107) (A := (elemAddr pa0_0 ((s11.2 : Int).toNat * 1))) (.int .u32 x18) [] (fun e => by cases e) rfl rfl rfl (by kernel_rfl) (by kernel_rfl) (by kernel_rfl) (inw0 ((hpa0_0.below hB14 hX0).cell hx19)) rfl ?_
     refine pN 2 [9, 10] [(9, (.int .i64 s11.2)), (10, (.int .u32 x18))] ?_
     refine gv_nil <| gv_region <| pN 5 [24, 25, 26, 27, 28] [(24, (.int .u64 s11.1)), (26, (.int .u64 (IntKind.u64.wrap (x18)))), (28, (.int .i64 (IntKind.i64.wrap (32 * s11.2))))] ?_
     refine bindE h2 ?_; clear h2; intro _ hx20 h2
     refine gv_shift .shl (t := 100) (kk := .u64) (ky := .i64) (x := (IntKind.u64.wrap (x18))) (y := (IntKind.i64.wrap (32 * s11.2))) (shlI .u64 (IntKind.u64.wrap (x18)) (IntKind.i64.wrap (32 * s11.2))) [] (fun e => by cases e) rfl rfl rfl (by kernel_rfl) (by kernel_rfl) (nn_spec hx20) (.inl ⟨rfl, rfl⟩) rfl ?_
     refine pN 2 [8, 30] [(8, (.int .u64 (bwOr .u64 s11.1 (shlI .u64 (IntKind.u64.wrap (x18)) (IntKind.i64.wrap (32 * s11.2))))))] ?_
     refine bindE h2 ?_; clear h2; intro n21 hn22 h2
     refine gv_name (s := 8) (v := (.int .u64 (bwOr .u64 s11.1 (shlI .u64 (IntKind.u64.wrap (x18)) (IntKind.i64.wrap (32 * s11.2)))))) (v' := (.int .u64 n21)) (by kernel_rfl) (congrArg (Value.int .u64) (sj hn22)) ?_
     refine gv_nil <| gv_blk <| gv_region <| pN 2 [19, 31] [(19, (.int .i64 (IntKind.i64.wrap (s11.2 + 1))))] ?_
     refine gv_nil ?_
     have e := sj h2; subst e
     refine gv_goal fun a hd hs hok => ?_
     have hz23 := hz15
     exact ⟨(n21, (IntKind.i64.wrap (s11.2 + 1))), rfl, hB14, hz23, hb16, hd, hs, okp [1, 2, 3, 8, 17, 18, 19] hok⟩
    ·replace h2 := ite_f hc17 h2
     refine gv_cexit <| gv_exit rfl ?_
     have e := sj h2; subst e
     replace h1 := congrArg some (hR2 _ rfl)
     have e := sj h1; subst e
     refine gv_goal fun a hd hs hok => ?_
     have hz24 := hz15
     exact ⟨hB14, hz24, hb16, hd, hs, okp [1, 2, 3, 8] hok⟩
  ·rintro a w10 ⟨hB25, hz26, hb27, hd, hs, hok⟩
   refine gv_in ?_ hd hs hok
   clear hd hs hok
   clear hz26 hc7 hz6 hb4 hg3
   refine gv_seq <| gv_region <| pN 3 [32, 33, 34] [(34, (.int .i64 (IntKind.i64.wrap ((IntKind.i64.wrap (8 * n_1)) - 1))))] ?_
   refine bindE h0 ?_; clear h0; intro _ hx28 h0
   refine gv_shift .shl (t := 100) (kk := .u64) (ky := .i64) (x := 1) (y := (IntKind.i64.wrap ((IntKind.i64.wrap (8 * n_1)) - 1))) (shlI .u64 1 (IntKind.i64.wrap ((IntKind.i64.wrap (8 * n_1)) - 1))) [] (fun e => by cases e) rfl rfl rfl (by kernel_rfl) (by kernel_rfl) (nn_spec hx28) (.inl ⟨rfl, rfl⟩) rfl ?_
   refine pN 1 [11] [(11, (.int .u64 (shlI .u64 1 (IntKind.i64.wrap ((IntKind.i64.wrap (8 * n_1)) - 1)))))] ?_
   refine bindE h0 ?_; clear h0; intro n29 hn30 h0
   refine gv_name (s := 11) (v := (.int .u64 (shlI .u64 1 (IntKind.i64.wrap ((IntKind.i64.wrap (8 * n_1)) - 1))))) (v' := (.int .u64 n29)) (by kernel_rfl) (congrArg (Value.int .u64) (sj hn30)) ?_
   refine gv_nil <| gv_seq <| gv_block <| gv_seq <| gv_region <| pN 3 [36, 37, 38] [(36, (.bool (!signed_2)))] ?_
   refine gv_nil <| gv_cond (b := (!signed_2)) (by kernel_rfl) (fun hc31 => ?_) (fun hc31 => ?_)
   ·replace h0 := ite_t hc31 h0
    refine gv_seq <| gv_region <| bindE h0 ?_; clear h0; intro j32 h1 h0
    refine gv_cut_ops (J := fun a w33 => Below w0.heap.size w0 w33 ∧ w10.heap.size ≤ w33.heap.size ∧ a.defers = [] ∧ a.tmps.size = 61 ∧ Ok [(6, (.int .u64 j32.1)), (7, (.bool j32.2))] a.tmps) ?_ ?_
    ·skip
     refine pN 2 [39, 40] [(39, (.int .u64 j9)), (40, (bp b1))] ?_
     refine gv_load (t := 4) (A := ⟨b1, 0, none⟩) (.bool a_0.1) [] (fun e => by cases e) rfl rfl rfl (by kernel_rfl) (by kernel_rfl) (by kernel_rfl) (inw0 (hb27.cell 0 rfl)) rfl ?_
     refine pN 2 [42, 43] [(43, (.bool (!a_0.1)))] ?_
     refine gv_split (s := 43) (g := (!a_0.1)) (by kernel_rfl) (fun hc34 => ?_) (fun hc34 => ?_)
     ·skip
      replace h1 := ite_t hc34 h1
      refine pN 7 [6, 7, 44, 45, 46, 47, 48] [(6, (.int .u64 j9)), (7, (.bool (decide (((j9).fdiv (2 ^ 1)) < n29))))] ?_
      refine gv_nil ?_
      have e := sj h1; subst e
      refine gv_goal fun a hd hs hok => ?_
      exact ⟨hB25, nrf, hd, hs, okp [6, 7] hok⟩
     ·skip
      replace h1 := ite_f hc34 h1
      refine pN 7 [6, 7, 44, 45, 46, 47, 48] [(6, (.int .u64 j9)), (7, (.bool false))] ?_
      refine gv_nil ?_
      have e := sj h1; subst e
      refine gv_goal fun a hd hs hok => ?_
      exact ⟨hB25, nrf, hd, hs, okp [6, 7] hok⟩
    ·rintro a w33 ⟨hB35, hz36, hd, hs, hok⟩
     refine gv_in ?_ hd hs hok
     clear hd hs hok
     clear hz36 hc31 hn30 hx28 hb27 hB25 hbe5
     refine gv_cret ?_
     have e := sj h0; subst e
     refine gv_ret (gv_done [(.int .u64 j32.1), (.bool j32.2)] rfl ⟨(by kernel_rfl), (by kernel_rfl), trivial⟩ ?_)
     exact ⟨grown_of_below hB35, rfl⟩
   ·replace h0 := ite_f hc31 h0
    refine gv_seq <| gv_region <| pN 1 [50] [(50, (bp b1))] ?_
    refine gv_load (t := 4) (A := ⟨b1, 0, none⟩) (.bool a_0.1) [] (fun e => by cases e) rfl rfl rfl (by kernel_rfl) (by kernel_rfl) (by kernel_rfl) (inw0 (hb27.cell 0 rfl)) rfl ?_
    refine pN 1 [49] [(49, (.bool a_0.1))] ?_
    refine gv_nil <| gv_cond (b := a_0.1) (by kernel_rfl) (fun hc37 => ?_) (fun hc37 => ?_)
    ·replace h0 := ite_t hc37 h0
     refine gv_seq <| gv_region <| pN 7 [6, 7, 52, 53, 54, 55, 56] [(6, (.int .u64 (IntKind.u64.wrap (0 - j9)))), (7, (.bool (decide (j9 ≤ n29))))] ?_
     refine gv_nil <| gv_cret ?_
     have e := sj h0; subst e
     refine gv_ret (gv_done [(.int .u64 (IntKind.u64.wrap (0 - j9))), (.bool (decide (j9 ≤ n29)))] rfl ⟨(by kernel_rfl), (by kernel_rfl), trivial⟩ ?_)
     exact ⟨grown_of_below hB25, rfl⟩
    ·replace h0 := ite_f hc37 h0
     refine gv_skip <| gv_blk <| gv_seq <| gv_region <| pN 6 [6, 7, 57, 58, 59, 60] [(6, (.int .u64 j9)), (7, (.bool (decide (j9 < n29))))] ?_
     refine gv_nil <| gv_cret ?_
     have e := sj h0; subst e
     refine gv_ret (gv_done [(.int .u64 j9), (.bool (decide (j9 < n29)))] rfl ⟨(by kernel_rfl), (by kernel_rfl), trivial⟩ ?_)
     exact ⟨grown_of_below hB25, rfl⟩

theorem packing_zigzag_ok (fuel : Nat) (pa0_0 : Option Addr) (pc0_0 : Nat) (out_0 : (List UInt8)) (u_1 : Int) (w0 : World) (hpa0_0 : Gv.Own bE 5 w0 (fun _ => False) pa0_0 pc0_0 out_0) (r0 : (List UInt8)) (h0 : packing_zigzag fuel out_0 u_1 = some r0) :
    Calls Tryz.prog 59 ([(.slice pa0_0 (length out_0) pc0_0), (.int .u64 u_1)] : List Value).toArray w0 (Ret fun v w' => w0.grownBy w' (blk pa0_0) ∧ ∃ (a0_0r : Option Addr) (c0_0r : Nat), v = tup [(.slice a0_0r (length r0) c0_0r)] ∧ Gv.Own bE 5 w' (fun _ => False) a0_0r c0_0r r0 ∧ (∀ g, blk a0_0r = some g → blk pa0_0 = some g ∨ w0.heap.size ≤ g)) := by
 have hB0 : w0.grownBy w0 (blk pa0_0) := grown_refl _ _
 unfold packing_zigzag at h0
 refine calls_run Tryz.func59 rfl Tryz.ntmps59 (by kernel_rfl) ?_
 refine gv_sub [0, 1] (σ' := [(0, (.slice pa0_0 (length out_0) pc0_0)), (1, (.int .u64 u_1))]) (by kernel_rfl) ?_
 refine gv_seq <| gv_region <| pN 1 [4] [] ?_
 refine gv_nil <| gv_seq <| gv_region <| pN 7 [1, 5, 6, 7, 8, 9, 10] [(1, (.int .u64 (bwXor .u64 (IntKind.u64.wrap (u_1 * 2 ^ 1)) (IntKind.u64.wrap (0 - ((u_1).fdiv (2 ^ 63)))))))] ?_
 refine bindE h0 ?_; clear h0; intro n1 hn2 h0
 refine gv_name (s := 1) (v := (.int .u64 (bwXor .u64 (IntKind.u64.wrap (u_1 * 2 ^ 1)) (IntKind.u64.wrap (0 - ((u_1).fdiv (2 ^ 63))))))) (v' := (.int .u64 n1)) (by kernel_rfl) (congrArg (Value.int .u64) (sj hn2)) ?_
 refine gv_nil <| gv_seq <| bindE h0 ?_; clear h0; intro j3 h1 h0
 refine gv_cut_code (J := fun a w4 => ∃ (a0_0j : Option Addr) (c0_0j : Nat), w0.grownBy w4 (blk pa0_0) ∧ w0.heap.size ≤ w4.heap.size ∧ Gv.Own bE 5 w4 (fun _ => False) a0_0j c0_0j j3.1 ∧ (∀ g, blk a0_0j = some g → blk pa0_0 = some g ∨ w0.heap.size ≤ g) ∧ a.defers = [] ∧ a.tmps.size = 26 ∧ Ok [(0, (.slice a0_0j (length j3.1) c0_0j)), (1, (.int .u64 j3.2))] a.tmps) ?_ ?_
 ·skip
  refine gv_block <| gv_loop (A := fun (s5 : ((List UInt8) × Int)) a w6 => ∃ (a0_0j : Option Addr) (c0_0j : Nat), w0.grownBy w6 (blk pa0_0) ∧ w0.heap.size ≤ w6.heap.size ∧ Gv.Own bE 5 w6 (fun _ => False) a0_0j c0_0j s5.1 ∧ (∀ g, blk a0_0j = some g → blk pa0_0 = some g ∨ w0.heap.size ≤ g) ∧ a.defers = [] ∧ a.tmps.size = 26 ∧ Ok [(0, (.slice a0_0j (length s5.1) c0_0j)), (1, (.int .u64 s5.2))] a.tmps) h1 ?_ ?_
  ·intro a hd hs hok
   exact ⟨pa0_0, pc0_0, hB0, nrf, hpa0_0, (fun g e => Or.inl e), hd, hs, okp [0, 1] hok⟩
  ·rintro s5 r2 h2 hR2 a w6 ⟨a9, c10, hB7, hz8, ho11, hl12, hd, hs, hok⟩
   refine gv_in ?_ hd hs hok
   clear hd hs hok
   refine gv_seq <| gv_seq <| gv_region <| pN 2 [11, 12] [(12, (.bool (decide (s5.2 ≥ 128))))] ?_
   refine gv_nil <| gv_cond (b := (decide (s5.2 ≥ 128))) (by kernel_rfl) (fun hc13 => ?_) (fun hc13 => ?_)
   ·replace h2 := ite_t hc13 h2
    refine gv_skip <| gv_seq <| gv_block <| gv_region <| pN 4 [15, 16, 17, 18] [(15, (.slice a9 (length s5.1) c10)), (18, (.int .u8 (bwOr .u8 (IntKind.u8.wrap (s5.2)) 128)))] ?_
    refine bindE h2 ?_; clear h2; intro b14 hb15 h2
    have hu16 := u8_spec hb15
    refine gv_new0 (fun b => .slice (some ⟨b, 0, none⟩) 1 1) #[(.int .u8 (bwOr .u8 (IntKind.u8.wrap (s5.2)) 128))] 5 (by kernel_rfl) (by kernel_rfl) ?_
    intro b17 w18 hg19 hb20 hbe21 hz22
    have ho23 : Gv.Own bE 5 w18 (fun _ => False) (some ⟨b17, 0, none⟩) 1 ([b14] : List UInt8) := Box.ownE hb20 ⟨[(.int .u8 (bwOr .u8 (IntKind.u8.wrap (s5.2)) 128))], [], rfl, (by simp only [bE, flat, hu16]), rfl⟩ (show 1 ≤ maxLen by decide) (fun h => h)
    have hl24 : ∀ g, blk (some ⟨b17, 0, none⟩) = some g → w0.heap.size ≤ g := loo hbe21 hB7.size
    refine bindE h2 ?_; clear h2; intro l28 hx29 h2
    have hk36 := ho11.grown hg19 (fun _ h => h.elim) nb
    refine gv_append bE (t := 23) (ty := 23) (e := 5) (a := a9) (ax := (some ⟨b17, 0, none⟩)) (cap := c10) (cx := 1) (xs := s5.1) (ys := ([b14] : List UInt8)) l28 (X := (fun _ => False)) (Y := (fun k => blk (some ⟨b17, 0, none⟩) = some k)) (by decide) rfl rfl (by kernel_rfl) (by kernel_rfl) Tryz.underlying23 info5 hk36 (ho23.rd (Y := fun k => blk (some ⟨b17, 0, none⟩) = some k) (fun _ h => h.elim) (fun g e => e)) hx29 (.inr fun _ _ _ _ _ h => h) (fun _ h => h.elim) ?_
    intro a30 c31 w32 hg33 ho34 hk35
    refine ⟨(fun e => by cases e), ?_⟩
    have hB38 := grown_stepO hB7 hg19 nb
    have hl37 : ∀ g, blk a30 = some g → blk pa0_0 = some g ∨ w0.heap.size ≤ g := blkw_tr (blkw_of hk35) hl12 hB38.size
    have ap40 : ∀ g, blk a9 = some g → ¬ (fun k => blk (some ⟨b17, 0, none⟩) = some k) g := fun g e hx => nl ((lowo hbe21) _ hx) ((fun k (hk : blk a9 = some k) => ho11.lt k hk) g e)
    have ap39 : ∀ g, blk a30 = some g → ¬ (fun k => blk (some ⟨b17, 0, none⟩) = some k) g := blk_neX hk35 ap40 (fun k (hk : blk (some ⟨b17, 0, none⟩) = some k) => ho23.lt k hk)
    have ap42 : ∀ g, blk (some ⟨b17, 0, none⟩) = some g → ¬ (fun k => blk a9 = some k) g := fun g e hx => nl ((lowo hbe21) g e) ((fun k (hk : blk a9 = some k) => ho11.lt k hk) _ hx)
    have ap41 : ∀ g, blk (some ⟨b17, 0, none⟩) = some g → ¬ (fun k => blk a30 = some k) g := fun g e h => blk_rev hk35 (fun h => ((ap42) g e) h) (ho23.lt g e) h
    refine pN 1 [0] [(0, (.slice a30 (length l28) c31))] ?_
    refine gv_nil <| gv_blk <| gv_region <| pN 3 [1, 13, 14] [(1, (.int .u64 ((s5.2).fdiv (2 ^ 7))))] ?_
    refine gv_nil ?_
    have e := sj h2; subst e
    refine gv_goal fun a hd hs hok => ?_
    have hB43 := grown_stepO hB38 hg33 hl12
    have hz44 := (nt (nt hz8 hg19.size) hg33.size)
    exact ⟨(l28, ((s5.2).fdiv (2 ^ 7))), rfl, a30, c31, hB43, hz44, ho34, hl37, hd, hs, okp [0, 1] hok⟩
   ·replace h2 := ite_f hc13 h2
    refine gv_cexit <| gv_exit rfl ?_
    have e := sj h2; subst e
    replace h1 := congrArg some (hR2 _ rfl)
    have e := sj h1; subst e
    refine gv_goal fun a hd hs hok => ?_
    have hz45 := hz8
    exact ⟨a9, c10, hB7, hz45, ho11, hl12, hd, hs, okp [0, 1] hok⟩
 ·rintro a w4 ⟨a48, c49, hB46, hz47, ho50, hl51, hd, hs, hok⟩
  refine gv_in ?_ hd hs hok
  clear hd hs hok
  refine gv_seq <| gv_region <| pN 3 [21, 22, 23] [(21, (.slice a48 (length j3.1) c49)), (23, (.int .u8 (IntKind.u8.wrap (j3.2))))] ?_
  refine bindE h0 ?_; clear h0; intro b52 hb53 h0
  have hu54 := u8_spec hb53
  refine gv_new0 (fun b => .slice (some ⟨b, 0, none⟩) 1 1) #[(.int .u8 (IntKind.u8.wrap (j3.2)))] 5 (by kernel_rfl) (by kernel_rfl) ?_
  intro b55 w56 hg57 hb58 hbe59 hz60
  have ho61 : Gv.Own bE 5 w56 (fun _ => False) (some ⟨b55, 0, none⟩) 1 ([b52] : List UInt8) := Box.ownE hb58 ⟨[(.int .u8 (IntKind.u8.wrap (j3.2)))], [], rfl, (by simp only [bE, flat, hu54]), rfl⟩ (show 1 ≤ maxLen by decide) (fun h => h)
  have hl62 : ∀ g, blk (some ⟨b55, 0, none⟩) = some g → w0.heap.size ≤ g := loo hbe59 hB46.size
  refine bindE h0 ?_; clear h0; intro l66 hx67 h0
  have hk74 := ho50.grown hg57 (fun _ h => h.elim) nb
  refine gv_append bE (t := 23) (ty := 23) (e := 5) (a := a48) (ax := (some ⟨b55, 0, none⟩)) (cap := c49) (cx := 1) (xs := j3.1) (ys := ([b52] : List UInt8)) l66 (X := (fun _ => False)) (Y := (fun k => blk (some ⟨b55, 0, none⟩) = some k)) (by decide) rfl rfl (by kernel_rfl) (by kernel_rfl) Tryz.underlying23 info5 hk74 (ho61.rd (Y := fun k => blk (some ⟨b55, 0, none⟩) = some k) (fun _ h => h.elim) (fun g e => e)) hx67 (.inr fun _ _ _ _ _ h => h) (fun _ h => h.elim) ?_
  intro a68 c69 w70 hg71 ho72 hk73
  refine ⟨(fun e => by cases e), ?_⟩
  have hB76 := grown_stepO hB46 hg57 nb
  have hl75 : ∀ g, blk a68 = some g → blk pa0_0 = some g ∨ w0.heap.size ≤ g := blkw_tr (blkw_of hk73) hl51 hB76.size
  have ap78 : ∀ g, blk a48 = some g → ¬ (fun k => blk (some ⟨b55, 0, none⟩) = some k) g := fun g e hx => nl ((lowo hbe59) _ hx) ((fun k (hk : blk a48 = some k) => ho50.lt k hk) g e)
  have ap77 : ∀ g, blk a68 = some g → ¬ (fun k => blk (some ⟨b55, 0, none⟩) = some k) g := blk_neX hk73 ap78 (fun k (hk : blk (some ⟨b55, 0, none⟩) = some k) => ho61.lt k hk)
  have ap80 : ∀ g, blk (some ⟨b55, 0, none⟩) = some g → ¬ (fun k => blk a48 = some k) g := fun g e hx => nl ((lowo hbe59) g e) ((fun k (hk : blk a48 = some k) => ho50.lt k hk) _ hx)
  have ap79 : ∀ g, blk (some ⟨b55, 0, none⟩) = some g → ¬ (fun k => blk a68 = some k) g := fun g e h => blk_rev hk73 (fun h => ((ap80) g e) h) (ho61.lt g e) h
  refine pN 1 [4] [(4, (.slice a68 (length l66) c69))] ?_
  refine gv_nil <| gv_cret ?_
  have e := sj h0; subst e
  refine gv_ret (gv_done [(.slice a68 (length l66) c69)] rfl ⟨(by kernel_rfl), trivial⟩ ?_)
  have hB81 := grown_stepO hB76 hg71 hl51
  exact ⟨hB81, a68, c69, rfl, ho72, hl75⟩

theorem packing_order_ok (fuel : Nat) (pa0_0 : Option Addr) (pc0_0 : Nat) (out_0 : (List UInt8)) (u_1 : Int) (n_2 : Int) (big_3 : Bool) (w0 : World) (hpa0_0 : Gv.Own bE 5 w0 (fun _ => False) pa0_0 pc0_0 out_0) (r0 : (List UInt8)) (h0 : packing_order fuel out_0 u_1 n_2 big_3 = some r0) :
    Calls Tryz.prog 60 ([(.slice pa0_0 (length out_0) pc0_0), (.int .u64 u_1), (.int .i64 n_2), (.bool big_3)] : List Value).toArray w0 (Ret fun v w' => w0.grownBy w' (blk pa0_0) ∧ ∃ (a0_0r : Option Addr) (c0_0r : Nat), v = tup [(.slice a0_0r (length r0) c0_0r)] ∧ Gv.Own bE 5 w' (fun _ => False) a0_0r c0_0r r0 ∧ (∀ g, blk a0_0r = some g → blk pa0_0 = some g ∨ w0.heap.size ≤ g)) := by
 have hB0 : w0.grownBy w0 (blk pa0_0) := grown_refl _ _
 unfold packing_order at h0
 refine calls_run Tryz.func60 rfl Tryz.ntmps60 (by kernel_rfl) ?_
 refine gv_sub [0, 1, 2, 3] (σ' := [(0, (.slice pa0_0 (length out_0) pc0_0)), (1, (.int .u64 u_1)), (2, (.int .i64 n_2)), (3, (.bool big_3))]) (by kernel_rfl) ?_
 refine gv_seq <| gv_region <| pN 1 [8] [] ?_
 refine gv_nil <| gv_seq <| gv_seq <| gv_region <| pN 2 [11, 12] [(11, (.int .i64 n_2)), (12, (.int .i64 0))] ?_
 refine gv_nil <| bindE h0 ?_; clear h0; intro j1 h1 h0
 refine gv_cut_code (J := fun a w2 => ∃ (a0_0j : Option Addr) (c0_0j : Nat), w0.grownBy w2 (blk pa0_0) ∧ w0.heap.size ≤ w2.heap.size ∧ Gv.Own bE 5 w2 (fun _ => False) a0_0j c0_0j j1 ∧ (∀ g, blk a0_0j = some g → blk pa0_0 = some g ∨ w0.heap.size ≤ g) ∧ a.defers = [] ∧ a.tmps.size = 31 ∧ Ok [(0, (.slice a0_0j (length j1) c0_0j))] a.tmps) ?_ ?_
 ·skip
  refine gv_block <| gv_loop (A := fun (s3 : ((List UInt8) × Int)) a w4 => ∃ (a0_0j : Option Addr) (c0_0j : Nat), w0.grownBy w4 (blk pa0_0) ∧ w0.heap.size ≤ w4.heap.size ∧ Gv.Own bE 5 w4 (fun _ => False) a0_0j c0_0j s3.1 ∧ (∀ g, blk a0_0j = some g → blk pa0_0 = some g ∨ w0.heap.size ≤ g) ∧ a.defers = [] ∧ a.tmps.size = 31 ∧ Ok [(0, (.slice a0_0j (length s3.1) c0_0j)), (1, (.int .u64 u_1)), (2, (.int .i64 n_2)), (3, (.bool big_3)), (11, (.int .i64 n_2)), (12, (.int .i64 s3.2))] a.tmps) h1 ?_ ?_
  ·intro a hd hs hok
   exact ⟨pa0_0, pc0_0, hB0, nrf, hpa0_0, (fun g e => Or.inl e), hd, hs, okp [0, 1, 2, 3, 11, 12] hok⟩
  ·rintro s3 r2 h2 hR2 a w4 ⟨a7, c8, hB5, hz6, ho9, hl10, hd, hs, hok⟩
   refine gv_in ?_ hd hs hok
   clear hd hs hok
   refine gv_seq <| gv_region <| pN 1 [13] [(13, (.bool (decide (s3.2 < n_2))))] ?_
   refine gv_nil <| gv_seq <| gv_cond (b := (decide (s3.2 < n_2))) (by kernel_rfl) (fun hc11 => ?_) (fun hc11 => ?_)
   ·replace h2 := ite_t hc11 h2
    refine gv_skip <| gv_seq <| gv_block <| gv_seq <| gv_region <| pN 2 [9, 14] [(9, (.int .i64 s3.2))] ?_
    refine gv_nil <| gv_seq <| gv_region <| pN 2 [10, 15] [(10, (.int .i64 s3.2))] ?_
    refine gv_nil <| gv_seq <| gv_seq <| gv_region <| pN 1 [16] [(16, (.bool big_3))] ?_
    refine gv_nil <| bindE h2 ?_; clear h2; intro j12 h3 h2
    refine gv_cut_code (J := fun a w13 => w0.grownBy w13 (blk pa0_0) ∧ w4.heap.size ≤ w13.heap.size ∧ Gv.Own bE 5 w13 (fun _ => False) a7 c8 s3.1 ∧ a.defers = [] ∧ a.tmps.size = 31 ∧ Ok [(0, (.slice a7 (length s3.1) c8)), (1, (.int .u64 u_1)), (2, (.int .i64 n_2)), (3, (.bool big_3)), (10, (.int .i64 j12)), (11, (.int .i64 n_2)), (12, (.int .i64 s3.2))] a.tmps) ?_ ?_
    ·skip
     refine gv_cond (b := big_3) (by kernel_rfl) (fun hc14 => ?_) (fun hc14 => ?_)
     ·replace h3 := ite_t hc14 h3
      refine gv_region <| pN 5 [10, 17, 18, 19, 20] [(10, (.int .i64 (IntKind.i64.wrap ((IntKind.i64.wrap (n_2 - 1)) - s3.2))))] ?_
      refine bindE h3 ?_; clear h3; intro n15 hn16 h3
      refine gv_name (s := 10) (v := (.int .i64 (IntKind.i64.wrap ((IntKind.i64.wrap (n_2 - 1)) - s3.2)))) (v' := (.int .i64 n15)) (by kernel_rfl) (congrArg (Value.int .i64) (sj hn16)) ?_
      refine gv_nil ?_
      have e := sj h3; subst e
      refine gv_goal fun a hd hs hok => ?_
      exact ⟨hB5, nrf, ho9, hd, hs, okp [0, 1, 2, 3, 10, 11, 12] hok⟩
     ·replace h3 := ite_f hc14 h3
      refine gv_skip ?_
      have e := sj h3; subst e
      refine gv_goal fun a hd hs hok => ?_
      exact ⟨hB5, nrf, ho9, hd, hs, okp [0, 1, 2, 3, 10, 11, 12] hok⟩
    ·rintro a w13 ⟨hB17, hz18, hk19, hd, hs, hok⟩
     refine gv_in ?_ hd hs hok
     clear hd hs hok
     have hz20 := (nt hz6 hz18)
     clear hz18 hc11 ho9 hz6 hB5
     refine gv_region <| pN 4 [21, 22, 23, 24] [(21, (.slice a7 (length s3.1) c8)), (22, (.int .u64 u_1)), (24, (.int .i64 (IntKind.i64.wrap (8 * j12))))] ?_
     refine bindE h2 ?_; clear h2; intro _ hx21 h2
     refine gv_shift .shr (t := 100) (kk := .u64) (ky := .i64) (x := u_1) (y := (IntKind.i64.wrap (8 * j12))) (shrI .u64 u_1 (IntKind.i64.wrap (8 * j12))) [] (fun e => by cases e) rfl rfl rfl (by kernel_rfl) (by kernel_rfl) (nn_spec hx21) (.inr ⟨rfl, rfl⟩) rfl ?_
     refine pN 1 [26] [(26, (.int .u8 (IntKind.u8.wrap ((shrI .u64 u_1 (IntKind.i64.wrap (8 * j12)))))))] ?_
     refine bindE h2 ?_; clear h2; intro b22 hb23 h2
     have hu24 := u8_spec hb23
     refine gv_new0 (fun b => .slice (some ⟨b, 0, none⟩) 1 1) #[(.int .u8 (IntKind.u8.wrap ((shrI .u64 u_1 (IntKind.i64.wrap (8 * j12))))))] 5 (by kernel_rfl) (by kernel_rfl) ?_
     intro b25 w26 hg27 hb28 hbe29 hz30
     have ho31 : Gv.Own bE 5 w26 (fun _ => False) (some ⟨b25, 0, none⟩) 1 ([b22] : List UInt8) := Box.ownE hb28 ⟨[(.int .u8 (IntKind.u8.wrap ((shrI .u64 u_1 (IntKind.i64.wrap (8 * j12))))))], [], rfl, (by simp only [bE, flat, hu24]), rfl⟩ (show 1 ≤ maxLen by decide) (fun h => h)
     have hl32 : ∀ g, blk (some ⟨b25, 0, none⟩) = some g → w0.heap.size ≤ g := loo hbe29 hB17.size
     refine bindE h2 ?_; clear h2; intro l36 hx37 h2
     have hk44 := hk19.grown hg27 (fun _ h => h.elim) nb
     refine gv_append bE (t := 23) (ty := 23) (e := 5) (a := a7) (ax := (some ⟨b25, 0, none⟩)) (cap := c8) (cx := 1) (xs := s3.1) (ys := ([b22] : List UInt8)) l36 (X := (fun _ => False)) (Y := (fun k => blk (some ⟨b25, 0, none⟩) = some k)) (by decide) rfl rfl (by kernel_rfl) (by kernel_rfl) Tryz.underlying23 info5 hk44 (ho31.rd (Y := fun k => blk (some ⟨b25, 0, none⟩) = some k) (fun _ h => h.elim) (fun g e => e)) hx37 (.inr fun _ _ _ _ _ h => h) (fun _ h => h.elim) ?_
     intro a38 c39 w40 hg41 ho42 hk43
     refine ⟨(fun e => by cases e), ?_⟩
     have hB46 := grown_stepO hB17 hg27 nb
     have hl45 : ∀ g, blk a38 = some g → blk pa0_0 = some g ∨ w0.heap.size ≤ g := blkw_tr (blkw_of hk43) hl10 hB46.size
     have ap48 : ∀ g, blk a7 = some g → ¬ (fun k => blk (some ⟨b25, 0, none⟩) = some k) g := fun g e hx => nl ((lowo hbe29) _ hx) ((fun k (hk : blk a7 = some k) => hk19.lt k hk) g e)
     have ap47 : ∀ g, blk a38 = some g → ¬ (fun k => blk (some ⟨b25, 0, none⟩) = some k) g := blk_neX hk43 ap48 (fun k (hk : blk (some ⟨b25, 0, none⟩) = some k) => ho31.lt k hk)
     have ap50 : ∀ g, blk (some ⟨b25, 0, none⟩) = some g → ¬ (fun k => blk a7 = some k) g := fun g e hx => nl ((lowo hbe29) g e) ((fun k (hk : blk a7 = some k) => hk19.lt k hk) _ hx)
     have ap49 : ∀ g, blk (some ⟨b25, 0, none⟩) = some g → ¬ (fun k => blk a38 = some k) g := fun g e h => blk_rev hk43 (fun h => ((ap50) g e) h) (ho31.lt g e) h
     refine pN 1 [0] [(0, (.slice a38 (length l36) c39))] ?_
     refine gv_nil <| gv_blk <| gv_region <| pN 2 [12, 29] [(12, (.int .i64 (IntKind.i64.wrap (s3.2 + 1))))] ?_
     refine gv_nil ?_
     have e := sj h2; subst e
     refine gv_goal fun a hd hs hok => ?_
     have hB51 := grown_stepO hB46 hg41 hl10
     have hz52 := (nt (nt hz20 hg27.size) hg41.size)
     exact ⟨(l36, (IntKind.i64.wrap (s3.2 + 1))), rfl, a38, c39, hB51, hz52, ho42, hl45, hd, hs, okp [0, 1, 2, 3, 11, 12] hok⟩
   ·replace h2 := ite_f hc11 h2
    refine gv_cexit <| gv_exit rfl ?_
    have e := sj h2; subst e
    replace h1 := congrArg some (hR2 _ rfl)
    have e := sj h1; subst e
    refine gv_goal fun a hd hs hok => ?_
    have hz53 := hz6
    exact ⟨a7, c8, hB5, hz53, ho9, hl10, hd, hs, okp [0] hok⟩
 ·rintro a w2 ⟨a56, c57, hB54, hz55, ho58, hl59, hd, hs, hok⟩
  refine gv_in ?_ hd hs hok
  clear hd hs hok
  refine gv_seq <| gv_region <| pN 2 [8, 30] [(8, (.slice a56 (length j1) c57))] ?_
  refine gv_nil <| gv_cret ?_
  have e := sj h0; subst e
  refine gv_ret (gv_done [(.slice a56 (length j1) c57)] rfl ⟨(by kernel_rfl), trivial⟩ ?_)
  exact ⟨hB54, a56, c57, rfl, ho58, hl59⟩

theorem packing_pack_ok (fuel : Nat) (pa0_0 : Option Addr) (pc0_0 : Nat) (out_0 : (List UInt8)) (f_1 : (Int × Int × Bool)) (pa2_0 : Option Addr) (pc2_0 : Nat) (pa2_1 : Option Addr) (pc2_1 : Nat) (v_2 : (Int × (Bool × (List Int)) × (Bool × (List Int)) × ByteArray × Int)) (w0 : World) (X0 : Nat → Prop) (hX0 : ∀ k, X0 k → k < w0.heap.size ∧ blk pa0_0 ≠ some k) (hpa0_0 : Gv.Own bE 5 w0 (fun _ => False) pa0_0 pc0_0 out_0) (hpa2_0 : Rd (iE .u32) w0 X0 pa2_0 pc2_0 v_2.2.1.2) (hpa2_1 : Rd (iE .u32) w0 X0 pa2_1 pc2_1 v_2.2.2.1.2) (r0 : ((List UInt8) × Int)) (h0 : packing_pack fuel out_0 f_1 v_2 = some r0) :
    Calls Tryz.prog 34 ([(.slice pa0_0 (length out_0) pc0_0), (.agg #[(.int .u8 f_1.1), (.int .i64 f_1.2.1), (.bool f_1.2.2)]), (.agg #[(.int .i64 v_2.1), (.bool v_2.2.1.1), (.slice pa2_0 (length v_2.2.1.2) pc2_0), (.bool v_2.2.2.1.1), (.slice pa2_1 (length v_2.2.2.1.2) pc2_1), (.string v_2.2.2.2.1), (.int .i64 v_2.2.2.2.2)])] : List Value).toArray w0 (Ret fun v w' => w0.grownBy w' (blk pa0_0) ∧ ∃ (a0_0r : Option Addr) (c0_0r : Nat), v = tup [(.slice a0_0r (length r0.1) c0_0r), (.int .i64 r0.2)] ∧ Gv.Own bE 5 w' (fun _ => False) a0_0r c0_0r r0.1 ∧ (∀ g, blk a0_0r = some g → blk pa0_0 = some g ∨ w0.heap.size ≤ g)) := by
 have hB0 : w0.grownBy w0 (blk pa0_0) := grown_refl _ _
 unfold packing_pack at h0
 refine calls_run Tryz.func34 rfl Tryz.ntmps34 (by kernel_rfl) ?_
 refine gv_sub [0, 1, 2] (σ' := [(0, (.slice pa0_0 (length out_0) pc0_0)), (1, (.agg #[(.int .u8 f_1.1), (.int .i64 f_1.2.1), (.bool f_1.2.2)])), (2, (.agg #[(.int .i64 v_2.1), (.bool v_2.2.1.1), (.slice pa2_0 (length v_2.2.1.2) pc2_0), (.bool v_2.2.2.1.1), (.slice pa2_1 (length v_2.2.2.1.2) pc2_1), (.string v_2.2.2.2.1), (.int .i64 v_2.2.2.2.2)]))]) (by kernel_rfl) ?_
 refine gv_seq <| gv_region <| gv_new0 (fun b => .pointer (some ⟨b, 0, none⟩)) #[(.int .u8 f_1.1), (.int .i64 f_1.2.1), (.bool f_1.2.2)] 49 (by kernel_rfl) (by kernel_rfl) ?_
 intro b1 w2 hg3 hb4 hbe5 hz6
 refine gv_new0 (fun b => .pointer (some ⟨b, 0, none⟩)) #[(.int .i64 v_2.1), (.bool v_2.2.1.1), (.slice pa2_0 (length v_2.2.1.2) pc2_0), (.bool v_2.2.2.1.1), (.slice pa2_1 (length v_2.2.2.1.2) pc2_1), (.string v_2.2.2.2.1), (.int .i64 v_2.2.2.2.2)] 41 (by kernel_rfl) (by kernel_rfl) ?_
 intro b7 w8 hg9 hb10 hbe11 hz12
 refine pN 2 [6, 7] [] ?_
 refine gv_nil <| gv_seq <| gv_region <| pN 1 [8] [(8, (.int .i64 2))] ?_
 refine gv_nil <| gv_seq <| gv_seq <| gv_region <| pN 1 [13] [(13, (bp b1))] ?_
 have hk13 := hb4.grown hg9 nb
 refine gv_load (t := 5) (A := ⟨b1, 0, none⟩) (.int .u8 f_1.1) [] (fun e => by cases e) rfl rfl rfl (by kernel_rfl) (by kernel_rfl) (by kernel_rfl) (inw0 (hk13.cell 0 rfl)) rfl ?_
 refine gv_nil <| gv_block <| gv_seq <| gv_seq <| gv_region <| pN 2 [15, 16] [(15, (.bool (f_1.1 == 115)))] ?_
 refine gv_nil <| bindE h0 ?_; clear h0; intro j14 h1 h0
 refine gv_cut_code (J := fun a w15 => w0.grownBy w15 (blk pa0_0) ∧ w8.heap.size ≤ w15.heap.size ∧ Box w15 b1 49 #[(.int .u8 f_1.1), (.int .i64 f_1.2.1), (.bool f_1.2.2)] ∧ Box w15 b7 41 #[(.int .i64 v_2.1), (.bool v_2.2.1.1), (.slice pa2_0 (length v_2.2.1.2) pc2_0), (.bool v_2.2.2.1.1), (.slice pa2_1 (length v_2.2.2.1.2) pc2_1), (.string v_2.2.2.2.1), (.int .i64 v_2.2.2.2.2)] ∧ Gv.Own bE 5 w15 (fun _ => False) pa0_0 pc0_0 out_0 ∧ a.defers = [] ∧ a.tmps.size = 95 ∧ Ok [(0, (.slice pa0_0 (length out_0) pc0_0)), (4, (bp b1)), (5, (bp b7)), (8, (.int .i64 2)), (14, (.int .u8 f_1.1)), (15, (.bool j14))] a.tmps) ?_ ?_
 ·skip
  refine gv_cond (b := (f_1.1 == 115)) (by kernel_rfl) (fun hc16 => ?_) (fun hc16 => ?_)
  ·replace h1 := ite_t hc16 h1
   refine gv_skip ?_
   have e := sj h1; subst e
   refine gv_goal fun a hd hs hok => ?_
   have hg17 := (grown_trans hg3 hg9)
   have hB18 := grown_stepO hB0 hg17 nb
   have hk19 := hpa0_0.grown hg17 (fun _ h => h.elim) nb
   exact ⟨hB18, nrf, hk13, hb10, hk19, hd, hs, okp [0, 4, 5, 8, 14, 15] hok⟩
  ·replace h1 := ite_f hc16 h1
   refine gv_region <| pN 2 [15, 17] [(15, (.bool (f_1.1 == 112)))] ?_
   refine gv_nil ?_
   have e := sj h1; subst e
   refine gv_goal fun a hd hs hok => ?_
   have hg20 := (grown_trans hg3 hg9)
   have hB21 := grown_stepO hB0 hg20 nb
   have hk22 := hpa0_0.grown hg20 (fun _ h => h.elim) nb
   exact ⟨hB21, nrf, hk13, hb10, hk22, hd, hs, okp [0, 4, 5, 8, 14, 15] hok⟩
 ·rintro a w15 ⟨hB23, hz24, hb25, hb26, hk27, hd, hs, hok⟩
  refine gv_in ?_ hd hs hok
  clear hd hs hok
  clear hz24 hk13 hz12 hb10 hg9 hz6
  refine bindE h0 ?_; clear h0; intro j28 h1 h0
  refine gv_cut_code (J := fun a w29 => w0.grownBy w29 (blk pa0_0) ∧ w15.heap.size ≤ w29.heap.size ∧ Box w29 b1 49 #[(.int .u8 f_1.1), (.int .i64 f_1.2.1), (.bool f_1.2.2)] ∧ Box w29 b7 41 #[(.int .i64 v_2.1), (.bool v_2.2.1.1), (.slice pa2_0 (length v_2.2.1.2) pc2_0), (.bool v_2.2.2.1.1), (.slice pa2_1 (length v_2.2.2.1.2) pc2_1), (.string v_2.2.2.2.1), (.int .i64 v_2.2.2.2.2)] ∧ Gv.Own bE 5 w29 (fun _ => False) pa0_0 pc0_0 out_0 ∧ a.defers = [] ∧ a.tmps.size = 95 ∧ Ok [(0, (.slice pa0_0 (length out_0) pc0_0)), (4, (bp b1)), (5, (bp b7)), (8, (.int .i64 j28))] a.tmps) ?_ ?_
  ·skip
   refine gv_cond (b := j14) (by kernel_rfl) (fun hc30 => ?_) (fun hc30 => ?_)
   ·replace h1 := ite_t hc30 h1
    refine gv_region <| pN 1 [8] [(8, (.int .i64 5))] ?_
    refine gv_nil ?_
    have e := sj h1; subst e
    refine gv_goal fun a hd hs hok => ?_
    exact ⟨hB23, nrf, hb25, hb26, hk27, hd, hs, okp [0, 4, 5, 8] hok⟩
   ·replace h1 := ite_f hc30 h1
    refine gv_seq <| gv_region <| pN 2 [18, 19] [(18, (.bool (f_1.1 == 63)))] ?_
    refine gv_nil <| gv_cond (b := (f_1.1 == 63)) (by kernel_rfl) (fun hc31 => ?_) (fun hc31 => ?_)
    ·replace h1 := ite_t hc31 h1
     refine gv_region <| pN 1 [8] [(8, (.int .i64 1))] ?_
     refine gv_nil ?_
     have e := sj h1; subst e
     refine gv_goal fun a hd hs hok => ?_
     exact ⟨hB23, nrf, hb25, hb26, hk27, hd, hs, okp [0, 4, 5, 8] hok⟩
    ·replace h1 := ite_f hc31 h1
     refine gv_skip ?_
     have e := sj h1; subst e
     refine gv_goal fun a hd hs hok => ?_
     exact ⟨hB23, nrf, hb25, hb26, hk27, hd, hs, okp [0, 4, 5, 8] hok⟩
  ·rintro a w29 ⟨hB32, hz33, hb34, hb35, hk36, hd, hs, hok⟩
   refine gv_in ?_ hd hs hok
   clear hd hs hok
   clear hz33 hk27 hb26 hb25 hB23
   refine gv_blk <| gv_seq <| gv_seq <| gv_region <| pN 1 [20] [(20, (bp b7))] ?_
   refine gv_load (t := 3) (A := ⟨b7, 0, none⟩) (.int .i64 v_2.1) [] (fun e => by cases e) rfl rfl rfl (by kernel_rfl) (by kernel_rfl) (by kernel_rfl) (inw0 (hb35.cell 0 rfl)) rfl ?_
   refine pN 2 [22, 23] [(23, (.bool (v_2.1 != j28)))] ?_
   refine gv_nil <| gv_cond (b := (v_2.1 != j28)) (by kernel_rfl) (fun hc37 => ?_) (fun hc37 => ?_)
   ·replace h0 := ite_t hc37 h0
    refine gv_seq <| gv_region <| pN 2 [6, 7] [(6, (.slice none (length ([] : List UInt8)) 0)), (7, (.int .i64 13))] ?_
    refine gv_nil <| gv_cret ?_
    have e := sj h0; subst e
    refine gv_ret (gv_done [(.slice none (length ([] : List UInt8)) 0), (.int .i64 13)] rfl ⟨(by kernel_rfl), (by kernel_rfl), trivial⟩ ?_)
    exact ⟨hB32, none, 0, rfl, (Gv.Own.nil bE 5 w29 (fun _ => False)), (fun g e => .inr ((fun _ h => by cases h) g e))⟩
   ·replace h0 := ite_f hc37 h0
    refine gv_skip <| gv_seq <| gv_seq <| gv_region <| pN 1 [24] [(24, (bp b1))] ?_
    refine gv_load (t := 5) (A := ⟨b1, 0, none⟩) (.int .u8 f_1.1) [] (fun e => by cases e) rfl rfl rfl (by kernel_rfl) (by kernel_rfl) (by kernel_rfl) (inw0 (hb34.cell 0 rfl)) rfl ?_
    refine gv_nil <| gv_block <| gv_seq <| gv_region <| pN 2 [26, 27] [(26, (.bool (f_1.1 == 115)))] ?_
    refine gv_nil <| gv_cond (b := (f_1.1 == 115)) (by kernel_rfl) (fun hc38 => ?_) (fun hc38 => ?_)
    ·replace h0 := ite_t hc38 h0
     refine gv_seq <| gv_seq <| gv_region <| pN 1 [28] [(28, (.pointer (some ⟨b7, 5, none⟩)))] ?_
     refine gv_load (t := 9) (A := ⟨b7, 5, none⟩) (.string v_2.2.2.2.1) [] (fun e => by cases e) rfl rfl rfl (by kernel_rfl) (by kernel_rfl) (by kernel_rfl) (inw0 (hb35.cell 5 rfl)) rfl ?_
     refine pN 2 [30, 31] [(30, (.int .i64 ((ByteArray.size v_2.2.2.2.1 : Nat) : Int))), (31, (.pointer (some ⟨b1, 1, none⟩)))] ?_
     refine gv_load (t := 3) (A := ⟨b1, 1, none⟩) (.int .i64 f_1.2.1) [] (fun e => by cases e) rfl rfl rfl (by kernel_rfl) (by kernel_rfl) (by kernel_rfl) (inw0 (hb34.cell 1 rfl)) rfl ?_
     refine pN 1 [33] [(33, (.bool (((ByteArray.size v_2.2.2.2.1 : Nat) : Int) != f_1.2.1)))] ?_
     refine gv_nil <| gv_cond (b := (((ByteArray.size v_2.2.2.2.1 : Nat) : Int) != f_1.2.1)) (by kernel_rfl) (fun hc39 => ?_) (fun hc39 => ?_)
     ·replace h0 := ite_t hc39 h0
      refine gv_seq <| gv_region <| pN 2 [6, 7] [(6, (.slice none (length ([] : List UInt8)) 0)), (7, (.int .i64 9))] ?_
      refine gv_nil <| gv_cret ?_
      have e := sj h0; subst e
      refine gv_ret (gv_done [(.slice none (length ([] : List UInt8)) 0), (.int .i64 9)] rfl ⟨(by kernel_rfl), (by kernel_rfl), trivial⟩ ?_)
      exact ⟨hB32, none, 0, rfl, (Gv.Own.nil bE 5 w29 (fun _ => False)), (fun g e => .inr ((fun _ h => by cases h) g e))⟩
     ·replace h0 := ite_f hc39 h0
      refine gv_skip <| gv_seq <| gv_region <| pN 2 [34, 35] [(34, (.slice pa0_0 (length out_0) pc0_0)), (35, (.pointer (some ⟨b7, 5, none⟩)))] ?_
      refine gv_load (t := 9) (A := ⟨b7, 5, none⟩) (.string v_2.2.2.2.1) [] (fun e => by cases e) rfl rfl rfl (by kernel_rfl) (by kernel_rfl) (by kernel_rfl) (inw0 (hb35.cell 5 rfl)) rfl ?_
      refine bindE h0 ?_; clear h0; intro l40 hx41 h0
      refine gv_appendA (t := 23) (tx := 9) (ty := 23) (e := 5) (z := .int .u8 0) (x := (.string v_2.2.2.2.1)) (a := pa0_0) (cap := pc0_0) (xs := out_0) (bytesOf v_2.2.2.2.1) l40 (by decide) rfl rfl (by kernel_rfl) (by kernel_rfl) (asrc_strB w29 Tryz.underlying23 Tryz.underlying9 (by kernel_rfl) v_2.2.2.2.1) rfl hk36 hx41 ?_
      intro a42 c43 w44 hg45 ho46 hk47
      refine ⟨(fun e => by cases e), ?_⟩
      have hl48 : ∀ g, blk a42 = some g → blk pa0_0 = some g ∨ w0.heap.size ≤ g := blkw_tr (blkw_of hk47) (fun g e => Or.inl e) hB32.size
      have ap50 : ∀ g, blk pa0_0 = some g → ¬ (· = b1) g := fun g e hx => nl ((lowb hbe5) _ hx) ((fun k (hk : blk pa0_0 = some k) => hpa0_0.lt k hk) g e)
      have ap49 : ∀ g, blk a42 = some g → ¬ (· = b1) g := blk_neX hk47 ap50 (ltb hb34)
      have ap52 : ¬ (fun k => blk pa0_0 = some k) b1 := fun hx => nl ((lowb hbe5) _ rfl) ((fun k (hk : blk pa0_0 = some k) => hpa0_0.lt k hk) _ hx)
      have ap51 : ¬ (fun k => blk a42 = some k) b1 := fun h => blk_rev hk47 (fun h => (ap52) h) (hb34.lt) h
      have hk54 := hpa0_0.grown hg3 (fun _ h => h.elim) nb
      have ap55 : ∀ g, blk pa0_0 = some g → ¬ (· = b7) g := fun g e hx => nl ((lowb hbe11) _ hx) ((fun k (hk : blk pa0_0 = some k) => hk54.lt k hk) g e)
      have ap53 : ∀ g, blk a42 = some g → ¬ (· = b7) g := blk_neX hk47 ap55 (ltb hb35)
      have ap57 : ¬ (fun k => blk pa0_0 = some k) b7 := fun hx => nl ((lowb hbe11) _ rfl) ((fun k (hk : blk pa0_0 = some k) => hk54.lt k hk) _ hx)
      have ap56 : ¬ (fun k => blk a42 = some k) b7 := fun h => blk_rev hk47 (fun h => (ap57) h) (hb35.lt) h
      refine pN 2 [6, 7] [(6, (.slice a42 (length l40) c43)), (7, (.int .i64 0))] ?_
      refine gv_sub [6, 7] (σ' := [(6, (.slice a42 (length l40) c43)), (7, (.int .i64 0))]) (by kernel_rfl) ?_
      refine gv_nil <| gv_cret ?_
      have e := sj h0; subst e
      refine gv_ret (gv_done [(.slice a42 (length l40) c43), (.int .i64 0)] rfl ⟨(by kernel_rfl), (by kernel_rfl), trivial⟩ ?_)
      have hB58 := grown_stepO hB32 hg45 (fun g e => Or.inl e)
      exact ⟨hB58, a42, c43, rfl, ho46, hl48⟩
    ·replace h0 := ite_f hc38 h0
     refine gv_seq <| gv_region <| pN 2 [38, 39] [(38, (.bool (f_1.1 == 112)))] ?_
     refine gv_nil <| gv_cond (b := (f_1.1 == 112)) (by kernel_rfl) (fun hc59 => ?_) (fun hc59 => ?_)
     ·replace h0 := ite_t hc59 h0
      refine gv_seq <| gv_seq <| gv_region <| pN 1 [40] [(40, (.pointer (some ⟨b7, 5, none⟩)))] ?_
      refine gv_load (t := 9) (A := ⟨b7, 5, none⟩) (.string v_2.2.2.2.1) [] (fun e => by cases e) rfl rfl rfl (by kernel_rfl) (by kernel_rfl) (by kernel_rfl) (inw0 (hb35.cell 5 rfl)) rfl ?_
      refine pN 2 [42, 43] [(43, (.bool (decide (((ByteArray.size v_2.2.2.2.1 : Nat) : Int) > 255))))] ?_
      refine gv_nil <| gv_cond (b := (decide (((ByteArray.size v_2.2.2.2.1 : Nat) : Int) > 255))) (by kernel_rfl) (fun hc60 => ?_) (fun hc60 => ?_)
      ·replace h0 := ite_t hc60 h0
       refine gv_seq <| gv_region <| pN 2 [6, 7] [(6, (.slice none (length ([] : List UInt8)) 0)), (7, (.int .i64 9))] ?_
       refine gv_nil <| gv_cret ?_
       have e := sj h0; subst e
       refine gv_ret (gv_done [(.slice none (length ([] : List UInt8)) 0), (.int .i64 9)] rfl ⟨(by kernel_rfl), (by kernel_rfl), trivial⟩ ?_)
       exact ⟨hB32, none, 0, rfl, (Gv.Own.nil bE 5 w29 (fun _ => False)), (fun g e => .inr ((fun _ h => by cases h) g e))⟩
      ·replace h0 := ite_f hc60 h0
       refine gv_skip <| gv_seq <| gv_drawA (by kernel_rfl) ?_
       intro w61 hg62
       refine gv_pre [0, 1, 7] (bA 12 [0, 1, 7]) 9 (by kernel_rfl) (by kernel_rfl) ?_
       refine pN 3 [44, 45, 51] [(44, (.slice pa0_0 (length out_0) pc0_0)), (45, (.pointer (some ⟨b7, 5, none⟩))), (51, (.pointer (some ⟨b7, 5, none⟩)))] ?_
       refine gv_nil <| gv_goA ?_
       refine gv_stage (Cls w61 (ownL pa0_0 [])) [0, 1, 2, 3, 4, 5, 6, 7, 8] [(2, some true), (3, some true), (4, some true), (8, some true), (5, some false), (6, some false)] (bA 12 [0, 1, 2, 3, 4, 5, 6, 7, 8]) 3 (by kernel_rfl) (by kernel_rfl) (Cls.refl _ _) ?_
       have hC63 := Cls.refl w61 (ownL pa0_0 [])
       have hk64 := hb35.grown hg62 nb
       have hk65 := hpa0_0.grown hg3 (fun _ h => h.elim) nb
       have ap66 : ∀ g, blk pa0_0 = some g → ¬ (· = b7) g := fun g e hx => nl ((lowb hbe11) _ hx) ((fun k (hk : blk pa0_0 = some k) => hk65.lt k hk) g e)
       refine gv_load (t := 9) (A := ⟨b7, 5, none⟩) (.string v_2.2.2.2.1) [] (fun e => by cases e) rfl rfl rfl (by kernel_rfl) (by kernel_rfl) (by kernel_rfl) (inw1 fun w' hC' => ((hC'.box hk64 (nm_own ap66 nm_nil)).cell 5 rfl)) rfl ?_
       refine pN 2 [47, 48] [(48, (.int .u8 (IntKind.u8.wrap (((ByteArray.size v_2.2.2.2.1 : Nat) : Int)))))] ?_
       refine gv_load (t := 9) (A := ⟨b7, 5, none⟩) (.string v_2.2.2.2.1) [] (fun e => by cases e) rfl rfl rfl (by kernel_rfl) (by kernel_rfl) (by kernel_rfl) (inw1 fun w' hC' => ((hC'.box hk64 (nm_own ap66 nm_nil)).cell 5 rfl)) rfl ?_
       refine gv_sub [44, 48, 52] (σ' := [(44, (.slice pa0_0 (length out_0) pc0_0)), (48, (.int .u8 (IntKind.u8.wrap (((ByteArray.size v_2.2.2.2.1 : Nat) : Int))))), (52, (.string v_2.2.2.2.1))]) (by kernel_rfl) ?_
       refine bindE h0 ?_; clear h0; intro b67 hb68 h0
       have hu69 := u8_spec hb68
       refine gv_new (fun b => .slice (some ⟨b, 0, none⟩) 1 1) #[(.int .u8 (IntKind.u8.wrap (((ByteArray.size v_2.2.2.2.1 : Nat) : Int))))] 5 (by decide) rfl rfl (by kernel_rfl) (by kernel_rfl) ?_
       intro b70 w71 hg72 hb73 hbe74 hz75
       refine ⟨(fun _ => hC63.grown hg72 nb), ?_⟩
       have ho76 : Gv.Own bE 5 w71 (fun _ => False) (some ⟨b70, 0, none⟩) 1 ([b67] : List UInt8) := Box.ownE hb73 ⟨[(.int .u8 (IntKind.u8.wrap (((ByteArray.size v_2.2.2.2.1 : Nat) : Int))))], [], rfl, (by simp only [bE, flat, hu69]), rfl⟩ (show 1 ≤ maxLen by decide) (fun h => h)
       have hB81 := grown_stepO hB32 hg62 nb
       have hl77 : ∀ g, blk (some ⟨b70, 0, none⟩) = some g → w0.heap.size ≤ g := loo hbe74 hB81.size
       refine bindE h0 ?_; clear h0; intro l82 hx83 h0
       have hg90 := (grown_trans hg62 hg72)
       have hk91 := hk36.grown hg90 (fun _ h => h.elim) nb
       refine gv_append bE (t := 23) (ty := 23) (e := 5) (a := pa0_0) (ax := (some ⟨b70, 0, none⟩)) (cap := pc0_0) (cx := 1) (xs := out_0) (ys := ([b67] : List UInt8)) l82 (X := (fun _ => False)) (Y := (fun k => blk (some ⟨b70, 0, none⟩) = some k)) (by decide) rfl rfl (by kernel_rfl) (by kernel_rfl) Tryz.underlying23 info5 hk91 (ho76.rd (Y := fun k => blk (some ⟨b70, 0, none⟩) = some k) (fun _ h => h.elim) (fun g e => e)) hx83 (.inr fun _ _ _ _ _ h => h) (fun _ h => h.elim) ?_
       intro a84 c85 w86 hg87 ho88 hk89
       have hC92 := hC63.grown hg72 nb
       refine ⟨(fun _ => hC92.grown hg87 fo_own), ?_⟩
       have hB94 := grown_stepO hB81 hg72 nb
       have hl93 : ∀ g, blk a84 = some g → blk pa0_0 = some g ∨ w0.heap.size ≤ g := blkw_tr (blkw_of hk89) (fun g e => Or.inl e) hB94.size
       have ap96 : ∀ g, blk pa0_0 = some g → ¬ (· = b1) g := fun g e hx => nl ((lowb hbe5) _ hx) ((fun k (hk : blk pa0_0 = some k) => hpa0_0.lt k hk) g e)
       have hk97 := hb34.grown hg90 nb
       have ap95 : ∀ g, blk a84 = some g → ¬ (· = b1) g := blk_neX hk89 ap96 (ltb hk97)
       have ap99 : ¬ (fun k => blk pa0_0 = some k) b1 := fun hx => nl ((lowb hbe5) _ rfl) ((fun k (hk : blk pa0_0 = some k) => hpa0_0.lt k hk) _ hx)
       have ap98 : ¬ (fun k => blk a84 = some k) b1 := fun h => blk_rev hk89 (fun h => (ap99) h) (hk97.lt) h
       have hk101 := hk64.grown hg72 nb
       have ap100 : ∀ g, blk a84 = some g → ¬ (· = b7) g := blk_neX hk89 ap66 (ltb hk101)
       have ap103 : ¬ (fun k => blk pa0_0 = some k) b7 := fun hx => nl ((lowb hbe11) _ rfl) ((fun k (hk : blk pa0_0 = some k) => hk65.lt k hk) _ hx)
       have ap102 : ¬ (fun k => blk a84 = some k) b7 := fun h => blk_rev hk89 (fun h => (ap103) h) (hk101.lt) h
       have hk105 := hk36.grown hg62 (fun _ h => h.elim) nb
       have ap106 : ∀ g, blk pa0_0 = some g → ¬ (fun k => blk (some ⟨b70, 0, none⟩) = some k) g := fun g e hx => nl ((lowo hbe74) _ hx) ((fun k (hk : blk pa0_0 = some k) => hk105.lt k hk) g e)
       have ap104 : ∀ g, blk a84 = some g → ¬ (fun k => blk (some ⟨b70, 0, none⟩) = some k) g := blk_neX hk89 ap106 (fun k (hk : blk (some ⟨b70, 0, none⟩) = some k) => ho76.lt k hk)
       have ap108 : ∀ g, blk (some ⟨b70, 0, none⟩) = some g → ¬ (fun k => blk pa0_0 = some k) g := fun g e hx => nl ((lowo hbe74) g e) ((fun k (hk : blk pa0_0 = some k) => hk105.lt k hk) _ hx)
       have ap107 : ∀ g, blk (some ⟨b70, 0, none⟩) = some g → ¬ (fun k => blk a84 = some k) g := fun g e h => blk_rev hk89 (fun h => ((ap108) g e) h) (ho76.lt g e) h
       refine gv_nil <| gv_goA ?_
       refine gv_stage (fun _ => True) [0, 1, 2, 3, 4, 5, 6, 7, 8, 9] [(9, some false)] (bA 12 [0, 1, 2, 3, 4, 5, 6, 7, 8, 9]) 2 (by kernel_rfl) (by kernel_rfl) trivial ?_
       refine bindE h0 ?_; clear h0; intro l109 hx110 h0
       refine gv_appendA (t := 23) (tx := 9) (ty := 23) (e := 5) (z := .int .u8 0) (x := (.string v_2.2.2.2.1)) (a := a84) (cap := c85) (xs := l82) (bytesOf v_2.2.2.2.1) l109 (by decide) rfl rfl (by kernel_rfl) (by kernel_rfl) (asrc_strB w86 Tryz.underlying23 Tryz.underlying9 (by kernel_rfl) v_2.2.2.2.1) rfl ho88 hx110 ?_
       intro a111 c112 w113 hg114 ho115 hk116
       refine ⟨(fun _ => trivial), ?_⟩
       have hB118 := grown_stepO hB94 hg87 (fun g e => Or.inl e)
       have hl117 : ∀ g, blk a111 = some g → blk pa0_0 = some g ∨ w0.heap.size ≤ g := blkw_tr (blkw_of hk116) hl93 hB118.size
       have hk120 := hk97.grown hg87 ap96
       have ap119 : ∀ g, blk a111 = some g → ¬ (· = b1) g := blk_neX hk116 ap95 (ltb hk120)
       have ap121 : ¬ (fun k => blk a111 = some k) b1 := fun h => blk_rev hk116 (fun h => (ap98) h) (hk120.lt) h
       have hk123 := hk101.grown hg87 ap66
       have ap122 : ∀ g, blk a111 = some g → ¬ (· = b7) g := blk_neX hk116 ap100 (ltb hk123)
       have ap124 : ¬ (fun k => blk a111 = some k) b7 := fun h => blk_rev hk116 (fun h => (ap102) h) (hk123.lt) h
       have hk126 := ho76.grown hg87 (fun _ h => h.elim) (rdnn ap106)
       have ap125 : ∀ g, blk a111 = some g → ¬ (fun k => blk (some ⟨b70, 0, none⟩) = some k) g := blk_neX hk116 ap104 (fun k (hk : blk (some ⟨b70, 0, none⟩) = some k) => hk126.lt k hk)
       have ap127 : ∀ g, blk (some ⟨b70, 0, none⟩) = some g → ¬ (fun k => blk a111 = some k) g := fun g e h => blk_rev hk116 (fun h => ((ap107) g e) h) (hk126.lt g e) h
       refine gv_nil <| gv_goA ?_
       refine gv_pre [10, 11] (bA 12 [0, 1, 2, 3, 4, 5, 6, 7, 8, 9, 10, 11]) 0 (by kernel_rfl) (by kernel_rfl) ?_
       refine pN 2 [6, 7] [(6, (.slice a111 (length l109) c112)), (7, (.int .i64 0))] ?_
       refine gv_nil <| gv_goA ?_
       refine gv_stageE (by kernel_rfl) ?_
       refine gv_cret ?_
       have e := sj h0; subst e
       refine gv_ret (gv_done [(.slice a111 (length l109) c112), (.int .i64 0)] rfl ⟨(by kernel_rfl), (by kernel_rfl), trivial⟩ ?_)
       have hB128 := grown_stepO hB118 hg114 hl93
       exact ⟨hB128, a111, c112, rfl, ho115, hl117⟩
     ·replace h0 := ite_f hc59 h0
      refine gv_seq <| gv_region <| pN 2 [54, 55] [(54, (.bool (f_1.1 == 63)))] ?_
      refine gv_nil <| gv_cond (b := (f_1.1 == 63)) (by kernel_rfl) (fun hc129 => ?_) (fun hc129 => ?_)
      ·replace h0 := ite_t hc129 h0
       refine gv_seq <| gv_region <| pN 2 [56, 57] [(56, (.slice pa0_0 (length out_0) pc0_0)), (57, (.pointer (some ⟨b7, 6, none⟩)))] ?_
       refine gv_load (t := 3) (A := ⟨b7, 6, none⟩) (.int .i64 v_2.2.2.2.2) [] (fun e => by cases e) rfl rfl rfl (by kernel_rfl) (by kernel_rfl) (by kernel_rfl) (inw0 (hb35.cell 6 rfl)) rfl ?_
       refine pN 1 [59] [(59, (.int .u8 (IntKind.u8.wrap (v_2.2.2.2.2))))] ?_
       refine bindE h0 ?_; clear h0; intro b130 hb131 h0
       have hu132 := u8_spec hb131
       refine gv_new0 (fun b => .slice (some ⟨b, 0, none⟩) 1 1) #[(.int .u8 (IntKind.u8.wrap (v_2.2.2.2.2)))] 5 (by kernel_rfl) (by kernel_rfl) ?_
       intro b133 w134 hg135 hb136 hbe137 hz138
       have ho139 : Gv.Own bE 5 w134 (fun _ => False) (some ⟨b133, 0, none⟩) 1 ([b130] : List UInt8) := Box.ownE hb136 ⟨[(.int .u8 (IntKind.u8.wrap (v_2.2.2.2.2)))], [], rfl, (by simp only [bE, flat, hu132]), rfl⟩ (show 1 ≤ maxLen by decide) (fun h => h)
       have hl140 : ∀ g, blk (some ⟨b133, 0, none⟩) = some g → w0.heap.size ≤ g := loo hbe137 hB32.size
       clear hz138 hb136 hu132 hb131 hc129 hc59 hc38 hc37 hb35 hb34 hbe11 hbe5 hb4 hg3
       refine bindE h0 ?_; clear h0; intro l144 hx145 h0
       have hk152 := hk36.grown hg135 (fun _ h => h.elim) nb
       refine gv_append bE (t := 23) (ty := 23) (e := 5) (a := pa0_0) (ax := (some ⟨b133, 0, none⟩)) (cap := pc0_0) (cx := 1) (xs := out_0) (ys := ([b130] : List UInt8)) l144 (X := (fun _ => False)) (Y := (fun k => blk (some ⟨b133, 0, none⟩) = some k)) (by decide) rfl rfl (by kernel_rfl) (by kernel_rfl) Tryz.underlying23 info5 hk152 (ho139.rd (Y := fun k => blk (some ⟨b133, 0, none⟩) = some k) (fun _ h => h.elim) (fun g e => e)) hx145 (.inr fun _ _ _ _ _ h => h) (fun _ h => h.elim) ?_
       intro a146 c147 w148 hg149 ho150 hk151
       refine ⟨(fun e => by cases e), ?_⟩
       have hB154 := grown_stepO hB32 hg135 nb
       have hl153 : ∀ g, blk a146 = some g → blk pa0_0 = some g ∨ w0.heap.size ≤ g := blkw_tr (blkw_of hk151) (fun g e => Or.inl e) hB154.size
       have ap156 : ∀ g, blk pa0_0 = some g → ¬ (fun k => blk (some ⟨b133, 0, none⟩) = some k) g := fun g e hx => nl ((lowo hbe137) _ hx) ((fun k (hk : blk pa0_0 = some k) => hk36.lt k hk) g e)
       have ap155 : ∀ g, blk a146 = some g → ¬ (fun k => blk (some ⟨b133, 0, none⟩) = some k) g := blk_neX hk151 ap156 (fun k (hk : blk (some ⟨b133, 0, none⟩) = some k) => ho139.lt k hk)
       have ap158 : ∀ g, blk (some ⟨b133, 0, none⟩) = some g → ¬ (fun k => blk pa0_0 = some k) g := fun g e hx => nl ((lowo hbe137) g e) ((fun k (hk : blk pa0_0 = some k) => hk36.lt k hk) _ hx)
       have ap157 : ∀ g, blk (some ⟨b133, 0, none⟩) = some g → ¬ (fun k => blk a146 = some k) g := fun g e h => blk_rev hk151 (fun h => ((ap158) g e) h) (ho139.lt g e) h
       refine pN 2 [6, 7] [(6, (.slice a146 (length l144) c147)), (7, (.int .i64 0))] ?_
       refine gv_sub [6, 7] (σ' := [(6, (.slice a146 (length l144) c147)), (7, (.int .i64 0))]) (by kernel_rfl) ?_
       refine gv_nil <| gv_cret ?_
       have e := sj h0; subst e
       refine gv_ret (gv_done [(.slice a146 (length l144) c147), (.int .i64 0)] rfl ⟨(by kernel_rfl), (by kernel_rfl), trivial⟩ ?_)
       have hB159 := grown_stepO hB154 hg149 (fun g e => Or.inl e)
       exact ⟨hB159, a146, c147, rfl, ho150, hl153⟩
      ·replace h0 := ite_f hc129 h0
       refine gv_skip <| gv_blk <| gv_seq <| gv_region <| pN 1 [63] [(63, (bp b1))] ?_
       refine gv_load (t := 5) (A := ⟨b1, 0, none⟩) (.int .u8 f_1.1) [] (fun e => by cases e) rfl rfl rfl (by kernel_rfl) (by kernel_rfl) (by kernel_rfl) (inw0 (hb34.cell 0 rfl)) rfl ?_
       refine bindE h0 ?_; clear h0; intro r160 hr161 h0
       refine gv_call0 (by kernel_rfl) rfl (by kernel_rfl) enters36 (packing_width_ok fuel f_1.1 w29  r160 hr161) ?_
       rintro v164 w162 ⟨hg163, rfl⟩
       refine pN 5 [9, 10, 62, 66, 67] [(9, (.int .i64 r160.1)), (10, (.bool r160.2))] ?_
       refine gv_nil <| gv_seq <| gv_seq <| gv_region <| pN 1 [68] [(68, (bp b1))] ?_
       have hk165 := hb34.grown hg163 nb
       refine gv_load (t := 5) (A := ⟨b1, 0, none⟩) (.int .u8 f_1.1) [] (fun e => by cases e) rfl rfl rfl (by kernel_rfl) (by kernel_rfl) (by kernel_rfl) (inw0 (hk165.cell 0 rfl)) rfl ?_
       refine pN 1 [70] [(70, (.bool (f_1.1 == 118)))] ?_
       refine gv_sub [0, 4, 5, 9, 10, 70] (σ' := [(0, (.slice pa0_0 (length out_0) pc0_0)), (4, (bp b1)), (5, (bp b7)), (9, (.int .i64 r160.1)), (10, (.bool r160.2)), (70, (.bool (f_1.1 == 118)))]) (by kernel_rfl) ?_
       refine gv_nil <| bindE h0 ?_; clear h0; intro j166 h1 h0
       refine gv_cut_code (J := fun a w167 => w0.grownBy w167 (blk pa0_0) ∧ w162.heap.size ≤ w167.heap.size ∧ Box w167 b1 49 #[(.int .u8 f_1.1), (.int .i64 f_1.2.1), (.bool f_1.2.2)] ∧ Box w167 b7 41 #[(.int .i64 v_2.1), (.bool v_2.2.1.1), (.slice pa2_0 (length v_2.2.1.2) pc2_0), (.bool v_2.2.2.1.1), (.slice pa2_1 (length v_2.2.2.1.2) pc2_1), (.string v_2.2.2.2.1), (.int .i64 v_2.2.2.2.2)] ∧ Gv.Own bE 5 w167 (fun _ => False) pa0_0 pc0_0 out_0 ∧ a.defers = [] ∧ a.tmps.size = 95 ∧ Ok [(0, (.slice pa0_0 (length out_0) pc0_0)), (4, (bp b1)), (5, (bp b7)), (9, (.int .i64 j166)), (10, (.bool r160.2))] a.tmps) ?_ ?_
       ·skip
        refine gv_cond (b := (f_1.1 == 118)) (by kernel_rfl) (fun hc168 => ?_) (fun hc168 => ?_)
        ·replace h1 := ite_t hc168 h1
         refine gv_region <| pN 1 [9] [(9, (.int .i64 8))] ?_
         refine gv_nil ?_
         have e := sj h1; subst e
         refine gv_goal fun a hd hs hok => ?_
         have hB169 := grown_stepO hB32 hg163 nb
         have hk170 := hb35.grown hg163 nb
         have hk171 := hk36.grown hg163 (fun _ h => h.elim) nb
         exact ⟨hB169, nrf, hk165, hk170, hk171, hd, hs, okp [0, 4, 5, 9, 10] hok⟩
        ·replace h1 := ite_f hc168 h1
         refine gv_skip ?_
         have e := sj h1; subst e
         refine gv_goal fun a hd hs hok => ?_
         have hB172 := grown_stepO hB32 hg163 nb
         have hk173 := hb35.grown hg163 nb
         have hk174 := hk36.grown hg163 (fun _ h => h.elim) nb
         exact ⟨hB172, nrf, hk165, hk173, hk174, hd, hs, okp [0, 4, 5, 9, 10] hok⟩
       ·rintro a w167 ⟨hB175, hz176, hb177, hb178, hk179, hd, hs, hok⟩
        refine gv_in ?_ hd hs hok
        clear hd hs hok
        clear hz176 hk165 hg163 hr161 hc129 hc59 hc38 hc37 hk36 hb35 hb34 hB32
        refine gv_seq <| gv_region <| pN 1 [72] [(72, (.pointer (some ⟨b7, 1, none⟩)))] ?_
        refine gv_loadAgg (t := 39) (A := ⟨b7, 1, none⟩) #[(.bool v_2.2.1.1), (.slice pa2_0 (length v_2.2.1.2) pc2_0)] [] (fun e => by cases e) rfl rfl rfl (by kernel_rfl) (by kernel_rfl) (by kernel_rfl) (by kernel_rfl) (inw0 (Box.part hb178 1 _ rfl)) rfl ?_
        refine pN 2 [74, 75] [(74, (.int .i64 j166)), (75, (.bool r160.2))] ?_
        refine bindE h0 ?_; clear h0; intro r180 hr181 h0
        refine gv_call0 (by kernel_rfl) rfl (by kernel_rfl) enters58 (packing_word_ok fuel pa2_0 pc2_0 (v_2.2.1.1, v_2.2.1.2) j166 r160.2 w167 (fun k => X0 k) (fun k hk => (fun k (hk : X0 k) => ltl (hX0 k hk).1 hB175.size) k hk) ((hpa2_0.grown hB175 (fun k hk => (hX0 k hk).1) (fun g e hk => (hX0 g hk).2 e)).wide (fun k hk => hk)) r180 hr181) ?_
        rintro v184 w182 ⟨hg183, rfl⟩
        refine pN 5 [11, 12, 71, 77, 78] [(11, (.int .u64 r180.1)), (12, (.bool r180.2))] ?_
        refine gv_nil <| gv_seq <| gv_block <| gv_seq <| gv_region <| pN 3 [79, 80, 81] [(79, (.bool (!r180.2)))] ?_
        refine gv_nil <| gv_cond (b := (!r180.2)) (by kernel_rfl) (fun hc185 => ?_) (fun hc185 => ?_)
        ·replace h0 := ite_t hc185 h0
         refine gv_seq <| gv_region <| pN 2 [6, 7] [(6, (.slice none (length ([] : List UInt8)) 0)), (7, (.int .i64 4))] ?_
         refine gv_nil <| gv_cret ?_
         have e := sj h0; subst e
         refine gv_ret (gv_done [(.slice none (length ([] : List UInt8)) 0), (.int .i64 4)] rfl ⟨(by kernel_rfl), (by kernel_rfl), trivial⟩ ?_)
         have hB186 := grown_stepO hB175 hg183 nb
         exact ⟨hB186, none, 0, rfl, (Gv.Own.nil bE 5 w182 (fun _ => False)), (fun g e => .inr ((fun _ h => by cases h) g e))⟩
        ·replace h0 := ite_f hc185 h0
         refine gv_seq <| gv_region <| pN 1 [83] [(83, (bp b1))] ?_
         have hk187 := hb177.grown hg183 nb
         refine gv_load (t := 5) (A := ⟨b1, 0, none⟩) (.int .u8 f_1.1) [] (fun e => by cases e) rfl rfl rfl (by kernel_rfl) (by kernel_rfl) (by kernel_rfl) (inw0 (hk187.cell 0 rfl)) rfl ?_
         refine pN 2 [82, 85] [(82, (.bool (f_1.1 == 118)))] ?_
         refine gv_nil <| gv_cond (b := (f_1.1 == 118)) (by kernel_rfl) (fun hc188 => ?_) (fun hc188 => ?_)
         ·replace h0 := ite_t hc188 h0
          refine gv_seq <| gv_region <| pN 2 [86, 87] [(86, (.slice pa0_0 (length out_0) pc0_0)), (87, (.int .u64 r180.1))] ?_
          refine bindE h0 ?_; clear h0; intro r189 hr190 h0
          have hk191 := hk179.grown hg183 (fun _ h => h.elim) nb
          refine gv_call0 (by kernel_rfl) rfl (by kernel_rfl) enters59 (packing_zigzag_ok fuel pa0_0 pc0_0 out_0 r180.1 w182 hk191 r189 hr190) ?_
          rintro v194 w192 ⟨hg193, a195, c196, rfl, ho197, hk198⟩
          have hB200 := grown_stepO hB175 hg183 nb
          have hl199 : ∀ g, blk a195 = some g → blk pa0_0 = some g ∨ w0.heap.size ≤ g := blkw_tr hk198 (fun g e => Or.inl e) hB200.size
          refine pN 2 [6, 7] [(6, (.slice a195 (length r189) c196)), (7, (.int .i64 0))] ?_
          refine gv_nil <| gv_cret ?_
          have e := sj h0; subst e
          refine gv_ret (gv_done [(.slice a195 (length r189) c196), (.int .i64 0)] rfl ⟨(by kernel_rfl), (by kernel_rfl), trivial⟩ ?_)
          have hB201 := grown_stepO hB200 hg193 (fun g e => Or.inl e)
          exact ⟨hB201, a195, c196, rfl, ho197, hl199⟩
         ·replace h0 := ite_f hc188 h0
          refine gv_skip <| gv_blk <| gv_seq <| gv_region <| pN 4 [89, 90, 91, 92] [(89, (.slice pa0_0 (length out_0) pc0_0)), (90, (.int .u64 r180.1)), (91, (.int .i64 j166)), (92, (.pointer (some ⟨b1, 2, none⟩)))] ?_
          refine gv_load (t := 4) (A := ⟨b1, 2, none⟩) (.bool f_1.2.2) [] (fun e => by cases e) rfl rfl rfl (by kernel_rfl) (by kernel_rfl) (by kernel_rfl) (inw0 (hk187.cell 2 rfl)) rfl ?_
          refine bindE h0 ?_; clear h0; intro r202 hr203 h0
          have hk204 := hk179.grown hg183 (fun _ h => h.elim) nb
          refine gv_call0 (by kernel_rfl) rfl (by kernel_rfl) enters60 (packing_order_ok fuel pa0_0 pc0_0 out_0 r180.1 j166 f_1.2.2 w182 hk204 r202 hr203) ?_
          rintro v207 w205 ⟨hg206, a208, c209, rfl, ho210, hk211⟩
          have hB213 := grown_stepO hB175 hg183 nb
          have hl212 : ∀ g, blk a208 = some g → blk pa0_0 = some g ∨ w0.heap.size ≤ g := blkw_tr hk211 (fun g e => Or.inl e) hB213.size
          refine pN 2 [6, 7] [(6, (.slice a208 (length r202) c209)), (7, (.int .i64 0))] ?_
          refine gv_nil <| gv_cret ?_
          have e := sj h0; subst e
          refine gv_ret (gv_done [(.slice a208 (length r202) c209), (.int .i64 0)] rfl ⟨(by kernel_rfl), (by kernel_rfl), trivial⟩ ?_)
          have hB214 := grown_stepO hB213 hg206 (fun g e => Or.inl e)
          exact ⟨hB214, a208, c209, rfl, ho210, hl212⟩

theorem packing_Pack_ok (fuel : Nat) (pa0_0 : Option Addr) (pc0_0 : Nat) (l_0 : (List (Int × Int × Bool))) (pa1_0 : Option Addr) (pc1_0 : Nat) (vs_1 : (List (Int × (Bool × (List Int)) × (Bool × (List Int)) × ByteArray × Int))) (w0 : World) (X0 : Nat → Prop) (hX0 : ∀ k, X0 k → k < w0.heap.size) (hpa0_0 : Rd (prE (iE .u8) (prE (iE .i64) tE)) w0 X0 pa0_0 pc0_0 l_0) (hpa1_0 : Rd (prE (iE .i64) (prE (prE tE (slE (iE .u32))) (prE (prE tE (slE (iE .u32))) (prE sE (iE .i64))))) w0 X0 pa1_0 pc1_0 vs_1) (r0 : ((List UInt8) × (Int × Int))) (h0 : packing_Pack fuel l_0 vs_1 = some r0) :
    Calls Tryz.prog 9 ([(.slice pa0_0 (length l_0) pc0_0), (.slice pa1_0 (length vs_1) pc1_0)] : List Value).toArray w0 (Ret fun v w' => w0.grownBy w' none ∧ ∃ (a0_0r : Option Addr) (c0_0r : Nat), v = tup [(.slice a0_0r (length r0.1) c0_0r), (.agg #[(.int .i64 r0.2.1), (.int .i64 r0.2.2)])] ∧ Gv.Own bE 5 w' (fun _ => False) a0_0r c0_0r r0.1 ∧ (∀ g, blk a0_0r = some g → w0.heap.size ≤ g)) := by
 have hB0 : Below w0.heap.size w0 w0 := Below.refl _ _
 unfold packing_Pack at h0
 refine calls_run Tryz.func9 rfl Tryz.ntmps9 (by kernel_rfl) ?_
 refine gv_sub [0, 1] (σ' := [(0, (.slice pa0_0 (length l_0) pc0_0)), (1, (.slice pa1_0 (length vs_1) pc1_0))]) (by kernel_rfl) ?_
 refine gv_seq <| gv_region <| pN 1 [4] [] ?_
 refine gv_new0 (fun b => .pointer (some ⟨b, 0, none⟩)) #[(.int .i64 0), (.int .i64 0)] 26 (by kernel_rfl) (by kernel_rfl) ?_
 intro b1 w2 hg3 hb4 hbe5 hz6
 refine gv_nil <| gv_seq <| gv_seq <| gv_region <| pN 1 [13] [(13, (.slice pa0_0 (length l_0) pc0_0))] ?_
 refine bindE h0 ?_; clear h0; intro r7 hr8 h0
 have hB9 := bg hB0 hg3 nb
 refine gv_call0 (by kernel_rfl) rfl (by kernel_rfl) enters14 (packing_Check_ok fuel pa0_0 pc0_0 l_0 w2 (fun k => X0 k) (fun k hk => (fun k (hk : X0 k) => ltl (hX0 k hk) hB9.size) k hk) ((hpa0_0.below hB9 hX0).wide (fun k hk => hk)) r7 hr8) ?_
 rintro v12 w10 ⟨hg11, rfl⟩
 refine gv_new0 (fun b => .pointer (some ⟨b, 0, none⟩)) #[(.int .i64 0), (.int .i64 0)] 26 (by kernel_rfl) (by kernel_rfl) ?_
 intro b13 w14 hg15 hb16 hbe17 hz18
 refine gv_store0 26 0 (.agg #[(.int .i64 r7.1), (.int .i64 r7.2)]) #[(.int .i64 r7.1), (.int .i64 r7.2)] hb16 (by kernel_rfl) (by kernel_rfl) (by kernel_rfl) ?_
 intro w19 hg20 hb21 hz22
 refine gv_nil <| gv_seq <| gv_region <| pN 1 [15] [(15, (bp b13))] ?_
 refine gv_load (t := 3) (A := ⟨b13, 0, none⟩) (.int .i64 r7.1) [] (fun e => by cases e) rfl rfl rfl (by kernel_rfl) (by kernel_rfl) (by kernel_rfl) (inw0 (hb21.cell 0 rfl)) rfl ?_
 refine pN 1 [17] [(17, (.bool (r7.1 != 0)))] ?_
 refine gv_nil <| gv_cond (b := (r7.1 != 0)) (by kernel_rfl) (fun hc23 => ?_) (fun hc23 => ?_)
 ·replace h0 := ite_t hc23 h0
  refine gv_seq <| gv_drawA (by kernel_rfl) ?_
  intro w24 hg25
  refine gv_pre [1] (bA 3 [1]) 2 (by kernel_rfl) (by kernel_rfl) ?_
  refine pN 1 [4] [(4, (.slice none (length ([] : List UInt8)) 0))] ?_
  refine gv_nil <| gv_goA ?_
  refine gv_stage (Cls w24 []) [0, 1] [(0, some true)] (bA 3 [0, 1]) 1 (by kernel_rfl) (by kernel_rfl) (Cls.refl _ _) ?_
  have hC26 := Cls.refl w24 []
  have hk27 := hb21.grown hg25 nb
  refine gv_loadBox (t := 26) (b := b13) (t' := 26) (fr := (0, 0)) #[(.int .i64 r7.1), (.int .i64 r7.2)] [] (fun e => by cases e) rfl rfl rfl (by kernel_rfl) (by kernel_rfl) (by kernel_rfl) (by kernel_rfl) (inw1 fun w' hC' => (hC'.box hk27 nm_nil)) rfl ?_
  refine gv_nil <| gv_goA ?_
  refine gv_stage (fun _ => True) [0, 1, 2] [(2, some false)] (bA 3 [0, 1, 2]) 0 (by kernel_rfl) (by kernel_rfl) trivial ?_
  have hg32 := (grown_trans hg11 hg15)
  have hk33 := hb4.grown hg11 nb
  have lt34 := ltl ((ltb hk33) _ rfl) ((lowb hbe17) _ rfl)
  have hk35 := ((hb4.grown hg32 nb).grown hg20 (rowne (ng lt34))).grown hg25 nb
  refine gv_store (t := 26) (b := b1) (off := 0) (v := (.agg #[(.int .i64 r7.1), (.int .i64 r7.2)])) (t' := 26) (cs := #[(.int .i64 0), (.int .i64 0)]) #[(.int .i64 r7.1), (.int .i64 r7.2)] (by decide) rfl rfl (by kernel_rfl) (by kernel_rfl) (by kernel_rfl) (by intro u hu; simp [Value.cells] at hu; rcases hu with rfl | rfl <;> rfl) (show 0 + 2 ≤ 2 by decide) (by rfl) hk35 ?_
  intro w28 hg29 hb30 hz31
  refine ⟨(fun _ => trivial), ?_⟩
  refine gv_nil <| gv_goA ?_
  refine gv_stageE (by kernel_rfl) ?_
  refine gv_cret ?_
  have e := sj h0; subst e
  refine gv_ret (gv_done [(.slice none (length ([] : List UInt8)) 0), (.agg #[(.int .i64 r7.1), (.int .i64 r7.2)])] rfl ⟨(by kernel_rfl), ⟨⟨b1, 0, none⟩, (by kernel_rfl), run_loadVar_row w28 b1 _ 26 _ _ _ hb30 Tryz.underlying26 rfl (by kernel_rfl)⟩, trivial⟩ ?_)
  have hB36 := bg hB9 hg32 nb
  have hB37 := bg hB9 hg11 nb
  have hlo38 : w0.heap.size ≤ b13 := lob hbe17 hB37.size
  have hB39 := bg hB36 hg20 (rowlo hlo38)
  have hB40 := bg hB39 hg25 nb
  have hlo41 : w0.heap.size ≤ b1 := lob hbe5 hB0.size
  have hB42 := bg hB40 hg29 (rowlo hlo41)
  exact ⟨grown_of_below hB42, none, 0, rfl, (Gv.Own.nil bE 5 w28 (fun _ => False)), (fun _ h => by cases h)⟩
 ·replace h0 := ite_f hc23 h0
  refine gv_skip <| gv_seq <| gv_seq <| gv_region <| pN 3 [19, 20, 21] [(20, (.int .i64 ((length vs_1 : Nat) : Int))), (21, (.slice pa0_0 (length l_0) pc0_0))] ?_
  refine bindE h0 ?_; clear h0; intro r43 hr44 h0
  have hg45 := (grown_trans hg11 hg15)
  have hB46 := bg hB9 hg45 nb
  have hB47 := bg hB9 hg11 nb
  have hlo48 : w0.heap.size ≤ b13 := lob hbe17 hB47.size
  have hB49 := bg hB46 hg20 (rowlo hlo48)
  refine gv_call0 (by kernel_rfl) rfl (by kernel_rfl) enters32 (packing_values_ok fuel pa0_0 pc0_0 l_0 w19 (fun k => X0 k) (fun k hk => (fun k (hk : X0 k) => ltl (hX0 k hk) hB49.size) k hk) ((hpa0_0.below hB49 hX0).wide (fun k hk => hk)) r43 hr44) ?_
  rintro v52 w50 ⟨hg51, rfl⟩
  refine pN 1 [23] [(23, (.bool (((length vs_1 : Nat) : Int) != r43)))] ?_
  refine gv_nil <| gv_cond (b := (((length vs_1 : Nat) : Int) != r43)) (by kernel_rfl) (fun hc53 => ?_) (fun hc53 => ?_)
  ·replace h0 := ite_t hc53 h0
   refine gv_seq <| gv_region <| bindE h0 ?_; clear h0; intro r54 hr55 h0
   refine gv_call0 (by kernel_rfl) rfl (by kernel_rfl) enters16 (packing_at_ok fuel 9 (-2) w50  r54 hr55) ?_
   rintro v58 w56 ⟨hg57, rfl⟩
   clear hr55 hc53 hlo48 hB47 hB46 hg45 hr44 hc23 hz22 hb21 hz18 hb16 hB9 hr8 hz6 hg3
   refine pN 1 [4] [(4, (.slice none (length ([] : List UInt8)) 0))] ?_
   refine gv_sub [4, 5, 24] (σ' := [(4, (.slice none (length ([] : List UInt8)) 0)), (5, (bp b1)), (24, (.agg #[(.int .i64 r54.1), (.int .i64 r54.2)]))]) (by kernel_rfl) ?_
   have hg63 := (grown_trans hg11 hg15)
   have hk64 := hb4.grown hg11 nb
   have lt65 := ltl ((ltb hk64) _ rfl) ((lowb hbe17) _ rfl)
   have hg66 := (grown_trans hg51 hg57)
   have hk67 := ((hb4.grown hg63 nb).grown hg20 (rowne (ng lt65))).grown hg66 nb
   refine gv_store0 26 0 (.agg #[(.int .i64 r54.1), (.int .i64 r54.2)]) #[(.int .i64 r54.1), (.int .i64 r54.2)] hk67 (by kernel_rfl) (by kernel_rfl) (by kernel_rfl) ?_
   intro w59 hg60 hb61 hz62
   refine gv_nil <| gv_cret ?_
   have e := sj h0; subst e
   refine gv_ret (gv_done [(.slice none (length ([] : List UInt8)) 0), (.agg #[(.int .i64 r54.1), (.int .i64 r54.2)])] rfl ⟨(by kernel_rfl), ⟨⟨b1, 0, none⟩, (by kernel_rfl), run_loadVar_row w59 b1 _ 26 _ _ _ hb61 Tryz.underlying26 rfl (by kernel_rfl)⟩, trivial⟩ ?_)
   have hB68 := bg hB49 hg66 nb
   have hlo69 : w0.heap.size ≤ b1 := lob hbe5 hB0.size
   have hB70 := bg hB68 hg60 (rowlo hlo69)
   exact ⟨grown_of_below hB70, none, 0, rfl, (Gv.Own.nil bE 5 w59 (fun _ => False)), (fun _ h => by cases h)⟩
  ·replace h0 := ite_f hc53 h0
   refine gv_skip <| gv_seq <| gv_region <| pN 1 [7] [(7, (.slice none (length ([] : List UInt8)) 0))] ?_
   refine gv_nil <| gv_seq <| gv_region <| pN 1 [8] [(8, (.int .i64 0))] ?_
   refine gv_sub [0, 1, 5, 7, 8] (σ' := [(0, (.slice pa0_0 (length l_0) pc0_0)), (1, (.slice pa1_0 (length vs_1) pc1_0)), (5, (bp b1)), (7, (.slice none (length ([] : List UInt8)) 0)), (8, (.int .i64 0))]) (by kernel_rfl) ?_
   refine gv_nil <| gv_seq <| gv_seq <| gv_region <| pN 3 [25, 26, 27] [(25, (.slice pa0_0 (length l_0) pc0_0)), (26, (.int .i64 ((length l_0 : Nat) : Int))), (27, (.int .i64 0))] ?_
   refine gv_nil <| bindE h0 ?_; clear h0; intro j71 h1 h0
   refine gv_cut_code (J := fun a w73 => ∃ s72 : ((List UInt8) × (Int × Int)), j71 = .inl s72 ∧ ∃ (a7_0j : Option Addr) (c7_0j : Nat), Below w0.heap.size w0 w73 ∧ w50.heap.size ≤ w73.heap.size ∧ Gv.Own bE 5 w73 (fun _ => False) a7_0j c7_0j s72.1 ∧ (∀ g, blk a7_0j = some g → w0.heap.size ≤ g) ∧ (∀ g, blk a7_0j = some g → ¬ (· = b1) g) ∧ ¬ (fun k => blk a7_0j = some k) b1 ∧ Box w73 b1 26 #[(.int .i64 s72.2.1), (.int .i64 s72.2.2)] ∧ a.defers = [] ∧ a.tmps.size = 67 ∧ Ok [(5, (bp b1)), (7, (.slice a7_0j (length s72.1) c7_0j))] a.tmps) ?_ ?_
   ·skip
    refine gv_block <| gv_loop (A := fun (s74 : ((List UInt8) × Int × Int × (Int × Int))) a w75 => ∃ (a7_0j : Option Addr) (c7_0j : Nat), Below w0.heap.size w0 w75 ∧ w50.heap.size ≤ w75.heap.size ∧ Gv.Own bE 5 w75 (fun _ => False) a7_0j c7_0j s74.1 ∧ (∀ g, blk a7_0j = some g → w0.heap.size ≤ g) ∧ (∀ g, blk a7_0j = some g → ¬ (· = b1) g) ∧ ¬ (fun k => blk a7_0j = some k) b1 ∧ Box w75 b1 26 #[(.int .i64 s74.2.2.2.1), (.int .i64 s74.2.2.2.2)] ∧ a.defers = [] ∧ a.tmps.size = 67 ∧ Ok [(1, (.slice pa1_0 (length vs_1) pc1_0)), (5, (bp b1)), (7, (.slice a7_0j (length s74.1) c7_0j)), (8, (.int .i64 s74.2.1)), (25, (.slice pa0_0 (length l_0) pc0_0)), (26, (.int .i64 ((length l_0 : Nat) : Int))), (27, (.int .i64 s74.2.2.1))] a.tmps) h1 ?_ ?_
    ·intro a hd hs hok
     have hB76 := bg hB49 hg51 nb
     have hk77 := hb4.grown hg11 nb
     have lt78 := ltl ((ltb hk77) _ rfl) ((lowb hbe17) _ rfl)
     have hk79 := ((hb4.grown hg45 nb).grown hg20 (rowne (ng lt78))).grown hg51 nb
     exact ⟨none, 0, hB76, nrf, (Gv.Own.nil bE 5 w50 (fun _ => False)), (fun _ h => by cases h), (fun _ h => by cases h), (fun h => by cases h), hk79, hd, hs, okp [1, 5, 7, 8, 25, 26, 27] hok⟩
    ·rintro s74 r2 h2 hR2 a w75 ⟨a82, c83, hB80, hz81, ho84, hl85, ap86, ap87, hb88, hd, hs, hok⟩
     refine gv_in ?_ hd hs hok
     clear hd hs hok
     clear hc53 hg51 hB49 hlo48 hB47 hB46 hg45 hr44 hc23 hz22 hb21 hg20 hz18 hbe17 hb16 hg15 hg11 hB9 hr8 hz6 hb4 hg3
     refine gv_seq <| gv_region <| pN 1 [28] [(28, (.bool (decide (s74.2.2.1 < ((length l_0 : Nat) : Int)))))] ?_
     refine gv_nil <| gv_seq <| gv_cond (b := (decide (s74.2.2.1 < ((length l_0 : Nat) : Int)))) (by kernel_rfl) (fun hc89 => ?_) (fun hc89 => ?_)
     ·replace h2 := ite_t hc89 h2
      refine gv_skip <| gv_seq <| bindE h2 ?_; clear h2; intro j90 h3 h2
      refine gv_cut_code (J := fun a w92 => ∃ s91 : ((List UInt8) × Int × (Int × Int)), j90 = .inl s91 ∧ ∃ (a7_0j : Option Addr) (c7_0j : Nat), Below w0.heap.size w0 w92 ∧ w75.heap.size ≤ w92.heap.size ∧ Gv.Own bE 5 w92 (fun _ => False) a7_0j c7_0j s91.1 ∧ (∀ g, blk a7_0j = some g → w0.heap.size ≤ g) ∧ (∀ g, blk a7_0j = some g → ¬ (· = b1) g) ∧ ¬ (fun k => blk a7_0j = some k) b1 ∧ Box w92 b1 26 #[(.int .i64 s91.2.2.1), (.int .i64 s91.2.2.2)] ∧ a.defers = [] ∧ a.tmps.size = 67 ∧ Ok [(1, (.slice pa1_0 (length vs_1) pc1_0)), (5, (bp b1)), (7, (.slice a7_0j (length s91.1) c7_0j)), (8, (.int .i64 s91.2.1)), (25, (.slice pa0_0 (length l_0) pc0_0)), (26, (.int .i64 ((length l_0 : Nat) : Int))), (27, (.int .i64 s74.2.2.1))] a.tmps) ?_ ?_
      ·skip
       refine gv_block <| gv_seq <| gv_region <| bindE h3 ?_; clear h3; intro x93 hx94 h3
       refine gv_idxaddr (t := 22) (e := 49) (a := pa0_0) (len := length l_0) (cap := pc0_0) (kk := .i64) (i := s74.2.2.1) (sz := 3) [] (fun e => by cases e) rfl rfl rfl (by kernel_rfl) (by kernel_rfl) Tryz.underlying22 (by kernel_rfl) ((hpa0_0.below hB80 hX0).has hx94) (idx_spec hx94).1 (idx_spec hx94).2.1 rfl ?_
       obtain ⟨_, ⟨_, _, rfl, rfl, ⟨_, _, rfl, rfl, rfl⟩⟩, hc95⟩ := hpa0_0.cellsK hx94
       refine gv_loadAgg (t := 49) (A := (elemAddr pa0_0 ((s74.2.2.1 : Int).toNat * 3))) #[(.int .u8 x93.1), (.int .i64 x93.2.1), (.bool x93.2.2)] [] (fun e => by cases e) rfl rfl rfl (by kernel_rfl) (by kernel_rfl) (by kernel_rfl) (by kernel_rfl) (inw0 (hc95 w75 (fun k hk => hB80.block k (hX0 k hk)))) rfl ?_
       refine gv_new0 (fun b => .pointer (some ⟨b, 0, none⟩)) #[(.int .u8 0), (.int .i64 0), (.bool false)] 49 (by kernel_rfl) (by kernel_rfl) ?_
       intro b96 w97 hg98 hb99 hbe100 hz101
       refine gv_store0 49 0 (.agg #[(.int .u8 x93.1), (.int .i64 x93.2.1), (.bool x93.2.2)]) #[(.int .u8 x93.1), (.int .i64 x93.2.1), (.bool x93.2.2)] hb99 (by kernel_rfl) (by kernel_rfl) (by kernel_rfl) ?_
       intro w102 hg103 hb104 hz105
       refine gv_nil <| gv_seq <| gv_seq <| gv_region <| pN 1 [31] [(31, (bp b96))] ?_
       refine gv_load (t := 5) (A := ⟨b96, 0, none⟩) (.int .u8 x93.1) [] (fun e => by cases e) rfl rfl rfl (by kernel_rfl) (by kernel_rfl) (by kernel_rfl) (inw0 (hb104.cell 0 rfl)) rfl ?_
       refine pN 1 [33] [(33, (.bool (x93.1 == 120)))] ?_
       refine gv_nil <| gv_cond (b := (x93.1 == 120)) (by kernel_rfl) (fun hc106 => ?_) (fun hc106 => ?_)
       ·replace h3 := ite_t hc106 h3
        refine gv_seq <| gv_region <| pN 2 [34, 35] [(34, (.slice a82 (length s74.1) c83)), (35, (.pointer (some ⟨b96, 1, none⟩)))] ?_
        refine gv_load (t := 3) (A := ⟨b96, 1, none⟩) (.int .i64 x93.2.1) [] (fun e => by cases e) rfl rfl rfl (by kernel_rfl) (by kernel_rfl) (by kernel_rfl) (inw0 (hb104.cell 1 rfl)) rfl ?_
        refine bindE h3 ?_; clear h3; intro l107 hx108 h3
        refine bindE h3 ?_; clear h3; intro l109 hx110 h3
        have ap117 : ¬ (fun k => blk a82 = some k) b96 := fun hx => nl ((lowb hbe100) _ rfl) ((fun k (hk : blk a82 = some k) => ho84.lt k hk) _ hx)
        have hk118 := (ho84.grown hg98 (fun _ h => h.elim) nb).grown hg103 (fun _ h => h.elim) (rdnn (rowne ap117))
        refine gv_appendA (t := 23) (tx := 3) (ty := 23) (e := 5) (z := .int .u8 0) (x := (.int .i64 x93.2.1)) (a := a82) (cap := c83) (xs := s74.1) l107 l109 (by decide) rfl rfl (by kernel_rfl) (by kernel_rfl) (asrc_zeroB w102 Tryz.underlying23 Tryz.underlying3 (by kernel_rfl) hx108) rfl hk118 hx110 ?_
        intro a111 c112 w113 hg114 ho115 hk116
        refine ⟨(fun e => by cases e), ?_⟩
        have hB120 := bg hB80 hg98 nb
        have hlo121 : w0.heap.size ≤ b96 := lob hbe100 hB80.size
        have hB122 := bg hB120 hg103 (rowlo hlo121)
        have hl119 : ∀ g, blk a111 = some g → w0.heap.size ≤ g := blk_step hk116 hl85 hB122.size
        have lt124 := ltl ((ltb hb88) _ rfl) ((lowb hbe100) _ rfl)
        have hk125 := (hb88.grown hg98 nb).grown hg103 (rowne (ng lt124))
        have ap123 : ∀ g, blk a111 = some g → ¬ (· = b1) g := blk_neX hk116 ap86 (ltb hk125)
        have ap126 : ¬ (fun k => blk a111 = some k) b1 := fun h => blk_rev hk116 (fun h => (ap87) h) (hk125.lt) h
        have ap128 : ∀ g, blk a82 = some g → ¬ (· = b96) g := fun g e hx => nl ((lowb hbe100) _ hx) ((fun k (hk : blk a82 = some k) => ho84.lt k hk) g e)
        have ap127 : ∀ g, blk a111 = some g → ¬ (· = b96) g := blk_neX hk116 ap128 (ltb hb104)
        have ap129 : ¬ (fun k => blk a111 = some k) b96 := fun h => blk_rev hk116 (fun h => (ap117) h) (hb104.lt) h
        refine pN 1 [7] [(7, (.slice a111 (length l109) c112))] ?_
        refine gv_nil <| gv_cexit <| gv_exit rfl ?_
        have e := sj h3; subst e
        refine gv_goal fun a hd hs hok => ?_
        have hB130 := bg hB122 hg114 hl85
        have hz131 := (nt (nt hg98.size hg103.size) hg114.size)
        have hk132 := hk125.grown hg114 ap86
        exact ⟨(l109, s74.2.1, (s74.2.2.2.1, s74.2.2.2.2)), rfl, a111, c112, hB130, hz131, ho115, hl119, ap123, ap126, hk132, hd, hs, okp [1, 5, 7, 8, 25, 26, 27] hok⟩
       ·replace h3 := ite_f hc106 h3
        refine gv_skip <| gv_seq <| gv_seq <| gv_region <| pN 2 [38, 39] [(38, (.slice pa1_0 (length vs_1) pc1_0)), (39, (.int .i64 s74.2.1))] ?_
        refine bindE h3 ?_; clear h3; intro x133 hx134 h3
        have hB135 := bg hB80 hg98 nb
        have hlo136 : w0.heap.size ≤ b96 := lob hbe100 hB80.size
        have hB137 := bg hB135 hg103 (rowlo hlo136)
        refine gv_idxaddr (t := 24) (e := 41) (a := pa1_0) (len := length vs_1) (cap := pc1_0) (kk := .i64) (i := s74.2.1) (sz := 7) [] (fun e => by cases e) rfl rfl rfl (by kernel_rfl) (by kernel_rfl) Tryz.underlying24 (by kernel_rfl) ((hpa1_0.below hB137 hX0).has hx134) (idx_spec hx134).1 (idx_spec hx134).2.1 rfl ?_
        obtain ⟨_, ⟨_, _, rfl, rfl, ⟨_, _, rfl, ⟨_, _, rfl, rfl, ⟨a139, c140, rfl, hr141⟩⟩, ⟨_, _, rfl, ⟨_, _, rfl, rfl, ⟨a142, c143, rfl, hr144⟩⟩, ⟨_, _, rfl, rfl, rfl⟩⟩⟩⟩, hc138⟩ := hpa1_0.cellsK hx134
        refine gv_loadAgg (t := 41) (A := (elemAddr pa1_0 ((s74.2.1 : Int).toNat * 7))) #[(.int .i64 x133.1), (.bool x133.2.1.1), (.slice a139 (length x133.2.1.2) c140), (.bool x133.2.2.1.1), (.slice a142 (length x133.2.2.1.2) c143), (.string x133.2.2.2.1), (.int .i64 x133.2.2.2.2)] [] (fun e => by cases e) rfl rfl rfl (by kernel_rfl) (by kernel_rfl) (by kernel_rfl) (by kernel_rfl) (inw0 (hc138 w102 (fun k hk => hB137.block k (hX0 k hk)))) rfl ?_
        refine bindE h3 ?_; clear h3; intro r145 hr146 h3
        refine gv_call0 (by kernel_rfl) rfl (by kernel_rfl) enters33 (packing_valid_ok fuel a139 c140 a142 c143 (x133.1, (x133.2.1.1, x133.2.1.2), (x133.2.2.1.1, x133.2.2.1.2), x133.2.2.2.1, x133.2.2.2.2) w102 (fun k => X0 k ∨ X0 k) (fun k hk => (hk).elim (fun h => (fun k (hk : X0 k) => ltl (hX0 k hk) hB137.size) k h) (fun h => (fun k (hk : X0 k) => ltl (hX0 k hk) hB137.size) k h)) ((hr141.below hB137 hX0).wide (fun k hk => (.inl hk))) ((hr144.below hB137 hX0).wide (fun k hk => (.inr hk))) r145 hr146) ?_
        rintro v149 w147 ⟨hg148, rfl⟩
        refine pN 1 [43] [(43, (.bool (!r145)))] ?_
        refine gv_nil <| gv_cond (b := (!r145)) (by kernel_rfl) (fun hc150 => ?_) (fun hc150 => ?_)
        ·replace h3 := ite_t hc150 h3
         refine gv_seq <| gv_region <| pN 1 [44] [(44, (.int .i64 s74.2.1))] ?_
         refine gv_sub [5, 44] (σ' := [(5, (bp b1)), (44, (.int .i64 s74.2.1))]) (by kernel_rfl) ?_
         refine bindE h3 ?_; clear h3; intro r151 hr152 h3
         refine gv_call0 (by kernel_rfl) rfl (by kernel_rfl) enters16 (packing_at_ok fuel 6 s74.2.1 w147  r151 hr152) ?_
         rintro v155 w153 ⟨hg154, rfl⟩
         refine pN 1 [4] [(4, (.slice none (length ([] : List UInt8)) 0))] ?_
         have lt160 := ltl ((ltb hb88) _ rfl) ((lowb hbe100) _ rfl)
         have hg161 := (grown_trans hg148 hg154)
         have hk162 := ((hb88.grown hg98 nb).grown hg103 (rowne (ng lt160))).grown hg161 nb
         refine gv_store0 26 0 (.agg #[(.int .i64 r151.1), (.int .i64 r151.2)]) #[(.int .i64 r151.1), (.int .i64 r151.2)] hk162 (by kernel_rfl) (by kernel_rfl) (by kernel_rfl) ?_
         intro w156 hg157 hb158 hz159
         refine gv_nil <| gv_cret ?_
         have e := sj h3; subst e
         replace h2 := cont_inr h2
         have e := sj h2; subst e
         replace h1 := congrArg some (hR2 _ rfl)
         have e := sj h1; subst e
         replace h0 := cont_inr h0
         have e := sj h0; subst e
         refine gv_ret (gv_done [(.slice none (length ([] : List UInt8)) 0), (.agg #[(.int .i64 r151.1), (.int .i64 r151.2)])] rfl ⟨(by kernel_rfl), ⟨⟨b1, 0, none⟩, (by kernel_rfl), run_loadVar_row w156 b1 _ 26 _ _ _ hb158 Tryz.underlying26 rfl (by kernel_rfl)⟩, trivial⟩ ?_)
         have hB163 := bg hB137 hg161 nb
         have hlo164 : w0.heap.size ≤ b1 := lob hbe5 hB0.size
         have hB165 := bg hB163 hg157 (rowlo hlo164)
         exact ⟨grown_of_below hB165, none, 0, rfl, (Gv.Own.nil bE 5 w156 (fun _ => False)), (fun _ h => by cases h)⟩
        ·replace h3 := ite_f hc150 h3
         refine gv_skip <| gv_seq <| gv_drawA (by kernel_rfl) ?_
         intro w166 hg167
         refine gv_pre [0, 2, 3, 4] (bA 12 [0, 2, 3, 4]) 8 (by kernel_rfl) (by kernel_rfl) ?_
         have hz168 := (nt (nt (nt hg98.size hg103.size) hg148.size) hg167.size)
         clear hc150 hr146 hc138 hB135 hx134 hc106 hz105 hz101 hb99 hc95 hx94 hc89 hB80
         refine pN 3 [47, 49, 50] [(47, (.slice a82 (length s74.1) c83)), (49, (.slice pa1_0 (length vs_1) pc1_0)), (50, (.int .i64 s74.2.1))] ?_
         refine gv_sub [1, 5, 8, 10, 25, 26, 27, 47, 49, 50] (σ' := [(1, (.slice pa1_0 (length vs_1) pc1_0)), (5, (bp b1)), (8, (.int .i64 s74.2.1)), (10, (bp b96)), (25, (.slice pa0_0 (length l_0) pc0_0)), (26, (.int .i64 ((length l_0 : Nat) : Int))), (27, (.int .i64 s74.2.2.1)), (47, (.slice a82 (length s74.1) c83)), (49, (.slice pa1_0 (length vs_1) pc1_0)), (50, (.int .i64 s74.2.1))]) (by kernel_rfl) ?_
         refine bindE h3 ?_; clear h3; intro x169 hx170 h3
         have hg171 := (grown_trans hg148 hg167)
         have hB172 := bg hB137 hg171 nb
         refine gv_idxaddr (t := 24) (e := 41) (a := pa1_0) (len := length vs_1) (cap := pc1_0) (kk := .i64) (i := s74.2.1) (sz := 7) [] (fun e => by cases e) rfl rfl rfl (by kernel_rfl) (by kernel_rfl) Tryz.underlying24 (by kernel_rfl) ((hpa1_0.below hB172 hX0).has hx170) (idx_spec hx170).1 (idx_spec hx170).2.1 rfl ?_
         refine gv_nil <| gv_goA ?_
         refine gv_stage (Cls w166 []) [0, 1, 2, 3, 4, 5] [(1, some true), (5, some true)] (bA 12 [0, 1, 2, 3, 4, 5]) 6 (by kernel_rfl) (by kernel_rfl) (Cls.refl _ _) ?_
         have hC173 := Cls.refl w166 []
         have hk174 := hb104.grown hg171 nb
         refine gv_loadBox (t := 49) (b := b96) (t' := 49) (fr := (0, 0)) #[(.int .u8 x93.1), (.int .i64 x93.2.1), (.bool x93.2.2)] [] (fun e => by cases e) rfl rfl rfl (by kernel_rfl) (by kernel_rfl) (by kernel_rfl) (by kernel_rfl) (inw1 fun w' hC' => (hC'.box hk174 nm_nil)) rfl ?_
         obtain ⟨_, ⟨_, _, rfl, rfl, ⟨_, _, rfl, ⟨_, _, rfl, rfl, ⟨a176, c177, rfl, hr178⟩⟩, ⟨_, _, rfl, ⟨_, _, rfl, rfl, ⟨a179, c180, rfl, hr181⟩⟩, ⟨_, _, rfl, rfl, rfl⟩⟩⟩⟩, hc175⟩ := hpa1_0.cellsK hx170
         refine gv_loadAgg (t := 41) (A := (elemAddr pa1_0 ((s74.2.1 : Int).toNat * 7))) #[(.int .i64 x169.1), (.bool x169.2.1.1), (.slice a176 (length x169.2.1.2) c177), (.bool x169.2.2.1.1), (.slice a179 (length x169.2.2.1.2) c180), (.string x169.2.2.2.1), (.int .i64 x169.2.2.2.2)] [] (fun e => by cases e) rfl rfl rfl (by kernel_rfl) (by kernel_rfl) (by kernel_rfl) (by kernel_rfl) (inw1 fun w' hC' => (hc175 w' (fun k hk => (hC'.2 k ((fun k (hk : X0 k) => ltl (hX0 k hk) hB172.size) k hk) (fun hg => nmx_nil k hg hk)).trans (hB172.block k (hX0 k hk))))) rfl ?_
         refine gv_nil <| gv_goA ?_
         refine gv_stage (fun _ => True) [0, 1, 2, 3, 4, 5, 6] [(6, some false)] (bA 12 [0, 1, 2, 3, 4, 5, 6]) 5 (by kernel_rfl) (by kernel_rfl) trivial ?_
         refine bindE h3 ?_; clear h3; intro r182 hr183 h3
         have ap184 : ¬ (fun k => blk a82 = some k) b96 := fun hx => nl ((lowb hbe100) _ rfl) ((fun k (hk : blk a82 = some k) => ho84.lt k hk) _ hx)
         have hk185 := ((ho84.grown hg98 (fun _ h => h.elim) nb).grown hg103 (fun _ h => h.elim) (rdnn (rowne ap184))).grown hg171 (fun _ h => h.elim) nb
         refine gv_call (f := 34) (vs := [(.slice a82 (length s74.1) c83), (.agg #[(.int .u8 x93.1), (.int .i64 x93.2.1), (.bool x93.2.2)]), (.agg #[(.int .i64 x169.1), (.bool x169.2.1.1), (.slice a176 (length x169.2.1.2) c177), (.bool x169.2.2.1.1), (.slice a179 (length x169.2.2.1.2) c180), (.string x169.2.2.2.1), (.int .i64 x169.2.2.2.2)])]) (cap := []) _ (by decide) rfl rfl rfl (by kernel_rfl) (by kernel_rfl) enters34 (packing_pack_ok fuel a82 c83 s74.1 (x93.1, x93.2.1, x93.2.2) a176 c177 a179 c180 (x169.1, (x169.2.1.1, x169.2.1.2), (x169.2.2.1.1, x169.2.2.1.2), x169.2.2.2.1, x169.2.2.2.2) w166 (fun k => X0 k ∨ X0 k) (fun k hk => ⟨(hk).elim (fun h => (fun k (hk : X0 k) => ltl (hX0 k hk) hB172.size) k h) (fun h => (fun k (hk : X0 k) => ltl (hX0 k hk) hB172.size) k h), fun e => (hk).elim (fun h => ((fun g (e : blk a82 = some g) (hx : X0 g) => nl (hl85 g e) (hX0 _ hx)) k e h)) (fun h => ((fun g (e : blk a82 = some g) (hx : X0 g) => nl (hl85 g e) (hX0 _ hx)) k e h))⟩) hk185 ((hr178.below hB172 hX0).wide (fun k hk => (.inl hk))) ((hr181.below hB172 hX0).wide (fun k hk => (.inr hk))) r182 hr183) ?_
         rintro v188 w186 ⟨hg187, a189, c190, rfl, ho191, hk192⟩
         refine ⟨(fun _ => trivial), ?_⟩
         have hl193 : ∀ g, blk a189 = some g → w0.heap.size ≤ g := blkw_step hk192 hl85 hB172.size
         refine gv_nil <| gv_goA ?_
         refine gv_pre [7, 8, 9, 10, 11] (bA 12 [0, 1, 2, 3, 4, 5, 6, 7, 8, 9, 10, 11]) 0 (by kernel_rfl) (by kernel_rfl) ?_
         refine pN 5 [11, 12, 46, 54, 55] [(11, (.slice a189 (length r182.1) c190)), (12, (.int .i64 r182.2))] ?_
         refine gv_nil <| gv_goA ?_
         refine gv_stageE (by kernel_rfl) ?_
         refine gv_seq <| gv_seq <| gv_region <| pN 2 [56, 57] [(57, (.bool (r182.2 != 0)))] ?_
         refine gv_nil <| gv_cond (b := (r182.2 != 0)) (by kernel_rfl) (fun hc194 => ?_) (fun hc194 => ?_)
         ·replace h3 := ite_t hc194 h3
          refine gv_seq <| gv_region <| pN 2 [58, 59] [(58, (.int .i64 r182.2)), (59, (.int .i64 s74.2.1))] ?_
          refine bindE h3 ?_; clear h3; intro r195 hr196 h3
          refine gv_call0 (by kernel_rfl) rfl (by kernel_rfl) enters16 (packing_at_ok fuel r182.2 s74.2.1 w186  r195 hr196) ?_
          rintro v199 w197 ⟨hg198, rfl⟩
          refine pN 1 [4] [(4, (.slice none (length ([] : List UInt8)) 0))] ?_
          have lt204 := ltl ((ltb hb88) _ rfl) ((lowb hbe100) _ rfl)
          have hk205 := ((((hb88.grown hg98 nb).grown hg103 (rowne (ng lt204))).grown hg171 nb).grown hg187 ap86).grown hg198 nb
          refine gv_store0 26 0 (.agg #[(.int .i64 r195.1), (.int .i64 r195.2)]) #[(.int .i64 r195.1), (.int .i64 r195.2)] hk205 (by kernel_rfl) (by kernel_rfl) (by kernel_rfl) ?_
          intro w200 hg201 hb202 hz203
          refine gv_nil <| gv_cret ?_
          have e := sj h3; subst e
          replace h2 := cont_inr h2
          have e := sj h2; subst e
          replace h1 := congrArg some (hR2 _ rfl)
          have e := sj h1; subst e
          replace h0 := cont_inr h0
          have e := sj h0; subst e
          refine gv_ret (gv_done [(.slice none (length ([] : List UInt8)) 0), (.agg #[(.int .i64 r195.1), (.int .i64 r195.2)])] rfl ⟨(by kernel_rfl), ⟨⟨b1, 0, none⟩, (by kernel_rfl), run_loadVar_row w200 b1 _ 26 _ _ _ hb202 Tryz.underlying26 rfl (by kernel_rfl)⟩, trivial⟩ ?_)
          have hB206 := bg hB172 hg187 hl85
          have hB207 := bg hB206 hg198 nb
          have hlo208 : w0.heap.size ≤ b1 := lob hbe5 hB0.size
          have hB209 := bg hB207 hg201 (rowlo hlo208)
          exact ⟨grown_of_below hB209, none, 0, rfl, (Gv.Own.nil bE 5 w200 (fun _ => False)), (fun _ h => by cases h)⟩
         ·replace h3 := ite_f hc194 h3
          refine gv_skip <| gv_seq <| gv_region <| pN 2 [7, 61] [(7, (.slice a189 (length r182.1) c190))] ?_
          refine gv_nil <| gv_region <| pN 3 [8, 62, 63] [(8, (.int .i64 (IntKind.i64.wrap (s74.2.1 + 1))))] ?_
          refine gv_nil <| gv_blk ?_
          have e := sj h3; subst e
          refine gv_goal fun a hd hs hok => ?_
          have hB210 := bg hB172 hg187 hl85
          have hz211 := (nt hz168 hg187.size)
          have lt212 := ltl ((ltb hb88) _ rfl) ((lowb hbe100) _ rfl)
          have hk213 := ((hb88.grown hg98 nb).grown hg103 (rowne (ng lt212))).grown hg171 nb
          have ap214 : ∀ g, blk a189 = some g → ¬ (· = b1) g := blkw_neX hk192 ap86 (ltb hk213)
          have ap215 : ¬ (fun k => blk a189 = some k) b1 := fun h => blkw_rev hk192 (fun h => (ap87) h) (hk213.lt) h
          have hk216 := hk213.grown hg187 ap86
          exact ⟨(r182.1, (IntKind.i64.wrap (s74.2.1 + 1)), (s74.2.2.2.1, s74.2.2.2.2)), rfl, a189, c190, hB210, hz211, ho191, hl193, ap214, ap215, hk216, hd, hs, okp [1, 5, 7, 8, 25, 26, 27] hok⟩
      ·rintro a w92 ⟨s91, e, a219, c220, hB217, hz218, ho221, hl222, ap223, ap224, hb225, hd, hs, hok⟩
       subst e
       refine gv_in ?_ hd hs hok
       clear hd hs hok
       replace h2 := cont_inl h2
       have hz226 := (nt hz81 hz218)
       clear hz218 hc89 hb88 ap87 ap86 hl85 ho84 hz81 hB80
       refine gv_region <| pN 2 [27, 64] [(27, (.int .i64 (IntKind.i64.wrap (s74.2.2.1 + 1))))] ?_
       refine gv_nil ?_
       have e := sj h2; subst e
       refine gv_goal fun a hd hs hok => ?_
       have hz227 := hz226
       exact ⟨(s91.1, s91.2.1, (IntKind.i64.wrap (s74.2.2.1 + 1)), (s91.2.2.1, s91.2.2.2)), rfl, a219, c220, hB217, hz227, ho221, hl222, ap223, ap224, hb225, hd, hs, okp [1, 5, 7, 8, 25, 26, 27] hok⟩
     ·replace h2 := ite_f hc89 h2
      refine gv_cexit <| gv_exit rfl ?_
      have e := sj h2; subst e
      replace h1 := congrArg some (hR2 _ rfl)
      have e := sj h1; subst e
      refine gv_goal fun a hd hs hok => ?_
      have hz228 := hz81
      exact ⟨(s74.1, (s74.2.2.2.1, s74.2.2.2.2)), rfl, a82, c83, hB80, hz228, ho84, hl85, ap86, ap87, hb88, hd, hs, okp [5, 7] hok⟩
   ·rintro a w73 ⟨s72, e, a231, c232, hB229, hz230, ho233, hl234, ap235, ap236, hb237, hd, hs, hok⟩
    subst e
    refine gv_in ?_ hd hs hok
    clear hd hs hok
    replace h0 := cont_inl h0
    clear hz230 hc53 hg51 hB49 hlo48 hB47 hB46 hg45 hr44 hc23 hz22 hb21 hg20 hz18 hbe17 hb16 hg15 hg11 hB9 hr8 hz6 hb4 hg3
    refine gv_seq <| gv_region <| pN 3 [4, 65, 66] [(4, (.slice a231 (length s72.1) c232)), (66, (.agg #[(.int .i64 0), (.int .i64 0)]))] ?_
    refine gv_store0 26 0 (.agg #[(.int .i64 0), (.int .i64 0)]) #[(.int .i64 0), (.int .i64 0)] hb237 (by kernel_rfl) (by kernel_rfl) (by kernel_rfl) ?_
    intro w238 hg239 hb240 hz241
    refine gv_nil <| gv_cret ?_
    have e := sj h0; subst e
    refine gv_ret (gv_done [(.slice a231 (length s72.1) c232), (.agg #[(.int .i64 0), (.int .i64 0)])] rfl ⟨(by kernel_rfl), ⟨⟨b1, 0, none⟩, (by kernel_rfl), run_loadVar_row w238 b1 _ 26 _ _ _ hb240 Tryz.underlying26 rfl (by kernel_rfl)⟩, trivial⟩ ?_)
    have hlo242 : w0.heap.size ≤ b1 := lob hbe5 hB0.size
    have hB243 := bg hB229 hg239 (rowlo hlo242)
    have hk244 := ho233.grown hg239 (fun _ h => h.elim) (rdnn (rowne ap236))
    exact ⟨grown_of_below hB243, a231, c232, rfl, hk244, hl234⟩

theorem ref4_SameBytes_ok (fuel : Nat) (pa0_0 : Option Addr) (pc0_0 : Nat) (a_0 : (List UInt8)) (pa1_0 : Option Addr) (pc1_0 : Nat) (b_1 : (List UInt8)) (w0 : World) (X0 : Nat → Prop) (hX0 : ∀ k, X0 k → k < w0.heap.size) (hpa0_0 : Rd bE w0 X0 pa0_0 pc0_0 a_0) (hpa1_0 : Rd bE w0 X0 pa1_0 pc1_0 b_1) (r0 : Bool) (h0 : ref4_SameBytes fuel a_0 b_1 = some r0) :
    Calls Tryz.prog 10 ([(.slice pa0_0 (length a_0) pc0_0), (.slice pa1_0 (length b_1) pc1_0)] : List Value).toArray w0 (Ret fun v w' => w0.grownBy w' none ∧ v = tup [(.bool r0)]) := by
 have hB0 : Below w0.heap.size w0 w0 := Below.refl _ _
 unfold ref4_SameBytes at h0
 refine calls_run Tryz.func10 rfl Tryz.ntmps10 (by kernel_rfl) ?_
 refine gv_sub [0, 1] (σ' := [(0, (.slice pa0_0 (length a_0) pc0_0)), (1, (.slice pa1_0 (length b_1) pc1_0))]) (by kernel_rfl) ?_
 refine gv_seq <| gv_region <| pN 1 [4] [] ?_
 refine gv_nil <| gv_seq <| gv_region <| pN 1 [5] [(5, (.slice pa0_0 (length a_0) pc0_0))] ?_
 refine gv_b2s (src := 23) (dst := 9) (e := 5) (xs := a_0) (a := pa0_0) (cap := pc0_0) (X := X0) [] (fun e => by cases e) rfl rfl rfl (by kernel_rfl) (by kernel_rfl) Tryz.underlying23 Tryz.underlying5 Tryz.underlying9 (inw0 (hpa0_0.below hB0 hX0)) rfl ?_
 refine pN 1 [7] [(7, (.slice pa1_0 (length b_1) pc1_0))] ?_
 refine gv_b2s (src := 23) (dst := 9) (e := 5) (xs := b_1) (a := pa1_0) (cap := pc1_0) (X := X0) [] (fun e => by cases e) rfl rfl rfl (by kernel_rfl) (by kernel_rfl) Tryz.underlying23 Tryz.underlying5 Tryz.underlying9 (inw0 (hpa1_0.below hB0 hX0)) rfl ?_
 refine pN 2 [4, 9] [(4, (.bool ((strOf a_0).toList == (strOf b_1).toList)))] ?_
 refine bindE h0 ?_; clear h0; intro n1 hn2 h0
 refine gv_name (s := 4) (v := (.bool ((strOf a_0).toList == (strOf b_1).toList))) (v' := (.bool n1)) (by kernel_rfl) (congrArg (Value.bool) (sj hn2)) ?_
 refine gv_nil <| gv_cret ?_
 have e := sj h0; subst e
 refine gv_ret (gv_done [(.bool n1)] rfl ⟨(by kernel_rfl), trivial⟩ ?_)
 exact ⟨grown_of_below hB0, rfl⟩

theorem ref3_SameLimbs_ok (fuel : Nat) (pa0_0 : Option Addr) (pc0_0 : Nat) (a_0 : (List Int)) (pa1_0 : Option Addr) (pc1_0 : Nat) (b_1 : (List Int)) (w0 : World) (X0 : Nat → Prop) (hX0 : ∀ k, X0 k → k < w0.heap.size) (hpa0_0 : Rd (iE .u32) w0 X0 pa0_0 pc0_0 a_0) (hpa1_0 : Rd (iE .u32) w0 X0 pa1_0 pc1_0 b_1) (r0 : Bool) (h0 : ref3_SameLimbs fuel a_0 b_1 = some r0) :
    Calls Tryz.prog 37 ([(.slice pa0_0 (length a_0) pc0_0), (.slice pa1_0 (length b_1) pc1_0)] : List Value).toArray w0 (Ret fun v w' => w0.grownBy w' none ∧ v = tup [(.bool r0)]) := by
 have hB0 : Below w0.heap.size w0 w0 := Below.refl _ _
 unfold ref3_SameLimbs at h0
 refine calls_run Tryz.func37 rfl Tryz.ntmps37 (by kernel_rfl) ?_
 refine gv_sub [0, 1] (σ' := [(0, (.slice pa0_0 (length a_0) pc0_0)), (1, (.slice pa1_0 (length b_1) pc1_0))]) (by kernel_rfl) ?_
 refine gv_seq <| gv_region <| pN 1 [4] [] ?_
 refine gv_nil <| gv_seq <| gv_seq <| gv_region <| pN 5 [6, 7, 8, 9, 10] [(10, (.bool (((length a_0 : Nat) : Int) != ((length b_1 : Nat) : Int))))] ?_
 refine gv_nil <| gv_cond (b := (((length a_0 : Nat) : Int) != ((length b_1 : Nat) : Int))) (by kernel_rfl) (fun hc1 => ?_) (fun hc1 => ?_)
 ·replace h0 := ite_t hc1 h0
  refine gv_seq <| gv_region <| pN 1 [4] [(4, (.bool false))] ?_
  refine gv_nil <| gv_cret ?_
  have e := sj h0; subst e
  refine gv_ret (gv_done [(.bool false)] rfl ⟨(by kernel_rfl), trivial⟩ ?_)
  exact ⟨grown_of_below hB0, rfl⟩
 ·replace h0 := ite_f hc1 h0
  refine gv_skip <| gv_seq <| gv_seq <| gv_region <| pN 1 [5] [(5, (.int .i64 0))] ?_
  refine gv_nil <| bindE h0 ?_; clear h0; intro j2 h1 h0
  refine gv_cut_code (J := fun a w4 => ∃ s3 : Unit, j2 = .inl s3 ∧ Below w0.heap.size w0 w4 ∧ w0.heap.size ≤ w4.heap.size ∧ a.defers = [] ∧ a.tmps.size = 26 ∧ Ok [] a.tmps) ?_ ?_
  ·skip
   refine gv_block <| gv_loop (A := fun (s5 : Int) a w6 => Below w0.heap.size w0 w6 ∧ w0.heap.size ≤ w6.heap.size ∧ a.defers = [] ∧ a.tmps.size = 26 ∧ Ok [(0, (.slice pa0_0 (length a_0) pc0_0)), (1, (.slice pa1_0 (length b_1) pc1_0)), (5, (.int .i64 s5))] a.tmps) h1 ?_ ?_
   ·intro a hd hs hok
    exact ⟨hB0, nrf, hd, hs, okp [0, 1, 5] hok⟩
   ·rintro s5 r2 h2 hR2 a w6 ⟨hB7, hz8, hd, hs, hok⟩
    refine gv_in ?_ hd hs hok
    clear hd hs hok
    refine gv_seq <| gv_seq <| gv_region <| pN 4 [11, 12, 13, 14] [(14, (.bool (decide (s5 < ((length a_0 : Nat) : Int)))))] ?_
    refine gv_nil <| gv_cond (b := (decide (s5 < ((length a_0 : Nat) : Int)))) (by kernel_rfl) (fun hc9 => ?_) (fun hc9 => ?_)
    ·replace h2 := ite_t hc9 h2
     refine gv_skip <| gv_seq <| gv_block <| gv_seq <| gv_drawA (by kernel_rfl) ?_
     intro w10 hg11
     refine gv_pre [0, 1, 2, 4, 5, 6] (bA 9 [0, 1, 2, 4, 5, 6]) 3 (by kernel_rfl) (by kernel_rfl) ?_
     refine pN 2 [17, 18] [(17, (.slice pa0_0 (length a_0) pc0_0)), (18, (.int .i64 s5))] ?_
     refine bindE h2 ?_; clear h2; intro x12 hx13 h2
     have hB14 := bg hB7 hg11 nb
     refine gv_idxaddr (t := 37) (e := 107) (a := pa0_0) (len := length a_0) (cap := pc0_0) (kk := .i64) (i := s5) (sz := 1) [] (fun e => by cases e) rfl rfl rfl (by kernel_rfl) (by kernel_rfl) Tryz.underlying37 (by kernel_rfl) ((hpa0_0.below hB14 hX0).has hx13) (idx_spec hx13).1 (idx_spec hx13).2.1 rfl ?_
     refine pN 2 [21, 22] [(21, (.slice pa1_0 (length b_1) pc1_0)), (22, (.int .i64 s5))] ?_
     refine bindE h2 ?_; clear h2; intro x15 hx16 h2
     refine gv_idxaddr (t := 37) (e := 107) (a := pa1_0) (len := length b_1) (cap := pc1_0) (kk := .i64) (i := s5) (sz := 1) [] (fun e => by cases e) rfl rfl rfl (by kernel_rfl) (by kernel_rfl) Tryz.underlying37 (by kernel_rfl) ((hpa1_0.below hB14 hX0).has hx16) (idx_spec hx16).1 (idx_spec hx16).2.1 rfl ?_
     refine gv_nil <| gv_goA ?_
     refine gv_stage (Cls w10 []) [0, 1, 2, 3, 4, 5, 6, 7] [(3, some true), (7, some true)] (bA 9 [0, 1, 2, 3, 4, 5, 6, 7]) 1 (by kernel_rfl) (by kernel_rfl) (Cls.refl _ _) ?_
     have hC17 := Cls.refl w10 []
     refine gv_load (t := 107) (A := (elemAddr pa0_0 ((s5 : Int).toNat * 1))) (.int .u32 x12) [] (fun e => by cases e) rfl rfl rfl (by kernel_rfl) (by kernel_rfl) (by kernel_rfl) (inw1 fun w' hC' => ((hC'.rd (hpa0_0.below hB14 hX0) (fun k (hk : X0 k) => ltl (hX0 k hk) hB14.size) nmx_nil).cell hx13)) rfl ?_
     refine gv_load (t := 107) (A := (elemAddr pa1_0 ((s5 : Int).toNat * 1))) (.int .u32 x15) [] (fun e => by cases e) rfl rfl rfl (by kernel_rfl) (by kernel_rfl) (by kernel_rfl) (inw1 fun w' hC' => ((hC'.rd (hpa1_0.below hB14 hX0) (fun k (hk : X0 k) => ltl (hX0 k hk) hB14.size) nmx_nil).cell hx16)) rfl ?_
     refine gv_nil <| gv_goA ?_
     refine gv_pre [8] (bA 9 [0, 1, 2, 3, 4, 5, 6, 7, 8]) 0 (by kernel_rfl) (by kernel_rfl) ?_
     refine pN 1 [25] [(25, (.bool (x12 != x15)))] ?_
     refine gv_nil <| gv_goA ?_
     refine gv_stageE (by kernel_rfl) ?_
     refine gv_cond (b := (x12 != x15)) (by kernel_rfl) (fun hc18 => ?_) (fun hc18 => ?_)
     ·replace h2 := ite_t hc18 h2
      refine gv_seq <| gv_region <| pN 1 [4] [(4, (.bool false))] ?_
      refine gv_nil <| gv_cret ?_
      have e := sj h2; subst e
      replace h1 := congrArg some (hR2 _ rfl)
      have e := sj h1; subst e
      replace h0 := cont_inr h0
      have e := sj h0; subst e
      refine gv_ret (gv_done [(.bool false)] rfl ⟨(by kernel_rfl), trivial⟩ ?_)
      exact ⟨grown_of_below hB14, rfl⟩
     ·replace h2 := ite_f hc18 h2
      refine gv_skip <| gv_blk <| gv_region <| pN 3 [5, 15, 16] [(5, (.int .i64 (IntKind.i64.wrap (s5 + 1))))] ?_
      refine gv_nil ?_
      have e := sj h2; subst e
      refine gv_goal fun a hd hs hok => ?_
      have hz19 := (nt hz8 hg11.size)
      exact ⟨(IntKind.i64.wrap (s5 + 1)), rfl, hB14, hz19, hd, hs, okp [0, 1, 5] hok⟩
    ·replace h2 := ite_f hc9 h2
     refine gv_cexit <| gv_exit rfl ?_
     have e := sj h2; subst e
     replace h1 := congrArg some (hR2 _ rfl)
     have e := sj h1; subst e
     refine gv_goal fun a hd hs hok => ?_
     have hz20 := hz8
     exact ⟨(), rfl, hB7, hz20, hd, hs, okp [] hok⟩
  ·rintro a w4 ⟨s3, e, hB21, hz22, hd, hs, hok⟩
   subst e
   refine gv_in ?_ hd hs hok
   clear hd hs hok
   replace h0 := cont_inl h0
   refine gv_seq <| gv_region <| pN 1 [4] [(4, (.bool true))] ?_
   refine gv_nil <| gv_cret ?_
   have e := sj h0; subst e
   refine gv_ret (gv_done [(.bool true)] rfl ⟨(by kernel_rfl), trivial⟩ ?_)
   exact ⟨grown_of_below hB21, rfl⟩

theorem ref3_SameInts_ok (fuel : Nat) (pa0_0 : Option Addr) (pc0_0 : Nat) (a_0 : (Bool × (List Int))) (pa1_0 : Option Addr) (pc1_0 : Nat) (b_1 : (Bool × (List Int))) (w0 : World) (X0 : Nat → Prop) (hX0 : ∀ k, X0 k → k < w0.heap.size) (hpa0_0 : Rd (iE .u32) w0 X0 pa0_0 pc0_0 a_0.2) (hpa1_0 : Rd (iE .u32) w0 X0 pa1_0 pc1_0 b_1.2) (r0 : Bool) (h0 : ref3_SameInts fuel a_0 b_1 = some r0) :
    Calls Tryz.prog 13 ([(.agg #[(.bool a_0.1), (.slice pa0_0 (length a_0.2) pc0_0)]), (.agg #[(.bool b_1.1), (.slice pa1_0 (length b_1.2) pc1_0)])] : List Value).toArray w0 (Ret fun v w' => w0.grownBy w' none ∧ v = tup [(.bool r0)]) := by
 have hB0 : Below w0.heap.size w0 w0 := Below.refl _ _
 unfold ref3_SameInts at h0
 refine calls_run Tryz.func13 rfl Tryz.ntmps13 (by kernel_rfl) ?_
 refine gv_sub [0, 1] (σ' := [(0, (.agg #[(.bool a_0.1), (.slice pa0_0 (length a_0.2) pc0_0)])), (1, (.agg #[(.bool b_1.1), (.slice pa1_0 (length b_1.2) pc1_0)]))]) (by kernel_rfl) ?_
 refine gv_seq <| gv_region <| gv_new0 (fun b => .pointer (some ⟨b, 0, none⟩)) #[(.bool a_0.1), (.slice pa0_0 (length a_0.2) pc0_0)] 39 (by kernel_rfl) (by kernel_rfl) ?_
 intro b1 w2 hg3 hb4 hbe5 hz6
 refine gv_new0 (fun b => .pointer (some ⟨b, 0, none⟩)) #[(.bool b_1.1), (.slice pa1_0 (length b_1.2) pc1_0)] 39 (by kernel_rfl) (by kernel_rfl) ?_
 intro b7 w8 hg9 hb10 hbe11 hz12
 refine pN 1 [4] [] ?_
 refine gv_nil <| gv_seq <| gv_region <| bindE h0 ?_; clear h0; intro j13 h1 h0
 refine gv_cut_ops (J := fun a w14 => Below w0.heap.size w0 w14 ∧ w8.heap.size ≤ w14.heap.size ∧ a.defers = [] ∧ a.tmps.size = 17 ∧ Ok [(4, (.bool j13))] a.tmps) ?_ ?_
 ·skip
  refine pN 1 [5] [(5, (bp b1))] ?_
  have hk15 := hb4.grown hg9 nb
  refine gv_load (t := 4) (A := ⟨b1, 0, none⟩) (.bool a_0.1) [] (fun e => by cases e) rfl rfl rfl (by kernel_rfl) (by kernel_rfl) (by kernel_rfl) (inw0 (hk15.cell 0 rfl)) rfl ?_
  refine pN 1 [7] [(7, (bp b7))] ?_
  refine gv_load (t := 4) (A := ⟨b7, 0, none⟩) (.bool b_1.1) [] (fun e => by cases e) rfl rfl rfl (by kernel_rfl) (by kernel_rfl) (by kernel_rfl) (inw0 (hb10.cell 0 rfl)) rfl ?_
  refine pN 2 [9, 10] [(10, (.bool (a_0.1 == b_1.1)))] ?_
  refine gv_split (s := 10) (g := (a_0.1 == b_1.1)) (by kernel_rfl) (fun hc16 => ?_) (fun hc16 => ?_)
  ·skip
   replace h1 := ite_t hc16 h1
   refine pN 1 [11] [(11, (.pointer (some ⟨b1, 1, none⟩)))] ?_
   refine gv_load (t := 37) (A := ⟨b1, 1, none⟩) (.slice pa0_0 (length a_0.2) pc0_0) [] (fun e => by cases e) rfl rfl rfl (by kernel_rfl) (by kernel_rfl) (by kernel_rfl) (inw0 (hk15.cell 1 rfl)) rfl ?_
   refine pN 1 [13] [(13, (.pointer (some ⟨b7, 1, none⟩)))] ?_
   refine gv_load (t := 37) (A := ⟨b7, 1, none⟩) (.slice pa1_0 (length b_1.2) pc1_0) [] (fun e => by cases e) rfl rfl rfl (by kernel_rfl) (by kernel_rfl) (by kernel_rfl) (inw0 (hb10.cell 1 rfl)) rfl ?_
   refine bindE h1 ?_; clear h1; intro r17 hr18 h1
   have hg19 := (grown_trans hg3 hg9)
   have hB20 := bg hB0 hg19 nb
   refine gv_call0 (by kernel_rfl) rfl (by kernel_rfl) enters37 (ref3_SameLimbs_ok fuel pa0_0 pc0_0 a_0.2 pa1_0 pc1_0 b_1.2 w8 (fun k => X0 k ∨ X0 k) (fun k hk => (hk).elim (fun h => (fun k (hk : X0 k) => ltl (hX0 k hk) hB20.size) k h) (fun h => (fun k (hk : X0 k) => ltl (hX0 k hk) hB20.size) k h)) ((hpa0_0.below hB20 hX0).wide (fun k hk => (.inl hk))) ((hpa1_0.below hB20 hX0).wide (fun k hk => (.inr hk))) r17 hr18) ?_
   rintro v23 w21 ⟨hg22, rfl⟩
   refine pN 2 [4, 16] [(4, (.bool r17))] ?_
   refine gv_sub [4] (σ' := [(4, (.bool r17))]) (by kernel_rfl) ?_
   refine gv_nil ?_
   have e := sj h1; subst e
   refine gv_goal fun a hd hs hok => ?_
   have hB24 := bg hB20 hg22 nb
   have hz25 := hg22.size
   exact ⟨hB24, hz25, hd, hs, okp [4] hok⟩
  ·skip
   replace h1 := ite_f hc16 h1
   refine pN 7 [4, 11, 12, 13, 14, 15, 16] [(4, (.bool false))] ?_
   refine gv_nil ?_
   have e := sj h1; subst e
   refine gv_goal fun a hd hs hok => ?_
   have hg26 := (grown_trans hg3 hg9)
   have hB27 := bg hB0 hg26 nb
   exact ⟨hB27, nrf, hd, hs, okp [4] hok⟩
 ·rintro a w14 ⟨hB28, hz29, hd, hs, hok⟩
  refine gv_in ?_ hd hs hok
  clear hd hs hok
  clear hz29 hz12 hbe11 hb10 hg9 hz6 hbe5 hb4 hg3
  refine gv_cret ?_
  have e := sj h0; subst e
  refine gv_ret (gv_done [(.bool j13)] rfl ⟨(by kernel_rfl), trivial⟩ ?_)
  exact ⟨grown_of_below hB28, rfl⟩

theorem ref3_SameValue_ok (fuel : Nat) (pa0_0 : Option Addr) (pc0_0 : Nat) (pa0_1 : Option Addr) (pc0_1 : Nat) (a_0 : (Int × (Bool × (List Int)) × (Bool × (List Int)) × ByteArray × Int)) (pa1_0 : Option Addr) (pc1_0 : Nat) (pa1_1 : Option Addr) (pc1_1 : Nat) (b_1 : (Int × (Bool × (List Int)) × (Bool × (List Int)) × ByteArray × Int)) (w0 : World) (X0 : Nat → Prop) (hX0 : ∀ k, X0 k → k < w0.heap.size) (hpa0_0 : Rd (iE .u32) w0 X0 pa0_0 pc0_0 a_0.2.1.2) (hpa0_1 : Rd (iE .u32) w0 X0 pa0_1 pc0_1 a_0.2.2.1.2) (hpa1_0 : Rd (iE .u32) w0 X0 pa1_0 pc1_0 b_1.2.1.2) (hpa1_1 : Rd (iE .u32) w0 X0 pa1_1 pc1_1 b_1.2.2.1.2) (r0 : Bool) (h0 : ref3_SameValue fuel a_0 b_1 = some r0) :
    Calls Tryz.prog 31 ([(.agg #[(.int .i64 a_0.1), (.bool a_0.2.1.1), (.slice pa0_0 (length a_0.2.1.2) pc0_0), (.bool a_0.2.2.1.1), (.slice pa0_1 (length a_0.2.2.1.2) pc0_1), (.string a_0.2.2.2.1), (.int .i64 a_0.2.2.2.2)]), (.agg #[(.int .i64 b_1.1), (.bool b_1.2.1.1), (.slice pa1_0 (length b_1.2.1.2) pc1_0), (.bool b_1.2.2.1.1), (.slice pa1_1 (length b_1.2.2.1.2) pc1_1), (.string b_1.2.2.2.1), (.int .i64 b_1.2.2.2.2)])] : List Value).toArray w0 (Ret fun v w' => w0.grownBy w' none ∧ v = tup [(.bool r0)]) := by
 have hB0 : Below w0.heap.size w0 w0 := Below.refl _ _
 unfold ref3_SameValue at h0
 refine calls_run Tryz.func31 rfl Tryz.ntmps31 (by kernel_rfl) ?_
 refine gv_sub [0, 1] (σ' := [(0, (.agg #[(.int .i64 a_0.1), (.bool a_0.2.1.1), (.slice pa0_0 (length a_0.2.1.2) pc0_0), (.bool a_0.2.2.1.1), (.slice pa0_1 (length a_0.2.2.1.2) pc0_1), (.string a_0.2.2.2.1), (.int .i64 a_0.2.2.2.2)])), (1, (.agg #[(.int .i64 b_1.1), (.bool b_1.2.1.1), (.slice pa1_0 (length b_1.2.1.2) pc1_0), (.bool b_1.2.2.1.1), (.slice pa1_1 (length b_1.2.2.1.2) pc1_1), (.string b_1.2.2.2.1), (.int .i64 b_1.2.2.2.2)]))]) (by kernel_rfl) ?_
 refine gv_seq <| gv_region <| gv_new0 (fun b => .pointer (some ⟨b, 0, none⟩)) #[(.int .i64 a_0.1), (.bool a_0.2.1.1), (.slice pa0_0 (length a_0.2.1.2) pc0_0), (.bool a_0.2.2.1.1), (.slice pa0_1 (length a_0.2.2.1.2) pc0_1), (.string a_0.2.2.2.1), (.int .i64 a_0.2.2.2.2)] 41 (by kernel_rfl) (by kernel_rfl) ?_
 intro b1 w2 hg3 hb4 hbe5 hz6
 refine gv_new0 (fun b => .pointer (some ⟨b, 0, none⟩)) #[(.int .i64 b_1.1), (.bool b_1.2.1.1), (.slice pa1_0 (length b_1.2.1.2) pc1_0), (.bool b_1.2.2.1.1), (.slice pa1_1 (length b_1.2.2.1.2) pc1_1), (.string b_1.2.2.2.1), (.int .i64 b_1.2.2.2.2)] 41 (by kernel_rfl) (by kernel_rfl) ?_
 intro b7 w8 hg9 hb10 hbe11 hz12
 refine pN 1 [4] [] ?_
 refine gv_nil <| gv_seq <| gv_region <| bindE h0 ?_; clear h0; intro j13 h1 h0
 refine gv_cut_ops (J := fun a w14 => Below w0.heap.size w0 w14 ∧ w8.heap.size ≤ w14.heap.size ∧ a.defers = [] ∧ a.tmps.size = 38 ∧ Ok [(4, (.bool j13))] a.tmps) ?_ ?_
 ·skip
  refine pN 1 [5] [(5, (bp b1))] ?_
  have hk15 := hb4.grown hg9 nb
  refine gv_load (t := 3) (A := ⟨b1, 0, none⟩) (.int .i64 a_0.1) [] (fun e => by cases e) rfl rfl rfl (by kernel_rfl) (by kernel_rfl) (by kernel_rfl) (inw0 (hk15.cell 0 rfl)) rfl ?_
  refine pN 1 [7] [(7, (bp b7))] ?_
  refine gv_load (t := 3) (A := ⟨b7, 0, none⟩) (.int .i64 b_1.1) [] (fun e => by cases e) rfl rfl rfl (by kernel_rfl) (by kernel_rfl) (by kernel_rfl) (inw0 (hb10.cell 0 rfl)) rfl ?_
  refine pN 2 [9, 10] [(10, (.bool (a_0.1 == b_1.1)))] ?_
  refine gv_split (s := 10) (g := (a_0.1 == b_1.1)) (by kernel_rfl) (fun hc16 => ?_) (fun hc16 => ?_)
  ·skip
   replace h1 := ite_t hc16 h1
   refine pN 1 [11] [(11, (.pointer (some ⟨b1, 1, none⟩)))] ?_
   refine gv_loadAgg (t := 39) (A := ⟨b1, 1, none⟩) #[(.bool a_0.2.1.1), (.slice pa0_0 (length a_0.2.1.2) pc0_0)] [] (fun e => by cases e) rfl rfl rfl (by kernel_rfl) (by kernel_rfl) (by kernel_rfl) (by kernel_rfl) (inw0 (Box.part hk15 1 _ rfl)) rfl ?_
   refine pN 1 [13] [(13, (.pointer (some ⟨b7, 1, none⟩)))] ?_
   refine gv_loadAgg (t := 39) (A := ⟨b7, 1, none⟩) #[(.bool b_1.2.1.1), (.slice pa1_0 (length b_1.2.1.2) pc1_0)] [] (fun e => by cases e) rfl rfl rfl (by kernel_rfl) (by kernel_rfl) (by kernel_rfl) (by kernel_rfl) (inw0 (Box.part hb10 1 _ rfl)) rfl ?_
   refine bindE h1 ?_; clear h1; intro r17 hr18 h1
   have hg19 := (grown_trans hg3 hg9)
   have hB20 := bg hB0 hg19 nb
   refine gv_call0 (by kernel_rfl) rfl (by kernel_rfl) enters13 (ref3_SameInts_ok fuel pa0_0 pc0_0 (a_0.2.1.1, a_0.2.1.2) pa1_0 pc1_0 (b_1.2.1.1, b_1.2.1.2) w8 (fun k => X0 k ∨ X0 k) (fun k hk => (hk).elim (fun h => (fun k (hk : X0 k) => ltl (hX0 k hk) hB20.size) k h) (fun h => (fun k (hk : X0 k) => ltl (hX0 k hk) hB20.size) k h)) ((hpa0_0.below hB20 hX0).wide (fun k hk => (.inl hk))) ((hpa1_0.below hB20 hX0).wide (fun k hk => (.inr hk))) r17 hr18) ?_
   rintro v23 w21 ⟨hg22, rfl⟩
   refine pN 2 [16, 17] [(17, (.bool r17))] ?_
   refine gv_sub [2, 3, 17] (σ' := [(2, (bp b1)), (3, (bp b7)), (17, (.bool r17))]) (by kernel_rfl) ?_
   refine gv_split (s := 17) (g := r17) (by kernel_rfl) (fun hc24 => ?_) (fun hc24 => ?_)
   ·skip
    replace h1 := ite_t hc24 h1
    refine pN 1 [18] [(18, (.pointer (some ⟨b1, 3, none⟩)))] ?_
    have hk25 := hk15.grown hg22 nb
    refine gv_loadAgg (t := 39) (A := ⟨b1, 3, none⟩) #[(.bool a_0.2.2.1.1), (.slice pa0_1 (length a_0.2.2.1.2) pc0_1)] [] (fun e => by cases e) rfl rfl rfl (by kernel_rfl) (by kernel_rfl) (by kernel_rfl) (by kernel_rfl) (inw0 (Box.part hk25 3 _ rfl)) rfl ?_
    refine pN 1 [20] [(20, (.pointer (some ⟨b7, 3, none⟩)))] ?_
    have hk26 := hb10.grown hg22 nb
    refine gv_loadAgg (t := 39) (A := ⟨b7, 3, none⟩) #[(.bool b_1.2.2.1.1), (.slice pa1_1 (length b_1.2.2.1.2) pc1_1)] [] (fun e => by cases e) rfl rfl rfl (by kernel_rfl) (by kernel_rfl) (by kernel_rfl) (by kernel_rfl) (inw0 (Box.part hk26 3 _ rfl)) rfl ?_
    refine bindE h1 ?_; clear h1; intro r27 hr28 h1
    have hB29 := bg hB20 hg22 nb
    refine gv_call0 (by kernel_rfl) rfl (by kernel_rfl) enters13 (ref3_SameInts_ok fuel pa0_1 pc0_1 (a_0.2.2.1.1, a_0.2.2.1.2) pa1_1 pc1_1 (b_1.2.2.1.1, b_1.2.2.1.2) w21 (fun k => X0 k ∨ X0 k) (fun k hk => (hk).elim (fun h => (fun k (hk : X0 k) => ltl (hX0 k hk) hB29.size) k h) (fun h => (fun k (hk : X0 k) => ltl (hX0 k hk) hB29.size) k h)) ((hpa0_1.below hB29 hX0).wide (fun k hk => (.inl hk))) ((hpa1_1.below hB29 hX0).wide (fun k hk => (.inr hk))) r27 hr28) ?_
    rintro v32 w30 ⟨hg31, rfl⟩
    refine pN 2 [23, 24] [(24, (.bool r27))] ?_
    refine gv_split (s := 24) (g := r27) (by kernel_rfl) (fun hc33 => ?_) (fun hc33 => ?_)
    ·skip
     replace h1 := ite_t hc33 h1
     refine pN 1 [25] [(25, (.pointer (some ⟨b1, 5, none⟩)))] ?_
     have hk34 := hk25.grown hg31 nb
     refine gv_load (t := 9) (A := ⟨b1, 5, none⟩) (.string a_0.2.2.2.1) [] (fun e => by cases e) rfl rfl rfl (by kernel_rfl) (by kernel_rfl) (by kernel_rfl) (inw0 (hk34.cell 5 rfl)) rfl ?_
     refine pN 1 [27] [(27, (.pointer (some ⟨b7, 5, none⟩)))] ?_
     have hk35 := hk26.grown hg31 nb
     refine gv_load (t := 9) (A := ⟨b7, 5, none⟩) (.string b_1.2.2.2.1) [] (fun e => by cases e) rfl rfl rfl (by kernel_rfl) (by kernel_rfl) (by kernel_rfl) (inw0 (hk35.cell 5 rfl)) rfl ?_
     refine pN 3 [29, 30, 31] [(31, (.bool (a_0.2.2.2.1.toList == b_1.2.2.2.1.toList)))] ?_
     refine gv_split (s := 31) (g := (a_0.2.2.2.1.toList == b_1.2.2.2.1.toList)) (by kernel_rfl) (fun hc36 => ?_) (fun hc36 => ?_)
     ·skip
      replace h1 := ite_t hc36 h1
      refine pN 1 [32] [(32, (.pointer (some ⟨b1, 6, none⟩)))] ?_
      refine gv_load (t := 3) (A := ⟨b1, 6, none⟩) (.int .i64 a_0.2.2.2.2) [] (fun e => by cases e) rfl rfl rfl (by kernel_rfl) (by kernel_rfl) (by kernel_rfl) (inw0 (hk34.cell 6 rfl)) rfl ?_
      refine pN 1 [34] [(34, (.pointer (some ⟨b7, 6, none⟩)))] ?_
      refine gv_sub [31, 33, 34] (σ' := [(31, (.bool true)), (33, (.int .i64 a_0.2.2.2.2)), (34, (.pointer (some ⟨b7, 6, none⟩)))]) (by kernel_rfl) ?_
      refine gv_load (t := 3) (A := ⟨b7, 6, none⟩) (.int .i64 b_1.2.2.2.2) [] (fun e => by cases e) rfl rfl rfl (by kernel_rfl) (by kernel_rfl) (by kernel_rfl) (inw0 (hk35.cell 6 rfl)) rfl ?_
      refine pN 3 [4, 36, 37] [(4, (.bool (a_0.2.2.2.2 == b_1.2.2.2.2)))] ?_
      refine gv_nil ?_
      have e := sj h1; subst e
      refine gv_goal fun a hd hs hok => ?_
      have hB37 := bg hB29 hg31 nb
      have hz38 := (nt hg22.size hg31.size)
      exact ⟨hB37, hz38, hd, hs, okp [4] hok⟩
     ·skip
      replace h1 := ite_f hc36 h1
      refine pN 7 [4, 32, 33, 34, 35, 36, 37] [(4, (.bool false))] ?_
      refine gv_nil ?_
      have e := sj h1; subst e
      refine gv_goal fun a hd hs hok => ?_
      have hB39 := bg hB29 hg31 nb
      have hz40 := (nt hg22.size hg31.size)
      exact ⟨hB39, hz40, hd, hs, okp [4] hok⟩
    ·skip
     replace h1 := ite_f hc33 h1
     refine pN 14 [4, 25, 26, 27, 28, 29, 30, 31, 32, 33, 34, 35, 36, 37] [(4, (.bool false))] ?_
     refine gv_nil ?_
     have e := sj h1; subst e
     refine gv_goal fun a hd hs hok => ?_
     have hB41 := bg hB29 hg31 nb
     have hz42 := (nt hg22.size hg31.size)
     exact ⟨hB41, hz42, hd, hs, okp [4] hok⟩
   ·skip
    replace h1 := ite_f hc24 h1
    refine pN 21 [4, 18, 19, 20, 21, 22, 23, 24, 25, 26, 27, 28, 29, 30, 31, 32, 33, 34, 35, 36, 37] [(4, (.bool false))] ?_
    refine gv_nil ?_
    have e := sj h1; subst e
    refine gv_goal fun a hd hs hok => ?_
    have hB43 := bg hB20 hg22 nb
    have hz44 := hg22.size
    exact ⟨hB43, hz44, hd, hs, okp [4] hok⟩
  ·skip
   replace h1 := ite_f hc16 h1
   refine pN 28 [4, 11, 12, 13, 14, 15, 16, 17, 18, 19, 20, 21, 22, 23, 24, 25, 26, 27, 28, 29, 30, 31, 32, 33, 34, 35, 36, 37] [(4, (.bool false))] ?_
   refine gv_nil ?_
   have e := sj h1; subst e
   refine gv_goal fun a hd hs hok => ?_
   have hg45 := (grown_trans hg3 hg9)
   have hB46 := bg hB0 hg45 nb
   exact ⟨hB46, nrf, hd, hs, okp [4] hok⟩
 ·rintro a w14 ⟨hB47, hz48, hd, hs, hok⟩
  refine gv_in ?_ hd hs hok
  clear hd hs hok
  clear hz48 hz12 hbe11 hb10 hg9 hz6 hbe5 hb4 hg3
  refine gv_cret ?_
  have e := sj h0; subst e
  refine gv_ret (gv_done [(.bool j13)] rfl ⟨(by kernel_rfl), trivial⟩ ?_)
  exact ⟨grown_of_below hB47, rfl⟩

theorem ref3_SameValues_ok (fuel : Nat) (pa0_0 : Option Addr) (pc0_0 : Nat) (a_0 : (List (Int × (Bool × (List Int)) × (Bool × (List Int)) × ByteArray × Int))) (pa1_0 : Option Addr) (pc1_0 : Nat) (b_1 : (List (Int × (Bool × (List Int)) × (Bool × (List Int)) × ByteArray × Int))) (w0 : World) (X0 : Nat → Prop) (hX0 : ∀ k, X0 k → k < w0.heap.size) (hpa0_0 : Rd (prE (iE .i64) (prE (prE tE (slE (iE .u32))) (prE (prE tE (slE (iE .u32))) (prE sE (iE .i64))))) w0 X0 pa0_0 pc0_0 a_0) (hpa1_0 : Rd (prE (iE .i64) (prE (prE tE (slE (iE .u32))) (prE (prE tE (slE (iE .u32))) (prE sE (iE .i64))))) w0 X0 pa1_0 pc1_0 b_1) (r0 : Bool) (h0 : ref3_SameValues fuel a_0 b_1 = some r0) :
    Calls Tryz.prog 8 ([(.slice pa0_0 (length a_0) pc0_0), (.slice pa1_0 (length b_1) pc1_0)] : List Value).toArray w0 (Ret fun v w' => w0.grownBy w' none ∧ v = tup [(.bool r0)]) := by
 have hB0 : Below w0.heap.size w0 w0 := Below.refl _ _
 unfold ref3_SameValues at h0
 refine calls_run Tryz.func8 rfl Tryz.ntmps8 (by kernel_rfl) ?_
 refine gv_sub [0, 1] (σ' := [(0, (.slice pa0_0 (length a_0) pc0_0)), (1, (.slice pa1_0 (length b_1) pc1_0))]) (by kernel_rfl) ?_
 refine gv_seq <| gv_region <| pN 1 [4] [] ?_
 refine gv_nil <| gv_seq <| gv_seq <| gv_region <| pN 5 [6, 7, 8, 9, 10] [(10, (.bool (((length a_0 : Nat) : Int) != ((length b_1 : Nat) : Int))))] ?_
 refine gv_nil <| gv_cond (b := (((length a_0 : Nat) : Int) != ((length b_1 : Nat) : Int))) (by kernel_rfl) (fun hc1 => ?_) (fun hc1 => ?_)
 ·replace h0 := ite_t hc1 h0
  refine gv_seq <| gv_region <| pN 1 [4] [(4, (.bool false))] ?_
  refine gv_nil <| gv_cret ?_
  have e := sj h0; subst e
  refine gv_ret (gv_done [(.bool false)] rfl ⟨(by kernel_rfl), trivial⟩ ?_)
  exact ⟨grown_of_below hB0, rfl⟩
 ·replace h0 := ite_f hc1 h0
  refine gv_skip <| gv_seq <| gv_seq <| gv_region <| pN 1 [5] [(5, (.int .i64 0))] ?_
  refine gv_nil <| bindE h0 ?_; clear h0; intro j2 h1 h0
  refine gv_cut_code (J := fun a w4 => ∃ s3 : Unit, j2 = .inl s3 ∧ Below w0.heap.size w0 w4 ∧ w0.heap.size ≤ w4.heap.size ∧ a.defers = [] ∧ a.tmps.size = 27 ∧ Ok [] a.tmps) ?_ ?_
  ·skip
   refine gv_block <| gv_loop (A := fun (s5 : Int) a w6 => Below w0.heap.size w0 w6 ∧ w0.heap.size ≤ w6.heap.size ∧ a.defers = [] ∧ a.tmps.size = 27 ∧ Ok [(0, (.slice pa0_0 (length a_0) pc0_0)), (1, (.slice pa1_0 (length b_1) pc1_0)), (5, (.int .i64 s5))] a.tmps) h1 ?_ ?_
   ·intro a hd hs hok
    exact ⟨hB0, nrf, hd, hs, okp [0, 1, 5] hok⟩
   ·rintro s5 r2 h2 hR2 a w6 ⟨hB7, hz8, hd, hs, hok⟩
    refine gv_in ?_ hd hs hok
    clear hd hs hok
    refine gv_seq <| gv_seq <| gv_region <| pN 4 [11, 12, 13, 14] [(14, (.bool (decide (s5 < ((length a_0 : Nat) : Int)))))] ?_
    refine gv_nil <| gv_cond (b := (decide (s5 < ((length a_0 : Nat) : Int)))) (by kernel_rfl) (fun hc9 => ?_) (fun hc9 => ?_)
    ·replace h2 := ite_t hc9 h2
     refine gv_skip <| gv_seq <| gv_block <| gv_seq <| gv_drawA (by kernel_rfl) ?_
     intro w10 hg11
     refine gv_pre [0, 1, 2, 4, 5, 6] (bA 10 [0, 1, 2, 4, 5, 6]) 4 (by kernel_rfl) (by kernel_rfl) ?_
     refine pN 2 [17, 18] [(17, (.slice pa0_0 (length a_0) pc0_0)), (18, (.int .i64 s5))] ?_
     refine bindE h2 ?_; clear h2; intro x12 hx13 h2
     have hB14 := bg hB7 hg11 nb
     refine gv_idxaddr (t := 24) (e := 41) (a := pa0_0) (len := length a_0) (cap := pc0_0) (kk := .i64) (i := s5) (sz := 7) [] (fun e => by cases e) rfl rfl rfl (by kernel_rfl) (by kernel_rfl) Tryz.underlying24 (by kernel_rfl) ((hpa0_0.below hB14 hX0).has hx13) (idx_spec hx13).1 (idx_spec hx13).2.1 rfl ?_
     refine pN 2 [21, 22] [(21, (.slice pa1_0 (length b_1) pc1_0)), (22, (.int .i64 s5))] ?_
     refine bindE h2 ?_; clear h2; intro x15 hx16 h2
     refine gv_idxaddr (t := 24) (e := 41) (a := pa1_0) (len := length b_1) (cap := pc1_0) (kk := .i64) (i := s5) (sz := 7) [] (fun e => by cases e) rfl rfl rfl (by kernel_rfl) (by kernel_rfl) Tryz.underlying24 (by kernel_rfl) ((hpa1_0.below hB14 hX0).has hx16) (idx_spec hx16).1 (idx_spec hx16).2.1 rfl ?_
     refine gv_nil <| gv_goA ?_
     refine gv_stage (Cls w10 []) [0, 1, 2, 3, 4, 5, 6, 7] [(3, some true), (7, some true)] (bA 10 [0, 1, 2, 3, 4, 5, 6, 7]) 2 (by kernel_rfl) (by kernel_rfl) (Cls.refl _ _) ?_
     have hC17 := Cls.refl w10 []
     obtain ⟨_, ⟨_, _, rfl, rfl, ⟨_, _, rfl, ⟨_, _, rfl, rfl, ⟨a19, c20, rfl, hr21⟩⟩, ⟨_, _, rfl, ⟨_, _, rfl, rfl, ⟨a22, c23, rfl, hr24⟩⟩, ⟨_, _, rfl, rfl, rfl⟩⟩⟩⟩, hc18⟩ := hpa0_0.cellsK hx13
     refine gv_loadAgg (t := 41) (A := (elemAddr pa0_0 ((s5 : Int).toNat * 7))) #[(.int .i64 x12.1), (.bool x12.2.1.1), (.slice a19 (length x12.2.1.2) c20), (.bool x12.2.2.1.1), (.slice a22 (length x12.2.2.1.2) c23), (.string x12.2.2.2.1), (.int .i64 x12.2.2.2.2)] [] (fun e => by cases e) rfl rfl rfl (by kernel_rfl) (by kernel_rfl) (by kernel_rfl) (by kernel_rfl) (inw1 fun w' hC' => (hc18 w' (fun k hk => (hC'.2 k ((fun k (hk : X0 k) => ltl (hX0 k hk) hB14.size) k hk) (fun hg => nmx_nil k hg hk)).trans (hB14.block k (hX0 k hk))))) rfl ?_
     obtain ⟨_, ⟨_, _, rfl, rfl, ⟨_, _, rfl, ⟨_, _, rfl, rfl, ⟨a26, c27, rfl, hr28⟩⟩, ⟨_, _, rfl, ⟨_, _, rfl, rfl, ⟨a29, c30, rfl, hr31⟩⟩, ⟨_, _, rfl, rfl, rfl⟩⟩⟩⟩, hc25⟩ := hpa1_0.cellsK hx16
     refine gv_loadAgg (t := 41) (A := (elemAddr pa1_0 ((s5 : Int).toNat * 7))) #[(.int .i64 x15.1), (.bool x15.2.1.1), (.slice a26 (length x15.2.1.2) c27), (.bool x15.2.2.1.1), (.slice a29 (length x15.2.2.1.2) c30), (.string x15.2.2.2.1), (.int .i64 x15.2.2.2.2)] [] (fun e => by cases e) rfl rfl rfl (by kernel_rfl) (by kernel_rfl) (by kernel_rfl) (by kernel_rfl) (inw1 fun w' hC' => (hc25 w' (fun k hk => (hC'.2 k ((fun k (hk : X0 k) => ltl (hX0 k hk) hB14.size) k hk) (fun hg => nmx_nil k hg hk)).trans (hB14.block k (hX0 k hk))))) rfl ?_
     refine gv_nil <| gv_goA ?_
     refine gv_stage (fun _ => True) [0, 1, 2, 3, 4, 5, 6, 7, 8] [(8, some false)] (bA 10 [0, 1, 2, 3, 4, 5, 6, 7, 8]) 1 (by kernel_rfl) (by kernel_rfl) trivial ?_
     refine bindE h2 ?_; clear h2; intro r32 hr33 h2
     refine gv_call (f := 31) (vs := [(.agg #[(.int .i64 x12.1), (.bool x12.2.1.1), (.slice a19 (length x12.2.1.2) c20), (.bool x12.2.2.1.1), (.slice a22 (length x12.2.2.1.2) c23), (.string x12.2.2.2.1), (.int .i64 x12.2.2.2.2)]), (.agg #[(.int .i64 x15.1), (.bool x15.2.1.1), (.slice a26 (length x15.2.1.2) c27), (.bool x15.2.2.1.1), (.slice a29 (length x15.2.2.1.2) c30), (.string x15.2.2.2.1), (.int .i64 x15.2.2.2.2)])]) (cap := []) _ (by decide) rfl rfl rfl (by kernel_rfl) (by kernel_rfl) enters31 (ref3_SameValue_ok fuel a19 c20 a22 c23 (x12.1, (x12.2.1.1, x12.2.1.2), (x12.2.2.1.1, x12.2.2.1.2), x12.2.2.2.1, x12.2.2.2.2) a26 c27 a29 c30 (x15.1, (x15.2.1.1, x15.2.1.2), (x15.2.2.1.1, x15.2.2.1.2), x15.2.2.2.1, x15.2.2.2.2) w10 (fun k => X0 k ∨ X0 k ∨ X0 k ∨ X0 k) (fun k hk => (hk).elim (fun h => (fun k (hk : X0 k) => ltl (hX0 k hk) hB14.size) k h) (fun h => (h).elim (fun h => (fun k (hk : X0 k) => ltl (hX0 k hk) hB14.size) k h) (fun h => (h).elim (fun h => (fun k (hk : X0 k) => ltl (hX0 k hk) hB14.size) k h) (fun h => (fun k (hk : X0 k) => ltl (hX0 k hk) hB14.size) k h)))) ((hr21.below hB14 hX0).wide (fun k hk => (.inl hk))) ((hr24.below hB14 hX0).wide (fun k hk => (.inr (.inl hk)))) ((hr28.below hB14 hX0).wide (fun k hk => (.inr (.inr (.inl hk))))) ((hr31.below hB14 hX0).wide (fun k hk => (.inr (.inr (.inr hk))))) r32 hr33) ?_
     rintro v36 w34 ⟨hg35, rfl⟩
     refine ⟨(fun _ => trivial), ?_⟩
     refine gv_nil <| gv_goA ?_
     refine gv_pre [9] (bA 10 [0, 1, 2, 3, 4, 5, 6, 7, 8, 9]) 0 (by kernel_rfl) (by kernel_rfl) ?_
     refine pN 1 [26] [(26, (.bool (!r32)))] ?_
     refine gv_nil <| gv_goA ?_
     refine gv_stageE (by kernel_rfl) ?_
     refine gv_cond (b := (!r32)) (by kernel_rfl) (fun hc37 => ?_) (fun hc37 => ?_)
     ·replace h2 := ite_t hc37 h2
      refine gv_seq <| gv_region <| pN 1 [4] [(4, (.bool false))] ?_
      refine gv_nil <| gv_cret ?_
      have e := sj h2; subst e
      replace h1 := congrArg some (hR2 _ rfl)
      have e := sj h1; subst e
      replace h0 := cont_inr h0
      have e := sj h0; subst e
      refine gv_ret (gv_done [(.bool false)] rfl ⟨(by kernel_rfl), trivial⟩ ?_)
      have hB38 := bg hB14 hg35 nb
      exact ⟨grown_of_below hB38, rfl⟩
     ·replace h2 := ite_f hc37 h2
      refine gv_skip <| gv_blk <| gv_region <| pN 3 [5, 15, 16] [(5, (.int .i64 (IntKind.i64.wrap (s5 + 1))))] ?_
      refine gv_nil ?_
      have e := sj h2; subst e
      refine gv_goal fun a hd hs hok => ?_
      have hB39 := bg hB14 hg35 nb
      have hz40 := (nt (nt hz8 hg11.size) hg35.size)
      exact ⟨(IntKind.i64.wrap (s5 + 1)), rfl, hB39, hz40, hd, hs, okp [0, 1, 5] hok⟩
    ·replace h2 := ite_f hc9 h2
     refine gv_cexit <| gv_exit rfl ?_
     have e := sj h2; subst e
     replace h1 := congrArg some (hR2 _ rfl)
     have e := sj h1; subst e
     refine gv_goal fun a hd hs hok => ?_
     have hz41 := hz8
     exact ⟨(), rfl, hB7, hz41, hd, hs, okp [] hok⟩
  ·rintro a w4 ⟨s3, e, hB42, hz43, hd, hs, hok⟩
   subst e
   refine gv_in ?_ hd hs hok
   clear hd hs hok
   replace h0 := cont_inl h0
   refine gv_seq <| gv_region <| pN 1 [4] [(4, (.bool true))] ?_
   refine gv_nil <| gv_cret ?_
   have e := sj h0; subst e
   refine gv_ret (gv_done [(.bool true)] rfl ⟨(by kernel_rfl), trivial⟩ ?_)
   exact ⟨grown_of_below hB42, rfl⟩

theorem law4_packs_ok (fuel : Nat)  (w0 : World) (X0 : Nat → Prop) (hX0 : ∀ k, X0 k → k < w0.heap.size) {erx : TypeId × Value} (hG4 : Rd eE w0 X0 (some ⟨4, 0, none⟩) 1 [erx]) (r0 : Bool) (h0 : law4_packs fuel  = some r0) :
    Calls Tryz.prog 7 ([] : List Value).toArray w0 (Ret fun v w' => w0.grownBy w' none ∧ v = tup [(.bool r0)]) := by
 have hB0 : Below w0.heap.size w0 w0 := Below.refl _ _
 unfold law4_packs at h0
 refine calls_run Tryz.func7 rfl Tryz.ntmps7 (by kernel_rfl) ?_
 refine gv_sub [] (σ' := []) (by kernel_rfl) ?_
 refine gv_seq <| gv_region <| pN 1 [0] [] ?_
 refine gv_nil <| gv_seq <| gv_region <| bindE h0 ?_; clear h0; intro r1 hr2 h0
 refine gv_call0 (by kernel_rfl) rfl (by kernel_rfl) enters29 (packing_Parse_ok fuel (strOf [62, 104, 118]) w0 (fun k => X0 k) (fun k hk => (fun k (hk : X0 k) => ltl (hX0 k hk) hB0.size) k hk) ((hG4.below hB0 hX0).wide (fun k hk => hk)) r1 hr2) ?_
 rintro v5 w3 ⟨hg4, a6, c7, rfl, ho8, hl9⟩
 have hl10 : ∀ g, blk a6 = some g → w0.heap.size ≤ g := fun g e => Nat.le_trans hB0.size (hl9 g e)
 refine pN 3 [7, 9, 10] [(9, (.slice a6 (length r1.1) c7)), (10, (.agg #[(.int .i64 r1.2.1), (.int .i64 r1.2.2)]))] ?_
 refine gv_new0 (fun b => .pointer (some ⟨b, 0, none⟩)) #[(.int .i64 0), (.int .i64 0)] 26 (by kernel_rfl) (by kernel_rfl) ?_
 intro b11 w12 hg13 hb14 hbe15 hz16
 refine pN 1 [1] [(1, (.slice a6 (length r1.1) c7))] ?_
 refine gv_store0 26 0 (.agg #[(.int .i64 r1.2.1), (.int .i64 r1.2.2)]) #[(.int .i64 r1.2.1), (.int .i64 r1.2.2)] hb14 (by kernel_rfl) (by kernel_rfl) (by kernel_rfl) ?_
 intro w17 hg18 hb19 hz20
 refine gv_nil <| gv_seq <| gv_region <| pN 1 [12] [(12, (.slice a6 (length r1.1) c7))] ?_
 refine bindE h0 ?_; clear h0; intro r21 hr22 h0
 refine gv_call0 (by kernel_rfl) rfl (by kernel_rfl) enters30 (law4_whole_ok fuel 258 w17  r21 hr22) ?_
 rintro v25 w23 ⟨hg24, a26, c27, a30, c31, rfl, ho28, hl29, ho32, hl33, ap34⟩
 have hg36 := (grown_trans hg4 hg13)
 have hB37 := bg hB0 hg36 nb
 have hB38 := bg hB0 hg4 nb
 have hlo39 : w0.heap.size ≤ b11 := lob hbe15 hB38.size
 have hB40 := bg hB37 hg18 (rowlo hlo39)
 have hl35 : ∀ g, blk a26 = some g → w0.heap.size ≤ g := fun g e => Nat.le_trans hB40.size (hl29 g e)
 have hl41 : ∀ g, blk a30 = some g → w0.heap.size ≤ g := fun g e => Nat.le_trans hB40.size (hl33 g e)
 refine bindE h0 ?_; clear h0; intro r42 hr43 h0
 refine gv_call0 (by kernel_rfl) rfl (by kernel_rfl) enters30 (law4_whole_ok fuel (-3) w23  r42 hr43) ?_
 rintro v46 w44 ⟨hg45, a47, c48, a51, c52, rfl, ho49, hl50, ho53, hl54, ap55⟩
 have hB57 := bg hB40 hg24 nb
 have hl56 : ∀ g, blk a47 = some g → w0.heap.size ≤ g := fun g e => Nat.le_trans hB57.size (hl50 g e)
 have hl58 : ∀ g, blk a51 = some g → w0.heap.size ≤ g := fun g e => Nat.le_trans hB57.size (hl54 g e)
 refine gv_new0 (fun b => .slice (some ⟨b, 0, none⟩) 2 2) #[(.int .i64 r21.1), (.bool r21.2.1.1), (.slice a26 (length r21.2.1.2) c27), (.bool r21.2.2.1.1), (.slice a30 (length r21.2.2.1.2) c31), (.string r21.2.2.2.1), (.int .i64 r21.2.2.2.2), (.int .i64 r42.1), (.bool r42.2.1.1), (.slice a47 (length r42.2.1.2) c48), (.bool r42.2.2.1.1), (.slice a51 (length r42.2.2.1.2) c52), (.string r42.2.2.2.1), (.int .i64 r42.2.2.2.2)] 41 (by kernel_rfl) (by kernel_rfl) ?_
 intro b59 w60 hg61 hb62 hbe63 hz64
 obtain ⟨X70, e⟩ : ∃ X : Nat → Prop, X = (fun k => (fun k => blk a26 = some k) k ∨ (fun k => blk a30 = some k) k ∨ (fun k => blk a47 = some k) k ∨ (fun k => blk a51 = some k) k) := ⟨_, rfl⟩
 have hk71 := ho28.grown hg45 (fun _ h => h.elim) nb
 have hk72 := ho32.grown hg45 (fun _ h => h.elim) nb
 have hx68 : ∀ k, X70 k → k < w44.heap.size := fun k h => by rw [e] at h; exact (h).elim (fun h => (fun k (hk : blk a26 = some k) => hk71.lt k hk) k h) (fun h => (h).elim (fun h => (fun k (hk : blk a30 = some k) => hk72.lt k hk) k h) (fun h => (h).elim (fun h => (fun k (hk : blk a47 = some k) => ho49.lt k hk) k h) (fun h => (fun k (hk : blk a51 = some k) => ho53.lt k hk) k h)))
 have hz73 := hg61.size
 have hx67 : ∀ k, X70 k → k < w60.heap.size := fun k h => ltl (hx68 k h) hz73
 have hx69 : ∀ k, X70 k → X0 k ∨ w0.heap.size ≤ k := fun k h => by rw [e] at h; exact (h).elim (fun h => (fun k (hk : blk a26 = some k) => Or.inr (hl35 k hk)) k h) (fun h => (h).elim (fun h => (fun k (hk : blk a30 = some k) => Or.inr (hl41 k hk)) k h) (fun h => (h).elim (fun h => (fun k (hk : blk a47 = some k) => Or.inr (hl56 k hk)) k h) (fun h => (fun k (hk : blk a51 = some k) => Or.inr (hl58 k hk)) k h)))
 have hk74 := hk71.grown hg61 (fun _ h => h.elim) nb
 have hk75 := hk72.grown hg61 (fun _ h => h.elim) nb
 have hk76 := ho49.grown hg61 (fun _ h => h.elim) nb
 have hk77 := ho53.grown hg61 (fun _ h => h.elim) nb
 have ho65 : Gv.Own (prE (iE .i64) (prE (prE tE (slE (iE .u32))) (prE (prE tE (slE (iE .u32))) (prE sE (iE .i64))))) 41 w60 X70 (some ⟨b59, 0, none⟩) 2 ([(r21.1, (r21.2.1.1, r21.2.1.2), (r21.2.2.1.1, r21.2.2.1.2), r21.2.2.2.1, r21.2.2.2.2), (r42.1, (r42.2.1.1, r42.2.1.2), (r42.2.2.1.1, r42.2.2.1.2), r42.2.2.2.1, r42.2.2.2.2)] : List (Int × (Bool × (List Int)) × (Bool × (List Int)) × ByteArray × Int)) := Box.ownE hb62 (by rw [e]; exact ⟨[(.int .i64 r21.1), (.bool r21.2.1.1), (.slice a26 (length r21.2.1.2) c27), (.bool r21.2.2.1.1), (.slice a30 (length r21.2.2.1.2) c31), (.string r21.2.2.2.1), (.int .i64 r21.2.2.2.2)], [(.int .i64 r42.1), (.bool r42.2.1.1), (.slice a47 (length r42.2.1.2) c48), (.bool r42.2.2.1.1), (.slice a51 (length r42.2.2.1.2) c52), (.string r42.2.2.2.1), (.int .i64 r42.2.2.2.2)], rfl, ⟨[(.int .i64 r21.1)], [(.bool r21.2.1.1), (.slice a26 (length r21.2.1.2) c27), (.bool r21.2.2.1.1), (.slice a30 (length r21.2.2.1.2) c31), (.string r21.2.2.2.1), (.int .i64 r21.2.2.2.2)], rfl, rfl, ⟨[(.bool r21.2.1.1), (.slice a26 (length r21.2.1.2) c27)], [(.bool r21.2.2.1.1), (.slice a30 (length r21.2.2.1.2) c31), (.string r21.2.2.2.1), (.int .i64 r21.2.2.2.2)], rfl, ⟨[(.bool r21.2.1.1)], [(.slice a26 (length r21.2.1.2) c27)], rfl, rfl, ⟨a26, c27, rfl, ((hk74.rd (Y := fun k => blk a26 = some k) (fun _ h => h.elim) (fun g e => e)).wide (fun _ h => (.inl h)))⟩⟩, ⟨[(.bool r21.2.2.1.1), (.slice a30 (length r21.2.2.1.2) c31)], [(.string r21.2.2.2.1), (.int .i64 r21.2.2.2.2)], rfl, ⟨[(.bool r21.2.2.1.1)], [(.slice a30 (length r21.2.2.1.2) c31)], rfl, rfl, ⟨a30, c31, rfl, ((hk75.rd (Y := fun k => blk a30 = some k) (fun _ h => h.elim) (fun g e => e)).wide (fun _ h => (.inr (.inl h))))⟩⟩, ⟨[(.string r21.2.2.2.1)], [(.int .i64 r21.2.2.2.2)], rfl, rfl, rfl⟩⟩⟩⟩, ⟨[(.int .i64 r42.1), (.bool r42.2.1.1), (.slice a47 (length r42.2.1.2) c48), (.bool r42.2.2.1.1), (.slice a51 (length r42.2.2.1.2) c52), (.string r42.2.2.2.1), (.int .i64 r42.2.2.2.2)], [], rfl, ⟨[(.int .i64 r42.1)], [(.bool r42.2.1.1), (.slice a47 (length r42.2.1.2) c48), (.bool r42.2.2.1.1), (.slice a51 (length r42.2.2.1.2) c52), (.string r42.2.2.2.1), (.int .i64 r42.2.2.2.2)], rfl, rfl, ⟨[(.bool r42.2.1.1), (.slice a47 (length r42.2.1.2) c48)], [(.bool r42.2.2.1.1), (.slice a51 (length r42.2.2.1.2) c52), (.string r42.2.2.2.1), (.int .i64 r42.2.2.2.2)], rfl, ⟨[(.bool r42.2.1.1)], [(.slice a47 (length r42.2.1.2) c48)], rfl, rfl, ⟨a47, c48, rfl, ((hk76.rd (Y := fun k => blk a47 = some k) (fun _ h => h.elim) (fun g e => e)).wide (fun _ h => (.inr (.inr (.inl h)))))⟩⟩, ⟨[(.bool r42.2.2.1.1), (.slice a51 (length r42.2.2.1.2) c52)], [(.string r42.2.2.2.1), (.int .i64 r42.2.2.2.2)], rfl, ⟨[(.bool r42.2.2.1.1)], [(.slice a51 (length r42.2.2.1.2) c52)], rfl, rfl, ⟨a51, c52, rfl, ((hk77.rd (Y := fun k => blk a51 = some k) (fun _ h => h.elim) (fun g e => e)).wide (fun _ h => (.inr (.inr (.inr h)))))⟩⟩, ⟨[(.string r42.2.2.2.1)], [(.int .i64 r42.2.2.2.2)], rfl, rfl, rfl⟩⟩⟩⟩, rfl⟩⟩) (show 2 ≤ maxLen by decide) (fun h => noteq hbe63 (hx68 _ h))
 have hx78 : ∀ k, X70 k → (fun k => (fun k => blk a26 = some k) k ∨ (fun k => blk a30 = some k) k ∨ (fun k => blk a47 = some k) k ∨ (fun k => blk a51 = some k) k) k := fun k h => by rw [e] at h; exact h
 clear e
 have hB79 := bg hB57 hg45 nb
 have hl66 : ∀ g, blk (some ⟨b59, 0, none⟩) = some g → w0.heap.size ≤ g := loo hbe63 hB79.size
 have ap81 : ¬ (fun k => blk a6 = some k) b11 := fun hx => nl ((lowb hbe15) _ rfl) ((fun k (hk : blk a6 = some k) => ho8.lt k hk) _ hx)
 have hg82 := (grown_trans hg24 hg45)
 have hk83 := ((ho8.grown hg13 (fun _ h => h.elim) nb).grown hg18 (fun _ h => h.elim) (rdnn (rowne ap81))).grown hg82 (fun _ h => h.elim) nb
 have ap80 : ∀ g, blk (some ⟨b59, 0, none⟩) = some g → ¬ (fun k => blk a6 = some k) g := fun g e hx => nl (lowo hbe63 g e) ((fun k (hk : blk a6 = some k) => hk83.lt k hk) _ hx)
 have hk85 := (ho8.grown hg13 (fun _ h => h.elim) nb).grown hg18 (fun _ h => h.elim) (rdnn (rowne ap81))
 have ap86 : ∀ g, blk a6 = some g → ¬ (fun k => blk a26 = some k) g := fun g e hx => nl ((show ∀ k, blk a26 = some k → w17.heap.size ≤ k from hl29) _ hx) ((fun k (hk : blk a6 = some k) => hk85.lt k hk) g e)
 have ap87 : ∀ g, blk a6 = some g → ¬ (fun k => blk a30 = some k) g := fun g e hx => nl ((show ∀ k, blk a30 = some k → w17.heap.size ≤ k from hl33) _ hx) ((fun k (hk : blk a6 = some k) => hk85.lt k hk) g e)
 have hk88 := hk85.grown hg24 (fun _ h => h.elim) nb
 have ap89 : ∀ g, blk a6 = some g → ¬ (fun k => blk a47 = some k) g := fun g e hx => nl ((show ∀ k, blk a47 = some k → w23.heap.size ≤ k from hl50) _ hx) ((fun k (hk : blk a6 = some k) => hk88.lt k hk) g e)
 have ap90 : ∀ g, blk a6 = some g → ¬ (fun k => blk a51 = some k) g := fun g e hx => nl ((show ∀ k, blk a51 = some k → w23.heap.size ≤ k from hl54) _ hx) ((fun k (hk : blk a6 = some k) => hk88.lt k hk) g e)
 have ap84 : ∀ g, blk a6 = some g → ¬ (fun k => blk (some ⟨b59, 0, none⟩) = some k ∨ X70 k) g := fun g e h => h.elim (fun h => nl (lowo hbe63 _ h) ((fun k (hk : blk a6 = some k) => hk83.lt k hk) g e)) (fun h => ((hx78 _ h)).elim (fun h => (ap86) g e h) (fun h => (h).elim (fun h => (ap87) g e h) (fun h => (h).elim (fun h => (ap89) g e h) (fun h => (ap90) g e h))))
 have hk92 := hb19.grown hg82 nb
 have ap91 : ∀ g, blk (some ⟨b59, 0, none⟩) = some g → ¬ (· = b11) g := fun g e hx => nl (lowo hbe63 g e) ((ltb hk92) _ hx)
 have ap94 : ¬ (fun k => blk a26 = some k) b11 := fun hx => nl ((show ∀ k, blk a26 = some k → w17.heap.size ≤ k from hl29) _ hx) ((ltb hb19) _ rfl)
 have ap95 : ¬ (fun k => blk a30 = some k) b11 := fun hx => nl ((show ∀ k, blk a30 = some k → w17.heap.size ≤ k from hl33) _ hx) ((ltb hb19) _ rfl)
 have hk96 := hb19.grown hg24 nb
 have ap97 : ¬ (fun k => blk a47 = some k) b11 := fun hx => nl ((show ∀ k, blk a47 = some k → w23.heap.size ≤ k from hl50) _ hx) ((ltb hk96) _ rfl)
 have ap98 : ¬ (fun k => blk a51 = some k) b11 := fun hx => nl ((show ∀ k, blk a51 = some k → w23.heap.size ≤ k from hl54) _ hx) ((ltb hk96) _ rfl)
 have ap93 : ¬ (fun k => blk (some ⟨b59, 0, none⟩) = some k ∨ X70 k) b11 := fun h => h.elim (fun h => nl (lowo hbe63 _ h) ((ltb hk92) _ rfl)) (fun h => ((hx78 _ h)).elim (fun h => (ap94)  h) (fun h => (h).elim (fun h => (ap95)  h) (fun h => (h).elim (fun h => (ap97)  h) (fun h => (ap98)  h))))
 have ap99 : ∀ g, blk (some ⟨b59, 0, none⟩) = some g → ¬ (fun k => blk a26 = some k) g := fun g e hx => nl (lowo hbe63 g e) ((fun k (hk : blk a26 = some k) => hk71.lt k hk) _ hx)
 have ap100 : ∀ g, blk (some ⟨b59, 0, none⟩) = some g → ¬ (fun k => blk a30 = some k) g := fun g e hx => nl (lowo hbe63 g e) ((fun k (hk : blk a30 = some k) => hk72.lt k hk) _ hx)
 have ap101 : ∀ g, blk (some ⟨b59, 0, none⟩) = some g → ¬ (fun k => blk a47 = some k) g := fun g e hx => nl (lowo hbe63 g e) ((fun k (hk : blk a47 = some k) => ho49.lt k hk) _ hx)
 have ap102 : ∀ g, blk (some ⟨b59, 0, none⟩) = some g → ¬ (fun k => blk a51 = some k) g := fun g e hx => nl (lowo hbe63 g e) ((fun k (hk : blk a51 = some k) => ho53.lt k hk) _ hx)
 refine bindE h0 ?_; clear h0; intro r103 hr104 h0
 have hk105 := hk83.grown hg61 (fun _ h => h.elim) nb
 refine gv_call0 (by kernel_rfl) rfl (by kernel_rfl) enters9 (packing_Pack_ok fuel a6 c7 r1.1 (some ⟨b59, 0, none⟩) 2 ([(r21.1, (r21.2.1.1, r21.2.1.2), (r21.2.2.1.1, r21.2.2.1.2), r21.2.2.2.1, r21.2.2.2.2), (r42.1, (r42.2.1.1, r42.2.1.2), (r42.2.2.1.1, r42.2.2.1.2), r42.2.2.2.1, r42.2.2.2.2)] : List (Int × (Bool × (List Int)) × (Bool × (List Int)) × ByteArray × Int)) w60 (fun k => (fun k => blk a6 = some k) k ∨ (fun k => blk (some ⟨b59, 0, none⟩) = some k ∨ X70 k) k) (fun k hk => (hk).elim (fun h => (fun k (hk : blk a6 = some k) => hk105.lt k hk) k h) (fun h => (fun k (hk : blk (some ⟨b59, 0, none⟩) = some k ∨ X70 k) => hk.elim (fun h => ho65.lt k h) (fun h => hx67 k h)) k h)) ((hk105.rd (Y := fun k => blk a6 = some k) (fun _ h => h.elim) (fun g e => e)).wide (fun k hk => (.inl hk))) ((ho65.rd (Y := fun k => blk (some ⟨b59, 0, none⟩) = some k ∨ X70 k) (fun _ h => .inr h) (fun g e => .inl e)).wide (fun k hk => (.inr hk))) r103 hr104) ?_
 rintro v108 w106 ⟨hg107, a109, c110, rfl, ho111, hl112⟩
 have hB114 := bg hB79 hg61 nb
 have hl113 : ∀ g, blk a109 = some g → w0.heap.size ≤ g := fun g e => Nat.le_trans hB114.size (hl112 g e)
 refine pN 3 [11, 17, 18] [(17, (.slice a109 (length r103.1) c110)), (18, (.agg #[(.int .i64 r103.2.1), (.int .i64 r103.2.2)]))] ?_
 refine gv_new0 (fun b => .pointer (some ⟨b, 0, none⟩)) #[(.int .i64 0), (.int .i64 0)] 26 (by kernel_rfl) (by kernel_rfl) ?_
 intro b115 w116 hg117 hb118 hbe119 hz120
 clear hz120 hr104 ap102 ap101 ap100 ap99 ap93 ap98 ap97 hk96 ap95 ap94 ap91 ap84 ap90 ap89 hk88 ap87 ap86 hk85 ap80 hk83 hg82 hl66 hB79 hx78 ho65 hk77 hk76 hk75 hk74 hx69 hx67 hz73 hx68 hk72 hk71 hz64 hbe63 hb62 hl58 hl56 hB57 ap55 hl54 ho53 hl50 ho49 hg45 hr43 hl41 hl35 hB40 hB38 hB37 hg36 ap34 hl33 ho32 hl29 ho28 hg24 hr22 hz20 hb19 hg18 hz16 hb14 hg13 hl9 hg4 hr2
 refine pN 1 [3] [(3, (.slice a109 (length r103.1) c110))] ?_
 refine gv_sub [1, 2, 3, 4, 18] (σ' := [(1, (.slice a6 (length r1.1) c7)), (2, (bp b11)), (3, (.slice a109 (length r103.1) c110)), (4, (bp b115)), (18, (.agg #[(.int .i64 r103.2.1), (.int .i64 r103.2.2)]))]) (by kernel_rfl) ?_
 refine gv_store0 26 0 (.agg #[(.int .i64 r103.2.1), (.int .i64 r103.2.2)]) #[(.int .i64 r103.2.1), (.int .i64 r103.2.2)] hb118 (by kernel_rfl) (by kernel_rfl) (by kernel_rfl) ?_
 intro w121 hg122 hb123 hz124
 refine gv_nil <| gv_seq <| gv_region <| pN 2 [20, 21] [(20, (.slice a6 (length r1.1) c7)), (21, (.slice a109 (length r103.1) c110))] ?_
 refine bindE h0 ?_; clear h0; intro r125 hr126 h0
 have hg127 := (grown_trans hg107 hg117)
 have hk128 := hk105.grown hg107 (fun _ h => h.elim) nb
 have ap129 : ¬ (fun k => blk a6 = some k) b115 := fun hx => nl ((lowb hbe119) _ rfl) ((fun k (hk : blk a6 = some k) => hk128.lt k hk) _ hx)
 have hk130 := (hk105.grown hg127 (fun _ h => h.elim) nb).grown hg122 (fun _ h => h.elim) (rdnn (rowne ap129))
 have ap131 : ¬ (fun k => blk a109 = some k) b115 := fun hx => nl ((lowb hbe119) _ rfl) ((fun k (hk : blk a109 = some k) => ho111.lt k hk) _ hx)
 have hk132 := (ho111.grown hg117 (fun _ h => h.elim) nb).grown hg122 (fun _ h => h.elim) (rdnn (rowne ap131))
 refine gv_call0 (by kernel_rfl) rfl (by kernel_rfl) enters5 (packing_Unpack_ok fuel a6 c7 r1.1 a109 c110 r103.1 w121 (fun k => (fun k => blk a6 = some k) k ∨ (fun k => blk a109 = some k) k) (fun k hk => (hk).elim (fun h => (fun k (hk : blk a6 = some k) => hk130.lt k hk) k h) (fun h => (fun k (hk : blk a109 = some k) => hk132.lt k hk) k h)) ((hk130.rd (Y := fun k => blk a6 = some k) (fun _ h => h.elim) (fun g e => e)).wide (fun k hk => (.inl hk))) ((hk132.rd (Y := fun k => blk a109 = some k) (fun _ h => h.elim) (fun g e => e)).wide (fun k hk => (.inr hk))) r125 hr126) ?_
 rintro v135 w133 ⟨hg134, a136, c137, X140, rfl, ho138, hl139, hx141⟩
 have hB143 := bg hB114 hg127 nb
 have hB144 := bg hB114 hg107 nb
 have hlo145 : w0.heap.size ≤ b115 := lob hbe119 hB144.size
 have hB146 := bg hB143 hg122 (rowlo hlo145)
 have hl142 : ∀ g, blk a136 = some g → w0.heap.size ≤ g := fun g e => Nat.le_trans hB146.size (hl139 g e)
 have hx147 : ∀ k, X140 k → k < w133.heap.size := fun k hk => (hx141 k hk).1
 have hx148 : ∀ k, X140 k → X0 k ∨ w0.heap.size ≤ k := fun k hk => (hx141 k hk).2.elim (fun h => (h).elim (fun h => (fun k (hk : blk a6 = some k) => Or.inr (hl10 k hk)) k h) (fun h => (fun k (hk : blk a109 = some k) => Or.inr (hl113 k hk)) k h)) (fun h => .inr (Nat.le_trans hB146.size h))
 refine pN 3 [19, 23, 24] [(23, (.slice a136 (length r125.1) c137)), (24, (.agg #[(.int .i64 r125.2.1), (.int .i64 r125.2.2)]))] ?_
 refine gv_new0 (fun b => .pointer (some ⟨b, 0, none⟩)) #[(.int .i64 0), (.int .i64 0)] 26 (by kernel_rfl) (by kernel_rfl) ?_
 intro b149 w150 hg151 hb152 hbe153 hz154
 refine pN 1 [5] [(5, (.slice a136 (length r125.1) c137))] ?_
 refine gv_store0 26 0 (.agg #[(.int .i64 r125.2.1), (.int .i64 r125.2.2)]) #[(.int .i64 r125.2.1), (.int .i64 r125.2.2)] hb152 (by kernel_rfl) (by kernel_rfl) (by kernel_rfl) ?_
 intro w155 hg156 hb157 hz158
 refine gv_nil <| gv_seq <| gv_region <| bindE h0 ?_; clear h0; intro j159 h1 h0
 refine gv_cut_ops (J := fun a w160 => Below w0.heap.size w0 w160 ∧ w155.heap.size ≤ w160.heap.size ∧ a.defers = [] ∧ a.tmps.size = 50 ∧ Ok [(0, (.bool j159))] a.tmps) ?_ ?_
 ·skip
  refine pN 1 [25] [(25, (bp b11))] ?_
  have hg161 := (grown_trans hg61 hg127)
  have hg162 := (grown_trans hg61 hg107)
  have hk163 := hk92.grown hg162 nb
  have lt164 := ltl ((ltb hk163) _ rfl) ((lowb hbe119) _ rfl)
  have hg165 := (grown_trans hg134 hg151)
  have hk166 := hb123.grown hg134 nb
  have lt167 := ltl ((ltb hk166) _ rfl) ((lowb hbe153) _ rfl)
  have lt168 := ltt lt164 lt167
  have hk169 := (((hk92.grown hg161 nb).grown hg122 (rowne (ng lt164))).grown hg165 nb).grown hg156 (rowne (ng lt168))
  refine gv_load (t := 3) (A := ⟨b11, 0, none⟩) (.int .i64 r1.2.1) [] (fun e => by cases e) rfl rfl rfl (by kernel_rfl) (by kernel_rfl) (by kernel_rfl) (inw0 (hk169.cell 0 rfl)) rfl ?_
  refine pN 2 [27, 28] [(28, (.bool (r1.2.1 == 0)))] ?_
  refine gv_split (s := 28) (g := (r1.2.1 == 0)) (by kernel_rfl) (fun hc170 => ?_) (fun hc170 => ?_)
  ·skip
   replace h1 := ite_t hc170 h1
   refine pN 1 [29] [(29, (bp b115))] ?_
   have hk171 := (hk166.grown hg151 nb).grown hg156 (rowne (ng lt167))
   refine gv_load (t := 3) (A := ⟨b115, 0, none⟩) (.int .i64 r103.2.1) [] (fun e => by cases e) rfl rfl rfl (by kernel_rfl) (by kernel_rfl) (by kernel_rfl) (inw0 (hk171.cell 0 rfl)) rfl ?_
   refine pN 3 [31, 32, 33] [(33, (.bool (r103.2.1 == 0)))] ?_
   refine gv_split (s := 33) (g := (r103.2.1 == 0)) (by kernel_rfl) (fun hc172 => ?_) (fun hc172 => ?_)
   ·skip
    replace h1 := ite_t hc172 h1
    refine pN 1 [34] [(34, (bp b149))] ?_
    refine gv_sub [3, 5, 33, 34] (σ' := [(3, (.slice a109 (length r103.1) c110)), (5, (.slice a136 (length r125.1) c137)), (33, (.bool true)), (34, (bp b149))]) (by kernel_rfl) ?_
    refine gv_load (t := 3) (A := ⟨b149, 0, none⟩) (.int .i64 r125.2.1) [] (fun e => by cases e) rfl rfl rfl (by kernel_rfl) (by kernel_rfl) (by kernel_rfl) (inw0 (hb157.cell 0 rfl)) rfl ?_
    refine pN 3 [36, 37, 38] [(38, (.bool (r125.2.1 == 0)))] ?_
    refine gv_split (s := 38) (g := (r125.2.1 == 0)) (by kernel_rfl) (fun hc173 => ?_) (fun hc173 => ?_)
    ·skip
     replace h1 := ite_t hc173 h1
     refine pN 1 [39] [(39, (.slice a109 (length r103.1) c110))] ?_
     refine gv_new0 (fun b => .slice (some ⟨b, 0, none⟩) 3 3) #[(.int .u8 1), (.int .u8 2), (.int .u8 5)] 5 (by kernel_rfl) (by kernel_rfl) ?_
     intro b174 w175 hg176 hb177 hbe178 hz179
     have ho180 : Gv.Own bE 5 w175 (fun _ => False) (some ⟨b174, 0, none⟩) 3 ([(1 : UInt8), (2 : UInt8), (5 : UInt8)] : List UInt8) := Box.ownE hb177 ⟨[(.int .u8 1)], [(.int .u8 2), (.int .u8 5)], rfl, rfl, ⟨[(.int .u8 2)], [(.int .u8 5)], rfl, rfl, ⟨[(.int .u8 5)], [], rfl, rfl, rfl⟩⟩⟩ (show 3 ≤ maxLen by decide) (fun h => h)
     have hB185 := bg hB146 hg165 nb
     have hB186 := bg hB146 hg134 nb
     have hlo187 : w0.heap.size ≤ b149 := lob hbe153 hB186.size
     have hB188 := bg hB185 hg156 (rowlo hlo187)
     have hl181 : ∀ g, blk (some ⟨b174, 0, none⟩) = some g → w0.heap.size ≤ g := loo hbe178 hB188.size
     refine bindE h1 ?_; clear h1; intro r189 hr190 h1
     have hk191 := hk132.grown hg134 (fun _ h => h.elim) nb
     have ap192 : ¬ (fun k => blk a109 = some k) b149 := fun hx => nl ((lowb hbe153) _ rfl) ((fun k (hk : blk a109 = some k) => hk191.lt k hk) _ hx)
     have hk193 := ((hk132.grown hg165 (fun _ h => h.elim) nb).grown hg156 (fun _ h => h.elim) (rdnn (rowne ap192))).grown hg176 (fun _ h => h.elim) nb
     refine gv_call0 (by kernel_rfl) rfl (by kernel_rfl) enters10 (ref4_SameBytes_ok fuel a109 c110 r103.1 (some ⟨b174, 0, none⟩) 3 ([(1 : UInt8), (2 : UInt8), (5 : UInt8)] : List UInt8) w175 (fun k => (fun k => blk a109 = some k) k ∨ (fun k => blk (some ⟨b174, 0, none⟩) = some k) k) (fun k hk => (hk).elim (fun h => (fun k (hk : blk a109 = some k) => hk193.lt k hk) k h) (fun h => (fun k (hk : blk (some ⟨b174, 0, none⟩) = some k) => ho180.lt k hk) k h)) ((hk193.rd (Y := fun k => blk a109 = some k) (fun _ h => h.elim) (fun g e => e)).wide (fun k hk => (.inl hk))) ((ho180.rd (Y := fun k => blk (some ⟨b174, 0, none⟩) = some k) (fun _ h => h.elim) (fun g e => e)).wide (fun k hk => (.inr hk))) r189 hr190) ?_
     rintro v196 w194 ⟨hg195, rfl⟩
     refine pN 2 [42, 43] [(43, (.bool r189))] ?_
     refine gv_split (s := 43) (g := r189) (by kernel_rfl) (fun hc197 => ?_) (fun hc197 => ?_)
     ·skip
      replace h1 := ite_t hc197 h1
      refine pN 1 [44] [(44, (.slice a136 (length r125.1) c137))] ?_
      refine bindE h1 ?_; clear h1; intro r198 hr199 h1
      refine gv_call0 (by kernel_rfl) rfl (by kernel_rfl) enters30 (law4_whole_ok fuel 258 w194  r198 hr199) ?_
      rintro v202 w200 ⟨hg201, a203, c204, a207, c208, rfl, ho205, hl206, ho209, hl210, ap211⟩
      have hg213 := (grown_trans hg176 hg195)
      have hB214 := bg hB188 hg213 nb
      have hl212 : ∀ g, blk a203 = some g → w0.heap.size ≤ g := fun g e => Nat.le_trans hB214.size (hl206 g e)
      have hl215 : ∀ g, blk a207 = some g → w0.heap.size ≤ g := fun g e => Nat.le_trans hB214.size (hl210 g e)
      refine bindE h1 ?_; clear h1; intro r216 hr217 h1
      refine gv_call0 (by kernel_rfl) rfl (by kernel_rfl) enters30 (law4_whole_ok fuel (-3) w200  r216 hr217) ?_
      rintro v220 w218 ⟨hg219, a221, c222, a225, c226, rfl, ho223, hl224, ho227, hl228, ap229⟩
      have hB231 := bg hB214 hg201 nb
      have hl230 : ∀ g, blk a221 = some g → w0.heap.size ≤ g := fun g e => Nat.le_trans hB231.size (hl224 g e)
      have hl232 : ∀ g, blk a225 = some g → w0.heap.size ≤ g := fun g e => Nat.le_trans hB231.size (hl228 g e)
      have hz233 := (nt (nt (nt hg176.size hg195.size) hg201.size) hg219.size)
      clear hr217 hB214 hg213 hr199 hc197 hk193 ap192 hk191 hr190 hl181 hB188 hlo187 hB186 hB185 ho180 hz179 hbe178 hb177 hc173 hc172 hk171 hc170 hk169 lt168 lt167 hk166 hg165 lt164 hk163 hg162 hg161 hz158 hb157 hz154 hb152 hB146 hlo145 hB144 hB143 hx141 hl139 hg134 hk132 ap131 hk130 ap129 hk128 hg127 hr126 hz124 hb123 hg122 hbe119 hb118 hg117 hl113 hB114 hl112 ho111 hg107 hk105 hk92 ap81 hg61 hlo39 hbe15 hl10 ho8
      refine gv_new0 (fun b => .slice (some ⟨b, 0, none⟩) 2 2) #[(.int .i64 r198.1), (.bool r198.2.1.1), (.slice a203 (length r198.2.1.2) c204), (.bool r198.2.2.1.1), (.slice a207 (length r198.2.2.1.2) c208), (.string r198.2.2.2.1), (.int .i64 r198.2.2.2.2), (.int .i64 r216.1), (.bool r216.2.1.1), (.slice a221 (length r216.2.1.2) c222), (.bool r216.2.2.1.1), (.slice a225 (length r216.2.2.1.2) c226), (.string r216.2.2.2.1), (.int .i64 r216.2.2.2.2)] 41 (by kernel_rfl) (by kernel_rfl) ?_
      intro b234 w235 hg236 hb237 hbe238 hz239
      obtain ⟨X245, e⟩ : ∃ X : Nat → Prop, X = (fun k => (fun k => blk a203 = some k) k ∨ (fun k => blk a207 = some k) k ∨ (fun k => blk a221 = some k) k ∨ (fun k => blk a225 = some k) k) := ⟨_, rfl⟩
      have hk246 := ho205.grown hg219 (fun _ h => h.elim) nb
      have hk247 := ho209.grown hg219 (fun _ h => h.elim) nb
      have hx243 : ∀ k, X245 k → k < w218.heap.size := fun k h => by rw [e] at h; exact (h).elim (fun h => (fun k (hk : blk a203 = some k) => hk246.lt k hk) k h) (fun h => (h).elim (fun h => (fun k (hk : blk a207 = some k) => hk247.lt k hk) k h) (fun h => (h).elim (fun h => (fun k (hk : blk a221 = some k) => ho223.lt k hk) k h) (fun h => (fun k (hk : blk a225 = some k) => ho227.lt k hk) k h)))
      have hz248 := hg236.size
      have hx242 : ∀ k, X245 k → k < w235.heap.size := fun k h => ltl (hx243 k h) hz248
      have hx244 : ∀ k, X245 k → X0 k ∨ w0.heap.size ≤ k := fun k h => by rw [e] at h; exact (h).elim (fun h => (fun k (hk : blk a203 = some k) => Or.inr (hl212 k hk)) k h) (fun h => (h).elim (fun h => (fun k (hk : blk a207 = some k) => Or.inr (hl215 k hk)) k h) (fun h => (h).elim (fun h => (fun k (hk : blk a221 = some k) => Or.inr (hl230 k hk)) k h) (fun h => (fun k (hk : blk a225 = some k) => Or.inr (hl232 k hk)) k h)))
      have hk249 := hk246.grown hg236 (fun _ h => h.elim) nb
      have hk250 := hk247.grown hg236 (fun _ h => h.elim) nb
      have hk251 := ho223.grown hg236 (fun _ h => h.elim) nb
      have hk252 := ho227.grown hg236 (fun _ h => h.elim) nb
      have ho240 : Gv.Own (prE (iE .i64) (prE (prE tE (slE (iE .u32))) (prE (prE tE (slE (iE .u32))) (prE sE (iE .i64))))) 41 w235 X245 (some ⟨b234, 0, none⟩) 2 ([(r198.1, (r198.2.1.1, r198.2.1.2), (r198.2.2.1.1, r198.2.2.1.2), r198.2.2.2.1, r198.2.2.2.2), (r216.1, (r216.2.1.1, r216.2.1.2), (r216.2.2.1.1, r216.2.2.1.2), r216.2.2.2.1, r216.2.2.2.2)] : List (Int × (Bool × (List Int)) × (Bool × (List Int)) × ByteArray × Int)) := Box.ownE hb237 (by rw [e]; exact ⟨[(.int .i64 r198.1), (.bool r198.2.1.1), (.slice a203 (length r198.2.1.2) c204), (.bool r198.2.2.1.1), (.slice a207 (length r198.2.2.1.2) c208), (.string r198.2.2.2.1), (.int .i64 r198.2.2.2.2)], [(.int .i64 r216.1), (.bool r216.2.1.1), (.slice a221 (length r216.2.1.2) c222), (.bool r216.2.2.1.1), (.slice a225 (length r216.2.2.1.2) c226), (.string r216.2.2.2.1), (.int .i64 r216.2.2.2.2)], rfl, ⟨[(.int .i64 r198.1)], [(.bool r198.2.1.1), (.slice a203 (length r198.2.1.2) c204), (.bool r198.2.2.1.1), (.slice a207 (length r198.2.2.1.2) c208), (.string r198.2.2.2.1), (.int .i64 r198.2.2.2.2)], rfl, rfl, ⟨[(.bool r198.2.1.1), (.slice a203 (length r198.2.1.2) c204)], [(.bool r198.2.2.1.1), (.slice a207 (length r198.2.2.1.2) c208), (.string r198.2.2.2.1), (.int .i64 r198.2.2.2.2)], rfl, ⟨[(.bool r198.2.1.1)], [(.slice a203 (length r198.2.1.2) c204)], rfl, rfl, ⟨a203, c204, rfl, ((hk249.rd (Y := fun k => blk a203 = some k) (fun _ h => h.elim) (fun g e => e)).wide (fun _ h => (.inl h)))⟩⟩, ⟨[(.bool r198.2.2.1.1), (.slice a207 (length r198.2.2.1.2) c208)], [(.string r198.2.2.2.1), (.int .i64 r198.2.2.2.2)], rfl, ⟨[(.bool r198.2.2.1.1)], [(.slice a207 (length r198.2.2.1.2) c208)], rfl, rfl, ⟨a207, c208, rfl, ((hk250.rd (Y := fun k => blk a207 = some k) (fun _ h => h.elim) (fun g e => e)).wide (fun _ h => (.inr (.inl h))))⟩⟩, ⟨[(.string r198.2.2.2.1)], [(.int .i64 r198.2.2.2.2)], rfl, rfl, rfl⟩⟩⟩⟩, ⟨[(.int .i64 r216.1), (.bool r216.2.1.1), (.slice a221 (length r216.2.1.2) c222), (.bool r216.2.2.1.1), (.slice a225 (length r216.2.2.1.2) c226), (.string r216.2.2.2.1), (.int .i64 r216.2.2.2.2)], [], rfl, ⟨[(.int .i64 r216.1)], [(.bool r216.2.1.1), (.slice a221 (length r216.2.1.2) c222), (.bool r216.2.2.1.1), (.slice a225 (length r216.2.2.1.2) c226), (.string r216.2.2.2.1), (.int .i64 r216.2.2.2.2)], rfl, rfl, ⟨[(.bool r216.2.1.1), (.slice a221 (length r216.2.1.2) c222)], [(.bool r216.2.2.1.1), (.slice a225 (length r216.2.2.1.2) c226), (.string r216.2.2.2.1), (.int .i64 r216.2.2.2.2)], rfl, ⟨[(.bool r216.2.1.1)], [(.slice a221 (length r216.2.1.2) c222)], rfl, rfl, ⟨a221, c222, rfl, ((hk251.rd (Y := fun k => blk a221 = some k) (fun _ h => h.elim) (fun g e => e)).wide (fun _ h => (.inr (.inr (.inl h)))))⟩⟩, ⟨[(.bool r216.2.2.1.1), (.slice a225 (length r216.2.2.1.2) c226)], [(.string r216.2.2.2.1), (.int .i64 r216.2.2.2.2)], rfl, ⟨[(.bool r216.2.2.1.1)], [(.slice a225 (length r216.2.2.1.2) c226)], rfl, rfl, ⟨a225, c226, rfl, ((hk252.rd (Y := fun k => blk a225 = some k) (fun _ h => h.elim) (fun g e => e)).wide (fun _ h => (.inr (.inr (.inr h)))))⟩⟩, ⟨[(.string r216.2.2.2.1)], [(.int .i64 r216.2.2.2.2)], rfl, rfl, rfl⟩⟩⟩⟩, rfl⟩⟩) (show 2 ≤ maxLen by decide) (fun h => noteq hbe238 (hx243 _ h))
      have hx253 : ∀ k, X245 k → (fun k => (fun k => blk a203 = some k) k ∨ (fun k => blk a207 = some k) k ∨ (fun k => blk a221 = some k) k ∨ (fun k => blk a225 = some k) k) k := fun k h => by rw [e] at h; exact h
      clear e
      have hB254 := bg hB231 hg219 nb
      have hl241 : ∀ g, blk (some ⟨b234, 0, none⟩) = some g → w0.heap.size ≤ g := loo hbe238 hB254.size
      have ap256 : ¬ (fun k => blk a136 = some k ∨ X140 k) b149 := fun hx => nl ((lowb hbe153) _ rfl) ((fun k (hk : blk a136 = some k ∨ X140 k) => hk.elim (fun h => ho138.lt k h) (fun h => hx147 k h)) _ hx)
      have hx257 := ltx hx147 hg151.size
      have hg258 := (grown_trans (grown_trans (grown_trans hg176 hg195) hg201) hg219)
      have hx259 := ltx hx257 hg156.size
      have hk260 := ((ho138.grown hg151 hx147 nb).grown hg156 hx257 (rdnx (rowne ap256))).grown hg258 hx259 nb
      have hx261 := ltx hx259 hg258.size
      have ap255 : ∀ g, blk (some ⟨b234, 0, none⟩) = some g → ¬ (fun k => blk a136 = some k ∨ X140 k) g := fun g e hx => nl (lowo hbe238 g e) ((fun k (hk : blk a136 = some k ∨ X140 k) => hk.elim (fun h => hk260.lt k h) (fun h => hx261 k h)) _ hx)
      have hg263 := (grown_trans hg176 hg195)
      have hk264 := ((ho138.grown hg151 hx147 nb).grown hg156 hx257 (rdnx (rowne ap256))).grown hg263 hx259 nb
      have hx265 := ltx hx259 hg263.size
      have ap266 : ∀ g, blk a136 = some g → ¬ (fun k => blk a203 = some k) g := fun g e hx => nl ((show ∀ k, blk a203 = some k → w194.heap.size ≤ k from hl206) _ hx) ((fun k (hk : blk a136 = some k ∨ X140 k) => hk.elim (fun h => hk264.lt k h) (fun h => hx265 k h)) g (.inl e))
      have ap267 : ∀ g, blk a136 = some g → ¬ (fun k => blk a207 = some k) g := fun g e hx => nl ((show ∀ k, blk a207 = some k → w194.heap.size ≤ k from hl210) _ hx) ((fun k (hk : blk a136 = some k ∨ X140 k) => hk.elim (fun h => hk264.lt k h) (fun h => hx265 k h)) g (.inl e))
      have hk268 := hk264.grown hg201 hx265 nb
      have hx269 := ltx hx265 hg201.size
      have ap270 : ∀ g, blk a136 = some g → ¬ (fun k => blk a221 = some k) g := fun g e hx => nl ((show ∀ k, blk a221 = some k → w200.heap.size ≤ k from hl224) _ hx) ((fun k (hk : blk a136 = some k ∨ X140 k) => hk.elim (fun h => hk268.lt k h) (fun h => hx269 k h)) g (.inl e))
      have ap271 : ∀ g, blk a136 = some g → ¬ (fun k => blk a225 = some k) g := fun g e hx => nl ((show ∀ k, blk a225 = some k → w200.heap.size ≤ k from hl228) _ hx) ((fun k (hk : blk a136 = some k ∨ X140 k) => hk.elim (fun h => hk268.lt k h) (fun h => hx269 k h)) g (.inl e))
      have ap262 : ∀ g, blk a136 = some g → ¬ (fun k => blk (some ⟨b234, 0, none⟩) = some k ∨ X245 k) g := fun g e h => h.elim (fun h => nl (lowo hbe238 _ h) ((fun k (hk : blk a136 = some k ∨ X140 k) => hk.elim (fun h => hk260.lt k h) (fun h => hx261 k h)) g (.inl e))) (fun h => ((hx253 _ h)).elim (fun h => (ap266) g e h) (fun h => (h).elim (fun h => (ap267) g e h) (fun h => (h).elim (fun h => (ap270) g e h) (fun h => (ap271) g e h))))
      have ap272 : ∀ g, blk (some ⟨b234, 0, none⟩) = some g → ¬ (fun k => blk a203 = some k) g := fun g e hx => nl (lowo hbe238 g e) ((fun k (hk : blk a203 = some k) => hk246.lt k hk) _ hx)
      have ap273 : ∀ g, blk (some ⟨b234, 0, none⟩) = some g → ¬ (fun k => blk a207 = some k) g := fun g e hx => nl (lowo hbe238 g e) ((fun k (hk : blk a207 = some k) => hk247.lt k hk) _ hx)
      have ap274 : ∀ g, blk (some ⟨b234, 0, none⟩) = some g → ¬ (fun k => blk a221 = some k) g := fun g e hx => nl (lowo hbe238 g e) ((fun k (hk : blk a221 = some k) => ho223.lt k hk) _ hx)
      have ap275 : ∀ g, blk (some ⟨b234, 0, none⟩) = some g → ¬ (fun k => blk a225 = some k) g := fun g e hx => nl (lowo hbe238 g e) ((fun k (hk : blk a225 = some k) => ho227.lt k hk) _ hx)
      refine bindE h1 ?_; clear h1; intro r276 hr277 h1
      have hk278 := hk260.grown hg236 hx261 nb
      have hx279 := ltx hx261 hg236.size
      refine gv_call0 (by kernel_rfl) rfl (by kernel_rfl) enters8 (ref3_SameValues_ok fuel a136 c137 r125.1 (some ⟨b234, 0, none⟩) 2 ([(r198.1, (r198.2.1.1, r198.2.1.2), (r198.2.2.1.1, r198.2.2.1.2), r198.2.2.2.1, r198.2.2.2.2), (r216.1, (r216.2.1.1, r216.2.1.2), (r216.2.2.1.1, r216.2.2.1.2), r216.2.2.2.1, r216.2.2.2.2)] : List (Int × (Bool × (List Int)) × (Bool × (List Int)) × ByteArray × Int)) w235 (fun k => (fun k => blk a136 = some k ∨ X140 k) k ∨ (fun k => blk (some ⟨b234, 0, none⟩) = some k ∨ X245 k) k) (fun k hk => (hk).elim (fun h => (fun k (hk : blk a136 = some k ∨ X140 k) => hk.elim (fun h => hk278.lt k h) (fun h => hx279 k h)) k h) (fun h => (fun k (hk : blk (some ⟨b234, 0, none⟩) = some k ∨ X245 k) => hk.elim (fun h => ho240.lt k h) (fun h => hx242 k h)) k h)) ((hk278.rd (Y := fun k => blk a136 = some k ∨ X140 k) (fun _ h => .inr h) (fun g e => .inl e)).wide (fun k hk => (.inl hk))) ((ho240.rd (Y := fun k => blk (some ⟨b234, 0, none⟩) = some k ∨ X245 k) (fun _ h => .inr h) (fun g e => .inl e)).wide (fun k hk => (.inr hk))) r276 hr277) ?_
      rintro v282 w280 ⟨hg281, rfl⟩
      refine pN 2 [0, 49] [(0, (.bool r276))] ?_
      refine gv_nil ?_
      have e := sj h1; subst e
      refine gv_goal fun a hd hs hok => ?_
      have hg283 := (grown_trans hg236 hg281)
      have hB284 := bg hB254 hg283 nb
      have hz285 := (nt (nt hz233 hg236.size) hg281.size)
      exact ⟨hB284, hz285, hd, hs, okp [0] hok⟩
     ·skip
      replace h1 := ite_f hc197 h1
      refine pN 7 [0, 44, 45, 46, 47, 48, 49] [(0, (.bool false))] ?_
      refine gv_nil ?_
      have e := sj h1; subst e
      refine gv_goal fun a hd hs hok => ?_
      have hg286 := (grown_trans hg176 hg195)
      have hB287 := bg hB188 hg286 nb
      have hz288 := (nt hg176.size hg195.size)
      exact ⟨hB287, hz288, hd, hs, okp [0] hok⟩
    ·skip
     replace h1 := ite_f hc173 h1
     refine pN 12 [0, 39, 40, 41, 42, 43, 44, 45, 46, 47, 48, 49] [(0, (.bool false))] ?_
     refine gv_nil ?_
     have e := sj h1; subst e
     refine gv_goal fun a hd hs hok => ?_
     have hB289 := bg hB146 hg165 nb
     have hB290 := bg hB146 hg134 nb
     have hlo291 : w0.heap.size ≤ b149 := lob hbe153 hB290.size
     have hB292 := bg hB289 hg156 (rowlo hlo291)
     exact ⟨hB292, nrf, hd, hs, okp [0] hok⟩
   ·skip
    replace h1 := ite_f hc172 h1
    refine pN 17 [0, 34, 35, 36, 37, 38, 39, 40, 41, 42, 43, 44, 45, 46, 47, 48, 49] [(0, (.bool false))] ?_
    refine gv_sub [0] (σ' := [(0, (.bool false))]) (by kernel_rfl) ?_
    refine gv_nil ?_
    have e := sj h1; subst e
    refine gv_goal fun a hd hs hok => ?_
    have hB293 := bg hB146 hg165 nb
    have hB294 := bg hB146 hg134 nb
    have hlo295 : w0.heap.size ≤ b149 := lob hbe153 hB294.size
    have hB296 := bg hB293 hg156 (rowlo hlo295)
    exact ⟨hB296, nrf, hd, hs, okp [0] hok⟩
  ·skip
   replace h1 := ite_f hc170 h1
   refine pN 22 [0, 29, 30, 31, 32, 33, 34, 35, 36, 37, 38, 39, 40, 41, 42, 43, 44, 45, 46, 47, 48, 49] [(0, (.bool false))] ?_
   refine gv_nil ?_
   have e := sj h1; subst e
   refine gv_goal fun a hd hs hok => ?_
   have hB297 := bg hB146 hg165 nb
   have hB298 := bg hB146 hg134 nb
   have hlo299 : w0.heap.size ≤ b149 := lob hbe153 hB298.size
   have hB300 := bg hB297 hg156 (rowlo hlo299)
   exact ⟨hB300, nrf, hd, hs, okp [0] hok⟩
 ·rintro a w160 ⟨hB301, hz302, hd, hs, hok⟩
  refine gv_in ?_ hd hs hok
  clear hd hs hok
  clear hz302 hz158 hb157 hg156 hz154 hbe153 hb152 hg151 hx148 hx147 hl142 hB146 hlo145 hB144 hB143 hx141 hl139 ho138 hg134 hk132 ap131 hk130 ap129 hk128 hg127 hr126 hz124 hb123 hg122 hbe119 hb118 hg117 hl113 hB114 hl112 ho111 hg107 hk105 hk92 ap81 hg61 hlo39 hbe15 hl10 ho8
  refine gv_cret ?_
  have e := sj h0; subst e
  refine gv_ret (gv_done [(.bool j159)] rfl ⟨(by kernel_rfl), trivial⟩ ?_)
  exact ⟨grown_of_below hB301, rfl⟩

theorem law4_PackingUnpacks_ok (fuel : Nat) (pa0_0 : Option Addr) (pc0_0 : Nat) (l_0 : (List (Int × Int × Bool))) (pa1_0 : Option Addr) (pc1_0 : Nat) (data_1 : (List UInt8)) (w0 : World) (X0 : Nat → Prop) (hX0 : ∀ k, X0 k → k < w0.heap.size) (hpa0_0 : Rd (prE (iE .u8) (prE (iE .i64) tE)) w0 X0 pa0_0 pc0_0 l_0) (hpa1_0 : Rd bE w0 X0 pa1_0 pc1_0 data_1) {erx : TypeId × Value} (hG4 : Rd eE w0 X0 (some ⟨4, 0, none⟩) 1 [erx]) (r0 : Bool) (h0 : law4_PackingUnpacks fuel l_0 data_1 = some r0) :
    Calls Tryz.prog 3 ([(.slice pa0_0 (length l_0) pc0_0), (.slice pa1_0 (length data_1) pc1_0)] : List Value).toArray w0 (Ret fun v w' => w0.grownBy w' none ∧ v = tup [(.bool r0)]) := by
 have hB0 : Below w0.heap.size w0 w0 := Below.refl _ _
 unfold law4_PackingUnpacks at h0
 refine calls_run Tryz.func3 rfl Tryz.ntmps3 (by kernel_rfl) ?_
 refine gv_sub [0, 1] (σ' := [(0, (.slice pa0_0 (length l_0) pc0_0)), (1, (.slice pa1_0 (length data_1) pc1_0))]) (by kernel_rfl) ?_
 refine gv_seq <| gv_region <| pN 1 [4] [] ?_
 refine gv_nil <| gv_seq <| gv_region <| pN 2 [12, 13] [(12, (.slice pa0_0 (length l_0) pc0_0)), (13, (.slice pa1_0 (length data_1) pc1_0))] ?_
 refine bindE h0 ?_; clear h0; intro r1 hr2 h0
 refine gv_call0 (by kernel_rfl) rfl (by kernel_rfl) enters5 (packing_Unpack_ok fuel pa0_0 pc0_0 l_0 pa1_0 pc1_0 data_1 w0 (fun k => X0 k ∨ X0 k) (fun k hk => (hk).elim (fun h => (fun k (hk : X0 k) => ltl (hX0 k hk) hB0.size) k h) (fun h => (fun k (hk : X0 k) => ltl (hX0 k hk) hB0.size) k h)) ((hpa0_0.below hB0 hX0).wide (fun k hk => (.inl hk))) ((hpa1_0.below hB0 hX0).wide (fun k hk => (.inr hk))) r1 hr2) ?_
 rintro v5 w3 ⟨hg4, a6, c7, X10, rfl, ho8, hl9, hx11⟩
 have hl12 : ∀ g, blk a6 = some g → w0.heap.size ≤ g := fun g e => Nat.le_trans hB0.size (hl9 g e)
 have hx13 : ∀ k, X10 k → k < w3.heap.size := fun k hk => (hx11 k hk).1
 have hx14 : ∀ k, X10 k → X0 k ∨ w0.heap.size ≤ k := fun k hk => (hx11 k hk).2.elim (fun h => (h).elim (fun h => (fun k (hk : X0 k) => Or.inl hk) k h) (fun h => (fun k (hk : X0 k) => Or.inl hk) k h)) (fun h => .inr (Nat.le_trans hB0.size h))
 refine pN 3 [11, 15, 16] [(15, (.slice a6 (length r1.1) c7)), (16, (.agg #[(.int .i64 r1.2.1), (.int .i64 r1.2.2)]))] ?_
 refine gv_new0 (fun b => .pointer (some ⟨b, 0, none⟩)) #[(.int .i64 0), (.int .i64 0)] 26 (by kernel_rfl) (by kernel_rfl) ?_
 intro b15 w16 hg17 hb18 hbe19 hz20
 refine pN 1 [5] [(5, (.slice a6 (length r1.1) c7))] ?_
 refine gv_store0 26 0 (.agg #[(.int .i64 r1.2.1), (.int .i64 r1.2.2)]) #[(.int .i64 r1.2.1), (.int .i64 r1.2.2)] hb18 (by kernel_rfl) (by kernel_rfl) (by kernel_rfl) ?_
 intro w21 hg22 hb23 hz24
 refine gv_nil <| gv_seq <| gv_region <| pN 2 [18, 19] [(18, (.slice pa0_0 (length l_0) pc0_0)), (19, (.slice pa1_0 (length data_1) pc1_0))] ?_
 refine bindE h0 ?_; clear h0; intro r25 hr26 h0
 have hg27 := (grown_trans hg4 hg17)
 have hB28 := bg hB0 hg27 nb
 have hB29 := bg hB0 hg4 nb
 have hlo30 : w0.heap.size ≤ b15 := lob hbe19 hB29.size
 have hB31 := bg hB28 hg22 (rowlo hlo30)
 refine gv_call0 (by kernel_rfl) rfl (by kernel_rfl) enters6 (ref4_Unpacked_ok fuel pa0_0 pc0_0 l_0 pa1_0 pc1_0 data_1 w21 (fun k => X0 k ∨ X0 k) (fun k hk => (hk).elim (fun h => (fun k (hk : X0 k) => ltl (hX0 k hk) hB31.size) k h) (fun h => (fun k (hk : X0 k) => ltl (hX0 k hk) hB31.size) k h)) ((hpa0_0.below hB31 hX0).wide (fun k hk => (.inl hk))) ((hpa1_0.below hB31 hX0).wide (fun k hk => (.inr hk))) r25 hr26) ?_
 rintro v34 w32 ⟨hg33, a35, c36, X39, rfl, ho37, hl38, hx40⟩
 have hl41 : ∀ g, blk a35 = some g → w0.heap.size ≤ g := fun g e => Nat.le_trans hB31.size (hl38 g e)
 have hx42 : ∀ k, X39 k → k < w32.heap.size := fun k hk => (hx40 k hk).1
 have hx43 : ∀ k, X39 k → X0 k ∨ w0.heap.size ≤ k := fun k hk => (hx40 k hk).2.elim (fun h => (h).elim (fun h => (fun k (hk : X0 k) => Or.inl hk) k h) (fun h => (fun k (hk : X0 k) => Or.inl hk) k h)) (fun h => .inr (Nat.le_trans hB31.size h))
 refine pN 3 [17, 21, 22] [(21, (.slice a35 (length r25.1) c36)), (22, (.agg #[(.int .i64 r25.2.1), (.int .i64 r25.2.2)]))] ?_
 refine gv_new0 (fun b => .pointer (some ⟨b, 0, none⟩)) #[(.int .i64 0), (.int .i64 0)] 26 (by kernel_rfl) (by kernel_rfl) ?_
 intro b44 w45 hg46 hb47 hbe48 hz49
 refine pN 1 [7] [(7, (.slice a35 (length r25.1) c36))] ?_
 refine gv_store0 26 0 (.agg #[(.int .i64 r25.2.1), (.int .i64 r25.2.2)]) #[(.int .i64 r25.2.1), (.int .i64 r25.2.2)] hb47 (by kernel_rfl) (by kernel_rfl) (by kernel_rfl) ?_
 intro w50 hg51 hb52 hz53
 refine gv_nil <| gv_seq <| gv_seq <| gv_region <| bindE h0 ?_; clear h0; intro j54 h1 h0
 refine gv_cut_ops (J := fun a w55 => Below w0.heap.size w0 w55 ∧ w50.heap.size ≤ w55.heap.size ∧ Box w55 b44 26 #[(.int .i64 r25.2.1), (.int .i64 r25.2.2)] ∧ Gv.Own (prE (iE .i64) (prE (prE tE (slE (iE .u32))) (prE (prE tE (slE (iE .u32))) (prE sE (iE .i64))))) 41 w55 X10 a6 c7 r1.1 ∧ a.defers = [] ∧ a.tmps.size = 56 ∧ Ok [(0, (.slice pa0_0 (length l_0) pc0_0)), (1, (.slice pa1_0 (length data_1) pc1_0)), (5, (.slice a6 (length r1.1) c7)), (8, (bp b44)), (35, (.bool j54))] a.tmps) ?_ ?_
 ·skip
  refine bindE h1 ?_; clear h1; intro r56 hr57 h1
  have hg58 := (grown_trans hg33 hg46)
  have hB59 := bg hB31 hg58 nb
  have hB60 := bg hB31 hg33 nb
  have hlo61 : w0.heap.size ≤ b44 := lob hbe48 hB60.size
  have hB62 := bg hB59 hg51 (rowlo hlo61)
  refine gv_call0 (by kernel_rfl) rfl (by kernel_rfl) enters7 (law4_packs_ok fuel  w50 (fun k => X0 k) (fun k hk => (fun k (hk : X0 k) => ltl (hX0 k hk) hB62.size) k hk) ((hG4.below hB62 hX0).wide (fun k hk => hk)) r56 hr57) ?_
  rintro v65 w63 ⟨hg64, rfl⟩
  refine pN 2 [24, 25] [(25, (.bool (!r56)))] ?_
  refine gv_sub [0, 1, 5, 6, 7, 8, 25] (σ' := [(0, (.slice pa0_0 (length l_0) pc0_0)), (1, (.slice pa1_0 (length data_1) pc1_0)), (5, (.slice a6 (length r1.1) c7)), (6, (bp b15)), (7, (.slice a35 (length r25.1) c36)), (8, (bp b44)), (25, (.bool (!r56)))]) (by kernel_rfl) ?_
  refine gv_split (s := 25) (g := (!r56)) (by kernel_rfl) (fun hc66 => ?_) (fun hc66 => ?_)
  ·skip
   replace h1 := ite_t hc66 h1
   refine pN 10 [26, 27, 28, 29, 30, 31, 32, 33, 34, 35] [(35, (.bool true))] ?_
   refine gv_nil ?_
   have e := sj h1; subst e
   refine gv_goal fun a hd hs hok => ?_
   have hB67 := bg hB62 hg64 nb
   have hz68 := hg64.size
   have hk69 := hb52.grown hg64 nb
   have ap70 : ¬ (fun k => blk a6 = some k ∨ X10 k) b15 := fun hx => nl ((lowb hbe19) _ rfl) ((fun k (hk : blk a6 = some k ∨ X10 k) => hk.elim (fun h => ho8.lt k h) (fun h => hx13 k h)) _ hx)
   have hx71 := ltx hx13 hg17.size
   have hx72 := ltx hx71 hg22.size
   have hk73 := ((ho8.grown hg17 hx13 nb).grown hg22 hx71 (rdnx (rowne ap70))).grown hg33 hx72 nb
   have hx74 := ltx hx72 hg33.size
   have ap75 : ¬ (fun k => blk a6 = some k ∨ X10 k) b44 := fun hx => nl ((lowb hbe48) _ rfl) ((fun k (hk : blk a6 = some k ∨ X10 k) => hk.elim (fun h => hk73.lt k h) (fun h => hx74 k h)) _ hx)
   have hx76 := ltx hx74 hg46.size
   have hx77 := ltx hx76 hg51.size
   have hk78 := ((((ho8.grown hg17 hx13 nb).grown hg22 hx71 (rdnx (rowne ap70))).grown hg58 hx72 nb).grown hg51 hx76 (rdnx (rowne ap75))).grown hg64 hx77 nb
   exact ⟨hB67, hz68, hk69, hk78, hd, hs, okp [0, 1, 5, 8, 35] hok⟩
  ·skip
   replace h1 := ite_f hc66 h1
   have hk79 := hb23.grown hg33 nb
   have lt80 := ltl ((ltb hk79) _ rfl) ((lowb hbe48) _ rfl)
   have hk81 := ((hb23.grown hg58 nb).grown hg51 (rowne (ng lt80))).grown hg64 nb
   refine gv_loadBox (t := 26) (b := b15) (t' := 26) (fr := (0, 0)) #[(.int .i64 r1.2.1), (.int .i64 r1.2.2)] [] (fun e => by cases e) rfl rfl rfl (by kernel_rfl) (by kernel_rfl) (by kernel_rfl) (by kernel_rfl) (inw0 hk81) rfl ?_
   have hk82 := hb52.grown hg64 nb
   refine gv_loadBox (t := 26) (b := b44) (t' := 26) (fr := (0, 0)) #[(.int .i64 r25.2.1), (.int .i64 r25.2.2)] [] (fun e => by cases e) rfl rfl rfl (by kernel_rfl) (by kernel_rfl) (by kernel_rfl) (by kernel_rfl) (inw0 hk82) rfl ?_
   refine gv_eqs (t := 26) (op := .neq) (x := (.tmp 26)) (y := (.tmp 27)) (xs := #[(.int .i64 r1.2.1), (.int .i64 r1.2.2)]) (ys := #[(.int .i64 r25.2.1), (.int .i64 r25.2.2)]) (!((r1.2.1 == r25.2.1) && (r1.2.2 == r25.2.2))) [] (fun e => by cases e) rfl rfl rfl (by kernel_rfl) (by kernel_rfl) (fun w' => eqs26neq r1.2.1 r1.2.2 r25.2.1 r25.2.2 _ _ w') rfl ?_
   refine pN 2 [29, 30] [(30, (.bool (!((r1.2.1 == r25.2.1) && (r1.2.2 == r25.2.2)))))] ?_
   refine gv_split (s := 30) (g := (!((r1.2.1 == r25.2.1) && (r1.2.2 == r25.2.2)))) (by kernel_rfl) (fun hc83 => ?_) (fun hc83 => ?_)
   ·skip
    replace h1 := ite_t hc83 h1
    refine pN 5 [31, 32, 33, 34, 35] [(35, (.bool true))] ?_
    refine gv_nil ?_
    have e := sj h1; subst e
    refine gv_goal fun a hd hs hok => ?_
    have hB84 := bg hB62 hg64 nb
    have hz85 := hg64.size
    have ap86 : ¬ (fun k => blk a6 = some k ∨ X10 k) b15 := fun hx => nl ((lowb hbe19) _ rfl) ((fun k (hk : blk a6 = some k ∨ X10 k) => hk.elim (fun h => ho8.lt k h) (fun h => hx13 k h)) _ hx)
    have hx87 := ltx hx13 hg17.size
    have hx88 := ltx hx87 hg22.size
    have hk89 := ((ho8.grown hg17 hx13 nb).grown hg22 hx87 (rdnx (rowne ap86))).grown hg33 hx88 nb
    have hx90 := ltx hx88 hg33.size
    have ap91 : ¬ (fun k => blk a6 = some k ∨ X10 k) b44 := fun hx => nl ((lowb hbe48) _ rfl) ((fun k (hk : blk a6 = some k ∨ X10 k) => hk.elim (fun h => hk89.lt k h) (fun h => hx90 k h)) _ hx)
    have hx92 := ltx hx90 hg46.size
    have hx93 := ltx hx92 hg51.size
    have hk94 := ((((ho8.grown hg17 hx13 nb).grown hg22 hx87 (rdnx (rowne ap86))).grown hg58 hx88 nb).grown hg51 hx92 (rdnx (rowne ap91))).grown hg64 hx93 nb
    exact ⟨hB84, hz85, hk82, hk94, hd, hs, okp [0, 1, 5, 8, 35] hok⟩
   ·skip
    replace h1 := ite_f hc83 h1
    refine pN 2 [31, 32] [(31, (.slice a6 (length r1.1) c7)), (32, (.slice a35 (length r25.1) c36))] ?_
    refine bindE h1 ?_; clear h1; intro r95 hr96 h1
    have ap97 : ¬ (fun k => blk a6 = some k ∨ X10 k) b15 := fun hx => nl ((lowb hbe19) _ rfl) ((fun k (hk : blk a6 = some k ∨ X10 k) => hk.elim (fun h => ho8.lt k h) (fun h => hx13 k h)) _ hx)
    have hx98 := ltx hx13 hg17.size
    have hx99 := ltx hx98 hg22.size
    have hk100 := ((ho8.grown hg17 hx13 nb).grown hg22 hx98 (rdnx (rowne ap97))).grown hg33 hx99 nb
    have hx101 := ltx hx99 hg33.size
    have ap102 : ¬ (fun k => blk a6 = some k ∨ X10 k) b44 := fun hx => nl ((lowb hbe48) _ rfl) ((fun k (hk : blk a6 = some k ∨ X10 k) => hk.elim (fun h => hk100.lt k h) (fun h => hx101 k h)) _ hx)
    have hx103 := ltx hx101 hg46.size
    have hx104 := ltx hx103 hg51.size
    have hk105 := ((((ho8.grown hg17 hx13 nb).grown hg22 hx98 (rdnx (rowne ap97))).grown hg58 hx99 nb).grown hg51 hx103 (rdnx (rowne ap102))).grown hg64 hx104 nb
    have hx106 := ltx hx104 hg64.size
    have ap107 : ¬ (fun k => blk a35 = some k ∨ X39 k) b44 := fun hx => nl ((lowb hbe48) _ rfl) ((fun k (hk : blk a35 = some k ∨ X39 k) => hk.elim (fun h => ho37.lt k h) (fun h => hx42 k h)) _ hx)
    have hx108 := ltx hx42 hg46.size
    have hx109 := ltx hx108 hg51.size
    have hk110 := ((ho37.grown hg46 hx42 nb).grown hg51 hx108 (rdnx (rowne ap107))).grown hg64 hx109 nb
    have hx111 := ltx hx109 hg64.size
    refine gv_call0 (by kernel_rfl) rfl (by kernel_rfl) enters8 (ref3_SameValues_ok fuel a6 c7 r1.1 a35 c36 r25.1 w63 (fun k => (fun k => blk a6 = some k ∨ X10 k) k ∨ (fun k => blk a35 = some k ∨ X39 k) k) (fun k hk => (hk).elim (fun h => (fun k (hk : blk a6 = some k ∨ X10 k) => hk.elim (fun h => hk105.lt k h) (fun h => hx106 k h)) k h) (fun h => (fun k (hk : blk a35 = some k ∨ X39 k) => hk.elim (fun h => hk110.lt k h) (fun h => hx111 k h)) k h)) ((hk105.rd (Y := fun k => blk a6 = some k ∨ X10 k) (fun _ h => .inr h) (fun g e => .inl e)).wide (fun k hk => (.inl hk))) ((hk110.rd (Y := fun k => blk a35 = some k ∨ X39 k) (fun _ h => .inr h) (fun g e => .inl e)).wide (fun k hk => (.inr hk))) r95 hr96) ?_
    rintro v114 w112 ⟨hg113, rfl⟩
    have hz115 := (nt hg64.size hg113.size)
    clear hx111 hk110 hx109 hx108 ap107 hx104 hx103 hx99 hx98 ap97 hr96 hc83 hk81 lt80 hk79 hc66 hB60 hB59 hg58 hr57 hz53 hb52 hg51 hz49 hb47 hg46 hx43 hx42 hl41 hx40 hl38 ho37 hg33 hB31 hlo30 hB29 hB28 hg27 hr26 hz24 hb23 hg22 hz20 hbe19 hb18 hg17 hx13 hx11 hl9 ho8 hg4 hr2
    refine pN 2 [34, 35] [(35, (.bool (!r95)))] ?_
    refine gv_nil ?_
    have e := sj h1; subst e
    refine gv_goal fun a hd hs hok => ?_
    have hg116 := (grown_trans hg64 hg113)
    have hB117 := bg hB62 hg116 nb
    have hz118 := hz115
    have hk119 := hk82.grown hg113 nb
    have hk120 := hk105.grown hg113 hx106 nb
    exact ⟨hB117, hz118, hk119, hk120, hd, hs, okp [0, 1, 5, 8, 35] hok⟩
 ·rintro a w55 ⟨hB121, hz122, hb123, hk124, hd, hs, hok⟩
  refine gv_in ?_ hd hs hok
  clear hd hs hok
  clear hz53 hb52 hz49 hb47 hx43 hx42 hl41 hx40 hl38 ho37 hlo30 hB29 hB28 hg27 hr26 hz24 hb23 hz20 hb18 hx11 hl9 hg4 hr2
  refine gv_cond (b := j54) (by kernel_rfl) (fun hc125 => ?_) (fun hc125 => ?_)
  ·replace h0 := ite_t hc125 h0
   refine gv_seq <| gv_region <| pN 1 [4] [(4, (.bool false))] ?_
   refine gv_nil <| gv_cret ?_
   have e := sj h0; subst e
   refine gv_ret (gv_done [(.bool false)] rfl ⟨(by kernel_rfl), trivial⟩ ?_)
   exact ⟨grown_of_below hB121, rfl⟩
  ·replace h0 := ite_f hc125 h0
   refine gv_skip <| gv_seq <| gv_seq <| gv_region <| pN 1 [36] [(36, (bp b44))] ?_
   refine gv_load (t := 3) (A := ⟨b44, 0, none⟩) (.int .i64 r25.2.1) [] (fun e => by cases e) rfl rfl rfl (by kernel_rfl) (by kernel_rfl) (by kernel_rfl) (inw0 (hb123.cell 0 rfl)) rfl ?_
   refine pN 1 [38] [(38, (.bool (r25.2.1 != 0)))] ?_
   refine gv_nil <| gv_cond (b := (r25.2.1 != 0)) (by kernel_rfl) (fun hc126 => ?_) (fun hc126 => ?_)
   ·replace h0 := ite_t hc126 h0
    refine gv_seq <| gv_region <| pN 4 [4, 39, 40, 41] [(4, (.bool (((length r1.1 : Nat) : Int) == 0)))] ?_
    refine gv_nil <| gv_cret ?_
    have e := sj h0; subst e
    refine gv_ret (gv_done [(.bool (((length r1.1 : Nat) : Int) == 0))] rfl ⟨(by kernel_rfl), trivial⟩ ?_)
    exact ⟨grown_of_below hB121, rfl⟩
   ·replace h0 := ite_f hc126 h0
    refine gv_skip <| gv_seq <| gv_region <| pN 2 [43, 44] [(43, (.slice pa0_0 (length l_0) pc0_0)), (44, (.slice a6 (length r1.1) c7))] ?_
    refine bindE h0 ?_; clear h0; intro r127 hr128 h0
    have hg129 := (grown_trans hg33 hg46)
    have hx130 := ltx (ltx (ltx (ltx hx13 hg17.size) hg22.size) hg129.size) hg51.size
    refine gv_call0 (by kernel_rfl) rfl (by kernel_rfl) enters9 (packing_Pack_ok fuel pa0_0 pc0_0 l_0 a6 c7 r1.1 w55 (fun k => X0 k ∨ (fun k => blk a6 = some k ∨ X10 k) k) (fun k hk => (hk).elim (fun h => (fun k (hk : X0 k) => ltl (hX0 k hk) hB121.size) k h) (fun h => (fun k (hk : blk a6 = some k ∨ X10 k) => hk.elim (fun h => hk124.lt k h) (fun h => (fun k hk => ltl (hx130 k hk) hz122) k h)) k h)) ((hpa0_0.below hB121 hX0).wide (fun k hk => (.inl hk))) ((hk124.rd (Y := fun k => blk a6 = some k ∨ X10 k) (fun _ h => .inr h) (fun g e => .inl e)).wide (fun k hk => (.inr hk))) r127 hr128) ?_
    rintro v133 w131 ⟨hg132, a134, c135, rfl, ho136, hl137⟩
    have hl138 : ∀ g, blk a134 = some g → w0.heap.size ≤ g := fun g e => Nat.le_trans hB121.size (hl137 g e)
    refine pN 3 [42, 46, 47] [(46, (.slice a134 (length r127.1) c135)), (47, (.agg #[(.int .i64 r127.2.1), (.int .i64 r127.2.2)]))] ?_
    refine gv_new0 (fun b => .pointer (some ⟨b, 0, none⟩)) #[(.int .i64 0), (.int .i64 0)] 26 (by kernel_rfl) (by kernel_rfl) ?_
    intro b139 w140 hg141 hb142 hbe143 hz144
    refine pN 1 [9] [(9, (.slice a134 (length r127.1) c135))] ?_
    refine gv_store0 26 0 (.agg #[(.int .i64 r127.2.1), (.int .i64 r127.2.2)]) #[(.int .i64 r127.2.1), (.int .i64 r127.2.2)] hb142 (by kernel_rfl) (by kernel_rfl) (by kernel_rfl) ?_
    intro w145 hg146 hb147 hz148
    refine gv_nil <| gv_seq <| gv_region <| bindE h0 ?_; clear h0; intro j149 h1 h0
    refine gv_cut_ops (J := fun a w150 => Below w0.heap.size w0 w150 ∧ w145.heap.size ≤ w150.heap.size ∧ a.defers = [] ∧ a.tmps.size = 56 ∧ Ok [(4, (.bool j149))] a.tmps) ?_ ?_
    ·skip
     refine pN 1 [48] [(48, (bp b139))] ?_
     refine gv_load (t := 3) (A := ⟨b139, 0, none⟩) (.int .i64 r127.2.1) [] (fun e => by cases e) rfl rfl rfl (by kernel_rfl) (by kernel_rfl) (by kernel_rfl) (inw0 (hb147.cell 0 rfl)) rfl ?_
     refine pN 2 [50, 51] [(51, (.bool (r127.2.1 == 0)))] ?_
     refine gv_split (s := 51) (g := (r127.2.1 == 0)) (by kernel_rfl) (fun hc151 => ?_) (fun hc151 => ?_)
     ·skip
      replace h1 := ite_t hc151 h1
      refine pN 2 [52, 53] [(52, (.slice a134 (length r127.1) c135)), (53, (.slice pa1_0 (length data_1) pc1_0))] ?_
      refine bindE h1 ?_; clear h1; intro r152 hr153 h1
      have ap154 : ¬ (fun k => blk a134 = some k) b139 := fun hx => nl ((lowb hbe143) _ rfl) ((fun k (hk : blk a134 = some k) => ho136.lt k hk) _ hx)
      have hk155 := (ho136.grown hg141 (fun _ h => h.elim) nb).grown hg146 (fun _ h => h.elim) (rdnn (rowne ap154))
      have hg156 := (grown_trans hg132 hg141)
      have hB157 := bg hB121 hg156 nb
      have hB158 := bg hB121 hg132 nb
      have hlo159 : w0.heap.size ≤ b139 := lob hbe143 hB158.size
      have hB160 := bg hB157 hg146 (rowlo hlo159)
      refine gv_call0 (by kernel_rfl) rfl (by kernel_rfl) enters10 (ref4_SameBytes_ok fuel a134 c135 r127.1 pa1_0 pc1_0 data_1 w145 (fun k => (fun k => blk a134 = some k) k ∨ X0 k) (fun k hk => (hk).elim (fun h => (fun k (hk : blk a134 = some k) => hk155.lt k hk) k h) (fun h => (fun k (hk : X0 k) => ltl (hX0 k hk) hB160.size) k h)) ((hk155.rd (Y := fun k => blk a134 = some k) (fun _ h => h.elim) (fun g e => e)).wide (fun k hk => (.inl hk))) ((hpa1_0.below hB160 hX0).wide (fun k hk => (.inr hk))) r152 hr153) ?_
      rintro v163 w161 ⟨hg162, rfl⟩
      refine pN 2 [4, 55] [(4, (.bool r152))] ?_
      refine gv_sub [4] (σ' := [(4, (.bool r152))]) (by kernel_rfl) ?_
      refine gv_nil ?_
      have e := sj h1; subst e
      refine gv_goal fun a hd hs hok => ?_
      have hB164 := bg hB160 hg162 nb
      have hz165 := hg162.size
      exact ⟨hB164, hz165, hd, hs, okp [4] hok⟩
     ·skip
      replace h1 := ite_f hc151 h1
      refine pN 5 [4, 52, 53, 54, 55] [(4, (.bool false))] ?_
      refine gv_nil ?_
      have e := sj h1; subst e
      refine gv_goal fun a hd hs hok => ?_
      have hg166 := (grown_trans hg132 hg141)
      have hB167 := bg hB121 hg166 nb
      have hB168 := bg hB121 hg132 nb
      have hlo169 : w0.heap.size ≤ b139 := lob hbe143 hB168.size
      have hB170 := bg hB167 hg146 (rowlo hlo169)
      exact ⟨hB170, nrf, hd, hs, okp [4] hok⟩
    ·rintro a w150 ⟨hB171, hz172, hd, hs, hok⟩
     refine gv_in ?_ hd hs hok
     clear hd hs hok
     clear hz172 hz148 hb147 hg146 hz144 hbe143 hb142 hg141 hl138 hl137 ho136 hg132 hx130 hg129 hr128 hc126 hc125 hk124 hb123 hz122 hB121 hg51 hbe48 hg46 hg33 hB31 hg22 hbe19 hg17 hx14 hx13 hl12 ho8
     refine gv_cret ?_
     have e := sj h0; subst e
     refine gv_ret (gv_done [(.bool j149)] rfl ⟨(by kernel_rfl), trivial⟩ ?_)
     exact ⟨grown_of_below hB171, rfl⟩

end Go.Proofs.YtdpmkphjcjacfaaGreatDoor
