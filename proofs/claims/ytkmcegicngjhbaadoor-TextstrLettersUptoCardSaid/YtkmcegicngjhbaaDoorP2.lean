import Derived.Test.YtkmcegicngjhbaaDoorP1
set_option linter.all false
set_option maxHeartbeats 4000000
set_option maxRecDepth 100000
/- Own work, printed by a program of mine: the walk of each function: a call returns what the plain function says. -/
namespace Go.Proofs.YtkmcegicngjhbaaDoor
open Go.Gv Go.Gv.D Go.RowKit
theorem law4_text_ok (fuel : Nat) (s_0 : ByteArray) (f_1 : (Int × Int)) (want_2 : ByteArray) (w_3 : (Int × Int)) (w0 : World)  (r0 : Bool) (h0 : law4_text fuel s_0 f_1 want_2 w_3 = some r0) :
    Calls Tryd.prog 25 ([(.string s_0), (.agg #[(.int .i64 f_1.1), (.int .i64 f_1.2)]), (.string want_2), (.agg #[(.int .i64 w_3.1), (.int .i64 w_3.2)])] : List Value).toArray w0 (Ret fun v w' => w0.grownBy w' none ∧ v = tup [(.bool r0)]) := by
 have hB0 : Below w0.heap.size w0 w0 := Below.refl _ _
 unfold law4_text at h0
 refine calls_run Tryd.func25 rfl Tryd.ntmps25 (by kernel_rfl) ?_
 refine gv_sub [0, 1, 2, 3] (σ' := [(0, (.string s_0)), (1, (.agg #[(.int .i64 f_1.1), (.int .i64 f_1.2)])), (2, (.string want_2)), (3, (.agg #[(.int .i64 w_3.1), (.int .i64 w_3.2)]))]) (by kernel_rfl) ?_
 refine gv_seq <| gv_region <| gv_new0 (fun b => .pointer (some ⟨b, 0, none⟩)) #[(.int .i64 f_1.1), (.int .i64 f_1.2)] 24 (by kernel_rfl) (by kernel_rfl) ?_
 intro b1 w2 hg3 hb4 hbe5 hz6
 refine gv_new0 (fun b => .pointer (some ⟨b, 0, none⟩)) #[(.int .i64 w_3.1), (.int .i64 w_3.2)] 24 (by kernel_rfl) (by kernel_rfl) ?_
 intro b7 w8 hg9 hb10 hbe11 hz12
 refine gv_pureN 1 [8] [] (by kernel_rfl) ?_
 refine gv_nil <| gv_seq <| gv_seq <| gv_region <| bindE h0 ?_; clear h0; intro j13 h1 h0
 refine gv_cut_ops (J := fun a w14 => Below w0.heap.size w0 w14 ∧ w8.heap.size ≤ w14.heap.size ∧ Box w14 b1 24 #[(.int .i64 f_1.1), (.int .i64 f_1.2)] ∧ Box w14 b7 24 #[(.int .i64 w_3.1), (.int .i64 w_3.2)] ∧ a.defers = [] ∧ a.tmps.size = 36 ∧ Ok [(0, (.string s_0)), (2, (.string want_2)), (5, (bp b1)), (7, (bp b7)), (16, (.bool j13))] a.tmps) ?_ ?_
 ·skip
  refine gv_pureN 1 [9] [(9, (bp b7))] (by kernel_rfl) ?_
  refine gv_load (t := 3) (A := ⟨b7, 0, none⟩) (.int .i64 w_3.1) [] (fun e => by cases e) rfl rfl rfl (by kernel_rfl) (by kernel_rfl) (by kernel_rfl) (inw0 (hb10.cell 0 rfl)) rfl ?_
  refine gv_pureN 2 [11, 12] [(12, (.bool (w_3.1 == 0)))] (by kernel_rfl) ?_
  refine gv_split (s := 12) (g := (w_3.1 == 0)) (by kernel_rfl) (fun hc15 => ?_) (fun hc15 => ?_)
  ·skip
   replace h1 := ite_t hc15 h1
   refine gv_pureN 4 [13, 14, 15, 16] [(16, (.bool (decide (((ByteArray.size want_2 : Nat) : Int) > 4000))))] (by kernel_rfl) ?_
   refine gv_nil ?_
   have e := sj h1; subst e
   refine gv_goal fun a hd hs hok => ?_
   have hg16 := (grown_trans hg3 hg9)
   have hB17 := bg hB0 hg16 nb
   have hk18 := hb4.grown hg9 nb
   exact ⟨hB17, (Nat.le_refl _), hk18, hb10, hd, hs, ok_pick [0, 2, 5, 7, 16] hok (by kernel_rfl)⟩
  ·skip
   replace h1 := ite_f hc15 h1
   refine gv_pureN 4 [13, 14, 15, 16] [(16, (.bool false))] (by kernel_rfl) ?_
   refine gv_nil ?_
   have e := sj h1; subst e
   refine gv_goal fun a hd hs hok => ?_
   have hg19 := (grown_trans hg3 hg9)
   have hB20 := bg hB0 hg19 nb
   have hk21 := hb4.grown hg9 nb
   exact ⟨hB20, (Nat.le_refl _), hk21, hb10, hd, hs, ok_pick [0, 2, 5, 7, 16] hok (by kernel_rfl)⟩
 ·rintro a w14 ⟨hB22, hz23, hb24, hb25, hd, hs, hok⟩
  refine gv_in ?_ hd hs hok
  clear hd hs hok
  clear hz23 hz12 hb10 hg9 hz6
  refine bindE h0 ?_; clear h0; intro j26 h1 h0
  refine gv_cut_code (J := fun a w27 => Below w0.heap.size w0 w27 ∧ w14.heap.size ≤ w27.heap.size ∧ Box w27 b1 24 #[(.int .i64 f_1.1), (.int .i64 f_1.2)] ∧ Box w27 b7 24 #[(.int .i64 j26.1), (.int .i64 j26.2)] ∧ a.defers = [] ∧ a.tmps.size = 36 ∧ Ok [(0, (.string s_0)), (2, (.string want_2)), (5, (bp b1)), (7, (bp b7))] a.tmps) ?_ ?_
  ·skip
   refine gv_cond (b := j13) (by kernel_rfl) (fun hc28 => ?_) (fun hc28 => ?_)
   ·replace h1 := ite_t hc28 h1
    refine gv_region <| bindE h1 ?_; clear h1; intro r29 hr30 h1
    refine gv_call0 (by kernel_rfl) rfl (by kernel_rfl) enters29 (ref4_At_ok fuel 3 (-1) w14  r29 hr30) ?_
    rintro v33 w31 ⟨hg32, rfl⟩
    have hk38 := hb25.grown hg32 nb
    refine gv_store0 24 0 (.agg #[(.int .i64 r29.1), (.int .i64 r29.2)]) #[(.int .i64 r29.1), (.int .i64 r29.2)] hk38 (by kernel_rfl) (by kernel_rfl) (by kernel_rfl) ?_
    intro w34 hg35 hb36 hz37
    refine gv_nil ?_
    have e := sj h1; subst e
    refine gv_goal fun a hd hs hok => ?_
    have hB39 := bg hB22 hg32 nb
    have hB40 := bg hB0 hg3 nb
    have hlo41 : w0.heap.size ≤ b7 := lob hbe11 hB40.size
    have hB42 := bg hB39 hg35 (rowlo hlo41)
    have hz43 := (nt hg32.size hg35.size)
    have lt44 := ltl ((ltb hb4) _ rfl) ((lowb hbe11) _ rfl)
    have hk45 := (hb24.grown hg32 nb).grown hg35 (rowne (ng lt44))
    exact ⟨hB42, hz43, hk45, hb36, hd, hs, ok_pick [0, 2, 5, 7] hok (by kernel_rfl)⟩
   ·replace h1 := ite_f hc28 h1
    refine gv_skip ?_
    have e := sj h1; subst e
    refine gv_goal fun a hd hs hok => ?_
    exact ⟨hB22, (Nat.le_refl _), hb24, hb25, hd, hs, ok_pick [0, 2, 5, 7] hok (by kernel_rfl)⟩
  ·rintro a w27 ⟨hB46, hz47, hb48, hb49, hd, hs, hok⟩
   refine gv_in ?_ hd hs hok
   clear hd hs hok
   clear hz47 hb25 hb24 hB22
   refine gv_seq <| gv_seq <| gv_region <| gv_pureN 1 [18] [(18, (bp b7))] (by kernel_rfl) ?_
   refine gv_load (t := 3) (A := ⟨b7, 0, none⟩) (.int .i64 j26.1) [] (fun e => by cases e) rfl rfl rfl (by kernel_rfl) (by kernel_rfl) (by kernel_rfl) (inw0 (hb49.cell 0 rfl)) rfl ?_
   refine gv_pureN 1 [20] [(20, (.bool (j26.1 != 0)))] (by kernel_rfl) ?_
   refine gv_nil <| gv_cond (b := (j26.1 != 0)) (by kernel_rfl) (fun hc50 => ?_) (fun hc50 => ?_)
   ·replace h0 := ite_t hc50 h0
    refine gv_seq <| gv_region <| bindE h0 ?_; clear h0; intro j51 h1 h0
    refine gv_cut_ops (J := fun a w52 => Below w0.heap.size w0 w52 ∧ w27.heap.size ≤ w52.heap.size ∧ a.defers = [] ∧ a.tmps.size = 36 ∧ Ok [(8, (.bool j51))] a.tmps) ?_ ?_
    ·skip
     refine gv_loadBox (t := 24) (b := b1) (t' := 24) (fr := (0, 0)) #[(.int .i64 f_1.1), (.int .i64 f_1.2)] [] (fun e => by cases e) rfl rfl rfl (by kernel_rfl) (by kernel_rfl) (by kernel_rfl) (by kernel_rfl) (inw0 hb48) rfl ?_
     refine gv_loadBox (t := 24) (b := b7) (t' := 24) (fr := (0, 0)) #[(.int .i64 j26.1), (.int .i64 j26.2)] [] (fun e => by cases e) rfl rfl rfl (by kernel_rfl) (by kernel_rfl) (by kernel_rfl) (by kernel_rfl) (inw0 hb49) rfl ?_
     refine gv_eqs (t := 24) (op := .eql) (x := (.tmp 21)) (y := (.tmp 22)) (xs := #[(.int .i64 f_1.1), (.int .i64 f_1.2)]) (ys := #[(.int .i64 j26.1), (.int .i64 j26.2)]) ((f_1.1 == j26.1) && (f_1.2 == j26.2)) [] (fun e => by cases e) rfl rfl rfl (by kernel_rfl) (by kernel_rfl) (fun w' => eqs24eql f_1.1 f_1.2 j26.1 j26.2 _ _ w') rfl ?_
     refine gv_pureN 1 [24] [(24, (.bool ((f_1.1 == j26.1) && (f_1.2 == j26.2))))] (by kernel_rfl) ?_
     refine gv_split (s := 24) (g := ((f_1.1 == j26.1) && (f_1.2 == j26.2))) (by kernel_rfl) (fun hc53 => ?_) (fun hc53 => ?_)
     ·skip
      replace h1 := ite_t hc53 h1
      refine gv_pureN 4 [8, 25, 26, 27] [(8, (.bool (s_0.toList == (strOf []).toList)))] (by kernel_rfl) ?_
      refine gv_nil ?_
      have e := sj h1; subst e
      refine gv_goal fun a hd hs hok => ?_
      exact ⟨hB46, (Nat.le_refl _), hd, hs, ok_pick [8] hok (by kernel_rfl)⟩
     ·skip
      replace h1 := ite_f hc53 h1
      refine gv_pureN 4 [8, 25, 26, 27] [(8, (.bool false))] (by kernel_rfl) ?_
      refine gv_nil ?_
      have e := sj h1; subst e
      refine gv_goal fun a hd hs hok => ?_
      exact ⟨hB46, (Nat.le_refl _), hd, hs, ok_pick [8] hok (by kernel_rfl)⟩
    ·rintro a w52 ⟨hB54, hz55, hd, hs, hok⟩
     refine gv_in ?_ hd hs hok
     clear hd hs hok
     clear hz55 hc50 hb49 hb48 hB46 hbe11 hbe5 hb4 hg3
     refine gv_cret ?_
     have e := sj h0; subst e
     refine gv_ret (gv_done [(.bool j51)] rfl ⟨(by kernel_rfl), trivial⟩ ?_)
     exact ⟨grown_of_below hB54, rfl⟩
   ·replace h0 := ite_f hc50 h0
    refine gv_skip <| gv_seq <| gv_region <| bindE h0 ?_; clear h0; intro j56 h1 h0
    refine gv_cut_ops (J := fun a w57 => Below w0.heap.size w0 w57 ∧ w27.heap.size ≤ w57.heap.size ∧ a.defers = [] ∧ a.tmps.size = 36 ∧ Ok [(8, (.bool j56))] a.tmps) ?_ ?_
    ·skip
     refine gv_loadBox (t := 24) (b := b1) (t' := 24) (fr := (0, 0)) #[(.int .i64 f_1.1), (.int .i64 f_1.2)] [] (fun e => by cases e) rfl rfl rfl (by kernel_rfl) (by kernel_rfl) (by kernel_rfl) (by kernel_rfl) (inw0 hb48) rfl ?_
     refine gv_loadBox (t := 24) (b := b7) (t' := 24) (fr := (0, 0)) #[(.int .i64 j26.1), (.int .i64 j26.2)] [] (fun e => by cases e) rfl rfl rfl (by kernel_rfl) (by kernel_rfl) (by kernel_rfl) (by kernel_rfl) (inw0 hb49) rfl ?_
     refine gv_eqs (t := 24) (op := .eql) (x := (.tmp 28)) (y := (.tmp 29)) (xs := #[(.int .i64 f_1.1), (.int .i64 f_1.2)]) (ys := #[(.int .i64 j26.1), (.int .i64 j26.2)]) ((f_1.1 == j26.1) && (f_1.2 == j26.2)) [] (fun e => by cases e) rfl rfl rfl (by kernel_rfl) (by kernel_rfl) (fun w' => eqs24eql f_1.1 f_1.2 j26.1 j26.2 _ _ w') rfl ?_
     refine gv_pureN 1 [31] [(31, (.bool ((f_1.1 == j26.1) && (f_1.2 == j26.2))))] (by kernel_rfl) ?_
     refine gv_split (s := 31) (g := ((f_1.1 == j26.1) && (f_1.2 == j26.2))) (by kernel_rfl) (fun hc58 => ?_) (fun hc58 => ?_)
     ·skip
      replace h1 := ite_t hc58 h1
      refine gv_pureN 5 [8, 32, 33, 34, 35] [(8, (.bool (s_0.toList == want_2.toList)))] (by kernel_rfl) ?_
      refine gv_nil ?_
      have e := sj h1; subst e
      refine gv_goal fun a hd hs hok => ?_
      exact ⟨hB46, (Nat.le_refl _), hd, hs, ok_pick [8] hok (by kernel_rfl)⟩
     ·skip
      replace h1 := ite_f hc58 h1
      refine gv_pureN 5 [8, 32, 33, 34, 35] [(8, (.bool false))] (by kernel_rfl) ?_
      refine gv_nil ?_
      have e := sj h1; subst e
      refine gv_goal fun a hd hs hok => ?_
      exact ⟨hB46, (Nat.le_refl _), hd, hs, ok_pick [8] hok (by kernel_rfl)⟩
    ·rintro a w57 ⟨hB59, hz60, hd, hs, hok⟩
     refine gv_in ?_ hd hs hok
     clear hd hs hok
     clear hz60 hc50 hb49 hb48 hB46 hbe11 hbe5 hb4 hg3
     refine gv_cret ?_
     have e := sj h0; subst e
     refine gv_ret (gv_done [(.bool j56)] rfl ⟨(by kernel_rfl), trivial⟩ ?_)
     exact ⟨grown_of_below hB59, rfl⟩

theorem ref4_Titled_ok (fuel : Nat) (pa0_0 : Option Addr) (pc0_0 : Nat) (l_0 : (List Int)) (w0 : World) (X0 : Nat → Prop) (hX0 : ∀ k, X0 k → k < w0.heap.size) (hpa0_0 : Rd (iE .i64) w0 X0 pa0_0 pc0_0 l_0) (r0 : (List Int)) (h0 : ref4_Titled fuel l_0 = some r0) :
    Calls Tryd.prog 28 ([(.slice pa0_0 (List.length l_0) pc0_0)] : List Value).toArray w0 (Ret fun v w' => w0.grownBy w' none ∧ ∃ (a0_0r : Option Addr) (c0_0r : Nat), v = tup [(.slice a0_0r (List.length r0) c0_0r)] ∧ Gv.Own (iE .i64) 3 w' (fun _ => False) a0_0r c0_0r r0 ∧ (∀ g, blk a0_0r = some g → w0.heap.size ≤ g)) := by
 have hB0 : Below w0.heap.size w0 w0 := Below.refl _ _
 unfold ref4_Titled at h0
 refine calls_run Tryd.func28 rfl Tryd.ntmps28 (by kernel_rfl) ?_
 refine gv_sub [0] (σ' := [(0, (.slice pa0_0 (List.length l_0) pc0_0))]) (by kernel_rfl) ?_
 refine gv_seq <| gv_region <| gv_pureN 1 [2] [] (by kernel_rfl) ?_
 refine gv_nil <| gv_seq <| gv_region <| gv_pureN 1 [3] [(3, (.slice none (List.length ([] : List Int)) 0))] (by kernel_rfl) ?_
 refine gv_nil <| gv_seq <| gv_seq <| gv_region <| gv_pureN 1 [4] [(4, (.int .i64 0))] (by kernel_rfl) ?_
 refine gv_nil <| bindE h0 ?_; clear h0; intro j1 h1 h0
 refine gv_cut_code (J := fun a w2 => ∃ (a3_0j : Option Addr) (c3_0j : Nat), Below w0.heap.size w0 w2 ∧ w0.heap.size ≤ w2.heap.size ∧ Gv.Own (iE .i64) 3 w2 (fun _ => False) a3_0j c3_0j j1 ∧ (∀ g, blk a3_0j = some g → w0.heap.size ≤ g) ∧ a.defers = [] ∧ a.tmps.size = 59 ∧ Ok [(3, (.slice a3_0j (List.length j1) c3_0j))] a.tmps) ?_ ?_
 ·skip
  refine gv_block <| gv_loop (A := fun (s3 : ((List Int) × Int)) a w4 => ∃ (a3_0j : Option Addr) (c3_0j : Nat), Below w0.heap.size w0 w4 ∧ w0.heap.size ≤ w4.heap.size ∧ Gv.Own (iE .i64) 3 w4 (fun _ => False) a3_0j c3_0j s3.1 ∧ (∀ g, blk a3_0j = some g → w0.heap.size ≤ g) ∧ a.defers = [] ∧ a.tmps.size = 59 ∧ Ok [(0, (.slice pa0_0 (List.length l_0) pc0_0)), (3, (.slice a3_0j (List.length s3.1) c3_0j)), (4, (.int .i64 s3.2))] a.tmps) h1 ?_ ?_
  ·intro a hd hs hok
   exact ⟨none, 0, hB0, (Nat.le_refl _), (Gv.Own.nil (iE .i64) 3 w0 (fun _ => False)), (fun _ h => by cases h), hd, hs, ok_pick [0, 3, 4] hok (by kernel_rfl)⟩
  ·rintro s3 r2 h2 hR2 a w4 ⟨a7, c8, hB5, hz6, ho9, hl10, hd, hs, hok⟩
   refine gv_in ?_ hd hs hok
   clear hd hs hok
   refine gv_seq <| gv_seq <| gv_region <| gv_pureN 4 [8, 9, 10, 11] [(11, (.bool (decide (s3.2 < ((List.length l_0 : Nat) : Int)))))] (by kernel_rfl) ?_
   refine gv_nil <| gv_cond (b := (decide (s3.2 < ((List.length l_0 : Nat) : Int)))) (by kernel_rfl) (fun hc11 => ?_) (fun hc11 => ?_)
   ·replace h2 := ite_t hc11 h2
    refine gv_skip <| gv_seq <| gv_block <| gv_seq <| gv_region <| gv_pureN 2 [15, 16] [(15, (.slice pa0_0 (List.length l_0) pc0_0)), (16, (.int .i64 s3.2))] (by kernel_rfl) ?_
    refine bindE h2 ?_; clear h2; intro x12 hx13 h2
    refine gv_idxaddr (t := 38) (e := 3) (a := pa0_0) (len := List.length l_0) (cap := pc0_0) (kk := .i64) (i := s3.2) (sz := 1) [] (fun e => by cases e) rfl rfl rfl (by kernel_rfl) (by kernel_rfl) Tryd.underlying38 (by kernel_rfl) ((hpa0_0.below hB5 hX0).has hx13) (idx_spec hx13).1 (idx_spec hx13).2.1 rfl ?_
    refine gv_load (t := 3) (A := (elemAddr pa0_0 ((s3.2 : Int).toNat * 1))) (.int .i64 x12) [] (fun e => by cases e) rfl rfl rfl (by kernel_rfl) (by kernel_rfl) (by kernel_rfl) (inw0 ((hpa0_0.below hB5 hX0).cell hx13)) rfl ?_
    refine bindE h2 ?_; clear h2; intro r14 hr15 h2
    refine gv_call0 (by kernel_rfl) rfl (by kernel_rfl) enters30 (ref4_Class_ok fuel x12 w4  r14 hr15) ?_
    rintro v18 w16 ⟨hg17, rfl⟩
    refine gv_pureN 5 [5, 6, 14, 20, 21] [(5, (.int .i64 r14.1)), (6, (.int .i64 r14.2))] (by kernel_rfl) ?_
    refine gv_nil <| gv_seq <| gv_region <| gv_pureN 1 [7] [(7, (.int .i64 16))] (by kernel_rfl) ?_
    refine gv_nil <| gv_seq <| gv_seq <| gv_region <| gv_pureN 2 [22, 23] [(23, (.bool (decide (s3.2 > 0))))] (by kernel_rfl) ?_
    refine gv_nil <| bindE h2 ?_; clear h2; intro j19 h3 h2
    refine gv_cut_code (J := fun a w20 => Below w0.heap.size w0 w20 ∧ w16.heap.size ≤ w20.heap.size ∧ Gv.Own (iE .i64) 3 w20 (fun _ => False) a7 c8 s3.1 ∧ a.defers = [] ∧ a.tmps.size = 59 ∧ Ok [(0, (.slice pa0_0 (List.length l_0) pc0_0)), (3, (.slice a7 (List.length s3.1) c8)), (4, (.int .i64 s3.2)), (5, (.int .i64 r14.1)), (6, (.int .i64 r14.2)), (7, (.int .i64 j19))] a.tmps) ?_ ?_
    ·skip
     refine gv_cond (b := (decide (s3.2 > 0))) (by kernel_rfl) (fun hc21 => ?_) (fun hc21 => ?_)
     ·replace h3 := ite_t hc21 h3
      refine gv_region <| gv_pureN 3 [25, 26, 27] [(25, (.slice pa0_0 (List.length l_0) pc0_0)), (27, (.int .i64 (IntKind.i64.wrap (s3.2 - 1))))] (by kernel_rfl) ?_
      refine bindE h3 ?_; clear h3; intro x22 hx23 h3
      have hB24 := bg hB5 hg17 nb
      refine gv_idxaddr (t := 38) (e := 3) (a := pa0_0) (len := List.length l_0) (cap := pc0_0) (kk := .i64) (i := (IntKind.i64.wrap (s3.2 - 1))) (sz := 1) [] (fun e => by cases e) rfl rfl rfl (by kernel_rfl) (by kernel_rfl) Tryd.underlying38 (by kernel_rfl) ((hpa0_0.below hB24 hX0).has hx23) (idx_spec hx23).1 (idx_spec hx23).2.1 rfl ?_
      refine gv_load (t := 3) (A := (elemAddr pa0_0 (((IntKind.i64.wrap (s3.2 - 1)) : Int).toNat * 1))) (.int .i64 x22) [] (fun e => by cases e) rfl rfl rfl (by kernel_rfl) (by kernel_rfl) (by kernel_rfl) (inw0 ((hpa0_0.below hB24 hX0).cell hx23)) rfl ?_
      refine bindE h3 ?_; clear h3; intro r25 hr26 h3
      refine gv_call0 (by kernel_rfl) rfl (by kernel_rfl) enters30 (ref4_Class_ok fuel x22 w16  r25 hr26) ?_
      rintro v29 w27 ⟨hg28, rfl⟩
      refine gv_pureN 4 [7, 24, 31, 32] [(7, (.int .i64 r25.1))] (by kernel_rfl) ?_
      refine gv_nil ?_
      have e := sj h3; subst e
      refine gv_goal fun a hd hs hok => ?_
      have hB30 := bg hB24 hg28 nb
      have hz31 := hg28.size
      have hg32 := (grown_trans hg17 hg28)
      have hk33 := ho9.grown hg32 (fun _ h => h.elim) nb
      exact ⟨hB30, hz31, hk33, hd, hs, ok_pick [0, 3, 4, 5, 6, 7] hok (by kernel_rfl)⟩
     ·replace h3 := ite_f hc21 h3
      refine gv_skip ?_
      have e := sj h3; subst e
      refine gv_goal fun a hd hs hok => ?_
      have hB34 := bg hB5 hg17 nb
      have hk35 := ho9.grown hg17 (fun _ h => h.elim) nb
      exact ⟨hB34, (Nat.le_refl _), hk35, hd, hs, ok_pick [0, 3, 4, 5, 6, 7] hok (by kernel_rfl)⟩
    ·rintro a w20 ⟨hB36, hz37, hk38, hd, hs, hok⟩
     refine gv_in ?_ hd hs hok
     clear hd hs hok
     have hz39 := (nt (nt hz6 hg17.size) hz37)
     clear hz37 hg17 hr15 hx13 hc11 ho9 hz6 hB5
     refine gv_seq <| gv_region <| gv_cut_ops (J := fun a w40 => w20 = w40 ∧ a.defers = [] ∧ a.tmps.size = 59 ∧ Ok [(0, (.slice pa0_0 (List.length l_0) pc0_0)), (3, (.slice a7 (List.length s3.1) c8)), (4, (.int .i64 s3.2)), (6, (.int .i64 r14.2)), (46, (.bool (if (r14.1 == 2) then ((decide (j19 > 2)) || ((r14.1 == 1) && (decide (j19 ≤ 2)))) else ((r14.1 == 1) && (decide (j19 ≤ 2))))))] a.tmps) ?_ ?_
     ·skip
      refine gv_pureN 3 [33, 34, 35] [(35, (.bool (r14.1 == 2)))] (by kernel_rfl) ?_
      refine gv_split (s := 35) (g := (r14.1 == 2)) (by kernel_rfl) (fun hc41 => ?_) (fun hc41 => ?_)
      ·skip
       refine gv_pureN 4 [36, 37, 38, 39] [(39, (.bool (decide (j19 > 2))))] (by kernel_rfl) ?_
       refine gv_split (s := 39) (g := (decide (j19 > 2))) (by kernel_rfl) (fun hc42 => ?_) (fun hc42 => ?_)
       ·skip
        refine gv_pureN 7 [40, 41, 42, 43, 44, 45, 46] [(46, (.bool true))] (by kernel_rfl) ?_
        refine gv_nil <| gv_sub [0, 3, 4, 6, 46] (σ' := [(0, (.slice pa0_0 (List.length l_0) pc0_0)), (3, (.slice a7 (List.length s3.1) c8)), (4, (.int .i64 s3.2)), (6, (.int .i64 r14.2)), (46, (.bool true))]) (by kernel_rfl) ?_
        refine gv_goal fun a hd hs hok => ⟨rfl, hd, hs, ?_⟩
        obtain ⟨q0, q3, q4, q6, q46, _⟩ := hok
        exact ⟨q0, q3, q4, q6, (by rw [hc41, hc42]; exact q46), trivial⟩
       ·skip
        refine gv_pureN 3 [40, 41, 42] [(42, (.bool (r14.1 == 1)))] (by kernel_rfl) ?_
        refine gv_split (s := 42) (g := (r14.1 == 1)) (by kernel_rfl) (fun hc43 => ?_) (fun hc43 => ?_)
        ·skip
         refine gv_pureN 4 [43, 44, 45, 46] [(46, (.bool (decide (j19 ≤ 2))))] (by kernel_rfl) ?_
         refine gv_nil <| gv_sub [0, 3, 4, 6, 46] (σ' := [(0, (.slice pa0_0 (List.length l_0) pc0_0)), (3, (.slice a7 (List.length s3.1) c8)), (4, (.int .i64 s3.2)), (6, (.int .i64 r14.2)), (46, (.bool (decide (j19 ≤ 2))))]) (by kernel_rfl) ?_
         refine gv_goal fun a hd hs hok => ⟨rfl, hd, hs, ?_⟩
         obtain ⟨q0, q3, q4, q6, q46, _⟩ := hok
         exact ⟨q0, q3, q4, q6, (by rw [hc41, hc42, hc43]; exact q46), trivial⟩
        ·skip
         refine gv_pureN 4 [43, 44, 45, 46] [(46, (.bool false))] (by kernel_rfl) ?_
         refine gv_nil <| gv_sub [0, 3, 4, 6, 46] (σ' := [(0, (.slice pa0_0 (List.length l_0) pc0_0)), (3, (.slice a7 (List.length s3.1) c8)), (4, (.int .i64 s3.2)), (6, (.int .i64 r14.2)), (46, (.bool false))]) (by kernel_rfl) ?_
         refine gv_goal fun a hd hs hok => ⟨rfl, hd, hs, ?_⟩
         obtain ⟨q0, q3, q4, q6, q46, _⟩ := hok
         exact ⟨q0, q3, q4, q6, (by rw [hc41, hc42, hc43]; exact q46), trivial⟩
      ·skip
       refine gv_pureN 7 [36, 37, 38, 39, 40, 41, 42] [(39, (.bool false)), (42, (.bool (r14.1 == 1)))] (by kernel_rfl) ?_
       refine gv_split (s := 42) (g := (r14.1 == 1)) (by kernel_rfl) (fun hc44 => ?_) (fun hc44 => ?_)
       ·skip
        refine gv_pureN 4 [43, 44, 45, 46] [(46, (.bool (decide (j19 ≤ 2))))] (by kernel_rfl) ?_
        refine gv_nil <| gv_sub [0, 3, 4, 6, 46] (σ' := [(0, (.slice pa0_0 (List.length l_0) pc0_0)), (3, (.slice a7 (List.length s3.1) c8)), (4, (.int .i64 s3.2)), (6, (.int .i64 r14.2)), (46, (.bool (decide (j19 ≤ 2))))]) (by kernel_rfl) ?_
        refine gv_goal fun a hd hs hok => ⟨rfl, hd, hs, ?_⟩
        obtain ⟨q0, q3, q4, q6, q46, _⟩ := hok
        exact ⟨q0, q3, q4, q6, (by rw [hc41, hc44]; exact q46), trivial⟩
       ·skip
        refine gv_pureN 4 [43, 44, 45, 46] [(46, (.bool false))] (by kernel_rfl) ?_
        refine gv_nil <| gv_sub [0, 3, 4, 6, 46] (σ' := [(0, (.slice pa0_0 (List.length l_0) pc0_0)), (3, (.slice a7 (List.length s3.1) c8)), (4, (.int .i64 s3.2)), (6, (.int .i64 r14.2)), (46, (.bool false))]) (by kernel_rfl) ?_
        refine gv_goal fun a hd hs hok => ⟨rfl, hd, hs, ?_⟩
        obtain ⟨q0, q3, q4, q6, q46, _⟩ := hok
        exact ⟨q0, q3, q4, q6, (by rw [hc41, hc44]; exact q46), trivial⟩
     ·rintro a w40 ⟨e, hd, hs, hok⟩; subst e
      refine gv_in ?_ hd hs hok
      clear hd hs hok
      refine bindE h2 ?_; clear h2; intro j45 h3 h2
      refine gv_cut_code (J := fun a w46 => ∃ (a3_0j : Option Addr) (c3_0j : Nat), Below w0.heap.size w0 w46 ∧ w20.heap.size ≤ w46.heap.size ∧ Gv.Own (iE .i64) 3 w46 (fun _ => False) a3_0j c3_0j j45 ∧ (∀ g, blk a3_0j = some g → w0.heap.size ≤ g) ∧ a.defers = [] ∧ a.tmps.size = 59 ∧ Ok [(0, (.slice pa0_0 (List.length l_0) pc0_0)), (3, (.slice a3_0j (List.length j45) c3_0j)), (4, (.int .i64 s3.2))] a.tmps) ?_ ?_
      ·skip
       refine gv_cond (b := (if (r14.1 == 2) then ((decide (j19 > 2)) || ((r14.1 == 1) && (decide (j19 ≤ 2)))) else ((r14.1 == 1) && (decide (j19 ≤ 2))))) (by kernel_rfl) (fun hc47 => ?_) (fun hc47 => ?_)
       ·replace h3 := ite_t hc47 h3
        refine gv_region <| gv_pureN 2 [47, 48] [(47, (.slice a7 (List.length s3.1) c8)), (48, (.int .i64 r14.2))] (by kernel_rfl) ?_
        refine gv_new0 (fun b => .slice (some ⟨b, 0, none⟩) 1 1) #[(.int .i64 r14.2)] 3 (by kernel_rfl) (by kernel_rfl) ?_
        intro b48 w49 hg50 hb51 hbe52 hz53
        have ho54 : Gv.Own (iE .i64) 3 w49 (fun _ => False) (some ⟨b48, 0, none⟩) 1 ([r14.2] : List Int) := Box.ownE hb51 ⟨[(.int .i64 r14.2)], [], rfl, rfl, rfl⟩ (show 1 ≤ maxLen by decide) (fun h => h)
        have hl55 : ∀ g, blk (some ⟨b48, 0, none⟩) = some g → w0.heap.size ≤ g := loo hbe52 hB36.size
        refine bindE h3 ?_; clear h3; intro l59 hx60 h3
        have hk67 := hk38.grown hg50 (fun _ h => h.elim) nb
        refine gv_append (iE .i64) (t := 38) (ty := 38) (e := 3) (a := a7) (ax := (some ⟨b48, 0, none⟩)) (cap := c8) (cx := 1) (xs := s3.1) (ys := ([r14.2] : List Int)) l59 (X := (fun _ => False)) (Y := (fun k => blk (some ⟨b48, 0, none⟩) = some k)) (by decide) rfl rfl (by kernel_rfl) (by kernel_rfl) Tryd.underlying38 info3 hk67 (ho54.rd (Y := fun k => blk (some ⟨b48, 0, none⟩) = some k) (fun _ h => h.elim) (fun g e => e)) hx60 (.inr fun _ _ _ _ _ h => h) (fun _ h => h.elim) ?_
        intro a61 c62 w63 hg64 ho65 hk66
        refine ⟨(fun e => by cases e), ?_⟩
        have hB69 := bg hB36 hg50 nb
        have hl68 : ∀ g, blk a61 = some g → w0.heap.size ≤ g := blk_step hk66 hl10 hB69.size
        have ap71 : ∀ g, blk a7 = some g → ¬ (fun k => blk (some ⟨b48, 0, none⟩) = some k) g := fun g e hx => nl ((lowo hbe52) _ hx) ((fun k (hk : blk a7 = some k) => hk38.lt k hk) g e)
        have ap70 : ∀ g, blk a61 = some g → ¬ (fun k => blk (some ⟨b48, 0, none⟩) = some k) g := blk_neX hk66 ap71 (fun k (hk : blk (some ⟨b48, 0, none⟩) = some k) => ho54.lt k hk)
        have ap73 : ∀ g, blk (some ⟨b48, 0, none⟩) = some g → ¬ (fun k => blk a7 = some k) g := fun g e hx => nl ((lowo hbe52) g e) ((fun k (hk : blk a7 = some k) => hk38.lt k hk) _ hx)
        have ap72 : ∀ g, blk (some ⟨b48, 0, none⟩) = some g → ¬ (fun k => blk a61 = some k) g := fun g e h => blk_rev hk66 (fun h => ((ap73) g e) h) (ho54.lt g e) h
        refine gv_pureN 1 [3] [(3, (.slice a61 (List.length l59) c62))] (by kernel_rfl) ?_
        refine gv_nil ?_
        have e := sj h3; subst e
        refine gv_goal fun a hd hs hok => ?_
        have hB74 := bg hB69 hg64 hl10
        have hz75 := (nt hg50.size hg64.size)
        exact ⟨a61, c62, hB74, hz75, ho65, hl68, hd, hs, ok_pick [0, 3, 4] hok (by kernel_rfl)⟩
       ·replace h3 := ite_f hc47 h3
        refine gv_region <| gv_pureN 3 [51, 52, 53] [(51, (.slice a7 (List.length s3.1) c8)), (52, (.slice pa0_0 (List.length l_0) pc0_0)), (53, (.int .i64 s3.2))] (by kernel_rfl) ?_
        refine bindE h3 ?_; clear h3; intro x76 hx77 h3
        refine gv_idxaddr (t := 38) (e := 3) (a := pa0_0) (len := List.length l_0) (cap := pc0_0) (kk := .i64) (i := s3.2) (sz := 1) [] (fun e => by cases e) rfl rfl rfl (by kernel_rfl) (by kernel_rfl) Tryd.underlying38 (by kernel_rfl) ((hpa0_0.below hB36 hX0).has hx77) (idx_spec hx77).1 (idx_spec hx77).2.1 rfl ?_
        refine gv_load (t := 3) (A := (elemAddr pa0_0 ((s3.2 : Int).toNat * 1))) (.int .i64 x76) [] (fun e => by cases e) rfl rfl rfl (by kernel_rfl) (by kernel_rfl) (by kernel_rfl) (inw0 ((hpa0_0.below hB36 hX0).cell hx77)) rfl ?_
        refine gv_new0 (fun b => .slice (some ⟨b, 0, none⟩) 1 1) #[(.int .i64 x76)] 3 (by kernel_rfl) (by kernel_rfl) ?_
        intro b78 w79 hg80 hb81 hbe82 hz83
        have ho84 : Gv.Own (iE .i64) 3 w79 (fun _ => False) (some ⟨b78, 0, none⟩) 1 ([x76] : List Int) := Box.ownE hb81 ⟨[(.int .i64 x76)], [], rfl, rfl, rfl⟩ (show 1 ≤ maxLen by decide) (fun h => h)
        have hl85 : ∀ g, blk (some ⟨b78, 0, none⟩) = some g → w0.heap.size ≤ g := loo hbe82 hB36.size
        refine bindE h3 ?_; clear h3; intro l89 hx90 h3
        have hk97 := hk38.grown hg80 (fun _ h => h.elim) nb
        refine gv_append (iE .i64) (t := 38) (ty := 38) (e := 3) (a := a7) (ax := (some ⟨b78, 0, none⟩)) (cap := c8) (cx := 1) (xs := s3.1) (ys := ([x76] : List Int)) l89 (X := (fun _ => False)) (Y := (fun k => blk (some ⟨b78, 0, none⟩) = some k)) (by decide) rfl rfl (by kernel_rfl) (by kernel_rfl) Tryd.underlying38 info3 hk97 (ho84.rd (Y := fun k => blk (some ⟨b78, 0, none⟩) = some k) (fun _ h => h.elim) (fun g e => e)) hx90 (.inr fun _ _ _ _ _ h => h) (fun _ h => h.elim) ?_
        intro a91 c92 w93 hg94 ho95 hk96
        refine ⟨(fun e => by cases e), ?_⟩
        have hB99 := bg hB36 hg80 nb
        have hl98 : ∀ g, blk a91 = some g → w0.heap.size ≤ g := blk_step hk96 hl10 hB99.size
        have ap101 : ∀ g, blk a7 = some g → ¬ (fun k => blk (some ⟨b78, 0, none⟩) = some k) g := fun g e hx => nl ((lowo hbe82) _ hx) ((fun k (hk : blk a7 = some k) => hk38.lt k hk) g e)
        have ap100 : ∀ g, blk a91 = some g → ¬ (fun k => blk (some ⟨b78, 0, none⟩) = some k) g := blk_neX hk96 ap101 (fun k (hk : blk (some ⟨b78, 0, none⟩) = some k) => ho84.lt k hk)
        have ap103 : ∀ g, blk (some ⟨b78, 0, none⟩) = some g → ¬ (fun k => blk a7 = some k) g := fun g e hx => nl ((lowo hbe82) g e) ((fun k (hk : blk a7 = some k) => hk38.lt k hk) _ hx)
        have ap102 : ∀ g, blk (some ⟨b78, 0, none⟩) = some g → ¬ (fun k => blk a91 = some k) g := fun g e h => blk_rev hk96 (fun h => ((ap103) g e) h) (ho84.lt g e) h
        refine gv_pureN 1 [3] [(3, (.slice a91 (List.length l89) c92))] (by kernel_rfl) ?_
        refine gv_nil ?_
        have e := sj h3; subst e
        refine gv_goal fun a hd hs hok => ?_
        have hB104 := bg hB99 hg94 hl10
        have hz105 := (nt hg80.size hg94.size)
        exact ⟨a91, c92, hB104, hz105, ho95, hl98, hd, hs, ok_pick [0, 3, 4] hok (by kernel_rfl)⟩
      ·rintro a w46 ⟨a108, c109, hB106, hz107, ho110, hl111, hd, hs, hok⟩
       refine gv_in ?_ hd hs hok
       clear hd hs hok
       have hz112 := (nt hz39 hz107)
       clear hz107 hz39 hk38 hB36 hl10
       refine gv_blk <| gv_region <| gv_pureN 3 [4, 12, 13] [(4, (.int .i64 (IntKind.i64.wrap (s3.2 + 1))))] (by kernel_rfl) ?_
       refine gv_nil ?_
       have e := sj h2; subst e
       refine gv_goal fun a hd hs hok => ?_
       have hz113 := hz112
       exact ⟨(j45, (IntKind.i64.wrap (s3.2 + 1))), rfl, a108, c109, hB106, hz113, ho110, hl111, hd, hs, ok_pick [0, 3, 4] hok (by kernel_rfl)⟩
   ·replace h2 := ite_f hc11 h2
    refine gv_cexit <| gv_exit rfl ?_
    have e := sj h2; subst e
    replace h1 := congrArg some (hR2 _ rfl)
    have e := sj h1; subst e
    refine gv_goal fun a hd hs hok => ?_
    have hz114 := hz6
    exact ⟨a7, c8, hB5, hz114, ho9, hl10, hd, hs, ok_pick [3] hok (by kernel_rfl)⟩
 ·rintro a w2 ⟨a117, c118, hB115, hz116, ho119, hl120, hd, hs, hok⟩
  refine gv_in ?_ hd hs hok
  clear hd hs hok
  refine gv_seq <| gv_region <| gv_pureN 2 [2, 58] [(2, (.slice a117 (List.length j1) c118))] (by kernel_rfl) ?_
  refine gv_nil <| gv_cret ?_
  have e := sj h0; subst e
  refine gv_ret (gv_done [(.slice a117 (List.length j1) c118)] rfl ⟨(by kernel_rfl), trivial⟩ ?_)
  exact ⟨grown_of_below hB115, a117, c118, rfl, ho119, hl120⟩

theorem law4_TextstrLetters_ok (fuel : Nat) (s_0 : ByteArray) (classes_1 : Int) (w0 : World) (X0 : Nat → Prop) (hX0 : ∀ k, X0 k → k < w0.heap.size) {gmx : Int} (hG0 : Rd (iE .i64) w0 X0 (some ⟨0, 0, none⟩) 1 [gmx]) (hG1 : Rd bE w0 X0 (some ⟨1, 0, none⟩) 256 utf8First) (hG2 : Rd (prE (iE .u8) (iE .u8)) w0 X0 (some ⟨2, 0, none⟩) 16 utf8Acc) (r0 : Bool) (h0 : law4_TextstrLetters fuel s_0 classes_1 = some r0) :
    Calls Tryd.prog 4 ([(.string s_0), (.int .i64 classes_1)] : List Value).toArray w0 (Ret fun v w' => w0.grownBy w' none ∧ v = tup [(.bool r0)]) := by
 have hB0 : Below w0.heap.size w0 w0 := Below.refl _ _
 unfold law4_TextstrLetters at h0
 refine calls_run Tryd.func4 rfl Tryd.ntmps4 (by kernel_rfl) ?_
 refine gv_sub [0, 1] (σ' := [(0, (.string s_0)), (1, (.int .i64 classes_1))]) (by kernel_rfl) ?_
 refine gv_seq <| gv_region <| gv_pureN 1 [4] [] (by kernel_rfl) ?_
 refine gv_nil <| gv_seq <| gv_region <| gv_pureN 1 [21] [(21, (.string s_0))] (by kernel_rfl) ?_
 refine bindE h0 ?_; clear h0; intro r1 hr2 h0
 refine gv_call0 (by kernel_rfl) rfl (by kernel_rfl) enters19 (textstr_ToUpper_ok fuel s_0 w0 (fun k => X0 k ∨ X0 k) (fun k hk => (hk).elim (fun h => (fun k (hk : X0 k) => ltl (hX0 k hk) hB0.size) k h) (fun h => (fun k (hk : X0 k) => ltl (hX0 k hk) hB0.size) k h)) ((hG1.below hB0 hX0).wide (fun k hk => (.inl hk))) ((hG2.below hB0 hX0).wide (fun k hk => (.inr hk))) r1 hr2) ?_
 rintro v5 w3 ⟨hg4, rfl⟩
 refine gv_pureN 3 [20, 23, 24] [(23, (.string r1.1)), (24, (.agg #[(.int .i64 r1.2.1), (.int .i64 r1.2.2)]))] (by kernel_rfl) ?_
 refine gv_new0 (fun b => .pointer (some ⟨b, 0, none⟩)) #[(.int .i64 0), (.int .i64 0)] 24 (by kernel_rfl) (by kernel_rfl) ?_
 intro b6 w7 hg8 hb9 hbe10 hz11
 refine gv_pureN 1 [5] [(5, (.string r1.1))] (by kernel_rfl) ?_
 refine gv_store0 24 0 (.agg #[(.int .i64 r1.2.1), (.int .i64 r1.2.2)]) #[(.int .i64 r1.2.1), (.int .i64 r1.2.2)] hb9 (by kernel_rfl) (by kernel_rfl) (by kernel_rfl) ?_
 intro w12 hg13 hb14 hz15
 refine gv_nil <| gv_seq <| gv_region <| gv_pureN 1 [26] [(26, (.string s_0))] (by kernel_rfl) ?_
 refine bindE h0 ?_; clear h0; intro r16 hr17 h0
 have hg18 := (grown_trans hg4 hg8)
 have hB19 := bg hB0 hg18 nb
 have hB20 := bg hB0 hg4 nb
 have hlo21 : w0.heap.size ≤ b6 := lob hbe10 hB20.size
 have hB22 := bg hB19 hg13 (rowlo hlo21)
 refine gv_call0 (by kernel_rfl) rfl (by kernel_rfl) enters20 (textstr_ToLower_ok fuel s_0 w12 (fun k => X0 k ∨ X0 k) (fun k hk => (hk).elim (fun h => (fun k (hk : X0 k) => ltl (hX0 k hk) hB22.size) k h) (fun h => (fun k (hk : X0 k) => ltl (hX0 k hk) hB22.size) k h)) ((hG1.below hB22 hX0).wide (fun k hk => (.inl hk))) ((hG2.below hB22 hX0).wide (fun k hk => (.inr hk))) r16 hr17) ?_
 rintro v25 w23 ⟨hg24, rfl⟩
 refine gv_pureN 3 [25, 28, 29] [(28, (.string r16.1)), (29, (.agg #[(.int .i64 r16.2.1), (.int .i64 r16.2.2)]))] (by kernel_rfl) ?_
 refine gv_new0 (fun b => .pointer (some ⟨b, 0, none⟩)) #[(.int .i64 0), (.int .i64 0)] 24 (by kernel_rfl) (by kernel_rfl) ?_
 intro b26 w27 hg28 hb29 hbe30 hz31
 refine gv_pureN 1 [7] [(7, (.string r16.1))] (by kernel_rfl) ?_
 refine gv_store0 24 0 (.agg #[(.int .i64 r16.2.1), (.int .i64 r16.2.2)]) #[(.int .i64 r16.2.1), (.int .i64 r16.2.2)] hb29 (by kernel_rfl) (by kernel_rfl) (by kernel_rfl) ?_
 intro w32 hg33 hb34 hz35
 refine gv_nil <| gv_seq <| gv_region <| gv_pureN 1 [31] [(31, (.string s_0))] (by kernel_rfl) ?_
 refine gv_sub [0, 1, 5, 6, 7, 8, 31] (σ' := [(0, (.string s_0)), (1, (.int .i64 classes_1)), (5, (.string r1.1)), (6, (bp b6)), (7, (.string r16.1)), (8, (bp b26)), (31, (.string s_0))]) (by kernel_rfl) ?_
 refine bindE h0 ?_; clear h0; intro r36 hr37 h0
 have hg38 := (grown_trans hg24 hg28)
 have hB39 := bg hB22 hg38 nb
 have hB40 := bg hB22 hg24 nb
 have hlo41 : w0.heap.size ≤ b26 := lob hbe30 hB40.size
 have hB42 := bg hB39 hg33 (rowlo hlo41)
 refine gv_call0 (by kernel_rfl) rfl (by kernel_rfl) enters21 (textstr_ToTitle_ok fuel s_0 w32 (fun k => X0 k ∨ X0 k) (fun k hk => (hk).elim (fun h => (fun k (hk : X0 k) => ltl (hX0 k hk) hB42.size) k h) (fun h => (fun k (hk : X0 k) => ltl (hX0 k hk) hB42.size) k h)) ((hG1.below hB42 hX0).wide (fun k hk => (.inl hk))) ((hG2.below hB42 hX0).wide (fun k hk => (.inr hk))) r36 hr37) ?_
 rintro v45 w43 ⟨hg44, rfl⟩
 refine gv_pureN 3 [30, 33, 34] [(33, (.string r36.1)), (34, (.agg #[(.int .i64 r36.2.1), (.int .i64 r36.2.2)]))] (by kernel_rfl) ?_
 refine gv_new0 (fun b => .pointer (some ⟨b, 0, none⟩)) #[(.int .i64 0), (.int .i64 0)] 24 (by kernel_rfl) (by kernel_rfl) ?_
 intro b46 w47 hg48 hb49 hbe50 hz51
 clear hz51 hB40 hB39 hg38 hr37 hz35 hz31 hb29 hB22 hB20 hB19 hg18 hr17 hz15 hg13 hz11 hbe10 hb9 hg8 hg4 hr2
 refine gv_pureN 1 [9] [(9, (.string r36.1))] (by kernel_rfl) ?_
 refine gv_store0 24 0 (.agg #[(.int .i64 r36.2.1), (.int .i64 r36.2.2)]) #[(.int .i64 r36.2.1), (.int .i64 r36.2.2)] hb49 (by kernel_rfl) (by kernel_rfl) (by kernel_rfl) ?_
 intro w52 hg53 hb54 hz55
 refine gv_nil <| gv_seq <| gv_region <| gv_pureN 2 [36, 37] [(36, (.string s_0)), (37, (.int .i64 classes_1))] (by kernel_rfl) ?_
 refine bindE h0 ?_; clear h0; intro r56 hr57 h0
 have hg58 := (grown_trans hg44 hg48)
 have hB59 := bg hB42 hg58 nb
 have hB60 := bg hB42 hg44 nb
 have hlo61 : w0.heap.size ≤ b46 := lob hbe50 hB60.size
 have hB62 := bg hB59 hg53 (rowlo hlo61)
 refine gv_call0 (by kernel_rfl) rfl (by kernel_rfl) enters22 (textstr_Is_ok fuel s_0 classes_1 w52 (fun k => X0 k ∨ X0 k) (fun k hk => (hk).elim (fun h => (fun k (hk : X0 k) => ltl (hX0 k hk) hB62.size) k h) (fun h => (fun k (hk : X0 k) => ltl (hX0 k hk) hB62.size) k h)) ((hG1.below hB62 hX0).wide (fun k hk => (.inl hk))) ((hG2.below hB62 hX0).wide (fun k hk => (.inr hk))) r56 hr57) ?_
 rintro v65 w63 ⟨hg64, rfl⟩
 refine gv_pureN 3 [35, 39, 40] [(39, (.bool r56.1)), (40, (.agg #[(.int .i64 r56.2.1), (.int .i64 r56.2.2)]))] (by kernel_rfl) ?_
 refine gv_new0 (fun b => .pointer (some ⟨b, 0, none⟩)) #[(.int .i64 0), (.int .i64 0)] 24 (by kernel_rfl) (by kernel_rfl) ?_
 intro b66 w67 hg68 hb69 hbe70 hz71
 refine gv_pureN 1 [11] [(11, (.bool r56.1))] (by kernel_rfl) ?_
 refine gv_store0 24 0 (.agg #[(.int .i64 r56.2.1), (.int .i64 r56.2.2)]) #[(.int .i64 r56.2.1), (.int .i64 r56.2.2)] hb69 (by kernel_rfl) (by kernel_rfl) (by kernel_rfl) ?_
 intro w72 hg73 hb74 hz75
 refine gv_nil <| gv_seq <| gv_region <| gv_pureN 1 [41] [(41, (.string s_0))] (by kernel_rfl) ?_
 refine gv_new0 (fun b => .slice (some ⟨b, 0, none⟩) 1 1) #[(.string s_0)] 9 (by kernel_rfl) (by kernel_rfl) ?_
 intro b76 w77 hg78 hb79 hbe80 hz81
 have ho82 : Gv.Own sE 9 w77 (fun _ => False) (some ⟨b76, 0, none⟩) 1 ([s_0] : List ByteArray) := Box.ownE hb79 ⟨[(.string s_0)], [], rfl, rfl, rfl⟩ (show 1 ≤ maxLen by decide) (fun h => h)
 have hg87 := (grown_trans hg64 hg68)
 have hB88 := bg hB62 hg87 nb
 have hB89 := bg hB62 hg64 nb
 have hlo90 : w0.heap.size ≤ b66 := lob hbe70 hB89.size
 have hB91 := bg hB88 hg73 (rowlo hlo90)
 have hl83 : ∀ g, blk (some ⟨b76, 0, none⟩) = some g → w0.heap.size ≤ g := loo hbe80 hB91.size
 refine bindE h0 ?_; clear h0; intro r92 hr93 h0
 refine gv_call0 (by kernel_rfl) rfl (by kernel_rfl) enters23 (ref4_TextFaults_ok fuel (some ⟨b76, 0, none⟩) 1 ([s_0] : List ByteArray) w77 (fun k => (fun k => blk (some ⟨b76, 0, none⟩) = some k) k) (fun k hk => (fun k (hk : blk (some ⟨b76, 0, none⟩) = some k) => ho82.lt k hk) k hk) ((ho82.rd (Y := fun k => blk (some ⟨b76, 0, none⟩) = some k) (fun _ h => h.elim) (fun g e => e)).wide (fun k hk => hk)) r92 hr93) ?_
 rintro v96 w94 ⟨hg95, rfl⟩
 refine gv_sub [0, 1, 5, 6, 7, 8, 9, 10, 11, 12, 43] (σ' := [(0, (.string s_0)), (1, (.int .i64 classes_1)), (5, (.string r1.1)), (6, (bp b6)), (7, (.string r16.1)), (8, (bp b26)), (9, (.string r36.1)), (10, (bp b46)), (11, (.bool r56.1)), (12, (bp b66)), (43, (.agg #[(.int .i64 r92.1), (.int .i64 r92.2)]))]) (by kernel_rfl) ?_
 refine gv_new0 (fun b => .pointer (some ⟨b, 0, none⟩)) #[(.int .i64 0), (.int .i64 0)] 24 (by kernel_rfl) (by kernel_rfl) ?_
 intro b97 w98 hg99 hb100 hbe101 hz102
 refine gv_store0 24 0 (.agg #[(.int .i64 r92.1), (.int .i64 r92.2)]) #[(.int .i64 r92.1), (.int .i64 r92.2)] hb100 (by kernel_rfl) (by kernel_rfl) (by kernel_rfl) ?_
 intro w103 hg104 hb105 hz106
 clear hz106 hz102 hb100 hr93 hl83 hB89 hB88 hg87 ho82 hz81 hbe80 hb79 hz75 hz71 hb69 hB62 hB60 hB59 hg58 hr57 hz55 hb49 hB42
 refine gv_nil <| gv_seq <| gv_region <| gv_pureN 1 [45] [(45, (.string s_0))] (by kernel_rfl) ?_
 refine bindE h0 ?_; clear h0; intro r107 hr108 h0
 refine gv_call0 (by kernel_rfl) rfl (by kernel_rfl) enters24 (ref4_Points_ok fuel s_0 w103  r107 hr108) ?_
 rintro v111 w109 ⟨hg110, a112, c113, rfl, ho114, hl115⟩
 have hg117 := (grown_trans (grown_trans hg78 hg95) hg99)
 have hB118 := bg hB91 hg117 nb
 have hg119 := (grown_trans hg78 hg95)
 have hB120 := bg hB91 hg119 nb
 have hlo121 : w0.heap.size ≤ b97 := lob hbe101 hB120.size
 have hB122 := bg hB118 hg104 (rowlo hlo121)
 have hl116 : ∀ g, blk a112 = some g → w0.heap.size ≤ g := fun g e => Nat.le_trans hB122.size (hl115 g e)
 refine gv_pureN 5 [14, 15, 44, 47, 48] [(14, (.slice a112 (List.length r107.1) c113))] (by kernel_rfl) ?_
 refine gv_nil <| gv_seq <| gv_seq <| bindE h0 ?_; clear h0; intro j123 h1 h0
 refine gv_cut_code (J := fun a w124 => Below w0.heap.size w0 w124 ∧ w109.heap.size ≤ w124.heap.size ∧ Box w124 b66 24 #[(.int .i64 r56.2.1), (.int .i64 r56.2.2)] ∧ Box w124 b97 24 #[(.int .i64 r92.1), (.int .i64 r92.2)] ∧ Gv.Own (iE .i64) 3 w124 (fun _ => False) a112 c113 r107.1 ∧ a.defers = [] ∧ a.tmps.size = 130 ∧ Ok [(1, (.int .i64 classes_1)), (11, (.bool r56.1)), (12, (bp b66)), (13, (bp b97)), (14, (.slice a112 (List.length r107.1) c113)), (80, (.bool j123))] a.tmps) ?_ ?_
 ·skip
  refine gv_drawA (by kernel_rfl) ?_
  intro w125 hg126
  refine gv_stage (fun _ => True) [0] [(0, some false)] (bA 32 [0]) 31 (by kernel_rfl) (by kernel_rfl) trivial ?_
  refine bindE h1 ?_; clear h1; intro r127 hr128 h1
  have hg129 := (grown_trans hg110 hg126)
  have hB130 := bg hB122 hg129 nb
  refine gv_call (f := 15) (vs := []) (cap := []) _ (by decide) rfl rfl rfl (by kernel_rfl) (by kernel_rfl) enters15 (law4_letters_ok fuel  w125 (fun k => X0 k ∨ X0 k ∨ X0 k) (fun k hk => (hk).elim (fun h => (fun k (hk : X0 k) => ltl (hX0 k hk) hB130.size) k h) (fun h => (h).elim (fun h => (fun k (hk : X0 k) => ltl (hX0 k hk) hB130.size) k h) (fun h => (fun k (hk : X0 k) => ltl (hX0 k hk) hB130.size) k h))) ((hG0.below hB130 hX0).wide (fun k hk => (.inl hk))) ((hG1.below hB130 hX0).wide (fun k hk => (.inr (.inl hk)))) ((hG2.below hB130 hX0).wide (fun k hk => (.inr (.inr hk)))) r127 hr128) ?_
  rintro v133 w131 ⟨hg132, rfl⟩
  refine ⟨(fun _ => trivial), ?_⟩
  refine gv_nil <| gv_goA ?_
  refine gv_pre [1, 2, 3, 5] (bA 32 [0, 1, 2, 3, 5]) 27 (by kernel_rfl) (by kernel_rfl) ?_
  refine gv_pureN 2 [50, 51] [(51, (.bool (!r127)))] (by kernel_rfl) ?_
  refine gv_split (s := 51) (g := (!r127)) (by kernel_rfl) (fun hc134 => ?_) (fun hc134 => ?_)
  ·skip
   replace h1 := ite_t hc134 h1
   refine gv_pureN 2 [52, 54] [(52, undef), (54, undef)] (by kernel_rfl) ?_
   refine gv_nil <| gv_goA ?_
   refine gv_stage (Cls w131 []) [0, 1, 2, 3, 4, 5, 6, 7, 8] [(4, some true), (8, some true), (6, some false), (7, some false)] (bA 32 [0, 1, 2, 3, 4, 5, 6, 7, 8]) 23 (by kernel_rfl) (by kernel_rfl) (Cls.refl _ _) ?_
   have hC135 := Cls.refl w131 []
   refine gv_pureNC hC135 4 [53, 55, 56, 57] [(53, undef), (56, undef), (57, undef)] (by kernel_rfl) ?_
   refine gv_nil <| gv_goA ?_
   refine gv_stage (fun _ => True) [0, 1, 2, 3, 4, 5, 6, 7, 8, 9] [(9, some false)] (bA 32 [0, 1, 2, 3, 4, 5, 6, 7, 8, 9]) 22 (by kernel_rfl) (by kernel_rfl) trivial ?_
   refine gv_pureNC trivial 1 [58] [(58, undef)] (by kernel_rfl) ?_
   refine gv_nil <| gv_goA ?_
   refine gv_pre [10, 11, 12, 13, 15] (bA 32 [0, 1, 2, 3, 4, 5, 6, 7, 8, 9, 10, 11, 12, 13, 15]) 17 (by kernel_rfl) (by kernel_rfl) ?_
   refine gv_pureN 5 [59, 60, 61, 62, 64] [(61, (.bool true)), (62, undef), (64, undef)] (by kernel_rfl) ?_
   refine gv_nil <| gv_goA ?_
   refine gv_stage (Cls w131 []) [0, 1, 2, 3, 4, 5, 6, 7, 8, 9, 10, 11, 12, 13, 14, 15, 16, 17, 18] [(14, some true), (18, some true), (16, some false), (17, some false)] (bA 32 [0, 1, 2, 3, 4, 5, 6, 7, 8, 9, 10, 11, 12, 13, 14, 15, 16, 17, 18]) 13 (by kernel_rfl) (by kernel_rfl) (Cls.refl _ _) ?_
   have hC136 := Cls.refl w131 []
   refine gv_pureNC hC136 4 [63, 65, 66, 67] [(63, undef), (66, undef), (67, undef)] (by kernel_rfl) ?_
   refine gv_nil <| gv_goA ?_
   refine gv_stage (fun _ => True) [0, 1, 2, 3, 4, 5, 6, 7, 8, 9, 10, 11, 12, 13, 14, 15, 16, 17, 18, 19] [(19, some false)] (bA 32 [0, 1, 2, 3, 4, 5, 6, 7, 8, 9, 10, 11, 12, 13, 14, 15, 16, 17, 18, 19]) 12 (by kernel_rfl) (by kernel_rfl) trivial ?_
   refine gv_pureNC trivial 1 [68] [(68, undef)] (by kernel_rfl) ?_
   refine gv_nil <| gv_goA ?_
   refine gv_pre [20, 21, 22, 23, 25] (bA 32 [0, 1, 2, 3, 4, 5, 6, 7, 8, 9, 10, 11, 12, 13, 14, 15, 16, 17, 18, 19, 20, 21, 22, 23, 25]) 7 (by kernel_rfl) (by kernel_rfl) ?_
   refine gv_pureN 5 [69, 70, 71, 72, 74] [(71, (.bool true)), (72, undef), (74, undef)] (by kernel_rfl) ?_
   refine gv_sub [1, 10, 11, 12, 13, 14, 71, 72, 74] (σ' := [(1, (.int .i64 classes_1)), (10, (bp b46)), (11, (.bool r56.1)), (12, (bp b66)), (13, (bp b97)), (14, (.slice a112 (List.length r107.1) c113)), (71, (.bool true)), (72, undef), (74, undef)]) (by kernel_rfl) ?_
   refine gv_nil <| gv_goA ?_
   refine gv_stage (Cls w131 []) [0, 1, 2, 3, 4, 5, 6, 7, 8, 9, 10, 11, 12, 13, 14, 15, 16, 17, 18, 19, 20, 21, 22, 23, 24, 25, 26, 27, 28] [(24, some true), (28, some true), (26, some false), (27, some false)] (bA 32 [0, 1, 2, 3, 4, 5, 6, 7, 8, 9, 10, 11, 12, 13, 14, 15, 16, 17, 18, 19, 20, 21, 22, 23, 24, 25, 26, 27, 28]) 3 (by kernel_rfl) (by kernel_rfl) (Cls.refl _ _) ?_
   have hC137 := Cls.refl w131 []
   refine gv_pureNC hC137 4 [73, 75, 76, 77] [(73, undef), (76, undef), (77, undef)] (by kernel_rfl) ?_
   refine gv_nil <| gv_goA ?_
   refine gv_stage (fun _ => True) [0, 1, 2, 3, 4, 5, 6, 7, 8, 9, 10, 11, 12, 13, 14, 15, 16, 17, 18, 19, 20, 21, 22, 23, 24, 25, 26, 27, 28, 29] [(29, some false)] (bA 32 [0, 1, 2, 3, 4, 5, 6, 7, 8, 9, 10, 11, 12, 13, 14, 15, 16, 17, 18, 19, 20, 21, 22, 23, 24, 25, 26, 27, 28, 29]) 2 (by kernel_rfl) (by kernel_rfl) trivial ?_
   refine gv_pureNC trivial 1 [78] [(78, undef)] (by kernel_rfl) ?_
   refine gv_nil <| gv_goA ?_
   refine gv_pre [30, 31] (bA 32 [0, 1, 2, 3, 4, 5, 6, 7, 8, 9, 10, 11, 12, 13, 14, 15, 16, 17, 18, 19, 20, 21, 22, 23, 24, 25, 26, 27, 28, 29, 30, 31]) 0 (by kernel_rfl) (by kernel_rfl) ?_
   refine gv_pureN 2 [79, 80] [(80, (.bool true))] (by kernel_rfl) ?_
   refine gv_nil <| gv_goA ?_
   refine gv_stageE (by kernel_rfl) ?_
   have e := sj h1; subst e
   refine gv_goal fun a hd hs hok => ?_
   have hB138 := bg hB130 hg132 nb
   have hz139 := (nt hg126.size hg132.size)
   have hk140 := hb74.grown hg119 nb
   have lt141 := ltl ((ltb hk140) _ rfl) ((lowb hbe101) _ rfl)
   have hg142 := (grown_trans hg129 hg132)
   have hk143 := ((hb74.grown hg117 nb).grown hg104 (rowne (ng lt141))).grown hg142 nb
   have hk144 := hb105.grown hg142 nb
   have hg145 := (grown_trans hg126 hg132)
   have hk146 := ho114.grown hg145 (fun _ h => h.elim) nb
   exact ⟨hB138, hz139, hk143, hk144, hk146, hd, hs, ok_pick [1, 11, 12, 13, 14, 80] hok (by kernel_rfl)⟩
  ·skip
   replace h1 := ite_f hc134 h1
   refine gv_pureN 2 [52, 54] [(52, (.string r1.1)), (54, (.slice a112 (List.length r107.1) c113))] (by kernel_rfl) ?_
   refine gv_nil <| gv_goA ?_
   refine gv_stage (Cls w131 []) [0, 1, 2, 3, 4, 5, 6, 7, 8] [(4, some true), (8, some true), (6, some false), (7, some false)] (bA 32 [0, 1, 2, 3, 4, 5, 6, 7, 8]) 23 (by kernel_rfl) (by kernel_rfl) (Cls.refl _ _) ?_
   have hC147 := Cls.refl w131 []
   have hg148 := (grown_trans hg24 hg28)
   have hk149 := hb14.grown hg24 nb
   have lt150 := ltl ((ltb hk149) _ rfl) ((lowb hbe30) _ rfl)
   have hg151 := (grown_trans hg44 hg48)
   have hk152 := hb34.grown hg44 nb
   have lt153 := ltl ((ltb hk152) _ rfl) ((lowb hbe50) _ rfl)
   have lt154 := ltt lt150 lt153
   have hg155 := (grown_trans hg64 hg68)
   have hk156 := hb54.grown hg64 nb
   have lt157 := ltl ((ltb hk156) _ rfl) ((lowb hbe70) _ rfl)
   have lt158 := ltt lt154 lt157
   have hk159 := hb74.grown hg119 nb
   have lt160 := ltl ((ltb hk159) _ rfl) ((lowb hbe101) _ rfl)
   have lt161 := ltt lt158 lt160
   have hg162 := (grown_trans hg129 hg132)
   have hk163 := ((((((((hb14.grown hg148 nb).grown hg33 (rowne (ng lt150))).grown hg151 nb).grown hg53 (rowne (ng lt154))).grown hg155 nb).grown hg73 (rowne (ng lt158))).grown hg117 nb).grown hg104 (rowne (ng lt161))).grown hg162 nb
   refine gv_loadBox (t := 24) (b := b6) (t' := 24) (fr := (0, 0)) #[(.int .i64 r1.2.1), (.int .i64 r1.2.2)] [] (fun e => by cases e) rfl rfl rfl (by kernel_rfl) (by kernel_rfl) (by kernel_rfl) (by kernel_rfl) (inw1 fun w' hC' => (hC'.box hk163 nm_nil)) rfl ?_
   have hk164 := hb105.grown hg162 nb
   refine gv_loadBox (t := 24) (b := b97) (t' := 24) (fr := (0, 0)) #[(.int .i64 r92.1), (.int .i64 r92.2)] [] (fun e => by cases e) rfl rfl rfl (by kernel_rfl) (by kernel_rfl) (by kernel_rfl) (by kernel_rfl) (inw1 fun w' hC' => (hC'.box hk164 nm_nil)) rfl ?_
   refine bindE h1 ?_; clear h1; intro r165 hr166 h1
   have hg167 := (grown_trans hg126 hg132)
   have hk168 := ho114.grown hg167 (fun _ h => h.elim) nb
   refine gv_call (f := 27) (vs := [(.slice a112 (List.length r107.1) c113), (.int .i64 2)]) (cap := []) _ (by decide) rfl rfl rfl (by kernel_rfl) (by kernel_rfl) enters27 (ref4_Turned_ok fuel a112 c113 r107.1 2 w131 (fun k => (fun k => blk a112 = some k) k) (fun k hk => (fun k (hk : blk a112 = some k) => hk168.lt k hk) k hk) ((hk168.rd (Y := fun k => blk a112 = some k) (fun _ h => h.elim) (fun g e => e)).wide (fun k hk => hk)) r165 hr166) ?_
   rintro v171 w169 ⟨hg170, a172, c173, rfl, ho174, hl175⟩
   refine ⟨(fun _ => hC147.grown hg170 nb), ?_⟩
   have hB177 := bg hB130 hg132 nb
   have hl176 : ∀ g, blk a172 = some g → w0.heap.size ≤ g := fun g e => Nat.le_trans hB177.size (hl175 g e)
   refine bindE h1 ?_; clear h1; intro r178 hr179 h1
   refine gv_call (f := 26) (vs := [(.slice a172 (List.length r165) c173)]) (cap := []) _ (by decide) rfl rfl rfl (by kernel_rfl) (by kernel_rfl) enters26 (ref4_String_ok fuel a172 c173 r165 w169 (fun k => (fun k => blk a172 = some k) k) (fun k hk => (fun k (hk : blk a172 = some k) => ho174.lt k hk) k hk) ((ho174.rd (Y := fun k => blk a172 = some k) (fun _ h => h.elim) (fun g e => e)).wide (fun k hk => hk)) r178 hr179) ?_
   rintro v182 w180 ⟨hg181, rfl⟩
   have hC183 := hC147.grown hg170 nb
   refine ⟨(fun _ => hC183.grown hg181 nb), ?_⟩
   refine gv_nil <| gv_goA ?_
   refine gv_stage (fun _ => True) [0, 1, 2, 3, 4, 5, 6, 7, 8, 9] [(9, some false)] (bA 32 [0, 1, 2, 3, 4, 5, 6, 7, 8, 9]) 22 (by kernel_rfl) (by kernel_rfl) trivial ?_
   refine bindE h1 ?_; clear h1; intro r184 hr185 h1
   refine gv_call (f := 25) (vs := [(.string r1.1), (.agg #[(.int .i64 r1.2.1), (.int .i64 r1.2.2)]), (.string r178), (.agg #[(.int .i64 r92.1), (.int .i64 r92.2)])]) (cap := []) _ (by decide) rfl rfl rfl (by kernel_rfl) (by kernel_rfl) enters25 (law4_text_ok fuel r1.1 (r1.2.1, r1.2.2) r178 (r92.1, r92.2) w180  r184 hr185) ?_
   rintro v188 w186 ⟨hg187, rfl⟩
   refine ⟨(fun _ => trivial), ?_⟩
   refine gv_nil <| gv_goA ?_
   refine gv_pre [10, 11, 12, 13, 15] (bA 32 [0, 1, 2, 3, 4, 5, 6, 7, 8, 9, 10, 11, 12, 13, 15]) 17 (by kernel_rfl) (by kernel_rfl) ?_
   refine gv_pureN 3 [59, 60, 61] [(61, (.bool (!r184)))] (by kernel_rfl) ?_
   refine gv_sub [1, 7, 8, 9, 10, 11, 12, 13, 14, 61] (σ' := [(1, (.int .i64 classes_1)), (7, (.string r16.1)), (8, (bp b26)), (9, (.string r36.1)), (10, (bp b46)), (11, (.bool r56.1)), (12, (bp b66)), (13, (bp b97)), (14, (.slice a112 (List.length r107.1) c113)), (61, (.bool (!r184)))]) (by kernel_rfl) ?_
   refine gv_split (s := 61) (g := (!r184)) (by kernel_rfl) (fun hc189 => ?_) (fun hc189 => ?_)
   ·skip
    replace h1 := ite_t hc189 h1
    refine gv_pureN 2 [62, 64] [(62, undef), (64, undef)] (by kernel_rfl) ?_
    refine gv_nil <| gv_goA ?_
    refine gv_stage (Cls w186 []) [0, 1, 2, 3, 4, 5, 6, 7, 8, 9, 10, 11, 12, 13, 14, 15, 16, 17, 18] [(14, some true), (18, some true), (16, some false), (17, some false)] (bA 32 [0, 1, 2, 3, 4, 5, 6, 7, 8, 9, 10, 11, 12, 13, 14, 15, 16, 17, 18]) 13 (by kernel_rfl) (by kernel_rfl) (Cls.refl _ _) ?_
    have hC190 := Cls.refl w186 []
    refine gv_pureNC hC190 4 [63, 65, 66, 67] [(63, undef), (66, undef), (67, undef)] (by kernel_rfl) ?_
    refine gv_nil <| gv_goA ?_
    refine gv_stage (fun _ => True) [0, 1, 2, 3, 4, 5, 6, 7, 8, 9, 10, 11, 12, 13, 14, 15, 16, 17, 18, 19] [(19, some false)] (bA 32 [0, 1, 2, 3, 4, 5, 6, 7, 8, 9, 10, 11, 12, 13, 14, 15, 16, 17, 18, 19]) 12 (by kernel_rfl) (by kernel_rfl) trivial ?_
    refine gv_pureNC trivial 1 [68] [(68, undef)] (by kernel_rfl) ?_
    refine gv_nil <| gv_goA ?_
    refine gv_pre [20, 21, 22, 23, 25] (bA 32 [0, 1, 2, 3, 4, 5, 6, 7, 8, 9, 10, 11, 12, 13, 14, 15, 16, 17, 18, 19, 20, 21, 22, 23, 25]) 7 (by kernel_rfl) (by kernel_rfl) ?_
    refine gv_pureN 5 [69, 70, 71, 72, 74] [(71, (.bool true)), (72, undef), (74, undef)] (by kernel_rfl) ?_
    refine gv_nil <| gv_goA ?_
    refine gv_stage (Cls w186 []) [0, 1, 2, 3, 4, 5, 6, 7, 8, 9, 10, 11, 12, 13, 14, 15, 16, 17, 18, 19, 20, 21, 22, 23, 24, 25, 26, 27, 28] [(24, some true), (28, some true), (26, some false), (27, some false)] (bA 32 [0, 1, 2, 3, 4, 5, 6, 7, 8, 9, 10, 11, 12, 13, 14, 15, 16, 17, 18, 19, 20, 21, 22, 23, 24, 25, 26, 27, 28]) 3 (by kernel_rfl) (by kernel_rfl) (Cls.refl _ _) ?_
    have hC191 := Cls.refl w186 []
    refine gv_pureNC hC191 4 [73, 75, 76, 77] [(73, undef), (76, undef), (77, undef)] (by kernel_rfl) ?_
    refine gv_nil <| gv_goA ?_
    refine gv_stage (fun _ => True) [0, 1, 2, 3, 4, 5, 6, 7, 8, 9, 10, 11, 12, 13, 14, 15, 16, 17, 18, 19, 20, 21, 22, 23, 24, 25, 26, 27, 28, 29] [(29, some false)] (bA 32 [0, 1, 2, 3, 4, 5, 6, 7, 8, 9, 10, 11, 12, 13, 14, 15, 16, 17, 18, 19, 20, 21, 22, 23, 24, 25, 26, 27, 28, 29]) 2 (by kernel_rfl) (by kernel_rfl) trivial ?_
    refine gv_pureNC trivial 1 [78] [(78, undef)] (by kernel_rfl) ?_
    refine gv_nil <| gv_goA ?_
    refine gv_pre [30, 31] (bA 32 [0, 1, 2, 3, 4, 5, 6, 7, 8, 9, 10, 11, 12, 13, 14, 15, 16, 17, 18, 19, 20, 21, 22, 23, 24, 25, 26, 27, 28, 29, 30, 31]) 0 (by kernel_rfl) (by kernel_rfl) ?_
    refine gv_pureN 2 [79, 80] [(80, (.bool true))] (by kernel_rfl) ?_
    refine gv_nil <| gv_goA ?_
    refine gv_stageE (by kernel_rfl) ?_
    have e := sj h1; subst e
    refine gv_goal fun a hd hs hok => ?_
    have hg192 := (grown_trans (grown_trans hg170 hg181) hg187)
    have hB193 := bg hB177 hg192 nb
    have hz194 := (nt (nt (nt (nt hg126.size hg132.size) hg170.size) hg181.size) hg187.size)
    have hg195 := (grown_trans hg162 hg192)
    have hk196 := ((hk159.grown hg99 nb).grown hg104 (rowne (ng lt160))).grown hg195 nb
    have hk197 := hk164.grown hg192 nb
    have hk198 := hk168.grown hg192 (fun _ h => h.elim) nb
    exact ⟨hB193, hz194, hk196, hk197, hk198, hd, hs, ok_pick [1, 11, 12, 13, 14, 80] hok (by kernel_rfl)⟩
   ·skip
    replace h1 := ite_f hc189 h1
    refine gv_pureN 2 [62, 64] [(62, (.string r16.1)), (64, (.slice a112 (List.length r107.1) c113))] (by kernel_rfl) ?_
    refine gv_nil <| gv_goA ?_
    refine gv_stage (Cls w186 []) [0, 1, 2, 3, 4, 5, 6, 7, 8, 9, 10, 11, 12, 13, 14, 15, 16, 17, 18] [(14, some true), (18, some true), (16, some false), (17, some false)] (bA 32 [0, 1, 2, 3, 4, 5, 6, 7, 8, 9, 10, 11, 12, 13, 14, 15, 16, 17, 18]) 13 (by kernel_rfl) (by kernel_rfl) (Cls.refl _ _) ?_
    have hC199 := Cls.refl w186 []
    have lt200 := ltt lt153 lt157
    have lt201 := ltt lt200 lt160
    have hg202 := (grown_trans (grown_trans (grown_trans hg162 hg170) hg181) hg187)
    have hk203 := ((((((hk152.grown hg48 nb).grown hg53 (rowne (ng lt153))).grown hg155 nb).grown hg73 (rowne (ng lt200))).grown hg117 nb).grown hg104 (rowne (ng lt201))).grown hg202 nb
    refine gv_loadBox (t := 24) (b := b26) (t' := 24) (fr := (0, 0)) #[(.int .i64 r16.2.1), (.int .i64 r16.2.2)] [] (fun e => by cases e) rfl rfl rfl (by kernel_rfl) (by kernel_rfl) (by kernel_rfl) (by kernel_rfl) (inw1 fun w' hC' => (hC'.box hk203 nm_nil)) rfl ?_
    have hg204 := (grown_trans (grown_trans hg170 hg181) hg187)
    have hk205 := hk164.grown hg204 nb
    refine gv_loadBox (t := 24) (b := b97) (t' := 24) (fr := (0, 0)) #[(.int .i64 r92.1), (.int .i64 r92.2)] [] (fun e => by cases e) rfl rfl rfl (by kernel_rfl) (by kernel_rfl) (by kernel_rfl) (by kernel_rfl) (inw1 fun w' hC' => (hC'.box hk205 nm_nil)) rfl ?_
    refine bindE h1 ?_; clear h1; intro r206 hr207 h1
    have hk208 := hk168.grown hg204 (fun _ h => h.elim) nb
    refine gv_call (f := 27) (vs := [(.slice a112 (List.length r107.1) c113), (.int .i64 1)]) (cap := []) _ (by decide) rfl rfl rfl (by kernel_rfl) (by kernel_rfl) enters27 (ref4_Turned_ok fuel a112 c113 r107.1 1 w186 (fun k => (fun k => blk a112 = some k) k) (fun k hk => (fun k (hk : blk a112 = some k) => hk208.lt k hk) k hk) ((hk208.rd (Y := fun k => blk a112 = some k) (fun _ h => h.elim) (fun g e => e)).wide (fun k hk => hk)) r206 hr207) ?_
    rintro v211 w209 ⟨hg210, a212, c213, rfl, ho214, hl215⟩
    refine ⟨(fun _ => hC199.grown hg210 nb), ?_⟩
    have hB217 := bg hB177 hg204 nb
    have hl216 : ∀ g, blk a212 = some g → w0.heap.size ≤ g := fun g e => Nat.le_trans hB217.size (hl215 g e)
    refine bindE h1 ?_; clear h1; intro r218 hr219 h1
    refine gv_call (f := 26) (vs := [(.slice a212 (List.length r206) c213)]) (cap := []) _ (by decide) rfl rfl rfl (by kernel_rfl) (by kernel_rfl) enters26 (ref4_String_ok fuel a212 c213 r206 w209 (fun k => (fun k => blk a212 = some k) k) (fun k hk => (fun k (hk : blk a212 = some k) => ho214.lt k hk) k hk) ((ho214.rd (Y := fun k => blk a212 = some k) (fun _ h => h.elim) (fun g e => e)).wide (fun k hk => hk)) r218 hr219) ?_
    rintro v222 w220 ⟨hg221, rfl⟩
    have hC223 := hC199.grown hg210 nb
    refine ⟨(fun _ => hC223.grown hg221 nb), ?_⟩
    have hz224 := (nt (nt (nt (nt hg126.size hg132.size) hg170.size) hg181.size) hg187.size)
    have hz225 := (nt hg210.size hg221.size)
    clear hr219 hl216 hl215 ho214 hr207 hg204 hg202 lt201 lt200 hC199 hc189 hr185 hC183 hr179 hB177 hl175 hk168 hg167 hr166 hk164 hg162 lt161 lt158 hg155 lt154 lt153 hk152 hg151 lt150 hk149 hg148 hC147 hc134 hB130 hg129 hr128 hB122 hB120 hg119 hB118 hg117 ho114 hr108 hbe101 hB91 hb74 hbe70 hg64 hb54 hg53 hbe50 hg48 hg44 hb34 hg33 hbe30 hg28 hg24 hb14
    refine gv_nil <| gv_goA ?_
    refine gv_stage (fun _ => True) [0, 1, 2, 3, 4, 5, 6, 7, 8, 9, 10, 11, 12, 13, 14, 15, 16, 17, 18, 19] [(19, some false)] (bA 32 [0, 1, 2, 3, 4, 5, 6, 7, 8, 9, 10, 11, 12, 13, 14, 15, 16, 17, 18, 19]) 12 (by kernel_rfl) (by kernel_rfl) trivial ?_
    refine bindE h1 ?_; clear h1; intro r226 hr227 h1
    refine gv_call (f := 25) (vs := [(.string r16.1), (.agg #[(.int .i64 r16.2.1), (.int .i64 r16.2.2)]), (.string r218), (.agg #[(.int .i64 r92.1), (.int .i64 r92.2)])]) (cap := []) _ (by decide) rfl rfl rfl (by kernel_rfl) (by kernel_rfl) enters25 (law4_text_ok fuel r16.1 (r16.2.1, r16.2.2) r218 (r92.1, r92.2) w220  r226 hr227) ?_
    rintro v230 w228 ⟨hg229, rfl⟩
    refine ⟨(fun _ => trivial), ?_⟩
    refine gv_nil <| gv_goA ?_
    refine gv_pre [20, 21, 22, 23, 25] (bA 32 [0, 1, 2, 3, 4, 5, 6, 7, 8, 9, 10, 11, 12, 13, 14, 15, 16, 17, 18, 19, 20, 21, 22, 23, 25]) 7 (by kernel_rfl) (by kernel_rfl) ?_
    refine gv_pureN 3 [69, 70, 71] [(71, (.bool (!r226)))] (by kernel_rfl) ?_
    refine gv_split (s := 71) (g := (!r226)) (by kernel_rfl) (fun hc231 => ?_) (fun hc231 => ?_)
    ·skip
     replace h1 := ite_t hc231 h1
     refine gv_pureN 2 [72, 74] [(72, undef), (74, undef)] (by kernel_rfl) ?_
     refine gv_nil <| gv_goA ?_
     refine gv_stage (Cls w228 []) [0, 1, 2, 3, 4, 5, 6, 7, 8, 9, 10, 11, 12, 13, 14, 15, 16, 17, 18, 19, 20, 21, 22, 23, 24, 25, 26, 27, 28] [(24, some true), (28, some true), (26, some false), (27, some false)] (bA 32 [0, 1, 2, 3, 4, 5, 6, 7, 8, 9, 10, 11, 12, 13, 14, 15, 16, 17, 18, 19, 20, 21, 22, 23, 24, 25, 26, 27, 28]) 3 (by kernel_rfl) (by kernel_rfl) (Cls.refl _ _) ?_
     have hC232 := Cls.refl w228 []
     refine gv_pureNC hC232 4 [73, 75, 76, 77] [(73, undef), (76, undef), (77, undef)] (by kernel_rfl) ?_
     refine gv_nil <| gv_goA ?_
     refine gv_stage (fun _ => True) [0, 1, 2, 3, 4, 5, 6, 7, 8, 9, 10, 11, 12, 13, 14, 15, 16, 17, 18, 19, 20, 21, 22, 23, 24, 25, 26, 27, 28, 29] [(29, some false)] (bA 32 [0, 1, 2, 3, 4, 5, 6, 7, 8, 9, 10, 11, 12, 13, 14, 15, 16, 17, 18, 19, 20, 21, 22, 23, 24, 25, 26, 27, 28, 29]) 2 (by kernel_rfl) (by kernel_rfl) trivial ?_
     refine gv_pureNC trivial 1 [78] [(78, undef)] (by kernel_rfl) ?_
     refine gv_nil <| gv_goA ?_
     refine gv_pre [30, 31] (bA 32 [0, 1, 2, 3, 4, 5, 6, 7, 8, 9, 10, 11, 12, 13, 14, 15, 16, 17, 18, 19, 20, 21, 22, 23, 24, 25, 26, 27, 28, 29, 30, 31]) 0 (by kernel_rfl) (by kernel_rfl) ?_
     refine gv_pureN 2 [79, 80] [(80, (.bool true))] (by kernel_rfl) ?_
     refine gv_nil <| gv_goA ?_
     refine gv_stageE (by kernel_rfl) ?_
     have e := sj h1; subst e
     refine gv_goal fun a hd hs hok => ?_
     have hg233 := (grown_trans (grown_trans hg210 hg221) hg229)
     have hB234 := bg hB217 hg233 nb
     have hz235 := (nt (nt hz224 hz225) hg229.size)
     have hg236 := (grown_trans (grown_trans (grown_trans (grown_trans (grown_trans (grown_trans hg110 hg126) hg132) hg170) hg181) hg187) hg233)
     have hk237 := ((hk159.grown hg99 nb).grown hg104 (rowne (ng lt160))).grown hg236 nb
     have hk238 := hk205.grown hg233 nb
     have hk239 := hk208.grown hg233 (fun _ h => h.elim) nb
     exact ⟨hB234, hz235, hk237, hk238, hk239, hd, hs, ok_pick [1, 11, 12, 13, 14, 80] hok (by kernel_rfl)⟩
    ·skip
     replace h1 := ite_f hc231 h1
     refine gv_pureN 2 [72, 74] [(72, (.string r36.1)), (74, (.slice a112 (List.length r107.1) c113))] (by kernel_rfl) ?_
     refine gv_nil <| gv_goA ?_
     refine gv_stage (Cls w228 []) [0, 1, 2, 3, 4, 5, 6, 7, 8, 9, 10, 11, 12, 13, 14, 15, 16, 17, 18, 19, 20, 21, 22, 23, 24, 25, 26, 27, 28] [(24, some true), (28, some true), (26, some false), (27, some false)] (bA 32 [0, 1, 2, 3, 4, 5, 6, 7, 8, 9, 10, 11, 12, 13, 14, 15, 16, 17, 18, 19, 20, 21, 22, 23, 24, 25, 26, 27, 28]) 3 (by kernel_rfl) (by kernel_rfl) (Cls.refl _ _) ?_
     have hC240 := Cls.refl w228 []
     have hg241 := (grown_trans (grown_trans hg78 hg95) hg99)
     have lt242 := ltt lt157 lt160
     have hg243 := (grown_trans (grown_trans (grown_trans (grown_trans (grown_trans (grown_trans (grown_trans (grown_trans hg110 hg126) hg132) hg170) hg181) hg187) hg210) hg221) hg229)
     have hk244 := ((((hk156.grown hg68 nb).grown hg73 (rowne (ng lt157))).grown hg241 nb).grown hg104 (rowne (ng lt242))).grown hg243 nb
     refine gv_loadBox (t := 24) (b := b46) (t' := 24) (fr := (0, 0)) #[(.int .i64 r36.2.1), (.int .i64 r36.2.2)] [] (fun e => by cases e) rfl rfl rfl (by kernel_rfl) (by kernel_rfl) (by kernel_rfl) (by kernel_rfl) (inw1 fun w' hC' => (hC'.box hk244 nm_nil)) rfl ?_
     have hg245 := (grown_trans (grown_trans hg210 hg221) hg229)
     have hk246 := hk205.grown hg245 nb
     refine gv_loadBox (t := 24) (b := b97) (t' := 24) (fr := (0, 0)) #[(.int .i64 r92.1), (.int .i64 r92.2)] [] (fun e => by cases e) rfl rfl rfl (by kernel_rfl) (by kernel_rfl) (by kernel_rfl) (by kernel_rfl) (inw1 fun w' hC' => (hC'.box hk246 nm_nil)) rfl ?_
     refine bindE h1 ?_; clear h1; intro r247 hr248 h1
     have hk249 := hk208.grown hg245 (fun _ h => h.elim) nb
     refine gv_call (f := 28) (vs := [(.slice a112 (List.length r107.1) c113)]) (cap := []) _ (by decide) rfl rfl rfl (by kernel_rfl) (by kernel_rfl) enters28 (ref4_Titled_ok fuel a112 c113 r107.1 w228 (fun k => (fun k => blk a112 = some k) k) (fun k hk => (fun k (hk : blk a112 = some k) => hk249.lt k hk) k hk) ((hk249.rd (Y := fun k => blk a112 = some k) (fun _ h => h.elim) (fun g e => e)).wide (fun k hk => hk)) r247 hr248) ?_
     rintro v252 w250 ⟨hg251, a253, c254, rfl, ho255, hl256⟩
     refine ⟨(fun _ => hC240.grown hg251 nb), ?_⟩
     have hB258 := bg hB217 hg245 nb
     have hl257 : ∀ g, blk a253 = some g → w0.heap.size ≤ g := fun g e => Nat.le_trans hB258.size (hl256 g e)
     refine bindE h1 ?_; clear h1; intro r259 hr260 h1
     refine gv_call (f := 26) (vs := [(.slice a253 (List.length r247) c254)]) (cap := []) _ (by decide) rfl rfl rfl (by kernel_rfl) (by kernel_rfl) enters26 (ref4_String_ok fuel a253 c254 r247 w250 (fun k => (fun k => blk a253 = some k) k) (fun k hk => (fun k (hk : blk a253 = some k) => ho255.lt k hk) k hk) ((ho255.rd (Y := fun k => blk a253 = some k) (fun _ h => h.elim) (fun g e => e)).wide (fun k hk => hk)) r259 hr260) ?_
     rintro v263 w261 ⟨hg262, rfl⟩
     have hC264 := hC240.grown hg251 nb
     refine ⟨(fun _ => hC264.grown hg262 nb), ?_⟩
     refine gv_nil <| gv_goA ?_
     refine gv_stage (fun _ => True) [0, 1, 2, 3, 4, 5, 6, 7, 8, 9, 10, 11, 12, 13, 14, 15, 16, 17, 18, 19, 20, 21, 22, 23, 24, 25, 26, 27, 28, 29] [(29, some false)] (bA 32 [0, 1, 2, 3, 4, 5, 6, 7, 8, 9, 10, 11, 12, 13, 14, 15, 16, 17, 18, 19, 20, 21, 22, 23, 24, 25, 26, 27, 28, 29]) 2 (by kernel_rfl) (by kernel_rfl) trivial ?_
     refine bindE h1 ?_; clear h1; intro r265 hr266 h1
     refine gv_call (f := 25) (vs := [(.string r36.1), (.agg #[(.int .i64 r36.2.1), (.int .i64 r36.2.2)]), (.string r259), (.agg #[(.int .i64 r92.1), (.int .i64 r92.2)])]) (cap := []) _ (by decide) rfl rfl rfl (by kernel_rfl) (by kernel_rfl) enters25 (law4_text_ok fuel r36.1 (r36.2.1, r36.2.2) r259 (r92.1, r92.2) w261  r265 hr266) ?_
     rintro v269 w267 ⟨hg268, rfl⟩
     refine ⟨(fun _ => trivial), ?_⟩
     refine gv_nil <| gv_goA ?_
     refine gv_pre [30, 31] (bA 32 [0, 1, 2, 3, 4, 5, 6, 7, 8, 9, 10, 11, 12, 13, 14, 15, 16, 17, 18, 19, 20, 21, 22, 23, 24, 25, 26, 27, 28, 29, 30, 31]) 0 (by kernel_rfl) (by kernel_rfl) ?_
     refine gv_pureN 2 [79, 80] [(80, (.bool (!r265)))] (by kernel_rfl) ?_
     refine gv_sub [1, 11, 12, 13, 14, 80] (σ' := [(1, (.int .i64 classes_1)), (11, (.bool r56.1)), (12, (bp b66)), (13, (bp b97)), (14, (.slice a112 (List.length r107.1) c113)), (80, (.bool (!r265)))]) (by kernel_rfl) ?_
     refine gv_nil <| gv_goA ?_
     refine gv_stageE (by kernel_rfl) ?_
     have e := sj h1; subst e
     refine gv_goal fun a hd hs hok => ?_
     have hg270 := (grown_trans (grown_trans hg251 hg262) hg268)
     have hB271 := bg hB258 hg270 nb
     have hz272 := (nt (nt (nt (nt (nt hz224 hz225) hg229.size) hg251.size) hg262.size) hg268.size)
     have hg273 := (grown_trans hg243 hg270)
     have hk274 := ((hk159.grown hg99 nb).grown hg104 (rowne (ng lt160))).grown hg273 nb
     have hk275 := hk246.grown hg270 nb
     have hk276 := hk249.grown hg270 (fun _ h => h.elim) nb
     exact ⟨hB271, hz272, hk274, hk275, hk276, hd, hs, ok_pick [1, 11, 12, 13, 14, 80] hok (by kernel_rfl)⟩
 ·rintro a w124 ⟨hB277, hz278, hb279, hb280, hk281, hd, hs, hok⟩
  refine gv_in ?_ hd hs hok
  clear hd hs hok
  clear hz278 hB122 hB120 hg119 hB118 hg117 ho114 hg110 hr108 hB91 hg73 hbe70 hg68 hg64 hlo61 hb54 hg53 hbe50 hg48 hg44 hlo41 hb34 hg33 hbe30 hg28 hg24 hlo21 hb14
  refine gv_cond (b := j123) (by kernel_rfl) (fun hc282 => ?_) (fun hc282 => ?_)
  ·replace h0 := ite_t hc282 h0
   refine gv_seq <| gv_region <| gv_pureN 1 [4] [(4, (.bool false))] (by kernel_rfl) ?_
   refine gv_nil <| gv_cret ?_
   have e := sj h0; subst e
   refine gv_ret (gv_done [(.bool false)] rfl ⟨(by kernel_rfl), trivial⟩ ?_)
   exact ⟨grown_of_below hB277, rfl⟩
  ·replace h0 := ite_f hc282 h0
   refine gv_skip <| gv_seq <| gv_seq <| gv_region <| bindE h0 ?_; clear h0; intro j283 h1 h0
   refine gv_cut_ops (J := fun a w284 => Below w0.heap.size w0 w284 ∧ w124.heap.size ≤ w284.heap.size ∧ Box w284 b66 24 #[(.int .i64 r56.2.1), (.int .i64 r56.2.2)] ∧ Box w284 b97 24 #[(.int .i64 r92.1), (.int .i64 r92.2)] ∧ Gv.Own (iE .i64) 3 w284 (fun _ => False) a112 c113 r107.1 ∧ a.defers = [] ∧ a.tmps.size = 130 ∧ Ok [(1, (.int .i64 classes_1)), (11, (.bool r56.1)), (12, (bp b66)), (13, (bp b97)), (14, (.slice a112 (List.length r107.1) c113)), (91, (.bool j283))] a.tmps) ?_ ?_
   ·skip
    refine gv_pureN 1 [81] [(81, (bp b97))] (by kernel_rfl) ?_
    refine gv_load (t := 3) (A := ⟨b97, 0, none⟩) (.int .i64 r92.1) [] (fun e => by cases e) rfl rfl rfl (by kernel_rfl) (by kernel_rfl) (by kernel_rfl) (inw0 (hb280.cell 0 rfl)) rfl ?_
    refine gv_pureN 2 [83, 84] [(84, (.bool (r92.1 == 0)))] (by kernel_rfl) ?_
    refine gv_split (s := 84) (g := (r92.1 == 0)) (by kernel_rfl) (fun hc285 => ?_) (fun hc285 => ?_)
    ·skip
     replace h1 := ite_t hc285 h1
     refine gv_pureN 3 [85, 86, 87] [(87, (.bool (decide (classes_1 < 1))))] (by kernel_rfl) ?_
     refine gv_split (s := 87) (g := (decide (classes_1 < 1))) (by kernel_rfl) (fun hc286 => ?_) (fun hc286 => ?_)
     ·skip
      replace h1 := ite_t hc286 h1
      refine gv_pureN 4 [88, 89, 90, 91] [(91, (.bool true))] (by kernel_rfl) ?_
      refine gv_nil ?_
      have e := sj h1; subst e
      refine gv_goal fun a hd hs hok => ?_
      exact ⟨hB277, (Nat.le_refl _), hb279, hb280, hk281, hd, hs, ok_pick [1, 11, 12, 13, 14, 91] hok (by kernel_rfl)⟩
     ·skip
      replace h1 := ite_f hc286 h1
      refine gv_pureN 4 [88, 89, 90, 91] [(91, (.bool (decide (classes_1 > 31))))] (by kernel_rfl) ?_
      refine gv_nil ?_
      have e := sj h1; subst e
      refine gv_goal fun a hd hs hok => ?_
      exact ⟨hB277, (Nat.le_refl _), hb279, hb280, hk281, hd, hs, ok_pick [1, 11, 12, 13, 14, 91] hok (by kernel_rfl)⟩
    ·skip
     replace h1 := ite_f hc285 h1
     refine gv_pureN 7 [85, 86, 87, 88, 89, 90, 91] [(91, (.bool false))] (by kernel_rfl) ?_
     refine gv_nil ?_
     have e := sj h1; subst e
     refine gv_goal fun a hd hs hok => ?_
     exact ⟨hB277, (Nat.le_refl _), hb279, hb280, hk281, hd, hs, ok_pick [1, 11, 12, 13, 14, 91] hok (by kernel_rfl)⟩
   ·rintro a w284 ⟨hB287, hz288, hb289, hb290, hk291, hd, hs, hok⟩
    refine gv_in ?_ hd hs hok
    clear hd hs hok
    clear hz288 hc282 hk281 hb280 hb279 hB277
    refine bindE h0 ?_; clear h0; intro j292 h1 h0
    refine gv_cut_code (J := fun a w293 => Below w0.heap.size w0 w293 ∧ w284.heap.size ≤ w293.heap.size ∧ Box w293 b66 24 #[(.int .i64 r56.2.1), (.int .i64 r56.2.2)] ∧ Box w293 b97 24 #[(.int .i64 j292.1), (.int .i64 j292.2)] ∧ Gv.Own (iE .i64) 3 w293 (fun _ => False) a112 c113 r107.1 ∧ a.defers = [] ∧ a.tmps.size = 130 ∧ Ok [(1, (.int .i64 classes_1)), (11, (.bool r56.1)), (12, (bp b66)), (13, (bp b97)), (14, (.slice a112 (List.length r107.1) c113))] a.tmps) ?_ ?_
    ·skip
     refine gv_cond (b := j283) (by kernel_rfl) (fun hc294 => ?_) (fun hc294 => ?_)
     ·replace h1 := ite_t hc294 h1
      refine gv_region <| bindE h1 ?_; clear h1; intro r295 hr296 h1
      refine gv_call0 (by kernel_rfl) rfl (by kernel_rfl) enters29 (ref4_At_ok fuel 4 (-2) w284  r295 hr296) ?_
      rintro v299 w297 ⟨hg298, rfl⟩
      have hk304 := hb290.grown hg298 nb
      refine gv_store0 24 0 (.agg #[(.int .i64 r295.1), (.int .i64 r295.2)]) #[(.int .i64 r295.1), (.int .i64 r295.2)] hk304 (by kernel_rfl) (by kernel_rfl) (by kernel_rfl) ?_
      intro w300 hg301 hb302 hz303
      refine gv_nil ?_
      have e := sj h1; subst e
      refine gv_goal fun a hd hs hok => ?_
      have hB305 := bg hB287 hg298 nb
      have hB306 := bg hB305 hg301 (rowlo hlo121)
      have hz307 := (nt hg298.size hg301.size)
      have hg308 := (grown_trans hg78 hg95)
      have hk309 := hb74.grown hg308 nb
      have lt310 := ltl ((ltb hk309) _ rfl) ((lowb hbe101) _ rfl)
      have hk311 := (hb289.grown hg298 nb).grown hg301 (rowne (ng lt310))
      have ap312 : ¬ (fun k => blk a112 = some k) b97 := fun hx => nl ((show ∀ k, blk a112 = some k → w103.heap.size ≤ k from hl115) _ hx) ((ltb hb105) _ rfl)
      have hk313 := (hk291.grown hg298 (fun _ h => h.elim) nb).grown hg301 (fun _ h => h.elim) (rdnn (rowne ap312))
      exact ⟨hB306, hz307, hk311, hb302, hk313, hd, hs, ok_pick [1, 11, 12, 13, 14] hok (by kernel_rfl)⟩
     ·replace h1 := ite_f hc294 h1
      refine gv_skip ?_
      have e := sj h1; subst e
      refine gv_goal fun a hd hs hok => ?_
      exact ⟨hB287, (Nat.le_refl _), hb289, hb290, hk291, hd, hs, ok_pick [1, 11, 12, 13, 14] hok (by kernel_rfl)⟩
    ·rintro a w293 ⟨hB314, hz315, hb316, hb317, hk318, hd, hs, hok⟩
     refine gv_in ?_ hd hs hok
     clear hd hs hok
     clear hz315 hk291 hb290 hb289 hB287
     refine gv_seq <| gv_region <| gv_pureN 4 [16, 93, 94, 95] [(16, (.bool (decide (((List.length r107.1 : Nat) : Int) > 0))))] (by kernel_rfl) ?_
     refine bindE h0 ?_; clear h0; intro n319 hn320 h0
     refine gv_name (s := 16) (v := (.bool (decide (((List.length r107.1 : Nat) : Int) > 0)))) (v' := (.bool n319)) (by kernel_rfl) (congrArg (Value.bool) (sj hn320)) ?_
     refine gv_nil <| gv_seq <| gv_seq <| gv_region <| gv_pureN 1 [17] [(17, (.int .i64 0))] (by kernel_rfl) ?_
     refine gv_nil <| bindE h0 ?_; clear h0; intro j321 h1 h0
     refine gv_cut_code (J := fun a w322 => Below w0.heap.size w0 w322 ∧ w293.heap.size ≤ w322.heap.size ∧ Box w322 b66 24 #[(.int .i64 r56.2.1), (.int .i64 r56.2.2)] ∧ Box w322 b97 24 #[(.int .i64 j292.1), (.int .i64 j292.2)] ∧ a.defers = [] ∧ a.tmps.size = 130 ∧ Ok [(11, (.bool r56.1)), (12, (bp b66)), (13, (bp b97)), (16, (.bool j321))] a.tmps) ?_ ?_
     ·skip
      refine gv_block <| gv_loop (A := fun (s323 : (Bool × Int)) a w324 => Below w0.heap.size w0 w324 ∧ w293.heap.size ≤ w324.heap.size ∧ Box w324 b66 24 #[(.int .i64 r56.2.1), (.int .i64 r56.2.2)] ∧ Box w324 b97 24 #[(.int .i64 j292.1), (.int .i64 j292.2)] ∧ Gv.Own (iE .i64) 3 w324 (fun _ => False) a112 c113 r107.1 ∧ a.defers = [] ∧ a.tmps.size = 130 ∧ Ok [(1, (.int .i64 classes_1)), (11, (.bool r56.1)), (12, (bp b66)), (13, (bp b97)), (14, (.slice a112 (List.length r107.1) c113)), (16, (.bool s323.1)), (17, (.int .i64 s323.2))] a.tmps) h1 ?_ ?_
      ·intro a hd hs hok
       exact ⟨hB314, (Nat.le_refl _), hb316, hb317, hk318, hd, hs, ok_pick [1, 11, 12, 13, 14, 16, 17] hok (by kernel_rfl)⟩
      ·rintro s323 r2 h2 hR2 a w324 ⟨hB325, hz326, hb327, hb328, hk329, hd, hs, hok⟩
       refine gv_in ?_ hd hs hok
       clear hd hs hok
       clear hn320 hk318 hb317 hb316 hB314
       refine gv_seq <| gv_seq <| gv_region <| gv_pureN 4 [96, 97, 98, 99] [(99, (.bool (decide (s323.2 < ((List.length r107.1 : Nat) : Int)))))] (by kernel_rfl) ?_
       refine gv_nil <| gv_cond (b := (decide (s323.2 < ((List.length r107.1 : Nat) : Int)))) (by kernel_rfl) (fun hc330 => ?_) (fun hc330 => ?_)
       ·replace h2 := ite_t hc330 h2
        refine gv_skip <| gv_seq <| gv_block <| gv_seq <| gv_region <| gv_pureN 2 [103, 104] [(103, (.slice a112 (List.length r107.1) c113)), (104, (.int .i64 s323.2))] (by kernel_rfl) ?_
        refine bindE h2 ?_; clear h2; intro x331 hx332 h2
        refine gv_idxaddr (t := 38) (e := 3) (a := a112) (len := List.length r107.1) (cap := c113) (kk := .i64) (i := s323.2) (sz := 1) [] (fun e => by cases e) rfl rfl rfl (by kernel_rfl) (by kernel_rfl) Tryd.underlying38 (by kernel_rfl) ((hk329.rd (Y := fun k => blk a112 = some k) (fun _ h => h.elim) (fun g e => e)).has hx332) (idx_spec hx332).1 (idx_spec hx332).2.1 rfl ?_
        refine gv_load (t := 3) (A := (elemAddr a112 ((s323.2 : Int).toNat * 1))) (.int .i64 x331) [] (fun e => by cases e) rfl rfl rfl (by kernel_rfl) (by kernel_rfl) (by kernel_rfl) (inw0 ((hk329.rd (Y := fun k => blk a112 = some k) (fun _ h => h.elim) (fun g e => e)).cell hx332)) rfl ?_
        refine bindE h2 ?_; clear h2; intro r333 hr334 h2
        refine gv_call0 (by kernel_rfl) rfl (by kernel_rfl) enters30 (ref4_Class_ok fuel x331 w324  r333 hr334) ?_
        rintro v337 w335 ⟨hg336, rfl⟩
        refine gv_pureN 5 [18, 19, 102, 108, 109] [(18, (.int .i64 r333.1))] (by kernel_rfl) ?_
        refine gv_nil <| gv_region <| gv_cut_ops (J := fun a w338 => w335 = w338 ∧ a.defers = [] ∧ a.tmps.size = 130 ∧ Ok [(1, (.int .i64 classes_1)), (11, (.bool r56.1)), (12, (bp b66)), (13, (bp b97)), (14, (.slice a112 (List.length r107.1) c113)), (16, (.bool (s323.1 && ((bwAnd .i64 classes_1 r333.1) != 0)))), (17, (.int .i64 s323.2))] a.tmps) ?_ ?_
        ·skip
         refine gv_pureN 2 [110, 111] [(111, (.bool s323.1))] (by kernel_rfl) ?_
         refine gv_split (s := 111) (g := s323.1) (by kernel_rfl) (fun hc339 => ?_) (fun hc339 => ?_)
         ·skip
          refine gv_pureN 6 [16, 112, 113, 114, 115, 116] [(16, (.bool ((bwAnd .i64 classes_1 r333.1) != 0)))] (by kernel_rfl) ?_
          refine gv_nil <| gv_sub [1, 11, 12, 13, 14, 16, 17] (σ' := [(1, (.int .i64 classes_1)), (11, (.bool r56.1)), (12, (bp b66)), (13, (bp b97)), (14, (.slice a112 (List.length r107.1) c113)), (16, (.bool ((bwAnd .i64 classes_1 r333.1) != 0))), (17, (.int .i64 s323.2))]) (by kernel_rfl) ?_
          refine gv_goal fun a hd hs hok => ⟨rfl, hd, hs, ?_⟩
          obtain ⟨q1, q11, q12, q13, q14, q16, q17, _⟩ := hok
          exact ⟨q1, q11, q12, q13, q14, (by rw [hc339]; exact q16), q17, trivial⟩
         ·skip
          refine gv_pureN 6 [16, 112, 113, 114, 115, 116] [(16, (.bool false))] (by kernel_rfl) ?_
          refine gv_nil <| gv_sub [1, 11, 12, 13, 14, 16, 17] (σ' := [(1, (.int .i64 classes_1)), (11, (.bool r56.1)), (12, (bp b66)), (13, (bp b97)), (14, (.slice a112 (List.length r107.1) c113)), (16, (.bool false)), (17, (.int .i64 s323.2))]) (by kernel_rfl) ?_
          refine gv_goal fun a hd hs hok => ⟨rfl, hd, hs, ?_⟩
          obtain ⟨q1, q11, q12, q13, q14, q16, q17, _⟩ := hok
          exact ⟨q1, q11, q12, q13, q14, (by rw [hc339]; exact q16), q17, trivial⟩
        ·rintro a w338 ⟨e, hd, hs, hok⟩; subst e
         refine gv_in ?_ hd hs hok
         clear hd hs hok
         refine gv_blk <| gv_region <| gv_pureN 3 [17, 100, 101] [(17, (.int .i64 (IntKind.i64.wrap (s323.2 + 1))))] (by kernel_rfl) ?_
         refine gv_nil ?_
         have e := sj h2; subst e
         refine gv_goal fun a hd hs hok => ?_
         have hB340 := bg hB325 hg336 nb
         have hz341 := (nt hz326 hg336.size)
         have hk342 := hb327.grown hg336 nb
         have hk343 := hb328.grown hg336 nb
         have hk344 := hk329.grown hg336 (fun _ h => h.elim) nb
         exact ⟨((s323.1 && ((bwAnd .i64 classes_1 r333.1) != 0)), (IntKind.i64.wrap (s323.2 + 1))), rfl, hB340, hz341, hk342, hk343, hk344, hd, hs, ok_pick [1, 11, 12, 13, 14, 16, 17] hok (by kernel_rfl)⟩
       ·replace h2 := ite_f hc330 h2
        refine gv_cexit <| gv_exit rfl ?_
        have e := sj h2; subst e
        replace h1 := congrArg some (hR2 _ rfl)
        have e := sj h1; subst e
        refine gv_goal fun a hd hs hok => ?_
        have hz345 := hz326
        exact ⟨hB325, hz345, hb327, hb328, hd, hs, ok_pick [11, 12, 13, 16] hok (by kernel_rfl)⟩
     ·rintro a w322 ⟨hB346, hz347, hb348, hb349, hd, hs, hok⟩
      refine gv_in ?_ hd hs hok
      clear hd hs hok
      clear hz347 hn320 hk318 hb317 hb316 hB314 hl116 hl115 hb105 hg104 hg99
      refine gv_seq <| gv_region <| bindE h0 ?_; clear h0; intro j350 h1 h0
      refine gv_cut_ops (J := fun a w351 => Below w0.heap.size w0 w351 ∧ w322.heap.size ≤ w351.heap.size ∧ a.defers = [] ∧ a.tmps.size = 130 ∧ Ok [(4, (.bool j350))] a.tmps) ?_ ?_
      ·skip
       refine gv_loadBox (t := 24) (b := b66) (t' := 24) (fr := (0, 0)) #[(.int .i64 r56.2.1), (.int .i64 r56.2.2)] [] (fun e => by cases e) rfl rfl rfl (by kernel_rfl) (by kernel_rfl) (by kernel_rfl) (by kernel_rfl) (inw0 hb348) rfl ?_
       refine gv_loadBox (t := 24) (b := b97) (t' := 24) (fr := (0, 0)) #[(.int .i64 j292.1), (.int .i64 j292.2)] [] (fun e => by cases e) rfl rfl rfl (by kernel_rfl) (by kernel_rfl) (by kernel_rfl) (by kernel_rfl) (inw0 hb349) rfl ?_
       refine gv_eqs (t := 24) (op := .eql) (x := (.tmp 117)) (y := (.tmp 118)) (xs := #[(.int .i64 r56.2.1), (.int .i64 r56.2.2)]) (ys := #[(.int .i64 j292.1), (.int .i64 j292.2)]) ((r56.2.1 == j292.1) && (r56.2.2 == j292.2)) [] (fun e => by cases e) rfl rfl rfl (by kernel_rfl) (by kernel_rfl) (fun w' => eqs24eql r56.2.1 r56.2.2 j292.1 j292.2 _ _ w') rfl ?_
       refine gv_pureN 1 [120] [(120, (.bool ((r56.2.1 == j292.1) && (r56.2.2 == j292.2))))] (by kernel_rfl) ?_
       refine gv_split (s := 120) (g := ((r56.2.1 == j292.1) && (r56.2.2 == j292.2))) (by kernel_rfl) (fun hc352 => ?_) (fun hc352 => ?_)
       ·skip
        replace h1 := ite_t hc352 h1
        refine gv_pureN 2 [121, 122] [(121, (.bool r56.1)), (122, (bp b97))] (by kernel_rfl) ?_
        refine gv_load (t := 3) (A := ⟨b97, 0, none⟩) (.int .i64 j292.1) [] (fun e => by cases e) rfl rfl rfl (by kernel_rfl) (by kernel_rfl) (by kernel_rfl) (inw0 (hb349.cell 0 rfl)) rfl ?_
        refine gv_pureN 2 [124, 125] [(125, (.bool (j292.1 == 0)))] (by kernel_rfl) ?_
        refine gv_split (s := 125) (g := (j292.1 == 0)) (by kernel_rfl) (fun hc353 => ?_) (fun hc353 => ?_)
        ·skip
         replace h1 := ite_t hc353 h1
         refine gv_pureN 5 [4, 126, 127, 128, 129] [(4, (.bool (r56.1 == j321)))] (by kernel_rfl) ?_
         refine gv_nil ?_
         have e := sj h1; subst e
         refine gv_goal fun a hd hs hok => ?_
         exact ⟨hB346, (Nat.le_refl _), hd, hs, ok_pick [4] hok (by kernel_rfl)⟩
        ·skip
         replace h1 := ite_f hc353 h1
         refine gv_pureN 5 [4, 126, 127, 128, 129] [(4, (.bool (r56.1 == false)))] (by kernel_rfl) ?_
         refine gv_nil ?_
         have e := sj h1; subst e
         refine gv_goal fun a hd hs hok => ?_
         exact ⟨hB346, (Nat.le_refl _), hd, hs, ok_pick [4] hok (by kernel_rfl)⟩
       ·skip
        replace h1 := ite_f hc352 h1
        refine gv_pureN 10 [4, 121, 122, 123, 124, 125, 126, 127, 128, 129] [(4, (.bool false))] (by kernel_rfl) ?_
        refine gv_nil ?_
        have e := sj h1; subst e
        refine gv_goal fun a hd hs hok => ?_
        exact ⟨hB346, (Nat.le_refl _), hd, hs, ok_pick [4] hok (by kernel_rfl)⟩
      ·rintro a w351 ⟨hB354, hz355, hd, hs, hok⟩
       refine gv_in ?_ hd hs hok
       clear hd hs hok
       clear hz355 hb349 hb348 hB346 hlo121 hbe101 hg95 hlo90 hg78 hb74
       refine gv_cret ?_
       have e := sj h0; subst e
       refine gv_ret (gv_done [(.bool j350)] rfl ⟨(by kernel_rfl), trivial⟩ ?_)
       exact ⟨grown_of_below hB354, rfl⟩

end Go.Proofs.YtkmcegicngjhbaaDoor
