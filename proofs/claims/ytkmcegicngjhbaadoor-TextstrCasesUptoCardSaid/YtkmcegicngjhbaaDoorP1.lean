import Derived.Test.YtkmcegicngjhbaaDoorP0
set_option linter.all false
set_option maxHeartbeats 4000000
set_option maxRecDepth 100000
/- Own work, printed by a program of mine: the walk of each function: a call returns what the plain function says. -/
namespace Go.Proofs.YtkmcegicngjhbaaDoor
open Go.Gv Go.Gv.D Go.RowKit
theorem utf8_ValidRune_ok (fuel : Nat) (r_0 : Int) (w0 : World)  (r0 : Bool) (h0 : utf8_ValidRune fuel r_0 = some r0) :
    Calls Tryd.prog 88 ([(.int .i32 r_0)] : List Value).toArray w0 (Ret fun v w' => w0.grownBy w' none ∧ v = tup [(.bool r0)]) := by
 have hB0 : Below w0.heap.size w0 w0 := Below.refl _ _
 unfold utf8_ValidRune at h0
 refine calls_run Tryd.func88 rfl Tryd.ntmps88 (by kernel_rfl) ?_
 refine gv_sub [0] (σ' := [(0, (.int .i32 r_0))]) (by kernel_rfl) ?_
 refine gv_seq <| gv_region <| gv_pureN 1 [2] [] (by kernel_rfl) ?_
 refine gv_nil <| gv_seq <| gv_block <| gv_seq <| gv_region <| gv_cut_ops (J := fun a w1 => w0 = w1 ∧ a.defers = [] ∧ a.tmps.size = 17 ∧ Ok [(0, (.int .i32 r_0)), (3, (.bool ((decide (0 ≤ r_0)) && (decide (r_0 < 55296)))))] a.tmps) ?_ ?_
 ·skip
  refine gv_pureN 3 [4, 5, 6] [(6, (.bool (decide (0 ≤ r_0))))] (by kernel_rfl) ?_
  refine gv_split (s := 6) (g := (decide (0 ≤ r_0))) (by kernel_rfl) (fun hc2 => ?_) (fun hc2 => ?_)
  ·skip
   refine gv_pureN 4 [3, 7, 8, 9] [(3, (.bool (decide (r_0 < 55296))))] (by kernel_rfl) ?_
   refine gv_nil <| gv_sub [0, 3] (σ' := [(0, (.int .i32 r_0)), (3, (.bool (decide (r_0 < 55296))))]) (by kernel_rfl) ?_
   refine gv_goal fun a hd hs hok => ⟨rfl, hd, hs, ?_⟩
   obtain ⟨q0, q3, _⟩ := hok
   exact ⟨q0, (by rw [hc2]; exact q3), trivial⟩
  ·skip
   refine gv_pureN 4 [3, 7, 8, 9] [(3, (.bool false))] (by kernel_rfl) ?_
   refine gv_nil <| gv_sub [0, 3] (σ' := [(0, (.int .i32 r_0)), (3, (.bool false))]) (by kernel_rfl) ?_
   refine gv_goal fun a hd hs hok => ⟨rfl, hd, hs, ?_⟩
   obtain ⟨q0, q3, _⟩ := hok
   exact ⟨q0, (by rw [hc2]; exact q3), trivial⟩
 ·rintro a w1 ⟨e, hd, hs, hok⟩; subst e
  refine gv_in ?_ hd hs hok
  clear hd hs hok
  refine gv_cond (b := ((decide (0 ≤ r_0)) && (decide (r_0 < 55296)))) (by kernel_rfl) (fun hc3 => ?_) (fun hc3 => ?_)
  ·replace h0 := ite_t hc3 h0
   refine gv_seq <| gv_region <| gv_pureN 1 [2] [(2, (.bool true))] (by kernel_rfl) ?_
   refine gv_nil <| gv_cret ?_
   have e := sj h0; subst e
   refine gv_ret (gv_done [(.bool true)] rfl ⟨(by kernel_rfl), trivial⟩ ?_)
   exact ⟨grown_of_below hB0, rfl⟩
  ·replace h0 := ite_f hc3 h0
   refine gv_seq <| gv_region <| gv_cut_ops (J := fun a w4 => w0 = w4 ∧ a.defers = [] ∧ a.tmps.size = 17 ∧ Ok [(10, (.bool ((decide (57343 < r_0)) && (decide (r_0 ≤ 1114111)))))] a.tmps) ?_ ?_
   ·skip
    refine gv_pureN 3 [11, 12, 13] [(13, (.bool (decide (57343 < r_0))))] (by kernel_rfl) ?_
    refine gv_split (s := 13) (g := (decide (57343 < r_0))) (by kernel_rfl) (fun hc5 => ?_) (fun hc5 => ?_)
    ·skip
     refine gv_pureN 4 [10, 14, 15, 16] [(10, (.bool (decide (r_0 ≤ 1114111))))] (by kernel_rfl) ?_
     refine gv_nil <| gv_sub [10] (σ' := [(10, (.bool (decide (r_0 ≤ 1114111))))]) (by kernel_rfl) ?_
     refine gv_goal fun a hd hs hok => ⟨rfl, hd, hs, ?_⟩
     obtain ⟨q10, _⟩ := hok
     exact ⟨(by rw [hc5]; exact q10), trivial⟩
    ·skip
     refine gv_pureN 4 [10, 14, 15, 16] [(10, (.bool false))] (by kernel_rfl) ?_
     refine gv_nil <| gv_sub [10] (σ' := [(10, (.bool false))]) (by kernel_rfl) ?_
     refine gv_goal fun a hd hs hok => ⟨rfl, hd, hs, ?_⟩
     obtain ⟨q10, _⟩ := hok
     exact ⟨(by rw [hc5]; exact q10), trivial⟩
   ·rintro a w4 ⟨e, hd, hs, hok⟩; subst e
    refine gv_in ?_ hd hs hok
    clear hd hs hok
    refine gv_cond (b := ((decide (57343 < r_0)) && (decide (r_0 ≤ 1114111)))) (by kernel_rfl) (fun hc6 => ?_) (fun hc6 => ?_)
    ·replace h0 := ite_t hc6 h0
     refine gv_seq <| gv_region <| gv_pureN 1 [2] [(2, (.bool true))] (by kernel_rfl) ?_
     refine gv_nil <| gv_cret ?_
     have e := sj h0; subst e
     refine gv_ret (gv_done [(.bool true)] rfl ⟨(by kernel_rfl), trivial⟩ ?_)
     exact ⟨grown_of_below hB0, rfl⟩
    ·replace h0 := ite_f hc6 h0
     refine gv_skip <| gv_blk <| gv_seq <| gv_region <| gv_pureN 1 [2] [(2, (.bool false))] (by kernel_rfl) ?_
     refine gv_nil <| gv_cret ?_
     have e := sj h0; subst e
     refine gv_ret (gv_done [(.bool false)] rfl ⟨(by kernel_rfl), trivial⟩ ?_)
     exact ⟨grown_of_below hB0, rfl⟩

theorem textstr_limited_ok (fuel : Nat) (s_0 : ByteArray) (w0 : World)  (r0 : (ByteArray × (Int × Int))) (h0 : textstr_limited fuel s_0 = some r0) :
    Calls Tryd.prog 89 ([(.string s_0)] : List Value).toArray w0 (Ret fun v w' => w0.grownBy w' none ∧ v = tup [(.string r0.1), (.agg #[(.int .i64 r0.2.1), (.int .i64 r0.2.2)])]) := by
 have hB0 : Below w0.heap.size w0 w0 := Below.refl _ _
 unfold textstr_limited at h0
 refine calls_run Tryd.func89 rfl Tryd.ntmps89 (by kernel_rfl) ?_
 refine gv_sub [0] (σ' := [(0, (.string s_0))]) (by kernel_rfl) ?_
 refine gv_seq <| gv_region <| gv_pureN 1 [2] [] (by kernel_rfl) ?_
 refine gv_new0 (fun b => .pointer (some ⟨b, 0, none⟩)) #[(.int .i64 0), (.int .i64 0)] 24 (by kernel_rfl) (by kernel_rfl) ?_
 intro b1 w2 hg3 hb4 hbe5 hz6
 refine gv_nil <| gv_seq <| gv_seq <| gv_region <| gv_pureN 3 [4, 5, 6] [(6, (.bool (decide (((ByteArray.size s_0 : Nat) : Int) > 4000))))] (by kernel_rfl) ?_
 refine gv_nil <| gv_cond (b := (decide (((ByteArray.size s_0 : Nat) : Int) > 4000))) (by kernel_rfl) (fun hc7 => ?_) (fun hc7 => ?_)
 ·replace h0 := ite_t hc7 h0
  refine gv_seq <| gv_region <| bindE h0 ?_; clear h0; intro r8 hr9 h0
  refine gv_call0 (by kernel_rfl) rfl (by kernel_rfl) enters56 (textstr_at_ok fuel 3 (-1) w2  r8 hr9) ?_
  rintro v12 w10 ⟨hg11, rfl⟩
  refine gv_pureN 1 [2] [(2, (.string (strOf [])))] (by kernel_rfl) ?_
  have hk17 := hb4.grown hg11 nb
  refine gv_store0 24 0 (.agg #[(.int .i64 r8.1), (.int .i64 r8.2)]) #[(.int .i64 r8.1), (.int .i64 r8.2)] hk17 (by kernel_rfl) (by kernel_rfl) (by kernel_rfl) ?_
  intro w13 hg14 hb15 hz16
  refine gv_nil <| gv_cret ?_
  have e := sj h0; subst e
  refine gv_ret (gv_done [(.string (strOf [])), (.agg #[(.int .i64 r8.1), (.int .i64 r8.2)])] rfl ⟨(by kernel_rfl), ⟨⟨b1, 0, none⟩, (by kernel_rfl), run_loadVar_row w13 b1 _ 24 _ _ _ hb15 Tryd.underlying24 rfl (by kernel_rfl)⟩, trivial⟩ ?_)
  have hg18 := (grown_trans hg3 hg11)
  have hB19 := bg hB0 hg18 nb
  have hlo20 : w0.heap.size ≤ b1 := lob hbe5 hB0.size
  have hB21 := bg hB19 hg14 (rowlo hlo20)
  exact ⟨grown_of_below hB21, rfl⟩
 ·replace h0 := ite_f hc7 h0
  refine gv_skip <| gv_seq <| gv_region <| gv_pureN 3 [2, 8, 9] [(2, (.string s_0)), (9, (.agg #[(.int .i64 0), (.int .i64 0)]))] (by kernel_rfl) ?_
  refine gv_store0 24 0 (.agg #[(.int .i64 0), (.int .i64 0)]) #[(.int .i64 0), (.int .i64 0)] hb4 (by kernel_rfl) (by kernel_rfl) (by kernel_rfl) ?_
  intro w22 hg23 hb24 hz25
  refine gv_nil <| gv_cret ?_
  have e := sj h0; subst e
  refine gv_ret (gv_done [(.string s_0), (.agg #[(.int .i64 0), (.int .i64 0)])] rfl ⟨(by kernel_rfl), ⟨⟨b1, 0, none⟩, (by kernel_rfl), run_loadVar_row w22 b1 _ 24 _ _ _ hb24 Tryd.underlying24 rfl (by kernel_rfl)⟩, trivial⟩ ?_)
  have hB26 := bg hB0 hg3 nb
  have hlo27 : w0.heap.size ≤ b1 := lob hbe5 hB0.size
  have hB28 := bg hB26 hg23 (rowlo hlo27)
  exact ⟨grown_of_below hB28, rfl⟩

theorem textstr_Pad_ok (fuel : Nat) (s_0 : ByteArray) (width_1 : Int) (fill_2 : Int) (sides_3 : Int) (w0 : World) (X0 : Nat → Prop) (hX0 : ∀ k, X0 k → k < w0.heap.size) (hG1 : Rd bE w0 X0 (some ⟨1, 0, none⟩) 256 utf8First) (hG2 : Rd (prE (iE .u8) (iE .u8)) w0 X0 (some ⟨2, 0, none⟩) 16 utf8Acc) (r0 : (ByteArray × (Int × Int))) (h0 : textstr_Pad fuel s_0 width_1 fill_2 sides_3 = some r0) :
    Calls Tryd.prog 52 ([(.string s_0), (.int .i64 width_1), (.int .i64 fill_2), (.int .i64 sides_3)] : List Value).toArray w0 (Ret fun v w' => w0.grownBy w' none ∧ v = tup [(.string r0.1), (.agg #[(.int .i64 r0.2.1), (.int .i64 r0.2.2)])]) := by
 have hB0 : Below w0.heap.size w0 w0 := Below.refl _ _
 unfold textstr_Pad at h0
 refine calls_run Tryd.func52 rfl Tryd.ntmps52 (by kernel_rfl) ?_
 refine gv_sub [0, 1, 2, 3] (σ' := [(0, (.string s_0)), (1, (.int .i64 width_1)), (2, (.int .i64 fill_2)), (3, (.int .i64 sides_3))]) (by kernel_rfl) ?_
 refine gv_seq <| gv_region <| gv_pureN 1 [8] [] (by kernel_rfl) ?_
 refine gv_new0 (fun b => .pointer (some ⟨b, 0, none⟩)) #[(.int .i64 0), (.int .i64 0)] 24 (by kernel_rfl) (by kernel_rfl) ?_
 intro b1 w2 hg3 hb4 hbe5 hz6
 refine gv_nil <| gv_seq <| gv_seq <| gv_region <| gv_pureN 1 [14] [(14, (.string s_0))] (by kernel_rfl) ?_
 refine gv_new0 (fun b => .slice (some ⟨b, 0, none⟩) 1 1) #[(.string s_0)] 9 (by kernel_rfl) (by kernel_rfl) ?_
 intro b7 w8 hg9 hb10 hbe11 hz12
 have ho13 : Gv.Own sE 9 w8 (fun _ => False) (some ⟨b7, 0, none⟩) 1 ([s_0] : List ByteArray) := Box.ownE hb10 ⟨[(.string s_0)], [], rfl, rfl, rfl⟩ (show 1 ≤ maxLen by decide) (fun h => h)
 have hB18 := bg hB0 hg3 nb
 have hl14 : ∀ g, blk (some ⟨b7, 0, none⟩) = some g → w0.heap.size ≤ g := loo hbe11 hB18.size
 refine bindE h0 ?_; clear h0; intro r19 hr20 h0
 have hB21 := bg hB18 hg9 nb
 refine gv_call0 (by kernel_rfl) rfl (by kernel_rfl) enters58 (textstr_check_ok fuel (some ⟨b7, 0, none⟩) 1 ([s_0] : List ByteArray) w8 (fun k => (fun k => blk (some ⟨b7, 0, none⟩) = some k) k ∨ X0 k ∨ X0 k) (fun k hk => (hk).elim (fun h => (fun k (hk : blk (some ⟨b7, 0, none⟩) = some k) => ho13.lt k hk) k h) (fun h => (h).elim (fun h => (fun k (hk : X0 k) => ltl (hX0 k hk) hB21.size) k h) (fun h => (fun k (hk : X0 k) => ltl (hX0 k hk) hB21.size) k h))) ((ho13.rd (Y := fun k => blk (some ⟨b7, 0, none⟩) = some k) (fun _ h => h.elim) (fun g e => e)).wide (fun k hk => (.inl hk))) ((hG1.below hB21 hX0).wide (fun k hk => (.inr (.inl hk)))) ((hG2.below hB21 hX0).wide (fun k hk => (.inr (.inr hk)))) r19 hr20) ?_
 rintro v24 w22 ⟨hg23, rfl⟩
 refine gv_new0 (fun b => .pointer (some ⟨b, 0, none⟩)) #[(.int .i64 0), (.int .i64 0)] 24 (by kernel_rfl) (by kernel_rfl) ?_
 intro b25 w26 hg27 hb28 hbe29 hz30
 refine gv_store0 24 0 (.agg #[(.int .i64 r19.1), (.int .i64 r19.2)]) #[(.int .i64 r19.1), (.int .i64 r19.2)] hb28 (by kernel_rfl) (by kernel_rfl) (by kernel_rfl) ?_
 intro w31 hg32 hb33 hz34
 refine gv_nil <| gv_seq <| gv_region <| gv_pureN 1 [17] [(17, (bp b25))] (by kernel_rfl) ?_
 refine gv_load (t := 3) (A := ⟨b25, 0, none⟩) (.int .i64 r19.1) [] (fun e => by cases e) rfl rfl rfl (by kernel_rfl) (by kernel_rfl) (by kernel_rfl) (inw0 (hb33.cell 0 rfl)) rfl ?_
 refine gv_pureN 1 [19] [(19, (.bool (r19.1 != 0)))] (by kernel_rfl) ?_
 refine gv_nil <| gv_cond (b := (r19.1 != 0)) (by kernel_rfl) (fun hc35 => ?_) (fun hc35 => ?_)
 ·replace h0 := ite_t hc35 h0
  refine gv_seq <| gv_drawA (by kernel_rfl) ?_
  intro w36 hg37
  refine gv_pre [1] (bA 3 [1]) 2 (by kernel_rfl) (by kernel_rfl) ?_
  refine gv_pureN 1 [8] [(8, (.string (strOf [])))] (by kernel_rfl) ?_
  refine gv_nil <| gv_goA ?_
  refine gv_stage (Cls w36 []) [0, 1] [(0, some true)] (bA 3 [0, 1]) 1 (by kernel_rfl) (by kernel_rfl) (Cls.refl _ _) ?_
  have hC38 := Cls.refl w36 []
  have hk39 := hb33.grown hg37 nb
  refine gv_loadBox (t := 24) (b := b25) (t' := 24) (fr := (0, 0)) #[(.int .i64 r19.1), (.int .i64 r19.2)] [] (fun e => by cases e) rfl rfl rfl (by kernel_rfl) (by kernel_rfl) (by kernel_rfl) (by kernel_rfl) (inw1 fun w' hC' => (hC'.box hk39 nm_nil)) rfl ?_
  refine gv_nil <| gv_goA ?_
  refine gv_stage (fun _ => True) [0, 1, 2] [(2, some false)] (bA 3 [0, 1, 2]) 0 (by kernel_rfl) (by kernel_rfl) trivial ?_
  have hg44 := (grown_trans (grown_trans hg9 hg23) hg27)
  have hg45 := (grown_trans hg9 hg23)
  have hk46 := hb4.grown hg45 nb
  have lt47 := ltl ((ltb hk46) _ rfl) ((lowb hbe29) _ rfl)
  have hk48 := ((hb4.grown hg44 nb).grown hg32 (rowne (ng lt47))).grown hg37 nb
  refine gv_store (t := 24) (b := b1) (off := 0) (v := (.agg #[(.int .i64 r19.1), (.int .i64 r19.2)])) (t' := 24) (cs := #[(.int .i64 0), (.int .i64 0)]) #[(.int .i64 r19.1), (.int .i64 r19.2)] (by decide) rfl rfl (by kernel_rfl) (by kernel_rfl) (by kernel_rfl) (by intro u hu; simp [Value.cells] at hu; rcases hu with rfl | rfl <;> rfl) (show 0 + 2 ≤ 2 by decide) (by rfl) hk48 ?_
  intro w40 hg41 hb42 hz43
  refine ⟨(fun _ => trivial), ?_⟩
  refine gv_nil <| gv_goA ?_
  refine gv_stageE (by kernel_rfl) ?_
  refine gv_cret ?_
  have e := sj h0; subst e
  refine gv_ret (gv_done [(.string (strOf [])), (.agg #[(.int .i64 r19.1), (.int .i64 r19.2)])] rfl ⟨(by kernel_rfl), ⟨⟨b1, 0, none⟩, (by kernel_rfl), run_loadVar_row w40 b1 _ 24 _ _ _ hb42 Tryd.underlying24 rfl (by kernel_rfl)⟩, trivial⟩ ?_)
  have hg49 := (grown_trans hg23 hg27)
  have hB50 := bg hB21 hg49 nb
  have hB51 := bg hB21 hg23 nb
  have hlo52 : w0.heap.size ≤ b25 := lob hbe29 hB51.size
  have hB53 := bg hB50 hg32 (rowlo hlo52)
  have hB54 := bg hB53 hg37 nb
  have hlo55 : w0.heap.size ≤ b1 := lob hbe5 hB0.size
  have hB56 := bg hB54 hg41 (rowlo hlo55)
  exact ⟨grown_of_below hB56, rfl⟩
 ·replace h0 := ite_f hc35 h0
  refine gv_skip <| gv_seq <| gv_block <| gv_seq <| gv_region <| gv_cut_ops (J := fun a w57 => w31 = w57 ∧ a.defers = [] ∧ a.tmps.size = 80 ∧ Ok [(0, (.string s_0)), (1, (.int .i64 width_1)), (2, (.int .i64 fill_2)), (3, (.int .i64 sides_3)), (9, (bp b1)), (21, (.bool ((decide (width_1 < 0)) || (decide (width_1 > 4000)))))] a.tmps) ?_ ?_
  ·skip
   refine gv_pureN 3 [22, 23, 24] [(24, (.bool (decide (width_1 < 0))))] (by kernel_rfl) ?_
   refine gv_split (s := 24) (g := (decide (width_1 < 0))) (by kernel_rfl) (fun hc58 => ?_) (fun hc58 => ?_)
   ·skip
    refine gv_pureN 4 [21, 25, 26, 27] [(21, (.bool true))] (by kernel_rfl) ?_
    refine gv_nil <| gv_sub [0, 1, 2, 3, 9, 21] (σ' := [(0, (.string s_0)), (1, (.int .i64 width_1)), (2, (.int .i64 fill_2)), (3, (.int .i64 sides_3)), (9, (bp b1)), (21, (.bool true))]) (by kernel_rfl) ?_
    refine gv_goal fun a hd hs hok => ⟨rfl, hd, hs, ?_⟩
    obtain ⟨q0, q1, q2, q3, q9, q21, _⟩ := hok
    exact ⟨q0, q1, q2, q3, q9, (by rw [hc58]; exact q21), trivial⟩
   ·skip
    refine gv_pureN 4 [21, 25, 26, 27] [(21, (.bool (decide (width_1 > 4000))))] (by kernel_rfl) ?_
    refine gv_nil <| gv_sub [0, 1, 2, 3, 9, 21] (σ' := [(0, (.string s_0)), (1, (.int .i64 width_1)), (2, (.int .i64 fill_2)), (3, (.int .i64 sides_3)), (9, (bp b1)), (21, (.bool (decide (width_1 > 4000))))]) (by kernel_rfl) ?_
    refine gv_goal fun a hd hs hok => ⟨rfl, hd, hs, ?_⟩
    obtain ⟨q0, q1, q2, q3, q9, q21, _⟩ := hok
    exact ⟨q0, q1, q2, q3, q9, (by rw [hc58]; exact q21), trivial⟩
  ·rintro a w57 ⟨e, hd, hs, hok⟩; subst e
   refine gv_in ?_ hd hs hok
   clear hd hs hok
   refine gv_cond (b := ((decide (width_1 < 0)) || (decide (width_1 > 4000)))) (by kernel_rfl) (fun hc59 => ?_) (fun hc59 => ?_)
   ·replace h0 := ite_t hc59 h0
    refine gv_seq <| gv_region <| bindE h0 ?_; clear h0; intro r60 hr61 h0
    refine gv_call0 (by kernel_rfl) rfl (by kernel_rfl) enters56 (textstr_at_ok fuel 4 (-2) w31  r60 hr61) ?_
    rintro v64 w62 ⟨hg63, rfl⟩
    clear hr61 hc59 hc35 hz34 hb33 hz30 hb28 hr20 hl14 hB18 ho13 hz12 hbe11 hb10 hz6 hg3
    refine gv_pureN 1 [8] [(8, (.string (strOf [])))] (by kernel_rfl) ?_
    have hg69 := (grown_trans (grown_trans hg9 hg23) hg27)
    have hg70 := (grown_trans hg9 hg23)
    have hk71 := hb4.grown hg70 nb
    have lt72 := ltl ((ltb hk71) _ rfl) ((lowb hbe29) _ rfl)
    have hk73 := ((hb4.grown hg69 nb).grown hg32 (rowne (ng lt72))).grown hg63 nb
    refine gv_store0 24 0 (.agg #[(.int .i64 r60.1), (.int .i64 r60.2)]) #[(.int .i64 r60.1), (.int .i64 r60.2)] hk73 (by kernel_rfl) (by kernel_rfl) (by kernel_rfl) ?_
    intro w65 hg66 hb67 hz68
    refine gv_nil <| gv_cret ?_
    have e := sj h0; subst e
    refine gv_ret (gv_done [(.string (strOf [])), (.agg #[(.int .i64 r60.1), (.int .i64 r60.2)])] rfl ⟨(by kernel_rfl), ⟨⟨b1, 0, none⟩, (by kernel_rfl), run_loadVar_row w65 b1 _ 24 _ _ _ hb67 Tryd.underlying24 rfl (by kernel_rfl)⟩, trivial⟩ ?_)
    have hg74 := (grown_trans hg23 hg27)
    have hB75 := bg hB21 hg74 nb
    have hB76 := bg hB21 hg23 nb
    have hlo77 : w0.heap.size ≤ b25 := lob hbe29 hB76.size
    have hB78 := bg hB75 hg32 (rowlo hlo77)
    have hB79 := bg hB78 hg63 nb
    have hlo80 : w0.heap.size ≤ b1 := lob hbe5 hB0.size
    have hB81 := bg hB79 hg66 (rowlo hlo80)
    exact ⟨grown_of_below hB81, rfl⟩
   ·replace h0 := ite_f hc59 h0
    refine gv_seq <| gv_region <| bindE h0 ?_; clear h0; intro j82 h1 h0
    refine gv_cut_ops (J := fun a w83 => Below w0.heap.size w0 w83 ∧ w31.heap.size ≤ w83.heap.size ∧ Box w83 b1 24 #[(.int .i64 0), (.int .i64 0)] ∧ a.defers = [] ∧ a.tmps.size = 80 ∧ Ok [(0, (.string s_0)), (1, (.int .i64 width_1)), (2, (.int .i64 fill_2)), (3, (.int .i64 sides_3)), (9, (bp b1)), (29, (.bool j82))] a.tmps) ?_ ?_
    ·skip
     refine gv_pureN 3 [30, 31, 32] [(32, (.bool (decide (fill_2 < 0))))] (by kernel_rfl) ?_
     refine gv_split (s := 32) (g := (decide (fill_2 < 0))) (by kernel_rfl) (fun hc84 => ?_) (fun hc84 => ?_)
     ·skip
      replace h1 := ite_t hc84 h1
      refine gv_pureN 10 [29, 33, 34, 35, 36, 37, 38, 39, 40, 41] [(29, (.bool true))] (by kernel_rfl) ?_
      refine gv_nil ?_
      have e := sj h1; subst e
      refine gv_goal fun a hd hs hok => ?_
      have hg85 := (grown_trans hg23 hg27)
      have hB86 := bg hB21 hg85 nb
      have hB87 := bg hB21 hg23 nb
      have hlo88 : w0.heap.size ≤ b25 := lob hbe29 hB87.size
      have hB89 := bg hB86 hg32 (rowlo hlo88)
      have hg90 := (grown_trans hg9 hg85)
      have hg91 := (grown_trans hg9 hg23)
      have hk92 := hb4.grown hg91 nb
      have lt93 := ltl ((ltb hk92) _ rfl) ((lowb hbe29) _ rfl)
      have hk94 := (hb4.grown hg90 nb).grown hg32 (rowne (ng lt93))
      exact ⟨hB89, (Nat.le_refl _), hk94, hd, hs, ok_pick [0, 1, 2, 3, 9, 29] hok (by kernel_rfl)⟩
     ·skip
      replace h1 := ite_f hc84 h1
      refine gv_pureN 4 [33, 34, 35, 36] [(36, (.bool (decide (fill_2 > 1114111))))] (by kernel_rfl) ?_
      refine gv_split (s := 36) (g := (decide (fill_2 > 1114111))) (by kernel_rfl) (fun hc95 => ?_) (fun hc95 => ?_)
      ·skip
       replace h1 := ite_t hc95 h1
       refine gv_pureN 6 [29, 37, 38, 39, 40, 41] [(29, (.bool true))] (by kernel_rfl) ?_
       refine gv_nil ?_
       have e := sj h1; subst e
       refine gv_goal fun a hd hs hok => ?_
       have hg96 := (grown_trans hg23 hg27)
       have hB97 := bg hB21 hg96 nb
       have hB98 := bg hB21 hg23 nb
       have hlo99 : w0.heap.size ≤ b25 := lob hbe29 hB98.size
       have hB100 := bg hB97 hg32 (rowlo hlo99)
       have hg101 := (grown_trans hg9 hg96)
       have hg102 := (grown_trans hg9 hg23)
       have hk103 := hb4.grown hg102 nb
       have lt104 := ltl ((ltb hk103) _ rfl) ((lowb hbe29) _ rfl)
       have hk105 := (hb4.grown hg101 nb).grown hg32 (rowne (ng lt104))
       exact ⟨hB100, (Nat.le_refl _), hk105, hd, hs, ok_pick [0, 1, 2, 3, 9, 29] hok (by kernel_rfl)⟩
      ·skip
       replace h1 := ite_f hc95 h1
       refine gv_pureN 2 [37, 38] [(38, (.int .i32 (IntKind.i32.wrap (fill_2))))] (by kernel_rfl) ?_
       refine bindE h1 ?_; clear h1; intro r106 hr107 h1
       refine gv_call0 (by kernel_rfl) rfl (by kernel_rfl) enters88 (utf8_ValidRune_ok fuel (IntKind.i32.wrap (fill_2)) w31  r106 hr107) ?_
       rintro v110 w108 ⟨hg109, rfl⟩
       refine gv_pureN 3 [29, 40, 41] [(29, (.bool (!r106)))] (by kernel_rfl) ?_
       refine gv_sub [0, 1, 2, 3, 9, 29] (σ' := [(0, (.string s_0)), (1, (.int .i64 width_1)), (2, (.int .i64 fill_2)), (3, (.int .i64 sides_3)), (9, (bp b1)), (29, (.bool (!r106)))]) (by kernel_rfl) ?_
       refine gv_nil ?_
       have e := sj h1; subst e
       refine gv_goal fun a hd hs hok => ?_
       have hg111 := (grown_trans hg23 hg27)
       have hB112 := bg hB21 hg111 nb
       have hB113 := bg hB21 hg23 nb
       have hlo114 : w0.heap.size ≤ b25 := lob hbe29 hB113.size
       have hB115 := bg hB112 hg32 (rowlo hlo114)
       have hB116 := bg hB115 hg109 nb
       have hz117 := hg109.size
       have hg118 := (grown_trans hg9 hg111)
       have hg119 := (grown_trans hg9 hg23)
       have hk120 := hb4.grown hg119 nb
       have lt121 := ltl ((ltb hk120) _ rfl) ((lowb hbe29) _ rfl)
       have hk122 := ((hb4.grown hg118 nb).grown hg32 (rowne (ng lt121))).grown hg109 nb
       exact ⟨hB116, hz117, hk122, hd, hs, ok_pick [0, 1, 2, 3, 9, 29] hok (by kernel_rfl)⟩
    ·rintro a w83 ⟨hB123, hz124, hb125, hd, hs, hok⟩
     refine gv_in ?_ hd hs hok
     clear hd hs hok
     clear hz124 hc59 hc35 hz34 hb33 hg32 hz30 hbe29 hb28 hg27 hg23 hB21 hr20 hl14 hB18 ho13 hz12 hbe11 hb10 hg9 hz6 hb4 hg3
     refine gv_cond (b := j82) (by kernel_rfl) (fun hc126 => ?_) (fun hc126 => ?_)
     ·replace h0 := ite_t hc126 h0
      refine gv_seq <| gv_region <| bindE h0 ?_; clear h0; intro r127 hr128 h0
      refine gv_call0 (by kernel_rfl) rfl (by kernel_rfl) enters56 (textstr_at_ok fuel 4 (-3) w83  r127 hr128) ?_
      rintro v131 w129 ⟨hg130, rfl⟩
      refine gv_pureN 1 [8] [(8, (.string (strOf [])))] (by kernel_rfl) ?_
      have hk136 := hb125.grown hg130 nb
      refine gv_store0 24 0 (.agg #[(.int .i64 r127.1), (.int .i64 r127.2)]) #[(.int .i64 r127.1), (.int .i64 r127.2)] hk136 (by kernel_rfl) (by kernel_rfl) (by kernel_rfl) ?_
      intro w132 hg133 hb134 hz135
      refine gv_nil <| gv_cret ?_
      have e := sj h0; subst e
      refine gv_ret (gv_done [(.string (strOf [])), (.agg #[(.int .i64 r127.1), (.int .i64 r127.2)])] rfl ⟨(by kernel_rfl), ⟨⟨b1, 0, none⟩, (by kernel_rfl), run_loadVar_row w132 b1 _ 24 _ _ _ hb134 Tryd.underlying24 rfl (by kernel_rfl)⟩, trivial⟩ ?_)
      have hB137 := bg hB123 hg130 nb
      have hlo138 : w0.heap.size ≤ b1 := lob hbe5 hB0.size
      have hB139 := bg hB137 hg133 (rowlo hlo138)
      exact ⟨grown_of_below hB139, rfl⟩
     ·replace h0 := ite_f hc126 h0
      refine gv_seq <| gv_region <| gv_cut_ops (J := fun a w140 => w83 = w140 ∧ a.defers = [] ∧ a.tmps.size = 80 ∧ Ok [(0, (.string s_0)), (1, (.int .i64 width_1)), (2, (.int .i64 fill_2)), (3, (.int .i64 sides_3)), (9, (bp b1)), (43, (.bool ((decide (sides_3 < 1)) || (decide (sides_3 > 3)))))] a.tmps) ?_ ?_
      ·skip
       refine gv_pureN 3 [44, 45, 46] [(46, (.bool (decide (sides_3 < 1))))] (by kernel_rfl) ?_
       refine gv_split (s := 46) (g := (decide (sides_3 < 1))) (by kernel_rfl) (fun hc141 => ?_) (fun hc141 => ?_)
       ·skip
        refine gv_pureN 4 [43, 47, 48, 49] [(43, (.bool true))] (by kernel_rfl) ?_
        refine gv_nil <| gv_sub [0, 1, 2, 3, 9, 43] (σ' := [(0, (.string s_0)), (1, (.int .i64 width_1)), (2, (.int .i64 fill_2)), (3, (.int .i64 sides_3)), (9, (bp b1)), (43, (.bool true))]) (by kernel_rfl) ?_
        refine gv_goal fun a hd hs hok => ⟨rfl, hd, hs, ?_⟩
        obtain ⟨q0, q1, q2, q3, q9, q43, _⟩ := hok
        exact ⟨q0, q1, q2, q3, q9, (by rw [hc141]; exact q43), trivial⟩
       ·skip
        refine gv_pureN 4 [43, 47, 48, 49] [(43, (.bool (decide (sides_3 > 3))))] (by kernel_rfl) ?_
        refine gv_nil <| gv_sub [0, 1, 2, 3, 9, 43] (σ' := [(0, (.string s_0)), (1, (.int .i64 width_1)), (2, (.int .i64 fill_2)), (3, (.int .i64 sides_3)), (9, (bp b1)), (43, (.bool (decide (sides_3 > 3))))]) (by kernel_rfl) ?_
        refine gv_goal fun a hd hs hok => ⟨rfl, hd, hs, ?_⟩
        obtain ⟨q0, q1, q2, q3, q9, q43, _⟩ := hok
        exact ⟨q0, q1, q2, q3, q9, (by rw [hc141]; exact q43), trivial⟩
      ·rintro a w140 ⟨e, hd, hs, hok⟩; subst e
       refine gv_in ?_ hd hs hok
       clear hd hs hok
       refine gv_cond (b := ((decide (sides_3 < 1)) || (decide (sides_3 > 3)))) (by kernel_rfl) (fun hc142 => ?_) (fun hc142 => ?_)
       ·replace h0 := ite_t hc142 h0
        refine gv_seq <| gv_region <| bindE h0 ?_; clear h0; intro r143 hr144 h0
        refine gv_call0 (by kernel_rfl) rfl (by kernel_rfl) enters56 (textstr_at_ok fuel 4 (-4) w83  r143 hr144) ?_
        rintro v147 w145 ⟨hg146, rfl⟩
        refine gv_pureN 1 [8] [(8, (.string (strOf [])))] (by kernel_rfl) ?_
        have hk152 := hb125.grown hg146 nb
        refine gv_store0 24 0 (.agg #[(.int .i64 r143.1), (.int .i64 r143.2)]) #[(.int .i64 r143.1), (.int .i64 r143.2)] hk152 (by kernel_rfl) (by kernel_rfl) (by kernel_rfl) ?_
        intro w148 hg149 hb150 hz151
        refine gv_nil <| gv_cret ?_
        have e := sj h0; subst e
        refine gv_ret (gv_done [(.string (strOf [])), (.agg #[(.int .i64 r143.1), (.int .i64 r143.2)])] rfl ⟨(by kernel_rfl), ⟨⟨b1, 0, none⟩, (by kernel_rfl), run_loadVar_row w148 b1 _ 24 _ _ _ hb150 Tryd.underlying24 rfl (by kernel_rfl)⟩, trivial⟩ ?_)
        have hB153 := bg hB123 hg146 nb
        have hlo154 : w0.heap.size ≤ b1 := lob hbe5 hB0.size
        have hB155 := bg hB153 hg149 (rowlo hlo154)
        exact ⟨grown_of_below hB155, rfl⟩
       ·replace h0 := ite_f hc142 h0
        refine gv_skip <| gv_blk <| gv_seq <| gv_region <| gv_pureN 2 [51, 52] [(51, (.int .i64 width_1)), (52, (.string s_0))] (by kernel_rfl) ?_
        refine bindE h0 ?_; clear h0; intro r156 hr157 h0
        refine gv_call0 (by kernel_rfl) rfl (by kernel_rfl) enters73 (utf8_RuneCountInString_ok fuel s_0 w83  r156 hr157) ?_
        rintro v160 w158 ⟨hg159, rfl⟩
        refine gv_pureN 3 [11, 54, 55] [(11, (.int .i64 (if 0 < (IntKind.i64.wrap (width_1 - r156)) then (IntKind.i64.wrap (width_1 - r156)) else 0)))] (by kernel_rfl) ?_
        refine bindE h0 ?_; clear h0; intro n161 hn162 h0
        refine gv_name (s := 11) (v := (.int .i64 (if 0 < (IntKind.i64.wrap (width_1 - r156)) then (IntKind.i64.wrap (width_1 - r156)) else 0))) (v' := (.int .i64 n161)) (by kernel_rfl) (congrArg (Value.int .i64) (sj hn162)) ?_
        refine gv_nil <| gv_seq <| gv_region <| gv_pureN 6 [56, 57, 58, 59, 60, 61] [(59, (.agg #[(.int .i64 n161), (.int .i64 0), (.int .i64 (IntKind.i64.wrap ((n161).tdiv 2)))])), (61, (.int .i64 (IntKind.i64.wrap (sides_3 - 1))))] (by kernel_rfl) ?_
        refine bindE h0 ?_; clear h0; intro x163 hx164 h0
        refine gv_aindex (fun n : Int => Value.int .i64 n) (t := 86) (e := 3) (len := 3) (kk := .i64) (i := (IntKind.i64.wrap (sides_3 - 1))) ([n161, 0, (IntKind.i64.wrap ((n161).tdiv 2))] : List Int) x163 [] (fun e => by cases e) rfl rfl rfl (by kernel_rfl) (by kernel_rfl) Tryd.underlying86 (by kernel_rfl) (by kernel_rfl) rfl hx164 rfl ?_
        refine gv_pureN 1 [12] [(12, (.int .i64 x163))] (by kernel_rfl) ?_
        refine gv_nil <| gv_seq <| gv_region <| gv_pureN 2 [63, 64] [(64, (.int .i32 (IntKind.i32.wrap (fill_2))))] (by kernel_rfl) ?_
        refine gv_i2s (src := 21) (dst := 9) (kk := .i32) (x := (IntKind.i32.wrap (fill_2))) [] (fun e => by cases e) rfl rfl rfl (by kernel_rfl) (by kernel_rfl) (by kernel_rfl) Tryd.underlying9 rfl ?_
        refine gv_pureN 1 [13] [(13, (.string (Utf8.encode (IntKind.i32.wrap (fill_2)))))] (by kernel_rfl) ?_
        refine bindE h0 ?_; clear h0; intro n165 hn166 h0
        refine gv_name (s := 13) (v := (.string (Utf8.encode (IntKind.i32.wrap (fill_2))))) (v' := (.string n165)) (by kernel_rfl) (congrArg (Value.string) (sj hn166)) ?_
        refine gv_nil <| gv_seq <| gv_region <| gv_pureN 2 [66, 67] [(66, (.string n165)), (67, (.int .i64 x163))] (by kernel_rfl) ?_
        refine bindE h0 ?_; clear h0; intro r167 hr168 h0
        refine gv_call0 (by kernel_rfl) rfl (by kernel_rfl) enters79 (strings_Repeat_ok fuel n165 x163 w158  r167 hr168) ?_
        rintro v171 w169 ⟨hg170, rfl⟩
        clear hr168 hn166 hx164 hn162 hr157 hc142 hc126
        refine gv_pureN 1 [69] [(69, (.string s_0))] (by kernel_rfl) ?_
        refine bindE h0 ?_; clear h0; intro x172 hx173 h0
        refine gv_cat (t := 9) (s := r167) (u := s_0) x172 [] (fun e => by cases e) rfl rfl rfl (by kernel_rfl) (by kernel_rfl) hx173 rfl ?_
        refine gv_pureN 4 [71, 72, 73, 74] [(71, (.string n165)), (74, (.int .i64 (IntKind.i64.wrap (n161 - x163))))] (by kernel_rfl) ?_
        refine gv_sub [9, 70, 71, 74] (σ' := [(9, (bp b1)), (70, (.string x172)), (71, (.string n165)), (74, (.int .i64 (IntKind.i64.wrap (n161 - x163))))]) (by kernel_rfl) ?_
        refine bindE h0 ?_; clear h0; intro r174 hr175 h0
        refine gv_call0 (by kernel_rfl) rfl (by kernel_rfl) enters79 (strings_Repeat_ok fuel n165 (IntKind.i64.wrap (n161 - x163)) w169  r174 hr175) ?_
        rintro v178 w176 ⟨hg177, rfl⟩
        refine bindE h0 ?_; clear h0; intro x179 hx180 h0
        refine gv_cat (t := 9) (s := x172) (u := r174) x179 [] (fun e => by cases e) rfl rfl rfl (by kernel_rfl) (by kernel_rfl) hx180 rfl ?_
        refine bindE h0 ?_; clear h0; intro r181 hr182 h0
        refine gv_call0 (by kernel_rfl) rfl (by kernel_rfl) enters89 (textstr_limited_ok fuel x179 w176  r181 hr182) ?_
        rintro v185 w183 ⟨hg184, rfl⟩
        refine gv_pureN 3 [8, 78, 79] [(8, (.string r181.1)), (79, (.agg #[(.int .i64 r181.2.1), (.int .i64 r181.2.2)]))] (by kernel_rfl) ?_
        have hg190 := (grown_trans (grown_trans (grown_trans hg159 hg170) hg177) hg184)
        have hk191 := hb125.grown hg190 nb
        refine gv_store0 24 0 (.agg #[(.int .i64 r181.2.1), (.int .i64 r181.2.2)]) #[(.int .i64 r181.2.1), (.int .i64 r181.2.2)] hk191 (by kernel_rfl) (by kernel_rfl) (by kernel_rfl) ?_
        intro w186 hg187 hb188 hz189
        refine gv_nil <| gv_cret ?_
        have e := sj h0; subst e
        refine gv_ret (gv_done [(.string r181.1), (.agg #[(.int .i64 r181.2.1), (.int .i64 r181.2.2)])] rfl ⟨(by kernel_rfl), ⟨⟨b1, 0, none⟩, (by kernel_rfl), run_loadVar_row w186 b1 _ 24 _ _ _ hb188 Tryd.underlying24 rfl (by kernel_rfl)⟩, trivial⟩ ?_)
        have hB192 := bg hB123 hg190 nb
        have hlo193 : w0.heap.size ≤ b1 := lob hbe5 hB0.size
        have hB194 := bg hB192 hg187 (rowlo hlo193)
        exact ⟨grown_of_below hB194, rfl⟩

theorem ref4_SameTexts_ok (fuel : Nat) (pa0_0 : Option Addr) (pc0_0 : Nat) (a_0 : (List ByteArray)) (pa1_0 : Option Addr) (pc1_0 : Nat) (b_1 : (List ByteArray)) (w0 : World) (X0 : Nat → Prop) (hX0 : ∀ k, X0 k → k < w0.heap.size) (hpa0_0 : Rd sE w0 X0 pa0_0 pc0_0 a_0) (hpa1_0 : Rd sE w0 X0 pa1_0 pc1_0 b_1) (r0 : Bool) (h0 : ref4_SameTexts fuel a_0 b_1 = some r0) :
    Calls Tryd.prog 18 ([(.slice pa0_0 (List.length a_0) pc0_0), (.slice pa1_0 (List.length b_1) pc1_0)] : List Value).toArray w0 (Ret fun v w' => w0.grownBy w' none ∧ v = tup [(.bool r0)]) := by
 have hB0 : Below w0.heap.size w0 w0 := Below.refl _ _
 unfold ref4_SameTexts at h0
 refine calls_run Tryd.func18 rfl Tryd.ntmps18 (by kernel_rfl) ?_
 refine gv_sub [0, 1] (σ' := [(0, (.slice pa0_0 (List.length a_0) pc0_0)), (1, (.slice pa1_0 (List.length b_1) pc1_0))]) (by kernel_rfl) ?_
 refine gv_seq <| gv_region <| gv_pureN 1 [4] [] (by kernel_rfl) ?_
 refine gv_nil <| gv_seq <| gv_seq <| gv_region <| gv_pureN 5 [6, 7, 8, 9, 10] [(10, (.bool (((List.length a_0 : Nat) : Int) != ((List.length b_1 : Nat) : Int))))] (by kernel_rfl) ?_
 refine gv_nil <| gv_cond (b := (((List.length a_0 : Nat) : Int) != ((List.length b_1 : Nat) : Int))) (by kernel_rfl) (fun hc1 => ?_) (fun hc1 => ?_)
 ·replace h0 := ite_t hc1 h0
  refine gv_seq <| gv_region <| gv_pureN 1 [4] [(4, (.bool false))] (by kernel_rfl) ?_
  refine gv_nil <| gv_cret ?_
  have e := sj h0; subst e
  refine gv_ret (gv_done [(.bool false)] rfl ⟨(by kernel_rfl), trivial⟩ ?_)
  exact ⟨grown_of_below hB0, rfl⟩
 ·replace h0 := ite_f hc1 h0
  refine gv_skip <| gv_seq <| gv_seq <| gv_region <| gv_pureN 1 [5] [(5, (.int .i64 0))] (by kernel_rfl) ?_
  refine gv_nil <| bindE h0 ?_; clear h0; intro j2 h1 h0
  refine gv_cut_code (J := fun a w4 => ∃ s3 : Unit, j2 = .inl s3 ∧ Below w0.heap.size w0 w4 ∧ w0.heap.size ≤ w4.heap.size ∧ a.defers = [] ∧ a.tmps.size = 26 ∧ Ok [] a.tmps) ?_ ?_
  ·skip
   refine gv_block <| gv_loop (A := fun (s5 : Int) a w6 => Below w0.heap.size w0 w6 ∧ w0.heap.size ≤ w6.heap.size ∧ a.defers = [] ∧ a.tmps.size = 26 ∧ Ok [(0, (.slice pa0_0 (List.length a_0) pc0_0)), (1, (.slice pa1_0 (List.length b_1) pc1_0)), (5, (.int .i64 s5))] a.tmps) h1 ?_ ?_
   ·intro a hd hs hok
    exact ⟨hB0, (Nat.le_refl _), hd, hs, ok_pick [0, 1, 5] hok (by kernel_rfl)⟩
   ·rintro s5 r2 h2 hR2 a w6 ⟨hB7, hz8, hd, hs, hok⟩
    refine gv_in ?_ hd hs hok
    clear hd hs hok
    refine gv_seq <| gv_seq <| gv_region <| gv_pureN 4 [11, 12, 13, 14] [(14, (.bool (decide (s5 < ((List.length a_0 : Nat) : Int)))))] (by kernel_rfl) ?_
    refine gv_nil <| gv_cond (b := (decide (s5 < ((List.length a_0 : Nat) : Int)))) (by kernel_rfl) (fun hc9 => ?_) (fun hc9 => ?_)
    ·replace h2 := ite_t hc9 h2
     refine gv_skip <| gv_seq <| gv_block <| gv_seq <| gv_drawA (by kernel_rfl) ?_
     intro w10 hg11
     refine gv_pre [0, 1, 2, 4, 5, 6] (bA 9 [0, 1, 2, 4, 5, 6]) 3 (by kernel_rfl) (by kernel_rfl) ?_
     refine gv_pureN 2 [17, 18] [(17, (.slice pa0_0 (List.length a_0) pc0_0)), (18, (.int .i64 s5))] (by kernel_rfl) ?_
     refine bindE h2 ?_; clear h2; intro x12 hx13 h2
     have hB14 := bg hB7 hg11 nb
     refine gv_idxaddr (t := 22) (e := 9) (a := pa0_0) (len := List.length a_0) (cap := pc0_0) (kk := .i64) (i := s5) (sz := 1) [] (fun e => by cases e) rfl rfl rfl (by kernel_rfl) (by kernel_rfl) Tryd.underlying22 (by kernel_rfl) ((hpa0_0.below hB14 hX0).has hx13) (idx_spec hx13).1 (idx_spec hx13).2.1 rfl ?_
     refine gv_pureN 2 [21, 22] [(21, (.slice pa1_0 (List.length b_1) pc1_0)), (22, (.int .i64 s5))] (by kernel_rfl) ?_
     refine bindE h2 ?_; clear h2; intro x15 hx16 h2
     refine gv_idxaddr (t := 22) (e := 9) (a := pa1_0) (len := List.length b_1) (cap := pc1_0) (kk := .i64) (i := s5) (sz := 1) [] (fun e => by cases e) rfl rfl rfl (by kernel_rfl) (by kernel_rfl) Tryd.underlying22 (by kernel_rfl) ((hpa1_0.below hB14 hX0).has hx16) (idx_spec hx16).1 (idx_spec hx16).2.1 rfl ?_
     refine gv_nil <| gv_goA ?_
     refine gv_stage (Cls w10 []) [0, 1, 2, 3, 4, 5, 6, 7] [(3, some true), (7, some true)] (bA 9 [0, 1, 2, 3, 4, 5, 6, 7]) 1 (by kernel_rfl) (by kernel_rfl) (Cls.refl _ _) ?_
     have hC17 := Cls.refl w10 []
     refine gv_load (t := 9) (A := (elemAddr pa0_0 ((s5 : Int).toNat * 1))) (.string x12) [] (fun e => by cases e) rfl rfl rfl (by kernel_rfl) (by kernel_rfl) (by kernel_rfl) (inw1 fun w' hC' => ((hC'.rd (hpa0_0.below hB14 hX0) (fun k (hk : X0 k) => ltl (hX0 k hk) hB14.size) nmx_nil).cell hx13)) rfl ?_
     refine gv_load (t := 9) (A := (elemAddr pa1_0 ((s5 : Int).toNat * 1))) (.string x15) [] (fun e => by cases e) rfl rfl rfl (by kernel_rfl) (by kernel_rfl) (by kernel_rfl) (inw1 fun w' hC' => ((hC'.rd (hpa1_0.below hB14 hX0) (fun k (hk : X0 k) => ltl (hX0 k hk) hB14.size) nmx_nil).cell hx16)) rfl ?_
     refine gv_nil <| gv_goA ?_
     refine gv_pre [8] (bA 9 [0, 1, 2, 3, 4, 5, 6, 7, 8]) 0 (by kernel_rfl) (by kernel_rfl) ?_
     refine gv_pureN 1 [25] [(25, (.bool (!(x12.toList == x15.toList))))] (by kernel_rfl) ?_
     refine gv_nil <| gv_goA ?_
     refine gv_stageE (by kernel_rfl) ?_
     refine gv_cond (b := (!(x12.toList == x15.toList))) (by kernel_rfl) (fun hc18 => ?_) (fun hc18 => ?_)
     ·replace h2 := ite_t hc18 h2
      refine gv_seq <| gv_region <| gv_pureN 1 [4] [(4, (.bool false))] (by kernel_rfl) ?_
      refine gv_nil <| gv_cret ?_
      have e := sj h2; subst e
      replace h1 := congrArg some (hR2 _ rfl)
      have e := sj h1; subst e
      replace h0 := cont_inr h0
      have e := sj h0; subst e
      refine gv_ret (gv_done [(.bool false)] rfl ⟨(by kernel_rfl), trivial⟩ ?_)
      exact ⟨grown_of_below hB14, rfl⟩
     ·replace h2 := ite_f hc18 h2
      refine gv_skip <| gv_blk <| gv_region <| gv_pureN 3 [5, 15, 16] [(5, (.int .i64 (IntKind.i64.wrap (s5 + 1))))] (by kernel_rfl) ?_
      refine gv_nil ?_
      have e := sj h2; subst e
      refine gv_goal fun a hd hs hok => ?_
      have hz19 := (nt hz8 hg11.size)
      exact ⟨(IntKind.i64.wrap (s5 + 1)), rfl, hB14, hz19, hd, hs, ok_pick [0, 1, 5] hok (by kernel_rfl)⟩
    ·replace h2 := ite_f hc9 h2
     refine gv_cexit <| gv_exit rfl ?_
     have e := sj h2; subst e
     replace h1 := congrArg some (hR2 _ rfl)
     have e := sj h1; subst e
     refine gv_goal fun a hd hs hok => ?_
     have hz20 := hz8
     exact ⟨(), rfl, hB7, hz20, hd, hs, ok_pick [] hok (by kernel_rfl)⟩
  ·rintro a w4 ⟨s3, e, hB21, hz22, hd, hs, hok⟩
   subst e
   refine gv_in ?_ hd hs hok
   clear hd hs hok
   replace h0 := cont_inl h0
   refine gv_seq <| gv_region <| gv_pureN 1 [4] [(4, (.bool true))] (by kernel_rfl) ?_
   refine gv_nil <| gv_cret ?_
   have e := sj h0; subst e
   refine gv_ret (gv_done [(.bool true)] rfl ⟨(by kernel_rfl), trivial⟩ ?_)
   exact ⟨grown_of_below hB21, rfl⟩

theorem law4_letters_ok (fuel : Nat)  (w0 : World) (X0 : Nat → Prop) (hX0 : ∀ k, X0 k → k < w0.heap.size) {gmx : Int} (hG0 : Rd (iE .i64) w0 X0 (some ⟨0, 0, none⟩) 1 [gmx]) (hG1 : Rd bE w0 X0 (some ⟨1, 0, none⟩) 256 utf8First) (hG2 : Rd (prE (iE .u8) (iE .u8)) w0 X0 (some ⟨2, 0, none⟩) 16 utf8Acc) (r0 : Bool) (h0 : law4_letters fuel  = some r0) :
    Calls Tryd.prog 15 ([] : List Value).toArray w0 (Ret fun v w' => w0.grownBy w' none ∧ v = tup [(.bool r0)]) := by
 have hB0 : Below w0.heap.size w0 w0 := Below.refl _ _
 unfold law4_letters at h0
 refine calls_run Tryd.func15 rfl Tryd.ntmps15 (by kernel_rfl) ?_
 refine gv_sub [] (σ' := []) (by kernel_rfl) ?_
 refine gv_seq <| gv_region <| gv_pureN 1 [0] [] (by kernel_rfl) ?_
 refine gv_nil <| gv_seq <| gv_region <| bindE h0 ?_; clear h0; intro r1 hr2 h0
 refine gv_call0 (by kernel_rfl) rfl (by kernel_rfl) enters46 (textstr_Split_ok fuel (strOf [97, 44, 98, 44, 44, 99]) (strOf [44]) 2 w0 (fun k => X0 k ∨ X0 k ∨ X0 k) (fun k hk => (hk).elim (fun h => (fun k (hk : X0 k) => ltl (hX0 k hk) hB0.size) k h) (fun h => (h).elim (fun h => (fun k (hk : X0 k) => ltl (hX0 k hk) hB0.size) k h) (fun h => (fun k (hk : X0 k) => ltl (hX0 k hk) hB0.size) k h))) ((hG0.below hB0 hX0).wide (fun k hk => (.inl hk))) ((hG1.below hB0 hX0).wide (fun k hk => (.inr (.inl hk)))) ((hG2.below hB0 hX0).wide (fun k hk => (.inr (.inr hk)))) r1 hr2) ?_
 rintro v5 w3 ⟨hg4, a6, c7, X9, rfl, ho8, hx10⟩
 have hx11 : ∀ k, X9 k → k < w3.heap.size := fun k hk => (hx10 k hk).1
 have hx12 : ∀ k, X9 k → X0 k ∨ w0.heap.size ≤ k := fun k hk => (hx10 k hk).2.elim (fun h => (h).elim (fun h => (fun k (hk : X0 k) => Or.inl hk) k h) (fun h => (h).elim (fun h => (fun k (hk : X0 k) => Or.inl hk) k h) (fun h => (fun k (hk : X0 k) => Or.inl hk) k h))) (fun h => .inr (Nat.le_trans hB0.size h))
 refine gv_pureN 3 [9, 11, 12] [(11, (.slice a6 (List.length r1.1) c7)), (12, (.agg #[(.int .i64 r1.2.1), (.int .i64 r1.2.2)]))] (by kernel_rfl) ?_
 refine gv_new0 (fun b => .pointer (some ⟨b, 0, none⟩)) #[(.int .i64 0), (.int .i64 0)] 24 (by kernel_rfl) (by kernel_rfl) ?_
 intro b13 w14 hg15 hb16 hbe17 hz18
 refine gv_pureN 1 [1] [(1, (.slice a6 (List.length r1.1) c7))] (by kernel_rfl) ?_
 refine gv_store0 24 0 (.agg #[(.int .i64 r1.2.1), (.int .i64 r1.2.2)]) #[(.int .i64 r1.2.1), (.int .i64 r1.2.2)] hb16 (by kernel_rfl) (by kernel_rfl) (by kernel_rfl) ?_
 intro w19 hg20 hb21 hz22
 refine gv_nil <| gv_seq <| gv_region <| bindE h0 ?_; clear h0; intro r23 hr24 h0
 have hg25 := (grown_trans hg4 hg15)
 have hB26 := bg hB0 hg25 nb
 have hB27 := bg hB0 hg4 nb
 have hlo28 : w0.heap.size ≤ b13 := lob hbe17 hB27.size
 have hB29 := bg hB26 hg20 (rowlo hlo28)
 refine gv_call0 (by kernel_rfl) rfl (by kernel_rfl) enters21 (textstr_ToTitle_ok fuel (strOf [100, 111, 110, 39, 116, 32, 195, 169, 108, 97, 110]) w19 (fun k => X0 k ∨ X0 k) (fun k hk => (hk).elim (fun h => (fun k (hk : X0 k) => ltl (hX0 k hk) hB29.size) k h) (fun h => (fun k (hk : X0 k) => ltl (hX0 k hk) hB29.size) k h)) ((hG1.below hB29 hX0).wide (fun k hk => (.inl hk))) ((hG2.below hB29 hX0).wide (fun k hk => (.inr hk))) r23 hr24) ?_
 rintro v32 w30 ⟨hg31, rfl⟩
 refine gv_pureN 3 [13, 15, 16] [(15, (.string r23.1)), (16, (.agg #[(.int .i64 r23.2.1), (.int .i64 r23.2.2)]))] (by kernel_rfl) ?_
 refine gv_new0 (fun b => .pointer (some ⟨b, 0, none⟩)) #[(.int .i64 0), (.int .i64 0)] 24 (by kernel_rfl) (by kernel_rfl) ?_
 intro b33 w34 hg35 hb36 hbe37 hz38
 refine gv_pureN 1 [3] [(3, (.string r23.1))] (by kernel_rfl) ?_
 refine gv_store0 24 0 (.agg #[(.int .i64 r23.2.1), (.int .i64 r23.2.2)]) #[(.int .i64 r23.2.1), (.int .i64 r23.2.2)] hb36 (by kernel_rfl) (by kernel_rfl) (by kernel_rfl) ?_
 intro w39 hg40 hb41 hz42
 refine gv_nil <| gv_seq <| gv_region <| bindE h0 ?_; clear h0; intro r43 hr44 h0
 have hg45 := (grown_trans hg31 hg35)
 have hB46 := bg hB29 hg45 nb
 have hB47 := bg hB29 hg31 nb
 have hlo48 : w0.heap.size ≤ b33 := lob hbe37 hB47.size
 have hB49 := bg hB46 hg40 (rowlo hlo48)
 refine gv_call0 (by kernel_rfl) rfl (by kernel_rfl) enters52 (textstr_Pad_ok fuel (strOf [97, 98]) 5 42 3 w39 (fun k => X0 k ∨ X0 k) (fun k hk => (hk).elim (fun h => (fun k (hk : X0 k) => ltl (hX0 k hk) hB49.size) k h) (fun h => (fun k (hk : X0 k) => ltl (hX0 k hk) hB49.size) k h)) ((hG1.below hB49 hX0).wide (fun k hk => (.inl hk))) ((hG2.below hB49 hX0).wide (fun k hk => (.inr hk))) r43 hr44) ?_
 rintro v52 w50 ⟨hg51, rfl⟩
 refine gv_pureN 3 [17, 19, 20] [(19, (.string r43.1)), (20, (.agg #[(.int .i64 r43.2.1), (.int .i64 r43.2.2)]))] (by kernel_rfl) ?_
 refine gv_new0 (fun b => .pointer (some ⟨b, 0, none⟩)) #[(.int .i64 0), (.int .i64 0)] 24 (by kernel_rfl) (by kernel_rfl) ?_
 intro b53 w54 hg55 hb56 hbe57 hz58
 clear hz58 hB47 hB46 hg45 hr44 hz42 hz38 hb36 hB29 hB27 hB26 hg25 hr24 hz22 hz18 hb16 hx10 hg4 hr2
 refine gv_pureN 1 [5] [(5, (.string r43.1))] (by kernel_rfl) ?_
 refine gv_sub [1, 2, 3, 4, 5, 6, 20] (σ' := [(1, (.slice a6 (List.length r1.1) c7)), (2, (bp b13)), (3, (.string r23.1)), (4, (bp b33)), (5, (.string r43.1)), (6, (bp b53)), (20, (.agg #[(.int .i64 r43.2.1), (.int .i64 r43.2.2)]))]) (by kernel_rfl) ?_
 refine gv_store0 24 0 (.agg #[(.int .i64 r43.2.1), (.int .i64 r43.2.2)]) #[(.int .i64 r43.2.1), (.int .i64 r43.2.2)] hb56 (by kernel_rfl) (by kernel_rfl) (by kernel_rfl) ?_
 intro w59 hg60 hb61 hz62
 refine gv_nil <| gv_seq <| gv_region <| bindE h0 ?_; clear h0; intro r63 hr64 h0
 have hg65 := (grown_trans hg51 hg55)
 have hB66 := bg hB49 hg65 nb
 have hB67 := bg hB49 hg51 nb
 have hlo68 : w0.heap.size ≤ b53 := lob hbe57 hB67.size
 have hB69 := bg hB66 hg60 (rowlo hlo68)
 refine gv_call0 (by kernel_rfl) rfl (by kernel_rfl) enters14 (textstr_Wrap_ok fuel (strOf [116, 111, 32, 98, 101, 32, 111, 114]) 5 w59 (fun k => X0 k ∨ X0 k) (fun k hk => (hk).elim (fun h => (fun k (hk : X0 k) => ltl (hX0 k hk) hB69.size) k h) (fun h => (fun k (hk : X0 k) => ltl (hX0 k hk) hB69.size) k h)) ((hG1.below hB69 hX0).wide (fun k hk => (.inl hk))) ((hG2.below hB69 hX0).wide (fun k hk => (.inr hk))) r63 hr64) ?_
 rintro v72 w70 ⟨hg71, a73, c74, X76, rfl, ho75, hx77⟩
 have hx78 : ∀ k, X76 k → k < w70.heap.size := fun k hk => (hx77 k hk).1
 have hx79 : ∀ k, X76 k → X0 k ∨ w0.heap.size ≤ k := fun k hk => (hx77 k hk).2.elim (fun h => (h).elim (fun h => (fun k (hk : X0 k) => Or.inl hk) k h) (fun h => (fun k (hk : X0 k) => Or.inl hk) k h)) (fun h => .inr (Nat.le_trans hB69.size h))
 refine gv_pureN 3 [21, 23, 24] [(23, (.slice a73 (List.length r63.1) c74)), (24, (.agg #[(.int .i64 r63.2.1), (.int .i64 r63.2.2)]))] (by kernel_rfl) ?_
 refine gv_new0 (fun b => .pointer (some ⟨b, 0, none⟩)) #[(.int .i64 0), (.int .i64 0)] 24 (by kernel_rfl) (by kernel_rfl) ?_
 intro b80 w81 hg82 hb83 hbe84 hz85
 refine gv_pureN 1 [7] [(7, (.slice a73 (List.length r63.1) c74))] (by kernel_rfl) ?_
 refine gv_store0 24 0 (.agg #[(.int .i64 r63.2.1), (.int .i64 r63.2.2)]) #[(.int .i64 r63.2.1), (.int .i64 r63.2.2)] hb83 (by kernel_rfl) (by kernel_rfl) (by kernel_rfl) ?_
 intro w86 hg87 hb88 hz89
 refine gv_nil <| gv_seq <| gv_region <| bindE h0 ?_; clear h0; intro j90 h1 h0
 refine gv_cut_ops (J := fun a w91 => Below w0.heap.size w0 w91 ∧ w86.heap.size ≤ w91.heap.size ∧ a.defers = [] ∧ a.tmps.size = 61 ∧ Ok [(0, (.bool j90))] a.tmps) ?_ ?_
 ·skip
  refine gv_pureN 1 [25] [(25, (bp b13))] (by kernel_rfl) ?_
  have hg92 := (grown_trans hg31 hg35)
  have hk93 := hb21.grown hg31 nb
  have lt94 := ltl ((ltb hk93) _ rfl) ((lowb hbe37) _ rfl)
  have hk95 := hb41.grown hg51 nb
  have lt96 := ltl ((ltb hk95) _ rfl) ((lowb hbe57) _ rfl)
  have lt97 := ltt lt94 lt96
  have hg98 := (grown_trans hg71 hg82)
  have hk99 := hb61.grown hg71 nb
  have lt100 := ltl ((ltb hk99) _ rfl) ((lowb hbe84) _ rfl)
  have lt101 := ltt lt97 lt100
  have hk102 := (((((hb21.grown hg92 nb).grown hg40 (rowne (ng lt94))).grown hg65 nb).grown hg60 (rowne (ng lt97))).grown hg98 nb).grown hg87 (rowne (ng lt101))
  refine gv_load (t := 3) (A := ⟨b13, 0, none⟩) (.int .i64 r1.2.1) [] (fun e => by cases e) rfl rfl rfl (by kernel_rfl) (by kernel_rfl) (by kernel_rfl) (inw0 (hk102.cell 0 rfl)) rfl ?_
  refine gv_pureN 2 [27, 28] [(28, (.bool (r1.2.1 == 0)))] (by kernel_rfl) ?_
  refine gv_split (s := 28) (g := (r1.2.1 == 0)) (by kernel_rfl) (fun hc103 => ?_) (fun hc103 => ?_)
  ·skip
   replace h1 := ite_t hc103 h1
   refine gv_pureN 1 [29] [(29, (bp b33))] (by kernel_rfl) ?_
   have lt104 := ltt lt96 lt100
   have hk105 := (((hk95.grown hg55 nb).grown hg60 (rowne (ng lt96))).grown hg98 nb).grown hg87 (rowne (ng lt104))
   refine gv_load (t := 3) (A := ⟨b33, 0, none⟩) (.int .i64 r23.2.1) [] (fun e => by cases e) rfl rfl rfl (by kernel_rfl) (by kernel_rfl) (by kernel_rfl) (inw0 (hk105.cell 0 rfl)) rfl ?_
   refine gv_pureN 3 [31, 32, 33] [(33, (.bool (r23.2.1 == 0)))] (by kernel_rfl) ?_
   refine gv_split (s := 33) (g := (r23.2.1 == 0)) (by kernel_rfl) (fun hc106 => ?_) (fun hc106 => ?_)
   ·skip
    replace h1 := ite_t hc106 h1
    refine gv_pureN 1 [34] [(34, (bp b53))] (by kernel_rfl) ?_
    have hk107 := (hk99.grown hg82 nb).grown hg87 (rowne (ng lt100))
    refine gv_load (t := 3) (A := ⟨b53, 0, none⟩) (.int .i64 r43.2.1) [] (fun e => by cases e) rfl rfl rfl (by kernel_rfl) (by kernel_rfl) (by kernel_rfl) (inw0 (hk107.cell 0 rfl)) rfl ?_
    refine gv_pureN 3 [36, 37, 38] [(38, (.bool (r43.2.1 == 0)))] (by kernel_rfl) ?_
    refine gv_sub [1, 3, 5, 7, 8, 38] (σ' := [(1, (.slice a6 (List.length r1.1) c7)), (3, (.string r23.1)), (5, (.string r43.1)), (7, (.slice a73 (List.length r63.1) c74)), (8, (bp b80)), (38, (.bool (r43.2.1 == 0)))]) (by kernel_rfl) ?_
    refine gv_split (s := 38) (g := (r43.2.1 == 0)) (by kernel_rfl) (fun hc108 => ?_) (fun hc108 => ?_)
    ·skip
     replace h1 := ite_t hc108 h1
     refine gv_pureN 1 [39] [(39, (bp b80))] (by kernel_rfl) ?_
     refine gv_load (t := 3) (A := ⟨b80, 0, none⟩) (.int .i64 r63.2.1) [] (fun e => by cases e) rfl rfl rfl (by kernel_rfl) (by kernel_rfl) (by kernel_rfl) (inw0 (hb88.cell 0 rfl)) rfl ?_
     refine gv_pureN 3 [41, 42, 43] [(43, (.bool (r63.2.1 == 0)))] (by kernel_rfl) ?_
     refine gv_split (s := 43) (g := (r63.2.1 == 0)) (by kernel_rfl) (fun hc109 => ?_) (fun hc109 => ?_)
     ·skip
      replace h1 := ite_t hc109 h1
      refine gv_pureN 1 [44] [(44, (.slice a6 (List.length r1.1) c7))] (by kernel_rfl) ?_
      refine gv_new0 (fun b => .slice (some ⟨b, 0, none⟩) 3 3) #[(.string (strOf [97])), (.string (strOf [98])), (.string (strOf [44, 99]))] 9 (by kernel_rfl) (by kernel_rfl) ?_
      intro b110 w111 hg112 hb113 hbe114 hz115
      have ho116 : Gv.Own sE 9 w111 (fun _ => False) (some ⟨b110, 0, none⟩) 3 ([(strOf [97]), (strOf [98]), (strOf [44, 99])] : List ByteArray) := Box.ownE hb113 ⟨[(.string (strOf [97]))], [(.string (strOf [98])), (.string (strOf [44, 99]))], rfl, rfl, ⟨[(.string (strOf [98]))], [(.string (strOf [44, 99]))], rfl, rfl, ⟨[(.string (strOf [44, 99]))], [], rfl, rfl, rfl⟩⟩⟩ (show 3 ≤ maxLen by decide) (fun h => h)
      have hB121 := bg hB69 hg98 nb
      have hB122 := bg hB69 hg71 nb
      have hlo123 : w0.heap.size ≤ b80 := lob hbe84 hB122.size
      have hB124 := bg hB121 hg87 (rowlo hlo123)
      have hl117 : ∀ g, blk (some ⟨b110, 0, none⟩) = some g → w0.heap.size ≤ g := loo hbe114 hB124.size
      refine bindE h1 ?_; clear h1; intro r125 hr126 h1
      have hx127 := ltx (ltx (ltx (ltx (ltx (ltx (ltx (ltx (ltx hx11 hg15.size) hg20.size) hg92.size) hg40.size) hg65.size) hg60.size) hg98.size) hg87.size) hg112.size
      have ap128 : ¬ X9 b13 := fun hx => nl ((lowb hbe17) _ rfl) (hx11 _ hx)
      have hx129 := ltx hx11 hg15.size
      have hx130 := ltx hx129 hg20.size
      have hx131 := ltx hx130 hg31.size
      have ap132 : ¬ X9 b33 := fun hx => nl ((lowb hbe37) _ rfl) (hx131 _ hx)
      have hx133 := ltx hx131 hg35.size
      have hx134 := ltx hx133 hg40.size
      have hx135 := ltx hx134 hg51.size
      have ap136 : ¬ X9 b53 := fun hx => nl ((lowb hbe57) _ rfl) (hx135 _ hx)
      have hx137 := ltx hx135 hg55.size
      have hx138 := ltx hx137 hg60.size
      have hx139 := ltx hx138 hg71.size
      have ap140 : ¬ X9 b80 := fun hx => nl ((lowb hbe84) _ rfl) (hx139 _ hx)
      have hx141 := ltx hx139 hg82.size
      have hx142 := ltx hx141 hg87.size
      have hk143 := ((((((((ho8.grown hg15 hx11 nb).grown hg20 hx129 (rowne ap128)).grown hg92 hx130 nb).grown hg40 hx133 (rowne ap132)).grown hg65 hx134 nb).grown hg60 hx137 (rowne ap136)).grown hg98 hx138 nb).grown hg87 hx141 (rowne ap140)).grown hg112 hx142 nb
      refine gv_call0 (by kernel_rfl) rfl (by kernel_rfl) enters18 (ref4_SameTexts_ok fuel a6 c7 r1.1 (some ⟨b110, 0, none⟩) 3 ([(strOf [97]), (strOf [98]), (strOf [44, 99])] : List ByteArray) w111 (fun k => X9 k ∨ (fun k => blk (some ⟨b110, 0, none⟩) = some k) k) (fun k hk => (hk).elim (fun h => hx127 k h) (fun h => (fun k (hk : blk (some ⟨b110, 0, none⟩) = some k) => ho116.lt k hk) k h)) (hk143.wide (fun k hk => (.inl hk))) ((ho116.rd (Y := fun k => blk (some ⟨b110, 0, none⟩) = some k) (fun _ h => h.elim) (fun g e => e)).wide (fun k hk => (.inr hk))) r125 hr126) ?_
      rintro v146 w144 ⟨hg145, rfl⟩
      refine gv_pureN 2 [47, 48] [(48, (.bool r125))] (by kernel_rfl) ?_
      refine gv_split (s := 48) (g := r125) (by kernel_rfl) (fun hc147 => ?_) (fun hc147 => ?_)
      ·skip
       replace h1 := ite_t hc147 h1
       refine gv_pureN 4 [49, 50, 51, 52] [(52, (.bool (r23.1.toList == (strOf [68, 111, 110, 39, 84, 32, 195, 137, 108, 97, 110]).toList)))] (by kernel_rfl) ?_
       refine gv_split (s := 52) (g := (r23.1.toList == (strOf [68, 111, 110, 39, 84, 32, 195, 137, 108, 97, 110]).toList)) (by kernel_rfl) (fun hc148 => ?_) (fun hc148 => ?_)
       ·skip
        replace h1 := ite_t hc148 h1
        refine gv_pureN 4 [53, 54, 55, 56] [(56, (.bool (r43.1.toList == (strOf [42, 97, 98, 42, 42]).toList)))] (by kernel_rfl) ?_
        refine gv_split (s := 56) (g := (r43.1.toList == (strOf [42, 97, 98, 42, 42]).toList)) (by kernel_rfl) (fun hc149 => ?_) (fun hc149 => ?_)
        ·skip
         replace h1 := ite_t hc149 h1
         refine gv_pureN 1 [57] [(57, (.slice a73 (List.length r63.1) c74))] (by kernel_rfl) ?_
         refine gv_new0 (fun b => .slice (some ⟨b, 0, none⟩) 2 2) #[(.string (strOf [116, 111, 32, 98, 101])), (.string (strOf [111, 114]))] 9 (by kernel_rfl) (by kernel_rfl) ?_
         intro b150 w151 hg152 hb153 hbe154 hz155
         have ho156 : Gv.Own sE 9 w151 (fun _ => False) (some ⟨b150, 0, none⟩) 2 ([(strOf [116, 111, 32, 98, 101]), (strOf [111, 114])] : List ByteArray) := Box.ownE hb153 ⟨[(.string (strOf [116, 111, 32, 98, 101]))], [(.string (strOf [111, 114]))], rfl, rfl, ⟨[(.string (strOf [111, 114]))], [], rfl, rfl, rfl⟩⟩ (show 2 ≤ maxLen by decide) (fun h => h)
         have hg161 := (grown_trans hg112 hg145)
         have hB162 := bg hB124 hg161 nb
         have hl157 : ∀ g, blk (some ⟨b150, 0, none⟩) = some g → w0.heap.size ≤ g := loo hbe154 hB162.size
         refine bindE h1 ?_; clear h1; intro r163 hr164 h1
         have hg165 := (grown_trans hg161 hg152)
         have hx166 := ltx (ltx (ltx hx78 hg82.size) hg87.size) hg165.size
         have ap167 : ¬ X76 b80 := fun hx => nl ((lowb hbe84) _ rfl) (hx78 _ hx)
         have hx168 := ltx hx78 hg82.size
         have hx169 := ltx hx168 hg87.size
         have hk170 := ((ho75.grown hg82 hx78 nb).grown hg87 hx168 (rowne ap167)).grown hg165 hx169 nb
         refine gv_call0 (by kernel_rfl) rfl (by kernel_rfl) enters18 (ref4_SameTexts_ok fuel a73 c74 r63.1 (some ⟨b150, 0, none⟩) 2 ([(strOf [116, 111, 32, 98, 101]), (strOf [111, 114])] : List ByteArray) w151 (fun k => X76 k ∨ (fun k => blk (some ⟨b150, 0, none⟩) = some k) k) (fun k hk => (hk).elim (fun h => hx166 k h) (fun h => (fun k (hk : blk (some ⟨b150, 0, none⟩) = some k) => ho156.lt k hk) k h)) (hk170.wide (fun k hk => (.inl hk))) ((ho156.rd (Y := fun k => blk (some ⟨b150, 0, none⟩) = some k) (fun _ h => h.elim) (fun g e => e)).wide (fun k hk => (.inr hk))) r163 hr164) ?_
         rintro v173 w171 ⟨hg172, rfl⟩
         have hz174 := (nt (nt (nt hg112.size hg145.size) hg152.size) hg172.size)
         clear hk170 hx169 hx168 ap167 hx166 hg165 hr164 hl157 hg161 ho156 hz155 hbe154 hb153 hc149 hc148 hc147 hg145 hk143 hx142 hx141 ap140 hx139 hx138 hx137 ap136 hx135 hx134 hx133 ap132 hx131 hx130 hx129 ap128 hx127 hr126 hl117 hB124 hlo123 hB122 hB121 ho116 hz115 hbe114 hb113 hg112 hc109 hc108 hk107 hc106 hk105 lt104 hc103 hk102 lt101 lt100 hk99 hg98 lt97 lt96 hk95 lt94 hk93 hg92 hz89 hb88 hg87 hz85 hbe84 hb83 hg82 hx79 hx78 hx77 ho75 hg71 hB69 hlo68 hB67 hB66 hg65 hr64 hz62 hb61 hg60 hbe57 hb56 hg55 hg51 hB49 hlo48 hb41 hg40 hbe37 hg35 hg31 hlo28 hb21 hg20 hbe17 hg15 hx12 hx11 ho8
         refine gv_pureN 2 [0, 60] [(0, (.bool r163))] (by kernel_rfl) ?_
         refine gv_nil ?_
         have e := sj h1; subst e
         refine gv_goal fun a hd hs hok => ?_
         have hg175 := (grown_trans hg152 hg172)
         have hB176 := bg hB162 hg175 nb
         have hz177 := hz174
         exact ⟨hB176, hz177, hd, hs, ok_pick [0] hok (by kernel_rfl)⟩
        ·skip
         replace h1 := ite_f hc149 h1
         refine gv_pureN 5 [0, 57, 58, 59, 60] [(0, (.bool false))] (by kernel_rfl) ?_
         refine gv_nil ?_
         have e := sj h1; subst e
         refine gv_goal fun a hd hs hok => ?_
         have hg178 := (grown_trans hg112 hg145)
         have hB179 := bg hB124 hg178 nb
         have hz180 := (nt hg112.size hg145.size)
         exact ⟨hB179, hz180, hd, hs, ok_pick [0] hok (by kernel_rfl)⟩
       ·skip
        replace h1 := ite_f hc148 h1
        refine gv_pureN 9 [0, 53, 54, 55, 56, 57, 58, 59, 60] [(0, (.bool false))] (by kernel_rfl) ?_
        refine gv_nil ?_
        have e := sj h1; subst e
        refine gv_goal fun a hd hs hok => ?_
        have hg181 := (grown_trans hg112 hg145)
        have hB182 := bg hB124 hg181 nb
        have hz183 := (nt hg112.size hg145.size)
        exact ⟨hB182, hz183, hd, hs, ok_pick [0] hok (by kernel_rfl)⟩
      ·skip
       replace h1 := ite_f hc147 h1
       refine gv_pureN 13 [0, 49, 50, 51, 52, 53, 54, 55, 56, 57, 58, 59, 60] [(0, (.bool false))] (by kernel_rfl) ?_
       refine gv_nil ?_
       have e := sj h1; subst e
       refine gv_goal fun a hd hs hok => ?_
       have hg184 := (grown_trans hg112 hg145)
       have hB185 := bg hB124 hg184 nb
       have hz186 := (nt hg112.size hg145.size)
       exact ⟨hB185, hz186, hd, hs, ok_pick [0] hok (by kernel_rfl)⟩
     ·skip
      replace h1 := ite_f hc109 h1
      refine gv_pureN 18 [0, 44, 45, 46, 47, 48, 49, 50, 51, 52, 53, 54, 55, 56, 57, 58, 59, 60] [(0, (.bool false))] (by kernel_rfl) ?_
      refine gv_nil ?_
      have e := sj h1; subst e
      refine gv_goal fun a hd hs hok => ?_
      have hB187 := bg hB69 hg98 nb
      have hB188 := bg hB69 hg71 nb
      have hlo189 : w0.heap.size ≤ b80 := lob hbe84 hB188.size
      have hB190 := bg hB187 hg87 (rowlo hlo189)
      exact ⟨hB190, (Nat.le_refl _), hd, hs, ok_pick [0] hok (by kernel_rfl)⟩
    ·skip
     replace h1 := ite_f hc108 h1
     refine gv_pureN 23 [0, 39, 40, 41, 42, 43, 44, 45, 46, 47, 48, 49, 50, 51, 52, 53, 54, 55, 56, 57, 58, 59, 60] [(0, (.bool false))] (by kernel_rfl) ?_
     refine gv_nil ?_
     have e := sj h1; subst e
     refine gv_goal fun a hd hs hok => ?_
     have hB191 := bg hB69 hg98 nb
     have hB192 := bg hB69 hg71 nb
     have hlo193 : w0.heap.size ≤ b80 := lob hbe84 hB192.size
     have hB194 := bg hB191 hg87 (rowlo hlo193)
     exact ⟨hB194, (Nat.le_refl _), hd, hs, ok_pick [0] hok (by kernel_rfl)⟩
   ·skip
    replace h1 := ite_f hc106 h1
    refine gv_pureN 28 [0, 34, 35, 36, 37, 38, 39, 40, 41, 42, 43, 44, 45, 46, 47, 48, 49, 50, 51, 52, 53, 54, 55, 56, 57, 58, 59, 60] [(0, (.bool false))] (by kernel_rfl) ?_
    refine gv_nil ?_
    have e := sj h1; subst e
    refine gv_goal fun a hd hs hok => ?_
    have hB195 := bg hB69 hg98 nb
    have hB196 := bg hB69 hg71 nb
    have hlo197 : w0.heap.size ≤ b80 := lob hbe84 hB196.size
    have hB198 := bg hB195 hg87 (rowlo hlo197)
    exact ⟨hB198, (Nat.le_refl _), hd, hs, ok_pick [0] hok (by kernel_rfl)⟩
  ·skip
   replace h1 := ite_f hc103 h1
   refine gv_pureN 33 [0, 29, 30, 31, 32, 33, 34, 35, 36, 37, 38, 39, 40, 41, 42, 43, 44, 45, 46, 47, 48, 49, 50, 51, 52, 53, 54, 55, 56, 57, 58, 59, 60] [(0, (.bool false))] (by kernel_rfl) ?_
   refine gv_nil ?_
   have e := sj h1; subst e
   refine gv_goal fun a hd hs hok => ?_
   have hB199 := bg hB69 hg98 nb
   have hB200 := bg hB69 hg71 nb
   have hlo201 : w0.heap.size ≤ b80 := lob hbe84 hB200.size
   have hB202 := bg hB199 hg87 (rowlo hlo201)
   exact ⟨hB202, (Nat.le_refl _), hd, hs, ok_pick [0] hok (by kernel_rfl)⟩
 ·rintro a w91 ⟨hB203, hz204, hd, hs, hok⟩
  refine gv_in ?_ hd hs hok
  clear hd hs hok
  clear hz204 hz89 hb88 hg87 hz85 hbe84 hb83 hg82 hx79 hx78 hx77 ho75 hg71 hB69 hlo68 hB67 hB66 hg65 hr64 hz62 hb61 hg60 hbe57 hb56 hg55 hg51 hB49 hlo48 hb41 hg40 hbe37 hg35 hg31 hlo28 hb21 hg20 hbe17 hg15 hx12 hx11 ho8
  refine gv_cret ?_
  have e := sj h0; subst e
  refine gv_ret (gv_done [(.bool j90)] rfl ⟨(by kernel_rfl), trivial⟩ ?_)
  exact ⟨grown_of_below hB203, rfl⟩

theorem textstr_Points_ok (fuel : Nat) (s_0 : ByteArray) (w0 : World) (X0 : Nat → Prop) (hX0 : ∀ k, X0 k → k < w0.heap.size) (hG1 : Rd bE w0 X0 (some ⟨1, 0, none⟩) 256 utf8First) (hG2 : Rd (prE (iE .u8) (iE .u8)) w0 X0 (some ⟨2, 0, none⟩) 16 utf8Acc) (r0 : ((List Int) × (Int × Int))) (h0 : textstr_Points fuel s_0 = some r0) :
    Calls Tryd.prog 61 ([(.string s_0)] : List Value).toArray w0 (Ret fun v w' => w0.grownBy w' none ∧ ∃ (a0_0r : Option Addr) (c0_0r : Nat), v = tup [(.slice a0_0r (List.length r0.1) c0_0r), (.agg #[(.int .i64 r0.2.1), (.int .i64 r0.2.2)])] ∧ Gv.Own (iE .i64) 3 w' (fun _ => False) a0_0r c0_0r r0.1 ∧ (∀ g, blk a0_0r = some g → w0.heap.size ≤ g)) := by
 have hB0 : Below w0.heap.size w0 w0 := Below.refl _ _
 unfold textstr_Points at h0
 refine calls_run Tryd.func61 rfl Tryd.ntmps61 (by kernel_rfl) ?_
 refine gv_sub [0] (σ' := [(0, (.string s_0))]) (by kernel_rfl) ?_
 refine gv_seq <| gv_region <| gv_pureN 1 [2] [] (by kernel_rfl) ?_
 refine gv_new0 (fun b => .pointer (some ⟨b, 0, none⟩)) #[(.int .i64 0), (.int .i64 0)] 24 (by kernel_rfl) (by kernel_rfl) ?_
 intro b1 w2 hg3 hb4 hbe5 hz6
 refine gv_nil <| gv_seq <| gv_seq <| gv_region <| gv_pureN 1 [8] [(8, (.string s_0))] (by kernel_rfl) ?_
 refine gv_new0 (fun b => .slice (some ⟨b, 0, none⟩) 1 1) #[(.string s_0)] 9 (by kernel_rfl) (by kernel_rfl) ?_
 intro b7 w8 hg9 hb10 hbe11 hz12
 have ho13 : Gv.Own sE 9 w8 (fun _ => False) (some ⟨b7, 0, none⟩) 1 ([s_0] : List ByteArray) := Box.ownE hb10 ⟨[(.string s_0)], [], rfl, rfl, rfl⟩ (show 1 ≤ maxLen by decide) (fun h => h)
 have hB18 := bg hB0 hg3 nb
 have hl14 : ∀ g, blk (some ⟨b7, 0, none⟩) = some g → w0.heap.size ≤ g := loo hbe11 hB18.size
 refine bindE h0 ?_; clear h0; intro r19 hr20 h0
 have hB21 := bg hB18 hg9 nb
 refine gv_call0 (by kernel_rfl) rfl (by kernel_rfl) enters58 (textstr_check_ok fuel (some ⟨b7, 0, none⟩) 1 ([s_0] : List ByteArray) w8 (fun k => (fun k => blk (some ⟨b7, 0, none⟩) = some k) k ∨ X0 k ∨ X0 k) (fun k hk => (hk).elim (fun h => (fun k (hk : blk (some ⟨b7, 0, none⟩) = some k) => ho13.lt k hk) k h) (fun h => (h).elim (fun h => (fun k (hk : X0 k) => ltl (hX0 k hk) hB21.size) k h) (fun h => (fun k (hk : X0 k) => ltl (hX0 k hk) hB21.size) k h))) ((ho13.rd (Y := fun k => blk (some ⟨b7, 0, none⟩) = some k) (fun _ h => h.elim) (fun g e => e)).wide (fun k hk => (.inl hk))) ((hG1.below hB21 hX0).wide (fun k hk => (.inr (.inl hk)))) ((hG2.below hB21 hX0).wide (fun k hk => (.inr (.inr hk)))) r19 hr20) ?_
 rintro v24 w22 ⟨hg23, rfl⟩
 refine gv_new0 (fun b => .pointer (some ⟨b, 0, none⟩)) #[(.int .i64 0), (.int .i64 0)] 24 (by kernel_rfl) (by kernel_rfl) ?_
 intro b25 w26 hg27 hb28 hbe29 hz30
 refine gv_store0 24 0 (.agg #[(.int .i64 r19.1), (.int .i64 r19.2)]) #[(.int .i64 r19.1), (.int .i64 r19.2)] hb28 (by kernel_rfl) (by kernel_rfl) (by kernel_rfl) ?_
 intro w31 hg32 hb33 hz34
 refine gv_nil <| gv_seq <| gv_region <| gv_pureN 1 [11] [(11, (bp b25))] (by kernel_rfl) ?_
 refine gv_load (t := 3) (A := ⟨b25, 0, none⟩) (.int .i64 r19.1) [] (fun e => by cases e) rfl rfl rfl (by kernel_rfl) (by kernel_rfl) (by kernel_rfl) (inw0 (hb33.cell 0 rfl)) rfl ?_
 refine gv_pureN 1 [13] [(13, (.bool (r19.1 != 0)))] (by kernel_rfl) ?_
 refine gv_nil <| gv_cond (b := (r19.1 != 0)) (by kernel_rfl) (fun hc35 => ?_) (fun hc35 => ?_)
 ·replace h0 := ite_t hc35 h0
  refine gv_seq <| gv_drawA (by kernel_rfl) ?_
  intro w36 hg37
  refine gv_pre [1] (bA 3 [1]) 2 (by kernel_rfl) (by kernel_rfl) ?_
  refine gv_pureN 1 [2] [(2, (.slice none (List.length ([] : List Int)) 0))] (by kernel_rfl) ?_
  refine gv_nil <| gv_goA ?_
  refine gv_stage (Cls w36 []) [0, 1] [(0, some true)] (bA 3 [0, 1]) 1 (by kernel_rfl) (by kernel_rfl) (Cls.refl _ _) ?_
  have hC38 := Cls.refl w36 []
  have hk39 := hb33.grown hg37 nb
  refine gv_loadBox (t := 24) (b := b25) (t' := 24) (fr := (0, 0)) #[(.int .i64 r19.1), (.int .i64 r19.2)] [] (fun e => by cases e) rfl rfl rfl (by kernel_rfl) (by kernel_rfl) (by kernel_rfl) (by kernel_rfl) (inw1 fun w' hC' => (hC'.box hk39 nm_nil)) rfl ?_
  refine gv_nil <| gv_goA ?_
  refine gv_stage (fun _ => True) [0, 1, 2] [(2, some false)] (bA 3 [0, 1, 2]) 0 (by kernel_rfl) (by kernel_rfl) trivial ?_
  have hg44 := (grown_trans (grown_trans hg9 hg23) hg27)
  have hg45 := (grown_trans hg9 hg23)
  have hk46 := hb4.grown hg45 nb
  have lt47 := ltl ((ltb hk46) _ rfl) ((lowb hbe29) _ rfl)
  have hk48 := ((hb4.grown hg44 nb).grown hg32 (rowne (ng lt47))).grown hg37 nb
  refine gv_store (t := 24) (b := b1) (off := 0) (v := (.agg #[(.int .i64 r19.1), (.int .i64 r19.2)])) (t' := 24) (cs := #[(.int .i64 0), (.int .i64 0)]) #[(.int .i64 r19.1), (.int .i64 r19.2)] (by decide) rfl rfl (by kernel_rfl) (by kernel_rfl) (by kernel_rfl) (by intro u hu; simp [Value.cells] at hu; rcases hu with rfl | rfl <;> rfl) (show 0 + 2 ≤ 2 by decide) (by rfl) hk48 ?_
  intro w40 hg41 hb42 hz43
  refine ⟨(fun _ => trivial), ?_⟩
  refine gv_nil <| gv_goA ?_
  refine gv_stageE (by kernel_rfl) ?_
  refine gv_cret ?_
  have e := sj h0; subst e
  refine gv_ret (gv_done [(.slice none (List.length ([] : List Int)) 0), (.agg #[(.int .i64 r19.1), (.int .i64 r19.2)])] rfl ⟨(by kernel_rfl), ⟨⟨b1, 0, none⟩, (by kernel_rfl), run_loadVar_row w40 b1 _ 24 _ _ _ hb42 Tryd.underlying24 rfl (by kernel_rfl)⟩, trivial⟩ ?_)
  have hg49 := (grown_trans hg23 hg27)
  have hB50 := bg hB21 hg49 nb
  have hB51 := bg hB21 hg23 nb
  have hlo52 : w0.heap.size ≤ b25 := lob hbe29 hB51.size
  have hB53 := bg hB50 hg32 (rowlo hlo52)
  have hB54 := bg hB53 hg37 nb
  have hlo55 : w0.heap.size ≤ b1 := lob hbe5 hB0.size
  have hB56 := bg hB54 hg41 (rowlo hlo55)
  exact ⟨grown_of_below hB56, none, 0, rfl, (Gv.Own.nil (iE .i64) 3 w40 (fun _ => False)), (fun _ h => by cases h)⟩
 ·replace h0 := ite_f hc35 h0
  refine gv_skip <| gv_seq <| gv_region <| gv_pureN 1 [5] [(5, (.slice none (List.length ([] : List Int)) 0))] (by kernel_rfl) ?_
  refine gv_nil <| gv_seq <| gv_seq <| gv_region <| gv_pureN 1 [15] [(15, (.string s_0))] (by kernel_rfl) ?_
  refine gv_range (t := 9) (s := s_0) (by kernel_rfl) (by kernel_rfl) Tryd.underlying9 ?_
  intro b57 w58 hg59 hb60 hbe61 hz62
  clear hz62 hc35 hz34 hz30 hb28 hr20 hB18 hz12 hb10 hz6 hg3
  refine gv_nil <| bindE h0 ?_; clear h0; intro j63 h1 h0
  refine gv_cut_code (J := fun a w64 => ∃ (a5_0j : Option Addr) (c5_0j : Nat), Below w0.heap.size w0 w64 ∧ w58.heap.size ≤ w64.heap.size ∧ Gv.Own (iE .i64) 3 w64 (fun _ => False) a5_0j c5_0j j63 ∧ (∀ g, blk a5_0j = some g → w0.heap.size ≤ g) ∧ (∀ g, blk a5_0j = some g → ¬ (· = b1) g) ∧ ¬ (fun k => blk a5_0j = some k) b1 ∧ Box w64 b1 24 #[(.int .i64 0), (.int .i64 0)] ∧ a.defers = [] ∧ a.tmps.size = 27 ∧ Ok [(3, (bp b1)), (5, (.slice a5_0j (List.length j63) c5_0j))] a.tmps) ?_ ?_
  ·skip
   refine gv_block <| gv_loop (A := fun (s65 : ((List Int) × Nat)) a w66 => ∃ (a5_0j : Option Addr) (c5_0j : Nat), Below w0.heap.size w0 w66 ∧ w58.heap.size ≤ w66.heap.size ∧ Gv.Own (iE .i64) 3 w66 (fun _ => False) a5_0j c5_0j s65.1 ∧ (∀ g, blk a5_0j = some g → w0.heap.size ≤ g) ∧ (∀ g, blk a5_0j = some g → ¬ (· = b1) g) ∧ (∀ g, blk a5_0j = some g → ¬ (· = b57) g) ∧ ¬ (fun k => blk a5_0j = some k) b1 ∧ ¬ (fun k => blk a5_0j = some k) b57 ∧ Box w66 b1 24 #[(.int .i64 0), (.int .i64 0)] ∧ At w66 b57 (.stringIter s_0 s65.2) ∧ a.defers = [] ∧ a.tmps.size = 27 ∧ Ok [(3, (bp b1)), (5, (.slice a5_0j (List.length s65.1) c5_0j)), (16, (bp b57))] a.tmps) h1 ?_ ?_
   ·intro a hd hs hok
    have hg67 := (grown_trans hg23 hg27)
    have hB68 := bg hB21 hg67 nb
    have hB69 := bg hB21 hg23 nb
    have hlo70 : w0.heap.size ≤ b25 := lob hbe29 hB69.size
    have hB71 := bg hB68 hg32 (rowlo hlo70)
    have hB72 := bg hB71 hg59 nb
    have hg73 := (grown_trans hg9 hg67)
    have hg74 := (grown_trans hg9 hg23)
    have hk75 := hb4.grown hg74 nb
    have lt76 := ltl ((ltb hk75) _ rfl) ((lowb hbe29) _ rfl)
    have hk77 := ((hb4.grown hg73 nb).grown hg32 (rowne (ng lt76))).grown hg59 nb
    exact ⟨none, 0, hB72, (Nat.le_refl _), (Gv.Own.nil (iE .i64) 3 w58 (fun _ => False)), (fun _ h => by cases h), (fun _ h => by cases h), (fun _ h => by cases h), (fun h => by cases h), (fun h => by cases h), hk77, hb60, hd, hs, ok_pick [3, 5, 16] hok (by kernel_rfl)⟩
   ·rintro s65 r2 h2 hR2 a w66 ⟨a80, c81, hB78, hz79, ho82, hl83, ap84, ap85, ap86, ap87, hb88, hb89, hd, hs, hok⟩
    refine gv_in ?_ hd hs hok
    clear hd hs hok
    clear hb60 hg59 hl14 ho13 hbe11
    refine gv_seq <| gv_region <| gv_next (b := b57) (s := s_0) (pos := s65.2) (ty := 0) (by kernel_rfl) (by kernel_rfl) hb89 (fun hc90 => ?_) (fun hc90 => ?_)
    ·skip
     replace h2 := ite_t hc90 h2
     intro w91 hg92 hb93 hz94
     refine gv_pureN 1 [18] [(18, (.bool true))] (by kernel_rfl) ?_
     refine gv_nil <| gv_seq <| gv_cond (b := true) (by kernel_rfl) (fun hc => ?_) (fun hc => ?_)
     rotate_left; · cases hc
     clear hc
     refine gv_skip <| gv_block <| gv_seq <| gv_region <| gv_pureN 2 [7, 19] [(7, (.int .i32 (runeI s_0 s65.2)))] (by kernel_rfl) ?_
     refine gv_nil <| gv_region <| gv_pureN 3 [20, 21, 22] [(20, (.slice a80 (List.length s65.1) c81)), (22, (.int .i64 (IntKind.i64.wrap ((runeI s_0 s65.2)))))] (by kernel_rfl) ?_
     refine gv_new0 (fun b => .slice (some ⟨b, 0, none⟩) 1 1) #[(.int .i64 (IntKind.i64.wrap ((runeI s_0 s65.2))))] 3 (by kernel_rfl) (by kernel_rfl) ?_
     intro b95 w96 hg97 hb98 hbe99 hz100
     have ho101 : Gv.Own (iE .i64) 3 w96 (fun _ => False) (some ⟨b95, 0, none⟩) 1 ([(IntKind.i64.wrap ((runeI s_0 s65.2)))] : List Int) := Box.ownE hb98 ⟨[(.int .i64 (IntKind.i64.wrap ((runeI s_0 s65.2))))], [], rfl, rfl, rfl⟩ (show 1 ≤ maxLen by decide) (fun h => h)
     have hg106 := (grown_trans hg23 hg27)
     have hB107 := bg hB21 hg106 nb
     have hB108 := bg hB21 hg23 nb
     have hlo109 : w0.heap.size ≤ b25 := lob hbe29 hB108.size
     have hB110 := bg hB107 hg32 (rowlo hlo109)
     have hlo111 : w0.heap.size ≤ b57 := lob hbe61 hB110.size
     have hB112 := bg hB78 hg92 (rowlo hlo111)
     have hl102 : ∀ g, blk (some ⟨b95, 0, none⟩) = some g → w0.heap.size ≤ g := loo hbe99 hB112.size
     refine bindE h2 ?_; clear h2; intro l113 hx114 h2
     have hk121 := (ho82.grown hg92 (fun _ h => h.elim) (rdnn (rowne ap87))).grown hg97 (fun _ h => h.elim) nb
     refine gv_append (iE .i64) (t := 38) (ty := 38) (e := 3) (a := a80) (ax := (some ⟨b95, 0, none⟩)) (cap := c81) (cx := 1) (xs := s65.1) (ys := ([(IntKind.i64.wrap ((runeI s_0 s65.2)))] : List Int)) l113 (X := (fun _ => False)) (Y := (fun k => blk (some ⟨b95, 0, none⟩) = some k)) (by decide) rfl rfl (by kernel_rfl) (by kernel_rfl) Tryd.underlying38 info3 hk121 (ho101.rd (Y := fun k => blk (some ⟨b95, 0, none⟩) = some k) (fun _ h => h.elim) (fun g e => e)) hx114 (.inr fun _ _ _ _ _ h => h) (fun _ h => h.elim) ?_
     intro a115 c116 w117 hg118 ho119 hk120
     refine ⟨(fun e => by cases e), ?_⟩
     have hB123 := bg hB112 hg97 nb
     have hl122 : ∀ g, blk a115 = some g → w0.heap.size ≤ g := blk_step hk120 hl83 hB123.size
     have hg125 := (grown_trans hg9 hg23)
     have hk126 := hb4.grown hg125 nb
     have lt127 := ltl ((ltb hk126) _ rfl) ((lowb hbe29) _ rfl)
     have lt128 := ltl ((ltb hb33) _ rfl) ((lowb hbe61) _ rfl)
     have lt129 := ltt lt127 lt128
     have hk130 := (hb88.grown hg92 (rowne (ng lt129))).grown hg97 nb
     have ap124 : ∀ g, blk a115 = some g → ¬ (· = b1) g := blk_neX hk120 ap84 (ltb hk130)
     have ap131 : ¬ (fun k => blk a115 = some k) b1 := fun h => blk_rev hk120 (fun h => (ap86) h) (hk130.lt) h
     have hk133 := hb93.grown hg97 nb
     have ap132 : ∀ g, blk a115 = some g → ¬ (· = b57) g := blk_neX hk120 ap85 (ltA hk133)
     have ap134 : ¬ (fun k => blk a115 = some k) b57 := fun h => blk_rev hk120 (fun h => (ap87) h) (hk133.lt) h
     have hk136 := ho82.grown hg92 (fun _ h => h.elim) (rdnn (rowne ap87))
     have ap137 : ∀ g, blk a80 = some g → ¬ (fun k => blk (some ⟨b95, 0, none⟩) = some k) g := fun g e hx => nl ((lowo hbe99) _ hx) ((fun k (hk : blk a80 = some k) => hk136.lt k hk) g e)
     have ap135 : ∀ g, blk a115 = some g → ¬ (fun k => blk (some ⟨b95, 0, none⟩) = some k) g := blk_neX hk120 ap137 (fun k (hk : blk (some ⟨b95, 0, none⟩) = some k) => ho101.lt k hk)
     have ap139 : ∀ g, blk (some ⟨b95, 0, none⟩) = some g → ¬ (fun k => blk a80 = some k) g := fun g e hx => nl ((lowo hbe99) g e) ((fun k (hk : blk a80 = some k) => hk136.lt k hk) _ hx)
     have ap138 : ∀ g, blk (some ⟨b95, 0, none⟩) = some g → ¬ (fun k => blk a115 = some k) g := fun g e h => blk_rev hk120 (fun h => ((ap139) g e) h) (ho101.lt g e) h
     refine gv_pureN 1 [5] [(5, (.slice a115 (List.length l113) c116))] (by kernel_rfl) ?_
     refine gv_nil <| gv_blk ?_
     have e := sj h2; subst e
     refine gv_goal fun a hd hs hok => ?_
     have hB140 := bg hB123 hg118 hl83
     have hz141 := (nt (nt (nt hz79 hg92.size) hg97.size) hg118.size)
     have hk142 := hk130.grown hg118 ap84
     have hk143 := hk133.grown hg118 ap85
     exact ⟨(l113, (s65.2 + runeN s_0 s65.2)), rfl, a115, c116, hB140, hz141, ho119, hl122, ap124, ap132, ap131, ap134, hk142, hk143, hd, hs, ok_pick [3, 5, 16] hok (by kernel_rfl)⟩
    ·skip
     replace h2 := ite_f hc90 h2
     refine gv_pureN 1 [18] [(18, (.bool false))] (by kernel_rfl) ?_
     refine gv_nil <| gv_seq <| gv_cond (b := false) (by kernel_rfl) (fun hc => ?_) (fun hc => ?_)
     ·cases hc
     clear hc
     refine gv_cexit <| gv_exit rfl ?_
     have e := sj h2; subst e
     replace h1 := congrArg some (hR2 _ rfl)
     have e := sj h1; subst e
     refine gv_goal fun a hd hs hok => ?_
     have hz144 := hz79
     exact ⟨a80, c81, hB78, hz144, ho82, hl83, ap84, ap86, hb88, hd, hs, ok_pick [3, 5] hok (by kernel_rfl)⟩
  ·rintro a w64 ⟨a147, c148, hB145, hz146, ho149, hl150, ap151, ap152, hb153, hd, hs, hok⟩
   refine gv_in ?_ hd hs hok
   clear hd hs hok
   clear hz146 hbe61 hb60 hg59 hb33 hg32 hbe29 hg27 hg23 hB21 hl14 ho13 hbe11 hg9 hb4
   refine gv_seq <| gv_region <| gv_pureN 3 [2, 25, 26] [(2, (.slice a147 (List.length j63) c148)), (26, (.agg #[(.int .i64 0), (.int .i64 0)]))] (by kernel_rfl) ?_
   refine gv_store0 24 0 (.agg #[(.int .i64 0), (.int .i64 0)]) #[(.int .i64 0), (.int .i64 0)] hb153 (by kernel_rfl) (by kernel_rfl) (by kernel_rfl) ?_
   intro w154 hg155 hb156 hz157
   refine gv_nil <| gv_cret ?_
   have e := sj h0; subst e
   refine gv_ret (gv_done [(.slice a147 (List.length j63) c148), (.agg #[(.int .i64 0), (.int .i64 0)])] rfl ⟨(by kernel_rfl), ⟨⟨b1, 0, none⟩, (by kernel_rfl), run_loadVar_row w154 b1 _ 24 _ _ _ hb156 Tryd.underlying24 rfl (by kernel_rfl)⟩, trivial⟩ ?_)
   have hlo158 : w0.heap.size ≤ b1 := lob hbe5 hB0.size
   have hB159 := bg hB145 hg155 (rowlo hlo158)
   have hk160 := ho149.grown hg155 (fun _ h => h.elim) (rdnn (rowne ap152))
   exact ⟨grown_of_below hB159, a147, c148, rfl, hk160, hl150⟩

theorem textstr_Length_ok (fuel : Nat) (s_0 : ByteArray) (w0 : World) (X0 : Nat → Prop) (hX0 : ∀ k, X0 k → k < w0.heap.size) (hG1 : Rd bE w0 X0 (some ⟨1, 0, none⟩) 256 utf8First) (hG2 : Rd (prE (iE .u8) (iE .u8)) w0 X0 (some ⟨2, 0, none⟩) 16 utf8Acc) (r0 : (Int × (Int × Int))) (h0 : textstr_Length fuel s_0 = some r0) :
    Calls Tryd.prog 17 ([(.string s_0)] : List Value).toArray w0 (Ret fun v w' => w0.grownBy w' none ∧ v = tup [(.int .i64 r0.1), (.agg #[(.int .i64 r0.2.1), (.int .i64 r0.2.2)])]) := by
 have hB0 : Below w0.heap.size w0 w0 := Below.refl _ _
 unfold textstr_Length at h0
 refine calls_run Tryd.func17 rfl Tryd.ntmps17 (by kernel_rfl) ?_
 refine gv_sub [0] (σ' := [(0, (.string s_0))]) (by kernel_rfl) ?_
 refine gv_seq <| gv_region <| gv_pureN 1 [2] [] (by kernel_rfl) ?_
 refine gv_new0 (fun b => .pointer (some ⟨b, 0, none⟩)) #[(.int .i64 0), (.int .i64 0)] 24 (by kernel_rfl) (by kernel_rfl) ?_
 intro b1 w2 hg3 hb4 hbe5 hz6
 refine gv_nil <| gv_seq <| gv_region <| gv_pureN 1 [7] [(7, (.string s_0))] (by kernel_rfl) ?_
 refine bindE h0 ?_; clear h0; intro r7 hr8 h0
 have hB9 := bg hB0 hg3 nb
 refine gv_call0 (by kernel_rfl) rfl (by kernel_rfl) enters61 (textstr_Points_ok fuel s_0 w2 (fun k => X0 k ∨ X0 k) (fun k hk => (hk).elim (fun h => (fun k (hk : X0 k) => ltl (hX0 k hk) hB9.size) k h) (fun h => (fun k (hk : X0 k) => ltl (hX0 k hk) hB9.size) k h)) ((hG1.below hB9 hX0).wide (fun k hk => (.inl hk))) ((hG2.below hB9 hX0).wide (fun k hk => (.inr hk))) r7 hr8) ?_
 rintro v12 w10 ⟨hg11, a13, c14, rfl, ho15, hl16⟩
 have hl17 : ∀ g, blk a13 = some g → w0.heap.size ≤ g := fun g e => Nat.le_trans hB9.size (hl16 g e)
 refine gv_pureN 3 [6, 9, 10] [(9, (.slice a13 (List.length r7.1) c14)), (10, (.agg #[(.int .i64 r7.2.1), (.int .i64 r7.2.2)]))] (by kernel_rfl) ?_
 refine gv_new0 (fun b => .pointer (some ⟨b, 0, none⟩)) #[(.int .i64 0), (.int .i64 0)] 24 (by kernel_rfl) (by kernel_rfl) ?_
 intro b18 w19 hg20 hb21 hbe22 hz23
 refine gv_pureN 1 [4] [(4, (.slice a13 (List.length r7.1) c14))] (by kernel_rfl) ?_
 refine gv_store0 24 0 (.agg #[(.int .i64 r7.2.1), (.int .i64 r7.2.2)]) #[(.int .i64 r7.2.1), (.int .i64 r7.2.2)] hb21 (by kernel_rfl) (by kernel_rfl) (by kernel_rfl) ?_
 intro w24 hg25 hb26 hz27
 refine gv_nil <| gv_seq <| gv_drawA (by kernel_rfl) ?_
 intro w28 hg29
 refine gv_pre [0, 1, 3] (bA 5 [0, 1, 3]) 2 (by kernel_rfl) (by kernel_rfl) ?_
 refine gv_pureN 3 [2, 11, 12] [(2, (.int .i64 ((List.length r7.1 : Nat) : Int)))] (by kernel_rfl) ?_
 refine gv_nil <| gv_goA ?_
 refine gv_stage (Cls w28 []) [0, 1, 2, 3] [(2, some true)] (bA 5 [0, 1, 2, 3]) 1 (by kernel_rfl) (by kernel_rfl) (Cls.refl _ _) ?_
 have hC30 := Cls.refl w28 []
 have hk31 := hb26.grown hg29 nb
 refine gv_loadBox (t := 24) (b := b18) (t' := 24) (fr := (0, 0)) #[(.int .i64 r7.2.1), (.int .i64 r7.2.2)] [] (fun e => by cases e) rfl rfl rfl (by kernel_rfl) (by kernel_rfl) (by kernel_rfl) (by kernel_rfl) (inw1 fun w' hC' => (hC'.box hk31 nm_nil)) rfl ?_
 refine gv_nil <| gv_goA ?_
 refine gv_stage (fun _ => True) [0, 1, 2, 3, 4] [(4, some false)] (bA 5 [0, 1, 2, 3, 4]) 0 (by kernel_rfl) (by kernel_rfl) trivial ?_
 have hg36 := (grown_trans hg11 hg20)
 have hk37 := hb4.grown hg11 nb
 have lt38 := ltl ((ltb hk37) _ rfl) ((lowb hbe22) _ rfl)
 have hk39 := ((hb4.grown hg36 nb).grown hg25 (rowne (ng lt38))).grown hg29 nb
 refine gv_store (t := 24) (b := b1) (off := 0) (v := (.agg #[(.int .i64 r7.2.1), (.int .i64 r7.2.2)])) (t' := 24) (cs := #[(.int .i64 0), (.int .i64 0)]) #[(.int .i64 r7.2.1), (.int .i64 r7.2.2)] (by decide) rfl rfl (by kernel_rfl) (by kernel_rfl) (by kernel_rfl) (by intro u hu; simp [Value.cells] at hu; rcases hu with rfl | rfl <;> rfl) (show 0 + 2 ≤ 2 by decide) (by rfl) hk39 ?_
 intro w32 hg33 hb34 hz35
 refine ⟨(fun _ => trivial), ?_⟩
 refine gv_nil <| gv_goA ?_
 refine gv_stageE (by kernel_rfl) ?_
 refine gv_cret ?_
 have e := sj h0; subst e
 refine gv_ret (gv_done [(.int .i64 ((List.length r7.1 : Nat) : Int)), (.agg #[(.int .i64 r7.2.1), (.int .i64 r7.2.2)])] rfl ⟨(by kernel_rfl), ⟨⟨b1, 0, none⟩, (by kernel_rfl), run_loadVar_row w32 b1 _ 24 _ _ _ hb34 Tryd.underlying24 rfl (by kernel_rfl)⟩, trivial⟩ ?_)
 have hB40 := bg hB9 hg36 nb
 have hB41 := bg hB9 hg11 nb
 have hlo42 : w0.heap.size ≤ b18 := lob hbe22 hB41.size
 have hB43 := bg hB40 hg25 (rowlo hlo42)
 have hB44 := bg hB43 hg29 nb
 have hlo45 : w0.heap.size ≤ b1 := lob hbe5 hB0.size
 have hB46 := bg hB44 hg33 (rowlo hlo45)
 exact ⟨grown_of_below hB46, rfl⟩

theorem strings_Map_upper_ok (fuel : Nat) (s_1 : ByteArray) (w0 : World) (X0 : Nat → Prop) (hX0 : ∀ k, X0 k → k < w0.heap.size) (hG1 : Rd bE w0 X0 (some ⟨1, 0, none⟩) 256 utf8First) (hG2 : Rd (prE (iE .u8) (iE .u8)) w0 X0 (some ⟨2, 0, none⟩) 16 utf8Acc) (r0 : ByteArray) (h0 : strings_Map_upper fuel s_1 = some r0) :
    Calls Tryd.prog 90 ([(.func (.func 63) #[] #[]), (.string s_1)] : List Value).toArray w0 (Ret fun v w' => w0.grownBy w' none ∧ v = tup [(.string r0)]) := by
 have hB0 : Below w0.heap.size w0 w0 := Below.refl _ _
 unfold strings_Map_upper at h0
 refine calls_run Tryd.func90 rfl Tryd.ntmps90 (by kernel_rfl) ?_
 refine gv_sub [0, 1] (σ' := [(0, (.func (.func 63) #[] #[])), (1, (.string s_1))]) (by kernel_rfl) ?_
 refine gv_seq <| gv_region <| gv_pureN 1 [4] [] (by kernel_rfl) ?_
 refine gv_nil <| gv_seq <| gv_region <| gv_new0 (fun b => .pointer (some ⟨b, 0, none⟩)) #[.pointer none, (.slice none 0 0)] 114 (by kernel_rfl) (by kernel_rfl) ?_
 intro b1 w2 hg3 hb4 hbe5 hz6
 refine gv_nil <| gv_seq <| gv_seq <| gv_region <| gv_pureN 1 [13] [(13, (.string s_1))] (by kernel_rfl) ?_
 refine gv_range (t := 9) (s := s_1) (by kernel_rfl) (by kernel_rfl) Tryd.underlying9 ?_
 intro b7 w8 hg9 hb10 hbe11 hz12
 refine gv_nil <| bindE h0 ?_; clear h0; intro j13 h1 h0
 refine gv_cut_code (J := fun a w14 => Below w0.heap.size w0 w14 ∧ w8.heap.size ≤ w14.heap.size ∧ Bld 114 5 w14 b1 j13.2 ∧ a.defers = [] ∧ a.tmps.size = 85 ∧ Ok [(0, (.func (.func 63) #[] #[])), (1, (.string j13.1)), (5, (bp b1))] a.tmps) ?_ ?_
 ·skip
  refine gv_block <| gv_loop (A := fun (s15 : (ByteArray × (Option (List UInt8)) × Nat)) a w16 => Below w0.heap.size w0 w16 ∧ w8.heap.size ≤ w16.heap.size ∧ Bld 114 5 w16 b1 s15.2.1 ∧ At w16 b7 (.stringIter s_1 s15.2.2) ∧ a.defers = [] ∧ a.tmps.size = 85 ∧ Ok [(0, (.func (.func 63) #[] #[])), (1, (.string s15.1)), (5, (bp b1)), (14, (bp b7))] a.tmps) h1 ?_ ?_
  ·intro a hd hs hok
   have hg17 := (grown_trans hg3 hg9)
   have hB18 := bg hB0 hg17 nb
   have hk19 := (bld_new (e := 5) hb4).grown hg9 nb
   exact ⟨hB18, (Nat.le_refl _), hk19, hb10, hd, hs, ok_pick [0, 1, 5, 14] hok (by kernel_rfl)⟩
  ·rintro s15 r2 h2 hR2 a w16 ⟨hB20, hz21, hb22, hb23, hd, hs, hok⟩
   refine gv_in ?_ hd hs hok
   clear hd hs hok
   clear hz12 hb10 hg9 hz6
   refine gv_seq <| gv_region <| gv_next (b := b7) (s := s_1) (pos := s15.2.2) (ty := 0) (by kernel_rfl) (by kernel_rfl) hb23 (fun hc24 => ?_) (fun hc24 => ?_)
   ·skip
    replace h2 := ite_t hc24 h2
    intro w25 hg26 hb27 hz28
    refine gv_pureN 1 [16] [(16, (.bool true))] (by kernel_rfl) ?_
    refine gv_nil <| gv_seq <| gv_cond (b := true) (by kernel_rfl) (fun hc => ?_) (fun hc => ?_)
    rotate_left; · cases hc
    clear hc
    refine gv_skip <| gv_block <| gv_seq <| gv_region <| gv_pureN 4 [6, 7, 17, 18] [(6, (.int .i64 ((s15.2.2 : Nat) : Int))), (7, (.int .i32 (runeI s_1 s15.2.2)))] (by kernel_rfl) ?_
    refine gv_nil <| gv_seq <| gv_region <| gv_pureN 2 [19, 20] [(19, (.func (.func 63) #[] #[])), (20, (.int .i32 (runeI s_1 s15.2.2)))] (by kernel_rfl) ?_
    refine bindE h2 ?_; clear h2; intro r29 hr30 h2
    refine gv_call0 (by kernel_rfl) rfl (by kernel_rfl) enters63 (textstr_upper_ok fuel (runeI s_1 s15.2.2) w25  r29 hr30) ?_
    rintro v33 w31 ⟨hg32, rfl⟩
    refine gv_pureN 1 [8] [(8, (.int .i32 r29))] (by kernel_rfl) ?_
    refine gv_nil <| gv_seq <| gv_seq <| gv_region <| gv_cut_ops (J := fun a w34 => w31 = w34 ∧ a.defers = [] ∧ a.tmps.size = 85 ∧ Ok [(0, (.func (.func 63) #[] #[])), (1, (.string s15.1)), (5, (bp b1)), (6, (.int .i64 ((s15.2.2 : Nat) : Int))), (7, (.int .i32 (runeI s_1 s15.2.2))), (8, (.int .i32 r29)), (14, (bp b7)), (28, (.bool ((r29 == (runeI s_1 s15.2.2)) && ((runeI s_1 s15.2.2) != 65533))))] a.tmps) ?_ ?_
    ·skip
     refine gv_pureN 4 [22, 23, 24, 25] [(25, (.bool (r29 == (runeI s_1 s15.2.2))))] (by kernel_rfl) ?_
     refine gv_split (s := 25) (g := (r29 == (runeI s_1 s15.2.2))) (by kernel_rfl) (fun hc35 => ?_) (fun hc35 => ?_)
     ·skip
      refine gv_pureN 3 [26, 27, 28] [(28, (.bool ((runeI s_1 s15.2.2) != 65533)))] (by kernel_rfl) ?_
      refine gv_nil <| gv_sub [0, 1, 5, 6, 7, 8, 14, 28] (σ' := [(0, (.func (.func 63) #[] #[])), (1, (.string s15.1)), (5, (bp b1)), (6, (.int .i64 ((s15.2.2 : Nat) : Int))), (7, (.int .i32 (runeI s_1 s15.2.2))), (8, (.int .i32 r29)), (14, (bp b7)), (28, (.bool ((runeI s_1 s15.2.2) != 65533)))]) (by kernel_rfl) ?_
      refine gv_goal fun a hd hs hok => ⟨rfl, hd, hs, ?_⟩
      obtain ⟨q0, q1, q5, q6, q7, q8, q14, q28, _⟩ := hok
      exact ⟨q0, q1, q5, q6, q7, q8, q14, (by rw [hc35]; exact q28), trivial⟩
     ·skip
      refine gv_pureN 3 [26, 27, 28] [(28, (.bool false))] (by kernel_rfl) ?_
      refine gv_nil <| gv_sub [0, 1, 5, 6, 7, 8, 14, 28] (σ' := [(0, (.func (.func 63) #[] #[])), (1, (.string s15.1)), (5, (bp b1)), (6, (.int .i64 ((s15.2.2 : Nat) : Int))), (7, (.int .i32 (runeI s_1 s15.2.2))), (8, (.int .i32 r29)), (14, (bp b7)), (28, (.bool false))]) (by kernel_rfl) ?_
      refine gv_goal fun a hd hs hok => ⟨rfl, hd, hs, ?_⟩
      obtain ⟨q0, q1, q5, q6, q7, q8, q14, q28, _⟩ := hok
      exact ⟨q0, q1, q5, q6, q7, q8, q14, (by rw [hc35]; exact q28), trivial⟩
    ·rintro a w34 ⟨e, hd, hs, hok⟩; subst e
     refine gv_in ?_ hd hs hok
     clear hd hs hok
     refine gv_cond (b := ((r29 == (runeI s_1 s15.2.2)) && ((runeI s_1 s15.2.2) != 65533))) (by kernel_rfl) (fun hc36 => ?_) (fun hc36 => ?_)
     ·replace h2 := ite_t hc36 h2
      refine gv_cexit <| gv_exit rfl ?_
      have e := sj h2; subst e
      refine gv_goal fun a hd hs hok => ?_
      have hB37 := bg hB0 hg3 nb
      have hlo38 : w0.heap.size ≤ b7 := lob hbe11 hB37.size
      have hB39 := bg hB20 hg26 (rowlo hlo38)
      have hB40 := bg hB39 hg32 nb
      have hz41 := (nt (nt hz21 hg26.size) hg32.size)
      have lt42 := ltl ((ltBld (bld_new (e := 5) hb4)) _ rfl) ((lowb hbe11) _ rfl)
      have hk43 := (hb22.grown hg26 (bld_at hb23 (ng lt42))).grown hg32 nb
      have hk44 := hb27.grown hg32 nb
      exact ⟨(s15.1, s15.2.1, (s15.2.2 + runeN s_1 s15.2.2)), rfl, hB40, hz41, hk43, hk44, hd, hs, ok_pick [0, 1, 5, 14] hok (by kernel_rfl)⟩
     ·replace h2 := ite_f hc36 h2
      refine gv_skip <| gv_seq <| gv_region <| gv_pureN 1 [9] [] (by kernel_rfl) ?_
      refine gv_nil <| gv_seq <| gv_seq <| gv_region <| gv_pureN 2 [29, 30] [(30, (.bool ((runeI s_1 s15.2.2) == 65533)))] (by kernel_rfl) ?_
      refine gv_nil <| bindE h2 ?_; clear h2; intro j45 h3 h2
      refine gv_cut_code (J := fun a w47 => ∃ s46 : Int, j45 = .inl s46 ∧ Below w0.heap.size w0 w47 ∧ w31.heap.size ≤ w47.heap.size ∧ Bld 114 5 w47 b1 s15.2.1 ∧ a.defers = [] ∧ a.tmps.size = 85 ∧ Ok [(0, (.func (.func 63) #[] #[])), (1, (.string s15.1)), (5, (bp b1)), (6, (.int .i64 ((s15.2.2 : Nat) : Int))), (8, (.int .i32 r29)), (9, (.int .i64 s46))] a.tmps) ?_ ?_
      ·skip
       refine gv_cond (b := ((runeI s_1 s15.2.2) == 65533)) (by kernel_rfl) (fun hc48 => ?_) (fun hc48 => ?_)
       ·replace h3 := ite_t hc48 h3
        refine gv_seq <| gv_region <| gv_pureN 2 [32, 33] [(32, (.string s15.1)), (33, (.int .i64 ((s15.2.2 : Nat) : Int)))] (by kernel_rfl) ?_
        refine bindE h3 ?_; clear h3; intro x49 hx50 h3
        refine gv_ssub (t := 9) (s := s15.1) (lo := (some (.int .i64 ((s15.2.2 : Nat) : Int)))) (hi := none) ((s15.2.2 : Nat) : Int) ((ByteArray.size s15.1 : Nat) : Int) x49 [] (fun e => by cases e) rfl rfl rfl (by kernel_rfl) (by kernel_rfl) Tryd.underlying9 (.inr ⟨_, rfl⟩) (.inl ⟨rfl, rfl⟩) hx50 rfl ?_
        refine bindE h3 ?_; clear h3; intro r51 hr52 h3
        have hB53 := bg hB0 hg3 nb
        have hlo54 : w0.heap.size ≤ b7 := lob hbe11 hB53.size
        have hB55 := bg hB20 hg26 (rowlo hlo54)
        have hB56 := bg hB55 hg32 nb
        refine gv_call0 (by kernel_rfl) rfl (by kernel_rfl) enters102 (utf8_DecodeRuneInString_ok fuel x49 w31 (fun k => X0 k ∨ X0 k) (fun k hk => (hk).elim (fun h => (fun k (hk : X0 k) => ltl (hX0 k hk) hB56.size) k h) (fun h => (fun k (hk : X0 k) => ltl (hX0 k hk) hB56.size) k h)) ((hG1.below hB56 hX0).wide (fun k hk => (.inl hk))) ((hG2.below hB56 hX0).wide (fun k hk => (.inr hk))) r51 hr52) ?_
        rintro v59 w57 ⟨hg58, rfl⟩
        refine gv_pureN 5 [7, 9, 31, 36, 37] [(7, (.int .i32 r51.1)), (9, (.int .i64 r51.2))] (by kernel_rfl) ?_
        refine gv_nil <| gv_seq <| gv_region <| gv_cut_ops (J := fun a w60 => w57 = w60 ∧ a.defers = [] ∧ a.tmps.size = 85 ∧ Ok [(0, (.func (.func 63) #[] #[])), (1, (.string s15.1)), (5, (bp b1)), (6, (.int .i64 ((s15.2.2 : Nat) : Int))), (8, (.int .i32 r29)), (9, (.int .i64 r51.2)), (14, (bp b7)), (44, (.bool ((r51.2 != 1) && (r29 == r51.1))))] a.tmps) ?_ ?_
        ·skip
         refine gv_pureN 3 [38, 39, 40] [(40, (.bool (r51.2 != 1)))] (by kernel_rfl) ?_
         refine gv_split (s := 40) (g := (r51.2 != 1)) (by kernel_rfl) (fun hc61 => ?_) (fun hc61 => ?_)
         ·skip
          refine gv_pureN 4 [41, 42, 43, 44] [(44, (.bool (r29 == r51.1)))] (by kernel_rfl) ?_
          refine gv_sub [0, 1, 5, 6, 8, 9, 14, 44] (σ' := [(0, (.func (.func 63) #[] #[])), (1, (.string s15.1)), (5, (bp b1)), (6, (.int .i64 ((s15.2.2 : Nat) : Int))), (8, (.int .i32 r29)), (9, (.int .i64 r51.2)), (14, (bp b7)), (44, (.bool (r29 == r51.1)))]) (by kernel_rfl) ?_
          refine gv_nil <| gv_sub [0, 1, 5, 6, 8, 9, 14, 44] (σ' := [(0, (.func (.func 63) #[] #[])), (1, (.string s15.1)), (5, (bp b1)), (6, (.int .i64 ((s15.2.2 : Nat) : Int))), (8, (.int .i32 r29)), (9, (.int .i64 r51.2)), (14, (bp b7)), (44, (.bool (r29 == r51.1)))]) (by kernel_rfl) ?_
          refine gv_goal fun a hd hs hok => ⟨rfl, hd, hs, ?_⟩
          obtain ⟨q0, q1, q5, q6, q8, q9, q14, q44, _⟩ := hok
          exact ⟨q0, q1, q5, q6, q8, q9, q14, (by rw [hc61]; exact q44), trivial⟩
         ·skip
          refine gv_pureN 4 [41, 42, 43, 44] [(44, (.bool false))] (by kernel_rfl) ?_
          refine gv_sub [0, 1, 5, 6, 8, 9, 14, 44] (σ' := [(0, (.func (.func 63) #[] #[])), (1, (.string s15.1)), (5, (bp b1)), (6, (.int .i64 ((s15.2.2 : Nat) : Int))), (8, (.int .i32 r29)), (9, (.int .i64 r51.2)), (14, (bp b7)), (44, (.bool false))]) (by kernel_rfl) ?_
          refine gv_nil <| gv_sub [0, 1, 5, 6, 8, 9, 14, 44] (σ' := [(0, (.func (.func 63) #[] #[])), (1, (.string s15.1)), (5, (bp b1)), (6, (.int .i64 ((s15.2.2 : Nat) : Int))), (8, (.int .i32 r29)), (9, (.int .i64 r51.2)), (14, (bp b7)), (44, (.bool false))]) (by kernel_rfl) ?_
          refine gv_goal fun a hd hs hok => ⟨rfl, hd, hs, ?_⟩
          obtain ⟨q0, q1, q5, q6, q8, q9, q14, q44, _⟩ := hok
          exact ⟨q0, q1, q5, q6, q8, q9, q14, (by rw [hc61]; exact q44), trivial⟩
        ·rintro a w60 ⟨e, hd, hs, hok⟩; subst e
         refine gv_in ?_ hd hs hok
         clear hd hs hok
         refine gv_cond (b := ((r51.2 != 1) && (r29 == r51.1))) (by kernel_rfl) (fun hc62 => ?_) (fun hc62 => ?_)
         ·replace h3 := ite_t hc62 h3
          refine gv_cexit <| gv_exit rfl ?_
          have e := sj h3; subst e
          replace h2 := cont_inr h2
          have e := sj h2; subst e
          refine gv_goal fun a hd hs hok => ?_
          have hB63 := bg hB56 hg58 nb
          have hz64 := (nt (nt (nt hz21 hg26.size) hg32.size) hg58.size)
          have lt65 := ltl ((ltBld (bld_new (e := 5) hb4)) _ rfl) ((lowb hbe11) _ rfl)
          have hg66 := (grown_trans hg32 hg58)
          have hk67 := (hb22.grown hg26 (bld_at hb23 (ng lt65))).grown hg66 nb
          have hk68 := hb27.grown hg66 nb
          exact ⟨(s15.1, s15.2.1, (s15.2.2 + runeN s_1 s15.2.2)), rfl, hB63, hz64, hk67, hk68, hd, hs, ok_pick [0, 1, 5, 14] hok (by kernel_rfl)⟩
         ·replace h3 := ite_f hc62 h3
          refine gv_skip ?_
          have e := sj h3; subst e
          refine gv_goal fun a hd hs hok => ?_
          have hB69 := bg hB56 hg58 nb
          have hz70 := hg58.size
          have lt71 := ltl ((ltBld (bld_new (e := 5) hb4)) _ rfl) ((lowb hbe11) _ rfl)
          have hg72 := (grown_trans hg32 hg58)
          have hk73 := (hb22.grown hg26 (bld_at hb23 (ng lt71))).grown hg72 nb
          exact ⟨r51.2, rfl, hB69, hz70, hk73, hd, hs, ok_pick [0, 1, 5, 6, 8, 9] hok (by kernel_rfl)⟩
       ·replace h3 := ite_f hc48 h3
        refine gv_region <| gv_pureN 1 [45] [(45, (.int .i32 (runeI s_1 s15.2.2)))] (by kernel_rfl) ?_
        refine bindE h3 ?_; clear h3; intro r74 hr75 h3
        refine gv_call0 (by kernel_rfl) rfl (by kernel_rfl) enters113 (utf8_RuneLen_ok fuel (runeI s_1 s15.2.2) w31  r74 hr75) ?_
        rintro v78 w76 ⟨hg77, rfl⟩
        refine gv_pureN 1 [9] [(9, (.int .i64 r74))] (by kernel_rfl) ?_
        refine gv_nil ?_
        have e := sj h3; subst e
        refine gv_goal fun a hd hs hok => ?_
        have hB79 := bg hB0 hg3 nb
        have hlo80 : w0.heap.size ≤ b7 := lob hbe11 hB79.size
        have hB81 := bg hB20 hg26 (rowlo hlo80)
        have hg82 := (grown_trans hg32 hg77)
        have hB83 := bg hB81 hg82 nb
        have hz84 := hg77.size
        have lt85 := ltl ((ltBld (bld_new (e := 5) hb4)) _ rfl) ((lowb hbe11) _ rfl)
        have hk86 := (hb22.grown hg26 (bld_at hb23 (ng lt85))).grown hg82 nb
        exact ⟨r74, rfl, hB83, hz84, hk86, hd, hs, ok_pick [0, 1, 5, 6, 8, 9] hok (by kernel_rfl)⟩
      ·rintro a w47 ⟨s46, e, hB87, hz88, hb89, hd, hs, hok⟩
       subst e
       refine gv_in ?_ hd hs hok
       clear hd hs hok
       replace h2 := cont_inl h2
       have hz90 := (nt (nt (nt hz21 hg26.size) hg32.size) hz88)
       clear hz88 hc36 hg32 hr30 hz28 hb27 hg26 hc24 hb23 hb22 hz21 hB20 hbe11 hb4 hg3
       refine gv_seq <| gv_region <| gv_pureN 3 [47, 48, 49] [(49, (.int .i64 (IntKind.i64.wrap (((ByteArray.size s15.1 : Nat) : Int) + 4))))] (by kernel_rfl) ?_
       refine bindE h2 ?_; clear h2; intro y91 hy92 h2
       refine gv_call0 (by kernel_rfl) rfl (by kernel_rfl) enters99 (builder_Grow hb89 hy92) ?_
       rintro v97 w93 ⟨rfl, hs94, hb96⟩
       have hlo99 : w0.heap.size ≤ b1 := lob hbe5 hB0.size
       have hB98 := below_belowB hB87 hs94 hlo99
       refine gv_nil <| gv_seq <| gv_region <| gv_pureN 2 [51, 52] [(51, (.string s15.1)), (52, (.int .i64 ((s15.2.2 : Nat) : Int)))] (by kernel_rfl) ?_
       refine bindE h2 ?_; clear h2; intro x100 hx101 h2
       refine gv_ssub (t := 9) (s := s15.1) (lo := none) (hi := (some (.int .i64 ((s15.2.2 : Nat) : Int)))) 0 ((s15.2.2 : Nat) : Int) x100 [] (fun e => by cases e) rfl rfl rfl (by kernel_rfl) (by kernel_rfl) Tryd.underlying9 (.inl ⟨rfl, rfl⟩) (.inr ⟨_, rfl⟩) hx101 rfl ?_
       refine bindE h2 ?_; clear h2; intro y102 hy103 h2
       refine gv_call0 (by kernel_rfl) rfl (by kernel_rfl) enters100 (builder_WriteString hb96 hy103) ?_
       rintro v108 w104 ⟨rfl, hs105, ho106, hb107⟩
       have hB109 := below_belowB hB98 hs105 hlo99
       have hz110 := (nt (nt hz90 hs94.size) hs105.size)
       clear ho106 hx101 hB98 hb96 hz90 hb89 hB87 hbe5
       refine gv_nil <| gv_seq <| gv_seq <| gv_region <| gv_pureN 2 [55, 56] [(56, (.bool (decide (r29 ≥ 0))))] (by kernel_rfl) ?_
       refine gv_nil <| bindE h2 ?_; clear h2; intro j111 h3 h2
       refine gv_cut_code (J := fun a w112 => Below w0.heap.size w0 w112 ∧ w104.heap.size ≤ w112.heap.size ∧ Bld 114 5 w112 b1 j111 ∧ a.defers = [] ∧ a.tmps.size = 85 ∧ Ok [(0, (.func (.func 63) #[] #[])), (1, (.string s15.1)), (5, (bp b1)), (6, (.int .i64 ((s15.2.2 : Nat) : Int))), (9, (.int .i64 s46))] a.tmps) ?_ ?_
       ·skip
        refine gv_cond (b := (decide (r29 ≥ 0))) (by kernel_rfl) (fun hc113 => ?_) (fun hc113 => ?_)
        ·replace h3 := ite_t hc113 h3
         refine gv_region <| gv_pureN 1 [57] [(57, (.int .i32 r29))] (by kernel_rfl) ?_
         refine bindE h3 ?_; clear h3; intro y114 hy115 h3
         refine gv_call0 (by kernel_rfl) rfl (by kernel_rfl) enters114 (builder_WriteRune hb107 hy115) ?_
         rintro v120 w116 ⟨rfl, hs117, ho118, hb119⟩
         have hB121 := below_belowB hB109 hs117 hlo99
         refine gv_nil ?_
         have e := sj h3; subst e
         refine gv_goal fun a hd hs hok => ?_
         have hz122 := hs117.size
         exact ⟨hB121, hz122, hb119, hd, hs, ok_pick [0, 1, 5, 6, 9] hok (by kernel_rfl)⟩
        ·replace h3 := ite_f hc113 h3
         refine gv_skip ?_
         have e := sj h3; subst e
         refine gv_goal fun a hd hs hok => ?_
         exact ⟨hB109, (Nat.le_refl _), hb107, hd, hs, ok_pick [0, 1, 5, 6, 9] hok (by kernel_rfl)⟩
       ·rintro a w112 ⟨hB123, hz124, hb125, hd, hs, hok⟩
        refine gv_in ?_ hd hs hok
        clear hd hs hok
        have hz126 := (nt hz110 hz124)
        clear hz124 hz110 hB109 hb107
        refine gv_seq <| gv_region <| gv_pureN 4 [59, 60, 61, 62] [(59, (.string s15.1)), (62, (.int .i64 (IntKind.i64.wrap (((s15.2.2 : Nat) : Int) + s46))))] (by kernel_rfl) ?_
        refine bindE h2 ?_; clear h2; intro x127 hx128 h2
        refine gv_ssub (t := 9) (s := s15.1) (lo := (some (.int .i64 (IntKind.i64.wrap (((s15.2.2 : Nat) : Int) + s46))))) (hi := none) (IntKind.i64.wrap (((s15.2.2 : Nat) : Int) + s46)) ((ByteArray.size s15.1 : Nat) : Int) x127 [] (fun e => by cases e) rfl rfl rfl (by kernel_rfl) (by kernel_rfl) Tryd.underlying9 (.inr ⟨_, rfl⟩) (.inl ⟨rfl, rfl⟩) hx128 rfl ?_
        refine gv_pureN 1 [1] [(1, (.string x127))] (by kernel_rfl) ?_
        refine gv_nil <| gv_cexit <| gv_exit rfl ?_
        have e := sj h2; subst e
        replace h1 := congrArg some (hR2 _ rfl)
        have e := sj h1; subst e
        refine gv_goal fun a hd hs hok => ?_
        have hz129 := hz126
        exact ⟨hB123, hz129, hb125, hd, hs, ok_pick [0, 1, 5] hok (by kernel_rfl)⟩
   ·skip
    replace h2 := ite_f hc24 h2
    refine gv_pureN 1 [16] [(16, (.bool false))] (by kernel_rfl) ?_
    refine gv_nil <| gv_seq <| gv_cond (b := false) (by kernel_rfl) (fun hc => ?_) (fun hc => ?_)
    ·cases hc
    clear hc
    refine gv_cexit <| gv_exit rfl ?_
    have e := sj h2; subst e
    replace h1 := congrArg some (hR2 _ rfl)
    have e := sj h1; subst e
    refine gv_goal fun a hd hs hok => ?_
    have hz130 := hz21
    exact ⟨hB20, hz130, hb22, hd, hs, ok_pick [0, 1, 5] hok (by kernel_rfl)⟩
 ·rintro a w14 ⟨hB131, hz132, hb133, hd, hs, hok⟩
  refine gv_in ?_ hd hs hok
  clear hd hs hok
  clear hz132 hz12 hbe11 hb10 hg9 hz6 hb4 hg3
  refine gv_seq <| gv_seq <| gv_region <| gv_call0 (by kernel_rfl) rfl (by kernel_rfl) enters115 (builder_Cap hb133) ?_
  rintro v140 w136 ⟨c141, rfl, hc142, rfl⟩
  refine gv_pureN 1 [65] [(65, (.bool ((c141 : Int) == 0)))] (by kernel_rfl) ?_
  refine gv_nil <| gv_name (s := 65) (v := (.bool ((c141 : Int) == 0))) (v' := (.bool (Option.isNone j13.2))) (by kernel_rfl) (congrArg Value.bool hc142) ?_
  refine gv_sub [0, 1, 5, 65] (σ' := [(0, (.func (.func 63) #[] #[])), (1, (.string j13.1)), (5, (bp b1)), (65, (.bool (Option.isNone j13.2)))]) (by kernel_rfl) ?_
  refine gv_cond (b := (Option.isNone j13.2)) (by kernel_rfl) (fun hc143 => ?_) (fun hc143 => ?_)
  ·replace h0 := ite_t hc143 h0
   refine gv_seq <| gv_region <| gv_pureN 2 [4, 66] [(4, (.string j13.1))] (by kernel_rfl) ?_
   refine gv_nil <| gv_cret ?_
   have e := sj h0; subst e
   refine gv_ret (gv_done [(.string j13.1)] rfl ⟨(by kernel_rfl), trivial⟩ ?_)
   exact ⟨grown_of_below hB131, rfl⟩
  ·replace h0 := ite_f hc143 h0
   refine gv_skip <| gv_seq <| gv_seq <| gv_region <| gv_pureN 1 [67] [(67, (.string j13.1))] (by kernel_rfl) ?_
   refine gv_range (t := 9) (s := j13.1) (by kernel_rfl) (by kernel_rfl) Tryd.underlying9 ?_
   intro b144 w145 hg146 hb147 hbe148 hz149
   refine gv_nil <| bindE h0 ?_; clear h0; intro j150 h1 h0
   refine gv_cut_code (J := fun a w151 => Below w0.heap.size w0 w151 ∧ w145.heap.size ≤ w151.heap.size ∧ Bld 114 5 w151 b1 j150 ∧ a.defers = [] ∧ a.tmps.size = 85 ∧ Ok [(5, (bp b1))] a.tmps) ?_ ?_
   ·skip
    refine gv_block <| gv_loop (A := fun (s152 : ((Option (List UInt8)) × Nat)) a w153 => Below w0.heap.size w0 w153 ∧ w145.heap.size ≤ w153.heap.size ∧ Bld 114 5 w153 b1 s152.1 ∧ At w153 b144 (.stringIter j13.1 s152.2) ∧ a.defers = [] ∧ a.tmps.size = 85 ∧ Ok [(0, (.func (.func 63) #[] #[])), (5, (bp b1)), (68, (bp b144))] a.tmps) h1 ?_ ?_
    ·intro a hd hs hok
     have hB154 := bg hB131 hg146 nb
     have hk155 := hb133.grown hg146 nb
     exact ⟨hB154, (Nat.le_refl _), hk155, hb147, hd, hs, ok_pick [0, 5, 68] hok (by kernel_rfl)⟩
    ·rintro s152 r2 h2 hR2 a w153 ⟨hB156, hz157, hb158, hb159, hd, hs, hok⟩
     refine gv_in ?_ hd hs hok
     clear hd hs hok
     clear hz149 hb147 hg146 hc143
     refine gv_seq <| gv_region <| gv_next (b := b144) (s := j13.1) (pos := s152.2) (ty := 0) (by kernel_rfl) (by kernel_rfl) hb159 (fun hc160 => ?_) (fun hc160 => ?_)
     ·skip
      replace h2 := ite_t hc160 h2
      intro w161 hg162 hb163 hz164
      refine gv_pureN 1 [70] [(70, (.bool true))] (by kernel_rfl) ?_
      refine gv_nil <| gv_seq <| gv_cond (b := true) (by kernel_rfl) (fun hc => ?_) (fun hc => ?_)
      rotate_left; · cases hc
      clear hc
      refine gv_skip <| gv_block <| gv_seq <| gv_region <| gv_pureN 2 [11, 71] [(11, (.int .i32 (runeI j13.1 s152.2)))] (by kernel_rfl) ?_
      refine gv_nil <| gv_seq <| gv_region <| gv_pureN 2 [72, 73] [(72, (.func (.func 63) #[] #[])), (73, (.int .i32 (runeI j13.1 s152.2)))] (by kernel_rfl) ?_
      refine bindE h2 ?_; clear h2; intro r165 hr166 h2
      refine gv_call0 (by kernel_rfl) rfl (by kernel_rfl) enters63 (textstr_upper_ok fuel (runeI j13.1 s152.2) w161  r165 hr166) ?_
      rintro v169 w167 ⟨hg168, rfl⟩
      refine gv_pureN 1 [12] [(12, (.int .i32 r165))] (by kernel_rfl) ?_
      refine gv_nil <| gv_seq <| gv_region <| gv_pureN 2 [75, 76] [(76, (.bool (decide (r165 ≥ 0))))] (by kernel_rfl) ?_
      refine gv_nil <| bindE h2 ?_; clear h2; intro j170 h3 h2
      refine gv_cut_code (J := fun a w171 => Below w0.heap.size w0 w171 ∧ w167.heap.size ≤ w171.heap.size ∧ Bld 114 5 w171 b1 j170 ∧ At w171 b144 (.stringIter j13.1 (s152.2 + runeN j13.1 s152.2)) ∧ a.defers = [] ∧ a.tmps.size = 85 ∧ Ok [(0, (.func (.func 63) #[] #[])), (5, (bp b1)), (68, (bp b144))] a.tmps) ?_ ?_
      ·skip
       refine gv_cond (b := (decide (r165 ≥ 0))) (by kernel_rfl) (fun hc172 => ?_) (fun hc172 => ?_)
       ·replace h3 := ite_t hc172 h3
        refine gv_seq <| gv_region <| gv_pureN 2 [77, 78] [(78, (.bool (decide (r165 < 128))))] (by kernel_rfl) ?_
        refine gv_nil <| gv_cond (b := (decide (r165 < 128))) (by kernel_rfl) (fun hc173 => ?_) (fun hc173 => ?_)
        ·replace h3 := ite_t hc173 h3
         refine gv_region <| gv_pureN 2 [79, 80] [(80, (.int .u8 (IntKind.u8.wrap (r165))))] (by kernel_rfl) ?_
         refine bindE h3 ?_; clear h3; intro y174 hy175 h3
         have lt181 := ltl ((ltBld hb133) _ rfl) ((lowb hbe148) _ rfl)
         have hk182 := (hb158.grown hg162 (bld_at hb159 (ng lt181))).grown hg168 nb
         refine gv_call0 (by kernel_rfl) rfl (by kernel_rfl) enters116 (builder_WriteByte hk182 hy175) ?_
         rintro v180 w176 ⟨rfl, hs177, ho178, hb179⟩
         have hlo184 : w0.heap.size ≤ b144 := lob hbe148 hB131.size
         have hB185 := bg hB156 hg162 (rowlo hlo184)
         have hB186 := bg hB185 hg168 nb
         have hlo187 : w0.heap.size ≤ b1 := lob hbe5 hB0.size
         have hB183 := below_belowB hB186 hs177 hlo187
         have hk189 := hb163.grown hg168 nb
         have hk188 := hk189.others ho178 (ng lt181)
         refine gv_nil ?_
         have e := sj h3; subst e
         refine gv_goal fun a hd hs hok => ?_
         have hz190 := hs177.size
         exact ⟨hB183, hz190, hb179, hk188, hd, hs, ok_pick [0, 5, 68] hok (by kernel_rfl)⟩
        ·replace h3 := ite_f hc173 h3
         refine gv_region <| gv_pureN 1 [82] [(82, (.int .i32 r165))] (by kernel_rfl) ?_
         refine bindE h3 ?_; clear h3; intro y191 hy192 h3
         have lt198 := ltl ((ltBld hb133) _ rfl) ((lowb hbe148) _ rfl)
         have hk199 := (hb158.grown hg162 (bld_at hb159 (ng lt198))).grown hg168 nb
         refine gv_call0 (by kernel_rfl) rfl (by kernel_rfl) enters114 (builder_WriteRune hk199 hy192) ?_
         rintro v197 w193 ⟨rfl, hs194, ho195, hb196⟩
         have hlo201 : w0.heap.size ≤ b144 := lob hbe148 hB131.size
         have hB202 := bg hB156 hg162 (rowlo hlo201)
         have hB203 := bg hB202 hg168 nb
         have hlo204 : w0.heap.size ≤ b1 := lob hbe5 hB0.size
         have hB200 := below_belowB hB203 hs194 hlo204
         have hk206 := hb163.grown hg168 nb
         have hk205 := hk206.others ho195 (ng lt198)
         refine gv_nil ?_
         have e := sj h3; subst e
         refine gv_goal fun a hd hs hok => ?_
         have hz207 := hs194.size
         exact ⟨hB200, hz207, hb196, hk205, hd, hs, ok_pick [0, 5, 68] hok (by kernel_rfl)⟩
       ·replace h3 := ite_f hc172 h3
        refine gv_skip ?_
        have e := sj h3; subst e
        refine gv_goal fun a hd hs hok => ?_
        have hlo208 : w0.heap.size ≤ b144 := lob hbe148 hB131.size
        have hB209 := bg hB156 hg162 (rowlo hlo208)
        have hB210 := bg hB209 hg168 nb
        have lt211 := ltl ((ltBld hb133) _ rfl) ((lowb hbe148) _ rfl)
        have hk212 := (hb158.grown hg162 (bld_at hb159 (ng lt211))).grown hg168 nb
        have hk213 := hb163.grown hg168 nb
        exact ⟨hB210, (Nat.le_refl _), hk212, hk213, hd, hs, ok_pick [0, 5, 68] hok (by kernel_rfl)⟩
      ·rintro a w171 ⟨hB214, hz215, hb216, hb217, hd, hs, hok⟩
       refine gv_in ?_ hd hs hok
       clear hd hs hok
       have hz218 := (nt (nt (nt hz157 hg162.size) hg168.size) hz215)
       clear hz215 hg168 hr166 hz164 hb163 hg162 hc160 hb159 hb158 hz157 hB156
       refine gv_blk ?_
       have e := sj h2; subst e
       refine gv_goal fun a hd hs hok => ?_
       have hz219 := hz218
       exact ⟨(j170, (s152.2 + runeN j13.1 s152.2)), rfl, hB214, hz219, hb216, hb217, hd, hs, ok_pick [0, 5, 68] hok (by kernel_rfl)⟩
     ·skip
      replace h2 := ite_f hc160 h2
      refine gv_pureN 1 [70] [(70, (.bool false))] (by kernel_rfl) ?_
      refine gv_nil <| gv_seq <| gv_cond (b := false) (by kernel_rfl) (fun hc => ?_) (fun hc => ?_)
      ·cases hc
      clear hc
      refine gv_cexit <| gv_exit rfl ?_
      have e := sj h2; subst e
      replace h1 := congrArg some (hR2 _ rfl)
      have e := sj h1; subst e
      refine gv_goal fun a hd hs hok => ?_
      have hz220 := hz157
      exact ⟨hB156, hz220, hb158, hd, hs, ok_pick [5] hok (by kernel_rfl)⟩
   ·rintro a w151 ⟨hB221, hz222, hb223, hd, hs, hok⟩
    refine gv_in ?_ hd hs hok
    clear hd hs hok
    clear hz222 hz149 hbe148 hb147 hg146 hc143 hb133 hB131
    refine gv_seq <| gv_region <| bindE h0 ?_; clear h0; intro y224 hy225 h0
    refine gv_call0 (by kernel_rfl) rfl (by kernel_rfl) enters101 (builder_String hb223 hy225) ?_
    rintro v230 w226 ⟨rfl, hs227, ho228⟩
    have hlo232 : w0.heap.size ≤ b1 := lob hbe5 hB0.size
    have hB231 := below_belowB hB221 hs227 hlo232
    refine gv_pureN 1 [4] [(4, (.string y224))] (by kernel_rfl) ?_
    refine gv_nil <| gv_cret ?_
    have e := sj h0; subst e
    refine gv_ret (gv_done [(.string y224)] rfl ⟨(by kernel_rfl), trivial⟩ ?_)
    exact ⟨grown_of_below hB231, rfl⟩

theorem textstr_change_upper_ok (fuel : Nat) (s_0 : ByteArray) (w0 : World) (X0 : Nat → Prop) (hX0 : ∀ k, X0 k → k < w0.heap.size) (hG1 : Rd bE w0 X0 (some ⟨1, 0, none⟩) 256 utf8First) (hG2 : Rd (prE (iE .u8) (iE .u8)) w0 X0 (some ⟨2, 0, none⟩) 16 utf8Acc) (r0 : (ByteArray × (Int × Int))) (h0 : textstr_change_upper fuel s_0 = some r0) :
    Calls Tryd.prog 62 ([(.string s_0), (.func (.func 63) #[] #[])] : List Value).toArray w0 (Ret fun v w' => w0.grownBy w' none ∧ v = tup [(.string r0.1), (.agg #[(.int .i64 r0.2.1), (.int .i64 r0.2.2)])]) := by
 have hB0 : Below w0.heap.size w0 w0 := Below.refl _ _
 unfold textstr_change_upper at h0
 refine calls_run Tryd.func62 rfl Tryd.ntmps62 (by kernel_rfl) ?_
 refine gv_sub [0, 1] (σ' := [(0, (.string s_0)), (1, (.func (.func 63) #[] #[]))]) (by kernel_rfl) ?_
 refine gv_seq <| gv_region <| gv_pureN 1 [4] [] (by kernel_rfl) ?_
 refine gv_new0 (fun b => .pointer (some ⟨b, 0, none⟩)) #[(.int .i64 0), (.int .i64 0)] 24 (by kernel_rfl) (by kernel_rfl) ?_
 intro b1 w2 hg3 hb4 hbe5 hz6
 refine gv_nil <| gv_seq <| gv_seq <| gv_region <| gv_pureN 1 [7] [(7, (.string s_0))] (by kernel_rfl) ?_
 refine gv_new0 (fun b => .slice (some ⟨b, 0, none⟩) 1 1) #[(.string s_0)] 9 (by kernel_rfl) (by kernel_rfl) ?_
 intro b7 w8 hg9 hb10 hbe11 hz12
 have ho13 : Gv.Own sE 9 w8 (fun _ => False) (some ⟨b7, 0, none⟩) 1 ([s_0] : List ByteArray) := Box.ownE hb10 ⟨[(.string s_0)], [], rfl, rfl, rfl⟩ (show 1 ≤ maxLen by decide) (fun h => h)
 have hB18 := bg hB0 hg3 nb
 have hl14 : ∀ g, blk (some ⟨b7, 0, none⟩) = some g → w0.heap.size ≤ g := loo hbe11 hB18.size
 refine bindE h0 ?_; clear h0; intro r19 hr20 h0
 have hB21 := bg hB18 hg9 nb
 refine gv_call0 (by kernel_rfl) rfl (by kernel_rfl) enters58 (textstr_check_ok fuel (some ⟨b7, 0, none⟩) 1 ([s_0] : List ByteArray) w8 (fun k => (fun k => blk (some ⟨b7, 0, none⟩) = some k) k ∨ X0 k ∨ X0 k) (fun k hk => (hk).elim (fun h => (fun k (hk : blk (some ⟨b7, 0, none⟩) = some k) => ho13.lt k hk) k h) (fun h => (h).elim (fun h => (fun k (hk : X0 k) => ltl (hX0 k hk) hB21.size) k h) (fun h => (fun k (hk : X0 k) => ltl (hX0 k hk) hB21.size) k h))) ((ho13.rd (Y := fun k => blk (some ⟨b7, 0, none⟩) = some k) (fun _ h => h.elim) (fun g e => e)).wide (fun k hk => (.inl hk))) ((hG1.below hB21 hX0).wide (fun k hk => (.inr (.inl hk)))) ((hG2.below hB21 hX0).wide (fun k hk => (.inr (.inr hk)))) r19 hr20) ?_
 rintro v24 w22 ⟨hg23, rfl⟩
 refine gv_new0 (fun b => .pointer (some ⟨b, 0, none⟩)) #[(.int .i64 0), (.int .i64 0)] 24 (by kernel_rfl) (by kernel_rfl) ?_
 intro b25 w26 hg27 hb28 hbe29 hz30
 refine gv_store0 24 0 (.agg #[(.int .i64 r19.1), (.int .i64 r19.2)]) #[(.int .i64 r19.1), (.int .i64 r19.2)] hb28 (by kernel_rfl) (by kernel_rfl) (by kernel_rfl) ?_
 intro w31 hg32 hb33 hz34
 refine gv_nil <| gv_seq <| gv_region <| gv_pureN 1 [10] [(10, (bp b25))] (by kernel_rfl) ?_
 refine gv_load (t := 3) (A := ⟨b25, 0, none⟩) (.int .i64 r19.1) [] (fun e => by cases e) rfl rfl rfl (by kernel_rfl) (by kernel_rfl) (by kernel_rfl) (inw0 (hb33.cell 0 rfl)) rfl ?_
 refine gv_pureN 1 [12] [(12, (.bool (r19.1 != 0)))] (by kernel_rfl) ?_
 refine gv_nil <| gv_cond (b := (r19.1 != 0)) (by kernel_rfl) (fun hc35 => ?_) (fun hc35 => ?_)
 ·replace h0 := ite_t hc35 h0
  refine gv_seq <| gv_drawA (by kernel_rfl) ?_
  intro w36 hg37
  refine gv_pre [1] (bA 3 [1]) 2 (by kernel_rfl) (by kernel_rfl) ?_
  refine gv_pureN 1 [4] [(4, (.string (strOf [])))] (by kernel_rfl) ?_
  refine gv_nil <| gv_goA ?_
  refine gv_stage (Cls w36 []) [0, 1] [(0, some true)] (bA 3 [0, 1]) 1 (by kernel_rfl) (by kernel_rfl) (Cls.refl _ _) ?_
  have hC38 := Cls.refl w36 []
  have hk39 := hb33.grown hg37 nb
  refine gv_loadBox (t := 24) (b := b25) (t' := 24) (fr := (0, 0)) #[(.int .i64 r19.1), (.int .i64 r19.2)] [] (fun e => by cases e) rfl rfl rfl (by kernel_rfl) (by kernel_rfl) (by kernel_rfl) (by kernel_rfl) (inw1 fun w' hC' => (hC'.box hk39 nm_nil)) rfl ?_
  refine gv_nil <| gv_goA ?_
  refine gv_stage (fun _ => True) [0, 1, 2] [(2, some false)] (bA 3 [0, 1, 2]) 0 (by kernel_rfl) (by kernel_rfl) trivial ?_
  have hg44 := (grown_trans (grown_trans hg9 hg23) hg27)
  have hg45 := (grown_trans hg9 hg23)
  have hk46 := hb4.grown hg45 nb
  have lt47 := ltl ((ltb hk46) _ rfl) ((lowb hbe29) _ rfl)
  have hk48 := ((hb4.grown hg44 nb).grown hg32 (rowne (ng lt47))).grown hg37 nb
  refine gv_store (t := 24) (b := b1) (off := 0) (v := (.agg #[(.int .i64 r19.1), (.int .i64 r19.2)])) (t' := 24) (cs := #[(.int .i64 0), (.int .i64 0)]) #[(.int .i64 r19.1), (.int .i64 r19.2)] (by decide) rfl rfl (by kernel_rfl) (by kernel_rfl) (by kernel_rfl) (by intro u hu; simp [Value.cells] at hu; rcases hu with rfl | rfl <;> rfl) (show 0 + 2 ≤ 2 by decide) (by rfl) hk48 ?_
  intro w40 hg41 hb42 hz43
  refine ⟨(fun _ => trivial), ?_⟩
  refine gv_nil <| gv_goA ?_
  refine gv_stageE (by kernel_rfl) ?_
  refine gv_cret ?_
  have e := sj h0; subst e
  refine gv_ret (gv_done [(.string (strOf [])), (.agg #[(.int .i64 r19.1), (.int .i64 r19.2)])] rfl ⟨(by kernel_rfl), ⟨⟨b1, 0, none⟩, (by kernel_rfl), run_loadVar_row w40 b1 _ 24 _ _ _ hb42 Tryd.underlying24 rfl (by kernel_rfl)⟩, trivial⟩ ?_)
  have hg49 := (grown_trans hg23 hg27)
  have hB50 := bg hB21 hg49 nb
  have hB51 := bg hB21 hg23 nb
  have hlo52 : w0.heap.size ≤ b25 := lob hbe29 hB51.size
  have hB53 := bg hB50 hg32 (rowlo hlo52)
  have hB54 := bg hB53 hg37 nb
  have hlo55 : w0.heap.size ≤ b1 := lob hbe5 hB0.size
  have hB56 := bg hB54 hg41 (rowlo hlo55)
  exact ⟨grown_of_below hB56, rfl⟩
 ·replace h0 := ite_f hc35 h0
  refine gv_skip <| gv_seq <| gv_region <| gv_pureN 2 [14, 15] [(14, (.func (.func 63) #[] #[])), (15, (.string s_0))] (by kernel_rfl) ?_
  refine bindE h0 ?_; clear h0; intro r57 hr58 h0
  have hg59 := (grown_trans hg23 hg27)
  have hB60 := bg hB21 hg59 nb
  have hB61 := bg hB21 hg23 nb
  have hlo62 : w0.heap.size ≤ b25 := lob hbe29 hB61.size
  have hB63 := bg hB60 hg32 (rowlo hlo62)
  refine gv_call0 (by kernel_rfl) rfl (by kernel_rfl) enters90 (strings_Map_upper_ok fuel s_0 w31 (fun k => X0 k ∨ X0 k) (fun k hk => (hk).elim (fun h => (fun k (hk : X0 k) => ltl (hX0 k hk) hB63.size) k h) (fun h => (fun k (hk : X0 k) => ltl (hX0 k hk) hB63.size) k h)) ((hG1.below hB63 hX0).wide (fun k hk => (.inl hk))) ((hG2.below hB63 hX0).wide (fun k hk => (.inr hk))) r57 hr58) ?_
  rintro v66 w64 ⟨hg65, rfl⟩
  clear hlo62 hB61 hB60 hg59 hr58 hc35 hz34 hb33 hz30 hb28 hB21 hr20 hl14 hB18 ho13 hz12 hbe11 hb10 hz6 hg3
  refine gv_pureN 2 [4, 17] [(4, (.string r57)), (17, (.agg #[(.int .i64 0), (.int .i64 0)]))] (by kernel_rfl) ?_
  have hg71 := (grown_trans (grown_trans hg9 hg23) hg27)
  have hg72 := (grown_trans hg9 hg23)
  have hk73 := hb4.grown hg72 nb
  have lt74 := ltl ((ltb hk73) _ rfl) ((lowb hbe29) _ rfl)
  have hk75 := ((hb4.grown hg71 nb).grown hg32 (rowne (ng lt74))).grown hg65 nb
  refine gv_store0 24 0 (.agg #[(.int .i64 0), (.int .i64 0)]) #[(.int .i64 0), (.int .i64 0)] hk75 (by kernel_rfl) (by kernel_rfl) (by kernel_rfl) ?_
  intro w67 hg68 hb69 hz70
  refine gv_nil <| gv_cret ?_
  have e := sj h0; subst e
  refine gv_ret (gv_done [(.string r57), (.agg #[(.int .i64 0), (.int .i64 0)])] rfl ⟨(by kernel_rfl), ⟨⟨b1, 0, none⟩, (by kernel_rfl), run_loadVar_row w67 b1 _ 24 _ _ _ hb69 Tryd.underlying24 rfl (by kernel_rfl)⟩, trivial⟩ ?_)
  have hB76 := bg hB63 hg65 nb
  have hlo77 : w0.heap.size ≤ b1 := lob hbe5 hB0.size
  have hB78 := bg hB76 hg68 (rowlo hlo77)
  exact ⟨grown_of_below hB78, rfl⟩

theorem textstr_ToUpper_ok (fuel : Nat) (s_0 : ByteArray) (w0 : World) (X0 : Nat → Prop) (hX0 : ∀ k, X0 k → k < w0.heap.size) (hG1 : Rd bE w0 X0 (some ⟨1, 0, none⟩) 256 utf8First) (hG2 : Rd (prE (iE .u8) (iE .u8)) w0 X0 (some ⟨2, 0, none⟩) 16 utf8Acc) (r0 : (ByteArray × (Int × Int))) (h0 : textstr_ToUpper fuel s_0 = some r0) :
    Calls Tryd.prog 19 ([(.string s_0)] : List Value).toArray w0 (Ret fun v w' => w0.grownBy w' none ∧ v = tup [(.string r0.1), (.agg #[(.int .i64 r0.2.1), (.int .i64 r0.2.2)])]) := by
 have hB0 : Below w0.heap.size w0 w0 := Below.refl _ _
 unfold textstr_ToUpper at h0
 refine calls_run Tryd.func19 rfl Tryd.ntmps19 (by kernel_rfl) ?_
 refine gv_sub [0] (σ' := [(0, (.string s_0))]) (by kernel_rfl) ?_
 refine gv_seq <| gv_region <| gv_pureN 1 [2] [] (by kernel_rfl) ?_
 refine gv_new0 (fun b => .pointer (some ⟨b, 0, none⟩)) #[(.int .i64 0), (.int .i64 0)] 24 (by kernel_rfl) (by kernel_rfl) ?_
 intro b1 w2 hg3 hb4 hbe5 hz6
 refine gv_nil <| gv_seq <| gv_region <| gv_pureN 1 [4] [(4, (.string s_0))] (by kernel_rfl) ?_
 refine bindE h0 ?_; clear h0; intro r7 hr8 h0
 have hB9 := bg hB0 hg3 nb
 refine gv_call0 (by kernel_rfl) rfl (by kernel_rfl) enters62 (textstr_change_upper_ok fuel s_0 w2 (fun k => X0 k ∨ X0 k) (fun k hk => (hk).elim (fun h => (fun k (hk : X0 k) => ltl (hX0 k hk) hB9.size) k h) (fun h => (fun k (hk : X0 k) => ltl (hX0 k hk) hB9.size) k h)) ((hG1.below hB9 hX0).wide (fun k hk => (.inl hk))) ((hG2.below hB9 hX0).wide (fun k hk => (.inr hk))) r7 hr8) ?_
 rintro v12 w10 ⟨hg11, rfl⟩
 refine gv_pureN 3 [2, 6, 7] [(2, (.string r7.1)), (7, (.agg #[(.int .i64 r7.2.1), (.int .i64 r7.2.2)]))] (by kernel_rfl) ?_
 have hk17 := hb4.grown hg11 nb
 refine gv_store0 24 0 (.agg #[(.int .i64 r7.2.1), (.int .i64 r7.2.2)]) #[(.int .i64 r7.2.1), (.int .i64 r7.2.2)] hk17 (by kernel_rfl) (by kernel_rfl) (by kernel_rfl) ?_
 intro w13 hg14 hb15 hz16
 refine gv_nil <| gv_cret ?_
 have e := sj h0; subst e
 refine gv_ret (gv_done [(.string r7.1), (.agg #[(.int .i64 r7.2.1), (.int .i64 r7.2.2)])] rfl ⟨(by kernel_rfl), ⟨⟨b1, 0, none⟩, (by kernel_rfl), run_loadVar_row w13 b1 _ 24 _ _ _ hb15 Tryd.underlying24 rfl (by kernel_rfl)⟩, trivial⟩ ?_)
 have hB18 := bg hB9 hg11 nb
 have hlo19 : w0.heap.size ≤ b1 := lob hbe5 hB0.size
 have hB20 := bg hB18 hg14 (rowlo hlo19)
 exact ⟨grown_of_below hB20, rfl⟩

theorem strings_Map_lower_ok (fuel : Nat) (s_1 : ByteArray) (w0 : World) (X0 : Nat → Prop) (hX0 : ∀ k, X0 k → k < w0.heap.size) (hG1 : Rd bE w0 X0 (some ⟨1, 0, none⟩) 256 utf8First) (hG2 : Rd (prE (iE .u8) (iE .u8)) w0 X0 (some ⟨2, 0, none⟩) 16 utf8Acc) (r0 : ByteArray) (h0 : strings_Map_lower fuel s_1 = some r0) :
    Calls Tryd.prog 90 ([(.func (.func 64) #[] #[]), (.string s_1)] : List Value).toArray w0 (Ret fun v w' => w0.grownBy w' none ∧ v = tup [(.string r0)]) := by
 have hB0 : Below w0.heap.size w0 w0 := Below.refl _ _
 unfold strings_Map_lower at h0
 refine calls_run Tryd.func90 rfl Tryd.ntmps90 (by kernel_rfl) ?_
 refine gv_sub [0, 1] (σ' := [(0, (.func (.func 64) #[] #[])), (1, (.string s_1))]) (by kernel_rfl) ?_
 refine gv_seq <| gv_region <| gv_pureN 1 [4] [] (by kernel_rfl) ?_
 refine gv_nil <| gv_seq <| gv_region <| gv_new0 (fun b => .pointer (some ⟨b, 0, none⟩)) #[.pointer none, (.slice none 0 0)] 114 (by kernel_rfl) (by kernel_rfl) ?_
 intro b1 w2 hg3 hb4 hbe5 hz6
 refine gv_nil <| gv_seq <| gv_seq <| gv_region <| gv_pureN 1 [13] [(13, (.string s_1))] (by kernel_rfl) ?_
 refine gv_range (t := 9) (s := s_1) (by kernel_rfl) (by kernel_rfl) Tryd.underlying9 ?_
 intro b7 w8 hg9 hb10 hbe11 hz12
 refine gv_nil <| bindE h0 ?_; clear h0; intro j13 h1 h0
 refine gv_cut_code (J := fun a w14 => Below w0.heap.size w0 w14 ∧ w8.heap.size ≤ w14.heap.size ∧ Bld 114 5 w14 b1 j13.2 ∧ a.defers = [] ∧ a.tmps.size = 85 ∧ Ok [(0, (.func (.func 64) #[] #[])), (1, (.string j13.1)), (5, (bp b1))] a.tmps) ?_ ?_
 ·skip
  refine gv_block <| gv_loop (A := fun (s15 : (ByteArray × (Option (List UInt8)) × Nat)) a w16 => Below w0.heap.size w0 w16 ∧ w8.heap.size ≤ w16.heap.size ∧ Bld 114 5 w16 b1 s15.2.1 ∧ At w16 b7 (.stringIter s_1 s15.2.2) ∧ a.defers = [] ∧ a.tmps.size = 85 ∧ Ok [(0, (.func (.func 64) #[] #[])), (1, (.string s15.1)), (5, (bp b1)), (14, (bp b7))] a.tmps) h1 ?_ ?_
  ·intro a hd hs hok
   have hg17 := (grown_trans hg3 hg9)
   have hB18 := bg hB0 hg17 nb
   have hk19 := (bld_new (e := 5) hb4).grown hg9 nb
   exact ⟨hB18, (Nat.le_refl _), hk19, hb10, hd, hs, ok_pick [0, 1, 5, 14] hok (by kernel_rfl)⟩
  ·rintro s15 r2 h2 hR2 a w16 ⟨hB20, hz21, hb22, hb23, hd, hs, hok⟩
   refine gv_in ?_ hd hs hok
   clear hd hs hok
   clear hz12 hb10 hg9 hz6
   refine gv_seq <| gv_region <| gv_next (b := b7) (s := s_1) (pos := s15.2.2) (ty := 0) (by kernel_rfl) (by kernel_rfl) hb23 (fun hc24 => ?_) (fun hc24 => ?_)
   ·skip
    replace h2 := ite_t hc24 h2
    intro w25 hg26 hb27 hz28
    refine gv_pureN 1 [16] [(16, (.bool true))] (by kernel_rfl) ?_
    refine gv_nil <| gv_seq <| gv_cond (b := true) (by kernel_rfl) (fun hc => ?_) (fun hc => ?_)
    rotate_left; · cases hc
    clear hc
    refine gv_skip <| gv_block <| gv_seq <| gv_region <| gv_pureN 4 [6, 7, 17, 18] [(6, (.int .i64 ((s15.2.2 : Nat) : Int))), (7, (.int .i32 (runeI s_1 s15.2.2)))] (by kernel_rfl) ?_
    refine gv_nil <| gv_seq <| gv_region <| gv_pureN 2 [19, 20] [(19, (.func (.func 64) #[] #[])), (20, (.int .i32 (runeI s_1 s15.2.2)))] (by kernel_rfl) ?_
    refine bindE h2 ?_; clear h2; intro r29 hr30 h2
    refine gv_call0 (by kernel_rfl) rfl (by kernel_rfl) enters64 (textstr_lower_ok fuel (runeI s_1 s15.2.2) w25  r29 hr30) ?_
    rintro v33 w31 ⟨hg32, rfl⟩
    refine gv_pureN 1 [8] [(8, (.int .i32 r29))] (by kernel_rfl) ?_
    refine gv_nil <| gv_seq <| gv_seq <| gv_region <| gv_cut_ops (J := fun a w34 => w31 = w34 ∧ a.defers = [] ∧ a.tmps.size = 85 ∧ Ok [(0, (.func (.func 64) #[] #[])), (1, (.string s15.1)), (5, (bp b1)), (6, (.int .i64 ((s15.2.2 : Nat) : Int))), (7, (.int .i32 (runeI s_1 s15.2.2))), (8, (.int .i32 r29)), (14, (bp b7)), (28, (.bool ((r29 == (runeI s_1 s15.2.2)) && ((runeI s_1 s15.2.2) != 65533))))] a.tmps) ?_ ?_
    ·skip
     refine gv_pureN 4 [22, 23, 24, 25] [(25, (.bool (r29 == (runeI s_1 s15.2.2))))] (by kernel_rfl) ?_
     refine gv_split (s := 25) (g := (r29 == (runeI s_1 s15.2.2))) (by kernel_rfl) (fun hc35 => ?_) (fun hc35 => ?_)
     ·skip
      refine gv_pureN 3 [26, 27, 28] [(28, (.bool ((runeI s_1 s15.2.2) != 65533)))] (by kernel_rfl) ?_
      refine gv_nil <| gv_sub [0, 1, 5, 6, 7, 8, 14, 28] (σ' := [(0, (.func (.func 64) #[] #[])), (1, (.string s15.1)), (5, (bp b1)), (6, (.int .i64 ((s15.2.2 : Nat) : Int))), (7, (.int .i32 (runeI s_1 s15.2.2))), (8, (.int .i32 r29)), (14, (bp b7)), (28, (.bool ((runeI s_1 s15.2.2) != 65533)))]) (by kernel_rfl) ?_
      refine gv_goal fun a hd hs hok => ⟨rfl, hd, hs, ?_⟩
      obtain ⟨q0, q1, q5, q6, q7, q8, q14, q28, _⟩ := hok
      exact ⟨q0, q1, q5, q6, q7, q8, q14, (by rw [hc35]; exact q28), trivial⟩
     ·skip
      refine gv_pureN 3 [26, 27, 28] [(28, (.bool false))] (by kernel_rfl) ?_
      refine gv_nil <| gv_sub [0, 1, 5, 6, 7, 8, 14, 28] (σ' := [(0, (.func (.func 64) #[] #[])), (1, (.string s15.1)), (5, (bp b1)), (6, (.int .i64 ((s15.2.2 : Nat) : Int))), (7, (.int .i32 (runeI s_1 s15.2.2))), (8, (.int .i32 r29)), (14, (bp b7)), (28, (.bool false))]) (by kernel_rfl) ?_
      refine gv_goal fun a hd hs hok => ⟨rfl, hd, hs, ?_⟩
      obtain ⟨q0, q1, q5, q6, q7, q8, q14, q28, _⟩ := hok
      exact ⟨q0, q1, q5, q6, q7, q8, q14, (by rw [hc35]; exact q28), trivial⟩
    ·rintro a w34 ⟨e, hd, hs, hok⟩; subst e
     refine gv_in ?_ hd hs hok
     clear hd hs hok
     refine gv_cond (b := ((r29 == (runeI s_1 s15.2.2)) && ((runeI s_1 s15.2.2) != 65533))) (by kernel_rfl) (fun hc36 => ?_) (fun hc36 => ?_)
     ·replace h2 := ite_t hc36 h2
      refine gv_cexit <| gv_exit rfl ?_
      have e := sj h2; subst e
      refine gv_goal fun a hd hs hok => ?_
      have hB37 := bg hB0 hg3 nb
      have hlo38 : w0.heap.size ≤ b7 := lob hbe11 hB37.size
      have hB39 := bg hB20 hg26 (rowlo hlo38)
      have hB40 := bg hB39 hg32 nb
      have hz41 := (nt (nt hz21 hg26.size) hg32.size)
      have lt42 := ltl ((ltBld (bld_new (e := 5) hb4)) _ rfl) ((lowb hbe11) _ rfl)
      have hk43 := (hb22.grown hg26 (bld_at hb23 (ng lt42))).grown hg32 nb
      have hk44 := hb27.grown hg32 nb
      exact ⟨(s15.1, s15.2.1, (s15.2.2 + runeN s_1 s15.2.2)), rfl, hB40, hz41, hk43, hk44, hd, hs, ok_pick [0, 1, 5, 14] hok (by kernel_rfl)⟩
     ·replace h2 := ite_f hc36 h2
      refine gv_skip <| gv_seq <| gv_region <| gv_pureN 1 [9] [] (by kernel_rfl) ?_
      refine gv_nil <| gv_seq <| gv_seq <| gv_region <| gv_pureN 2 [29, 30] [(30, (.bool ((runeI s_1 s15.2.2) == 65533)))] (by kernel_rfl) ?_
      refine gv_nil <| bindE h2 ?_; clear h2; intro j45 h3 h2
      refine gv_cut_code (J := fun a w47 => ∃ s46 : Int, j45 = .inl s46 ∧ Below w0.heap.size w0 w47 ∧ w31.heap.size ≤ w47.heap.size ∧ Bld 114 5 w47 b1 s15.2.1 ∧ a.defers = [] ∧ a.tmps.size = 85 ∧ Ok [(0, (.func (.func 64) #[] #[])), (1, (.string s15.1)), (5, (bp b1)), (6, (.int .i64 ((s15.2.2 : Nat) : Int))), (8, (.int .i32 r29)), (9, (.int .i64 s46))] a.tmps) ?_ ?_
      ·skip
       refine gv_cond (b := ((runeI s_1 s15.2.2) == 65533)) (by kernel_rfl) (fun hc48 => ?_) (fun hc48 => ?_)
       ·replace h3 := ite_t hc48 h3
        refine gv_seq <| gv_region <| gv_pureN 2 [32, 33] [(32, (.string s15.1)), (33, (.int .i64 ((s15.2.2 : Nat) : Int)))] (by kernel_rfl) ?_
        refine bindE h3 ?_; clear h3; intro x49 hx50 h3
        refine gv_ssub (t := 9) (s := s15.1) (lo := (some (.int .i64 ((s15.2.2 : Nat) : Int)))) (hi := none) ((s15.2.2 : Nat) : Int) ((ByteArray.size s15.1 : Nat) : Int) x49 [] (fun e => by cases e) rfl rfl rfl (by kernel_rfl) (by kernel_rfl) Tryd.underlying9 (.inr ⟨_, rfl⟩) (.inl ⟨rfl, rfl⟩) hx50 rfl ?_
        refine bindE h3 ?_; clear h3; intro r51 hr52 h3
        have hB53 := bg hB0 hg3 nb
        have hlo54 : w0.heap.size ≤ b7 := lob hbe11 hB53.size
        have hB55 := bg hB20 hg26 (rowlo hlo54)
        have hB56 := bg hB55 hg32 nb
        refine gv_call0 (by kernel_rfl) rfl (by kernel_rfl) enters102 (utf8_DecodeRuneInString_ok fuel x49 w31 (fun k => X0 k ∨ X0 k) (fun k hk => (hk).elim (fun h => (fun k (hk : X0 k) => ltl (hX0 k hk) hB56.size) k h) (fun h => (fun k (hk : X0 k) => ltl (hX0 k hk) hB56.size) k h)) ((hG1.below hB56 hX0).wide (fun k hk => (.inl hk))) ((hG2.below hB56 hX0).wide (fun k hk => (.inr hk))) r51 hr52) ?_
        rintro v59 w57 ⟨hg58, rfl⟩
        refine gv_pureN 5 [7, 9, 31, 36, 37] [(7, (.int .i32 r51.1)), (9, (.int .i64 r51.2))] (by kernel_rfl) ?_
        refine gv_nil <| gv_seq <| gv_region <| gv_cut_ops (J := fun a w60 => w57 = w60 ∧ a.defers = [] ∧ a.tmps.size = 85 ∧ Ok [(0, (.func (.func 64) #[] #[])), (1, (.string s15.1)), (5, (bp b1)), (6, (.int .i64 ((s15.2.2 : Nat) : Int))), (8, (.int .i32 r29)), (9, (.int .i64 r51.2)), (14, (bp b7)), (44, (.bool ((r51.2 != 1) && (r29 == r51.1))))] a.tmps) ?_ ?_
        ·skip
         refine gv_pureN 3 [38, 39, 40] [(40, (.bool (r51.2 != 1)))] (by kernel_rfl) ?_
         refine gv_split (s := 40) (g := (r51.2 != 1)) (by kernel_rfl) (fun hc61 => ?_) (fun hc61 => ?_)
         ·skip
          refine gv_pureN 4 [41, 42, 43, 44] [(44, (.bool (r29 == r51.1)))] (by kernel_rfl) ?_
          refine gv_sub [0, 1, 5, 6, 8, 9, 14, 44] (σ' := [(0, (.func (.func 64) #[] #[])), (1, (.string s15.1)), (5, (bp b1)), (6, (.int .i64 ((s15.2.2 : Nat) : Int))), (8, (.int .i32 r29)), (9, (.int .i64 r51.2)), (14, (bp b7)), (44, (.bool (r29 == r51.1)))]) (by kernel_rfl) ?_
          refine gv_nil <| gv_sub [0, 1, 5, 6, 8, 9, 14, 44] (σ' := [(0, (.func (.func 64) #[] #[])), (1, (.string s15.1)), (5, (bp b1)), (6, (.int .i64 ((s15.2.2 : Nat) : Int))), (8, (.int .i32 r29)), (9, (.int .i64 r51.2)), (14, (bp b7)), (44, (.bool (r29 == r51.1)))]) (by kernel_rfl) ?_
          refine gv_goal fun a hd hs hok => ⟨rfl, hd, hs, ?_⟩
          obtain ⟨q0, q1, q5, q6, q8, q9, q14, q44, _⟩ := hok
          exact ⟨q0, q1, q5, q6, q8, q9, q14, (by rw [hc61]; exact q44), trivial⟩
         ·skip
          refine gv_pureN 4 [41, 42, 43, 44] [(44, (.bool false))] (by kernel_rfl) ?_
          refine gv_sub [0, 1, 5, 6, 8, 9, 14, 44] (σ' := [(0, (.func (.func 64) #[] #[])), (1, (.string s15.1)), (5, (bp b1)), (6, (.int .i64 ((s15.2.2 : Nat) : Int))), (8, (.int .i32 r29)), (9, (.int .i64 r51.2)), (14, (bp b7)), (44, (.bool false))]) (by kernel_rfl) ?_
          refine gv_nil <| gv_sub [0, 1, 5, 6, 8, 9, 14, 44] (σ' := [(0, (.func (.func 64) #[] #[])), (1, (.string s15.1)), (5, (bp b1)), (6, (.int .i64 ((s15.2.2 : Nat) : Int))), (8, (.int .i32 r29)), (9, (.int .i64 r51.2)), (14, (bp b7)), (44, (.bool false))]) (by kernel_rfl) ?_
          refine gv_goal fun a hd hs hok => ⟨rfl, hd, hs, ?_⟩
          obtain ⟨q0, q1, q5, q6, q8, q9, q14, q44, _⟩ := hok
          exact ⟨q0, q1, q5, q6, q8, q9, q14, (by rw [hc61]; exact q44), trivial⟩
        ·rintro a w60 ⟨e, hd, hs, hok⟩; subst e
         refine gv_in ?_ hd hs hok
         clear hd hs hok
         refine gv_cond (b := ((r51.2 != 1) && (r29 == r51.1))) (by kernel_rfl) (fun hc62 => ?_) (fun hc62 => ?_)
         ·replace h3 := ite_t hc62 h3
          refine gv_cexit <| gv_exit rfl ?_
          have e := sj h3; subst e
          replace h2 := cont_inr h2
          have e := sj h2; subst e
          refine gv_goal fun a hd hs hok => ?_
          have hB63 := bg hB56 hg58 nb
          have hz64 := (nt (nt (nt hz21 hg26.size) hg32.size) hg58.size)
          have lt65 := ltl ((ltBld (bld_new (e := 5) hb4)) _ rfl) ((lowb hbe11) _ rfl)
          have hg66 := (grown_trans hg32 hg58)
          have hk67 := (hb22.grown hg26 (bld_at hb23 (ng lt65))).grown hg66 nb
          have hk68 := hb27.grown hg66 nb
          exact ⟨(s15.1, s15.2.1, (s15.2.2 + runeN s_1 s15.2.2)), rfl, hB63, hz64, hk67, hk68, hd, hs, ok_pick [0, 1, 5, 14] hok (by kernel_rfl)⟩
         ·replace h3 := ite_f hc62 h3
          refine gv_skip ?_
          have e := sj h3; subst e
          refine gv_goal fun a hd hs hok => ?_
          have hB69 := bg hB56 hg58 nb
          have hz70 := hg58.size
          have lt71 := ltl ((ltBld (bld_new (e := 5) hb4)) _ rfl) ((lowb hbe11) _ rfl)
          have hg72 := (grown_trans hg32 hg58)
          have hk73 := (hb22.grown hg26 (bld_at hb23 (ng lt71))).grown hg72 nb
          exact ⟨r51.2, rfl, hB69, hz70, hk73, hd, hs, ok_pick [0, 1, 5, 6, 8, 9] hok (by kernel_rfl)⟩
       ·replace h3 := ite_f hc48 h3
        refine gv_region <| gv_pureN 1 [45] [(45, (.int .i32 (runeI s_1 s15.2.2)))] (by kernel_rfl) ?_
        refine bindE h3 ?_; clear h3; intro r74 hr75 h3
        refine gv_call0 (by kernel_rfl) rfl (by kernel_rfl) enters113 (utf8_RuneLen_ok fuel (runeI s_1 s15.2.2) w31  r74 hr75) ?_
        rintro v78 w76 ⟨hg77, rfl⟩
        refine gv_pureN 1 [9] [(9, (.int .i64 r74))] (by kernel_rfl) ?_
        refine gv_nil ?_
        have e := sj h3; subst e
        refine gv_goal fun a hd hs hok => ?_
        have hB79 := bg hB0 hg3 nb
        have hlo80 : w0.heap.size ≤ b7 := lob hbe11 hB79.size
        have hB81 := bg hB20 hg26 (rowlo hlo80)
        have hg82 := (grown_trans hg32 hg77)
        have hB83 := bg hB81 hg82 nb
        have hz84 := hg77.size
        have lt85 := ltl ((ltBld (bld_new (e := 5) hb4)) _ rfl) ((lowb hbe11) _ rfl)
        have hk86 := (hb22.grown hg26 (bld_at hb23 (ng lt85))).grown hg82 nb
        exact ⟨r74, rfl, hB83, hz84, hk86, hd, hs, ok_pick [0, 1, 5, 6, 8, 9] hok (by kernel_rfl)⟩
      ·rintro a w47 ⟨s46, e, hB87, hz88, hb89, hd, hs, hok⟩
       subst e
       refine gv_in ?_ hd hs hok
       clear hd hs hok
       replace h2 := cont_inl h2
       have hz90 := (nt (nt (nt hz21 hg26.size) hg32.size) hz88)
       clear hz88 hc36 hg32 hr30 hz28 hb27 hg26 hc24 hb23 hb22 hz21 hB20 hbe11 hb4 hg3
       refine gv_seq <| gv_region <| gv_pureN 3 [47, 48, 49] [(49, (.int .i64 (IntKind.i64.wrap (((ByteArray.size s15.1 : Nat) : Int) + 4))))] (by kernel_rfl) ?_
       refine bindE h2 ?_; clear h2; intro y91 hy92 h2
       refine gv_call0 (by kernel_rfl) rfl (by kernel_rfl) enters99 (builder_Grow hb89 hy92) ?_
       rintro v97 w93 ⟨rfl, hs94, hb96⟩
       have hlo99 : w0.heap.size ≤ b1 := lob hbe5 hB0.size
       have hB98 := below_belowB hB87 hs94 hlo99
       refine gv_nil <| gv_seq <| gv_region <| gv_pureN 2 [51, 52] [(51, (.string s15.1)), (52, (.int .i64 ((s15.2.2 : Nat) : Int)))] (by kernel_rfl) ?_
       refine bindE h2 ?_; clear h2; intro x100 hx101 h2
       refine gv_ssub (t := 9) (s := s15.1) (lo := none) (hi := (some (.int .i64 ((s15.2.2 : Nat) : Int)))) 0 ((s15.2.2 : Nat) : Int) x100 [] (fun e => by cases e) rfl rfl rfl (by kernel_rfl) (by kernel_rfl) Tryd.underlying9 (.inl ⟨rfl, rfl⟩) (.inr ⟨_, rfl⟩) hx101 rfl ?_
       refine bindE h2 ?_; clear h2; intro y102 hy103 h2
       refine gv_call0 (by kernel_rfl) rfl (by kernel_rfl) enters100 (builder_WriteString hb96 hy103) ?_
       rintro v108 w104 ⟨rfl, hs105, ho106, hb107⟩
       have hB109 := below_belowB hB98 hs105 hlo99
       have hz110 := (nt (nt hz90 hs94.size) hs105.size)
       clear ho106 hx101 hB98 hb96 hz90 hb89 hB87 hbe5
       refine gv_nil <| gv_seq <| gv_seq <| gv_region <| gv_pureN 2 [55, 56] [(56, (.bool (decide (r29 ≥ 0))))] (by kernel_rfl) ?_
       refine gv_nil <| bindE h2 ?_; clear h2; intro j111 h3 h2
       refine gv_cut_code (J := fun a w112 => Below w0.heap.size w0 w112 ∧ w104.heap.size ≤ w112.heap.size ∧ Bld 114 5 w112 b1 j111 ∧ a.defers = [] ∧ a.tmps.size = 85 ∧ Ok [(0, (.func (.func 64) #[] #[])), (1, (.string s15.1)), (5, (bp b1)), (6, (.int .i64 ((s15.2.2 : Nat) : Int))), (9, (.int .i64 s46))] a.tmps) ?_ ?_
       ·skip
        refine gv_cond (b := (decide (r29 ≥ 0))) (by kernel_rfl) (fun hc113 => ?_) (fun hc113 => ?_)
        ·replace h3 := ite_t hc113 h3
         refine gv_region <| gv_pureN 1 [57] [(57, (.int .i32 r29))] (by kernel_rfl) ?_
         refine bindE h3 ?_; clear h3; intro y114 hy115 h3
         refine gv_call0 (by kernel_rfl) rfl (by kernel_rfl) enters114 (builder_WriteRune hb107 hy115) ?_
         rintro v120 w116 ⟨rfl, hs117, ho118, hb119⟩
         have hB121 := below_belowB hB109 hs117 hlo99
         refine gv_nil ?_
         have e := sj h3; subst e
         refine gv_goal fun a hd hs hok => ?_
         have hz122 := hs117.size
         exact ⟨hB121, hz122, hb119, hd, hs, ok_pick [0, 1, 5, 6, 9] hok (by kernel_rfl)⟩
        ·replace h3 := ite_f hc113 h3
         refine gv_skip ?_
         have e := sj h3; subst e
         refine gv_goal fun a hd hs hok => ?_
         exact ⟨hB109, (Nat.le_refl _), hb107, hd, hs, ok_pick [0, 1, 5, 6, 9] hok (by kernel_rfl)⟩
       ·rintro a w112 ⟨hB123, hz124, hb125, hd, hs, hok⟩
        refine gv_in ?_ hd hs hok
        clear hd hs hok
        have hz126 := (nt hz110 hz124)
        clear hz124 hz110 hB109 hb107
        refine gv_seq <| gv_region <| gv_pureN 4 [59, 60, 61, 62] [(59, (.string s15.1)), (62, (.int .i64 (IntKind.i64.wrap (((s15.2.2 : Nat) : Int) + s46))))] (by kernel_rfl) ?_
        refine bindE h2 ?_; clear h2; intro x127 hx128 h2
        refine gv_ssub (t := 9) (s := s15.1) (lo := (some (.int .i64 (IntKind.i64.wrap (((s15.2.2 : Nat) : Int) + s46))))) (hi := none) (IntKind.i64.wrap (((s15.2.2 : Nat) : Int) + s46)) ((ByteArray.size s15.1 : Nat) : Int) x127 [] (fun e => by cases e) rfl rfl rfl (by kernel_rfl) (by kernel_rfl) Tryd.underlying9 (.inr ⟨_, rfl⟩) (.inl ⟨rfl, rfl⟩) hx128 rfl ?_
        refine gv_pureN 1 [1] [(1, (.string x127))] (by kernel_rfl) ?_
        refine gv_nil <| gv_cexit <| gv_exit rfl ?_
        have e := sj h2; subst e
        replace h1 := congrArg some (hR2 _ rfl)
        have e := sj h1; subst e
        refine gv_goal fun a hd hs hok => ?_
        have hz129 := hz126
        exact ⟨hB123, hz129, hb125, hd, hs, ok_pick [0, 1, 5] hok (by kernel_rfl)⟩
   ·skip
    replace h2 := ite_f hc24 h2
    refine gv_pureN 1 [16] [(16, (.bool false))] (by kernel_rfl) ?_
    refine gv_nil <| gv_seq <| gv_cond (b := false) (by kernel_rfl) (fun hc => ?_) (fun hc => ?_)
    ·cases hc
    clear hc
    refine gv_cexit <| gv_exit rfl ?_
    have e := sj h2; subst e
    replace h1 := congrArg some (hR2 _ rfl)
    have e := sj h1; subst e
    refine gv_goal fun a hd hs hok => ?_
    have hz130 := hz21
    exact ⟨hB20, hz130, hb22, hd, hs, ok_pick [0, 1, 5] hok (by kernel_rfl)⟩
 ·rintro a w14 ⟨hB131, hz132, hb133, hd, hs, hok⟩
  refine gv_in ?_ hd hs hok
  clear hd hs hok
  clear hz132 hz12 hbe11 hb10 hg9 hz6 hb4 hg3
  refine gv_seq <| gv_seq <| gv_region <| gv_call0 (by kernel_rfl) rfl (by kernel_rfl) enters115 (builder_Cap hb133) ?_
  rintro v140 w136 ⟨c141, rfl, hc142, rfl⟩
  refine gv_pureN 1 [65] [(65, (.bool ((c141 : Int) == 0)))] (by kernel_rfl) ?_
  refine gv_nil <| gv_name (s := 65) (v := (.bool ((c141 : Int) == 0))) (v' := (.bool (Option.isNone j13.2))) (by kernel_rfl) (congrArg Value.bool hc142) ?_
  refine gv_sub [0, 1, 5, 65] (σ' := [(0, (.func (.func 64) #[] #[])), (1, (.string j13.1)), (5, (bp b1)), (65, (.bool (Option.isNone j13.2)))]) (by kernel_rfl) ?_
  refine gv_cond (b := (Option.isNone j13.2)) (by kernel_rfl) (fun hc143 => ?_) (fun hc143 => ?_)
  ·replace h0 := ite_t hc143 h0
   refine gv_seq <| gv_region <| gv_pureN 2 [4, 66] [(4, (.string j13.1))] (by kernel_rfl) ?_
   refine gv_nil <| gv_cret ?_
   have e := sj h0; subst e
   refine gv_ret (gv_done [(.string j13.1)] rfl ⟨(by kernel_rfl), trivial⟩ ?_)
   exact ⟨grown_of_below hB131, rfl⟩
  ·replace h0 := ite_f hc143 h0
   refine gv_skip <| gv_seq <| gv_seq <| gv_region <| gv_pureN 1 [67] [(67, (.string j13.1))] (by kernel_rfl) ?_
   refine gv_range (t := 9) (s := j13.1) (by kernel_rfl) (by kernel_rfl) Tryd.underlying9 ?_
   intro b144 w145 hg146 hb147 hbe148 hz149
   refine gv_nil <| bindE h0 ?_; clear h0; intro j150 h1 h0
   refine gv_cut_code (J := fun a w151 => Below w0.heap.size w0 w151 ∧ w145.heap.size ≤ w151.heap.size ∧ Bld 114 5 w151 b1 j150 ∧ a.defers = [] ∧ a.tmps.size = 85 ∧ Ok [(5, (bp b1))] a.tmps) ?_ ?_
   ·skip
    refine gv_block <| gv_loop (A := fun (s152 : ((Option (List UInt8)) × Nat)) a w153 => Below w0.heap.size w0 w153 ∧ w145.heap.size ≤ w153.heap.size ∧ Bld 114 5 w153 b1 s152.1 ∧ At w153 b144 (.stringIter j13.1 s152.2) ∧ a.defers = [] ∧ a.tmps.size = 85 ∧ Ok [(0, (.func (.func 64) #[] #[])), (5, (bp b1)), (68, (bp b144))] a.tmps) h1 ?_ ?_
    ·intro a hd hs hok
     have hB154 := bg hB131 hg146 nb
     have hk155 := hb133.grown hg146 nb
     exact ⟨hB154, (Nat.le_refl _), hk155, hb147, hd, hs, ok_pick [0, 5, 68] hok (by kernel_rfl)⟩
    ·rintro s152 r2 h2 hR2 a w153 ⟨hB156, hz157, hb158, hb159, hd, hs, hok⟩
     refine gv_in ?_ hd hs hok
     clear hd hs hok
     clear hz149 hb147 hg146 hc143
     refine gv_seq <| gv_region <| gv_next (b := b144) (s := j13.1) (pos := s152.2) (ty := 0) (by kernel_rfl) (by kernel_rfl) hb159 (fun hc160 => ?_) (fun hc160 => ?_)
     ·skip
      replace h2 := ite_t hc160 h2
      intro w161 hg162 hb163 hz164
      refine gv_pureN 1 [70] [(70, (.bool true))] (by kernel_rfl) ?_
      refine gv_nil <| gv_seq <| gv_cond (b := true) (by kernel_rfl) (fun hc => ?_) (fun hc => ?_)
      rotate_left; · cases hc
      clear hc
      refine gv_skip <| gv_block <| gv_seq <| gv_region <| gv_pureN 2 [11, 71] [(11, (.int .i32 (runeI j13.1 s152.2)))] (by kernel_rfl) ?_
      refine gv_nil <| gv_seq <| gv_region <| gv_pureN 2 [72, 73] [(72, (.func (.func 64) #[] #[])), (73, (.int .i32 (runeI j13.1 s152.2)))] (by kernel_rfl) ?_
      refine bindE h2 ?_; clear h2; intro r165 hr166 h2
      refine gv_call0 (by kernel_rfl) rfl (by kernel_rfl) enters64 (textstr_lower_ok fuel (runeI j13.1 s152.2) w161  r165 hr166) ?_
      rintro v169 w167 ⟨hg168, rfl⟩
      refine gv_pureN 1 [12] [(12, (.int .i32 r165))] (by kernel_rfl) ?_
      refine gv_nil <| gv_seq <| gv_region <| gv_pureN 2 [75, 76] [(76, (.bool (decide (r165 ≥ 0))))] (by kernel_rfl) ?_
      refine gv_nil <| bindE h2 ?_; clear h2; intro j170 h3 h2
      refine gv_cut_code (J := fun a w171 => Below w0.heap.size w0 w171 ∧ w167.heap.size ≤ w171.heap.size ∧ Bld 114 5 w171 b1 j170 ∧ At w171 b144 (.stringIter j13.1 (s152.2 + runeN j13.1 s152.2)) ∧ a.defers = [] ∧ a.tmps.size = 85 ∧ Ok [(0, (.func (.func 64) #[] #[])), (5, (bp b1)), (68, (bp b144))] a.tmps) ?_ ?_
      ·skip
       refine gv_cond (b := (decide (r165 ≥ 0))) (by kernel_rfl) (fun hc172 => ?_) (fun hc172 => ?_)
       ·replace h3 := ite_t hc172 h3
        refine gv_seq <| gv_region <| gv_pureN 2 [77, 78] [(78, (.bool (decide (r165 < 128))))] (by kernel_rfl) ?_
        refine gv_nil <| gv_cond (b := (decide (r165 < 128))) (by kernel_rfl) (fun hc173 => ?_) (fun hc173 => ?_)
        ·replace h3 := ite_t hc173 h3
         refine gv_region <| gv_pureN 2 [79, 80] [(80, (.int .u8 (IntKind.u8.wrap (r165))))] (by kernel_rfl) ?_
         refine bindE h3 ?_; clear h3; intro y174 hy175 h3
         have lt181 := ltl ((ltBld hb133) _ rfl) ((lowb hbe148) _ rfl)
         have hk182 := (hb158.grown hg162 (bld_at hb159 (ng lt181))).grown hg168 nb
         refine gv_call0 (by kernel_rfl) rfl (by kernel_rfl) enters116 (builder_WriteByte hk182 hy175) ?_
         rintro v180 w176 ⟨rfl, hs177, ho178, hb179⟩
         have hlo184 : w0.heap.size ≤ b144 := lob hbe148 hB131.size
         have hB185 := bg hB156 hg162 (rowlo hlo184)
         have hB186 := bg hB185 hg168 nb
         have hlo187 : w0.heap.size ≤ b1 := lob hbe5 hB0.size
         have hB183 := below_belowB hB186 hs177 hlo187
         have hk189 := hb163.grown hg168 nb
         have hk188 := hk189.others ho178 (ng lt181)
         refine gv_nil ?_
         have e := sj h3; subst e
         refine gv_goal fun a hd hs hok => ?_
         have hz190 := hs177.size
         exact ⟨hB183, hz190, hb179, hk188, hd, hs, ok_pick [0, 5, 68] hok (by kernel_rfl)⟩
        ·replace h3 := ite_f hc173 h3
         refine gv_region <| gv_pureN 1 [82] [(82, (.int .i32 r165))] (by kernel_rfl) ?_
         refine bindE h3 ?_; clear h3; intro y191 hy192 h3
         have lt198 := ltl ((ltBld hb133) _ rfl) ((lowb hbe148) _ rfl)
         have hk199 := (hb158.grown hg162 (bld_at hb159 (ng lt198))).grown hg168 nb
         refine gv_call0 (by kernel_rfl) rfl (by kernel_rfl) enters114 (builder_WriteRune hk199 hy192) ?_
         rintro v197 w193 ⟨rfl, hs194, ho195, hb196⟩
         have hlo201 : w0.heap.size ≤ b144 := lob hbe148 hB131.size
         have hB202 := bg hB156 hg162 (rowlo hlo201)
         have hB203 := bg hB202 hg168 nb
         have hlo204 : w0.heap.size ≤ b1 := lob hbe5 hB0.size
         have hB200 := below_belowB hB203 hs194 hlo204
         have hk206 := hb163.grown hg168 nb
         have hk205 := hk206.others ho195 (ng lt198)
         refine gv_nil ?_
         have e := sj h3; subst e
         refine gv_goal fun a hd hs hok => ?_
         have hz207 := hs194.size
         exact ⟨hB200, hz207, hb196, hk205, hd, hs, ok_pick [0, 5, 68] hok (by kernel_rfl)⟩
       ·replace h3 := ite_f hc172 h3
        refine gv_skip ?_
        have e := sj h3; subst e
        refine gv_goal fun a hd hs hok => ?_
        have hlo208 : w0.heap.size ≤ b144 := lob hbe148 hB131.size
        have hB209 := bg hB156 hg162 (rowlo hlo208)
        have hB210 := bg hB209 hg168 nb
        have lt211 := ltl ((ltBld hb133) _ rfl) ((lowb hbe148) _ rfl)
        have hk212 := (hb158.grown hg162 (bld_at hb159 (ng lt211))).grown hg168 nb
        have hk213 := hb163.grown hg168 nb
        exact ⟨hB210, (Nat.le_refl _), hk212, hk213, hd, hs, ok_pick [0, 5, 68] hok (by kernel_rfl)⟩
      ·rintro a w171 ⟨hB214, hz215, hb216, hb217, hd, hs, hok⟩
       refine gv_in ?_ hd hs hok
       clear hd hs hok
       have hz218 := (nt (nt (nt hz157 hg162.size) hg168.size) hz215)
       clear hz215 hg168 hr166 hz164 hb163 hg162 hc160 hb159 hb158 hz157 hB156
       refine gv_blk ?_
       have e := sj h2; subst e
       refine gv_goal fun a hd hs hok => ?_
       have hz219 := hz218
       exact ⟨(j170, (s152.2 + runeN j13.1 s152.2)), rfl, hB214, hz219, hb216, hb217, hd, hs, ok_pick [0, 5, 68] hok (by kernel_rfl)⟩
     ·skip
      replace h2 := ite_f hc160 h2
      refine gv_pureN 1 [70] [(70, (.bool false))] (by kernel_rfl) ?_
      refine gv_nil <| gv_seq <| gv_cond (b := false) (by kernel_rfl) (fun hc => ?_) (fun hc => ?_)
      ·cases hc
      clear hc
      refine gv_cexit <| gv_exit rfl ?_
      have e := sj h2; subst e
      replace h1 := congrArg some (hR2 _ rfl)
      have e := sj h1; subst e
      refine gv_goal fun a hd hs hok => ?_
      have hz220 := hz157
      exact ⟨hB156, hz220, hb158, hd, hs, ok_pick [5] hok (by kernel_rfl)⟩
   ·rintro a w151 ⟨hB221, hz222, hb223, hd, hs, hok⟩
    refine gv_in ?_ hd hs hok
    clear hd hs hok
    clear hz222 hz149 hbe148 hb147 hg146 hc143 hb133 hB131
    refine gv_seq <| gv_region <| bindE h0 ?_; clear h0; intro y224 hy225 h0
    refine gv_call0 (by kernel_rfl) rfl (by kernel_rfl) enters101 (builder_String hb223 hy225) ?_
    rintro v230 w226 ⟨rfl, hs227, ho228⟩
    have hlo232 : w0.heap.size ≤ b1 := lob hbe5 hB0.size
    have hB231 := below_belowB hB221 hs227 hlo232
    refine gv_pureN 1 [4] [(4, (.string y224))] (by kernel_rfl) ?_
    refine gv_nil <| gv_cret ?_
    have e := sj h0; subst e
    refine gv_ret (gv_done [(.string y224)] rfl ⟨(by kernel_rfl), trivial⟩ ?_)
    exact ⟨grown_of_below hB231, rfl⟩

theorem textstr_change_lower_ok (fuel : Nat) (s_0 : ByteArray) (w0 : World) (X0 : Nat → Prop) (hX0 : ∀ k, X0 k → k < w0.heap.size) (hG1 : Rd bE w0 X0 (some ⟨1, 0, none⟩) 256 utf8First) (hG2 : Rd (prE (iE .u8) (iE .u8)) w0 X0 (some ⟨2, 0, none⟩) 16 utf8Acc) (r0 : (ByteArray × (Int × Int))) (h0 : textstr_change_lower fuel s_0 = some r0) :
    Calls Tryd.prog 62 ([(.string s_0), (.func (.func 64) #[] #[])] : List Value).toArray w0 (Ret fun v w' => w0.grownBy w' none ∧ v = tup [(.string r0.1), (.agg #[(.int .i64 r0.2.1), (.int .i64 r0.2.2)])]) := by
 have hB0 : Below w0.heap.size w0 w0 := Below.refl _ _
 unfold textstr_change_lower at h0
 refine calls_run Tryd.func62 rfl Tryd.ntmps62 (by kernel_rfl) ?_
 refine gv_sub [0, 1] (σ' := [(0, (.string s_0)), (1, (.func (.func 64) #[] #[]))]) (by kernel_rfl) ?_
 refine gv_seq <| gv_region <| gv_pureN 1 [4] [] (by kernel_rfl) ?_
 refine gv_new0 (fun b => .pointer (some ⟨b, 0, none⟩)) #[(.int .i64 0), (.int .i64 0)] 24 (by kernel_rfl) (by kernel_rfl) ?_
 intro b1 w2 hg3 hb4 hbe5 hz6
 refine gv_nil <| gv_seq <| gv_seq <| gv_region <| gv_pureN 1 [7] [(7, (.string s_0))] (by kernel_rfl) ?_
 refine gv_new0 (fun b => .slice (some ⟨b, 0, none⟩) 1 1) #[(.string s_0)] 9 (by kernel_rfl) (by kernel_rfl) ?_
 intro b7 w8 hg9 hb10 hbe11 hz12
 have ho13 : Gv.Own sE 9 w8 (fun _ => False) (some ⟨b7, 0, none⟩) 1 ([s_0] : List ByteArray) := Box.ownE hb10 ⟨[(.string s_0)], [], rfl, rfl, rfl⟩ (show 1 ≤ maxLen by decide) (fun h => h)
 have hB18 := bg hB0 hg3 nb
 have hl14 : ∀ g, blk (some ⟨b7, 0, none⟩) = some g → w0.heap.size ≤ g := loo hbe11 hB18.size
 refine bindE h0 ?_; clear h0; intro r19 hr20 h0
 have hB21 := bg hB18 hg9 nb
 refine gv_call0 (by kernel_rfl) rfl (by kernel_rfl) enters58 (textstr_check_ok fuel (some ⟨b7, 0, none⟩) 1 ([s_0] : List ByteArray) w8 (fun k => (fun k => blk (some ⟨b7, 0, none⟩) = some k) k ∨ X0 k ∨ X0 k) (fun k hk => (hk).elim (fun h => (fun k (hk : blk (some ⟨b7, 0, none⟩) = some k) => ho13.lt k hk) k h) (fun h => (h).elim (fun h => (fun k (hk : X0 k) => ltl (hX0 k hk) hB21.size) k h) (fun h => (fun k (hk : X0 k) => ltl (hX0 k hk) hB21.size) k h))) ((ho13.rd (Y := fun k => blk (some ⟨b7, 0, none⟩) = some k) (fun _ h => h.elim) (fun g e => e)).wide (fun k hk => (.inl hk))) ((hG1.below hB21 hX0).wide (fun k hk => (.inr (.inl hk)))) ((hG2.below hB21 hX0).wide (fun k hk => (.inr (.inr hk)))) r19 hr20) ?_
 rintro v24 w22 ⟨hg23, rfl⟩
 refine gv_new0 (fun b => .pointer (some ⟨b, 0, none⟩)) #[(.int .i64 0), (.int .i64 0)] 24 (by kernel_rfl) (by kernel_rfl) ?_
 intro b25 w26 hg27 hb28 hbe29 hz30
 refine gv_store0 24 0 (.agg #[(.int .i64 r19.1), (.int .i64 r19.2)]) #[(.int .i64 r19.1), (.int .i64 r19.2)] hb28 (by kernel_rfl) (by kernel_rfl) (by kernel_rfl) ?_
 intro w31 hg32 hb33 hz34
 refine gv_nil <| gv_seq <| gv_region <| gv_pureN 1 [10] [(10, (bp b25))] (by kernel_rfl) ?_
 refine gv_load (t := 3) (A := ⟨b25, 0, none⟩) (.int .i64 r19.1) [] (fun e => by cases e) rfl rfl rfl (by kernel_rfl) (by kernel_rfl) (by kernel_rfl) (inw0 (hb33.cell 0 rfl)) rfl ?_
 refine gv_pureN 1 [12] [(12, (.bool (r19.1 != 0)))] (by kernel_rfl) ?_
 refine gv_nil <| gv_cond (b := (r19.1 != 0)) (by kernel_rfl) (fun hc35 => ?_) (fun hc35 => ?_)
 ·replace h0 := ite_t hc35 h0
  refine gv_seq <| gv_drawA (by kernel_rfl) ?_
  intro w36 hg37
  refine gv_pre [1] (bA 3 [1]) 2 (by kernel_rfl) (by kernel_rfl) ?_
  refine gv_pureN 1 [4] [(4, (.string (strOf [])))] (by kernel_rfl) ?_
  refine gv_nil <| gv_goA ?_
  refine gv_stage (Cls w36 []) [0, 1] [(0, some true)] (bA 3 [0, 1]) 1 (by kernel_rfl) (by kernel_rfl) (Cls.refl _ _) ?_
  have hC38 := Cls.refl w36 []
  have hk39 := hb33.grown hg37 nb
  refine gv_loadBox (t := 24) (b := b25) (t' := 24) (fr := (0, 0)) #[(.int .i64 r19.1), (.int .i64 r19.2)] [] (fun e => by cases e) rfl rfl rfl (by kernel_rfl) (by kernel_rfl) (by kernel_rfl) (by kernel_rfl) (inw1 fun w' hC' => (hC'.box hk39 nm_nil)) rfl ?_
  refine gv_nil <| gv_goA ?_
  refine gv_stage (fun _ => True) [0, 1, 2] [(2, some false)] (bA 3 [0, 1, 2]) 0 (by kernel_rfl) (by kernel_rfl) trivial ?_
  have hg44 := (grown_trans (grown_trans hg9 hg23) hg27)
  have hg45 := (grown_trans hg9 hg23)
  have hk46 := hb4.grown hg45 nb
  have lt47 := ltl ((ltb hk46) _ rfl) ((lowb hbe29) _ rfl)
  have hk48 := ((hb4.grown hg44 nb).grown hg32 (rowne (ng lt47))).grown hg37 nb
  refine gv_store (t := 24) (b := b1) (off := 0) (v := (.agg #[(.int .i64 r19.1), (.int .i64 r19.2)])) (t' := 24) (cs := #[(.int .i64 0), (.int .i64 0)]) #[(.int .i64 r19.1), (.int .i64 r19.2)] (by decide) rfl rfl (by kernel_rfl) (by kernel_rfl) (by kernel_rfl) (by intro u hu; simp [Value.cells] at hu; rcases hu with rfl | rfl <;> rfl) (show 0 + 2 ≤ 2 by decide) (by rfl) hk48 ?_
  intro w40 hg41 hb42 hz43
  refine ⟨(fun _ => trivial), ?_⟩
  refine gv_nil <| gv_goA ?_
  refine gv_stageE (by kernel_rfl) ?_
  refine gv_cret ?_
  have e := sj h0; subst e
  refine gv_ret (gv_done [(.string (strOf [])), (.agg #[(.int .i64 r19.1), (.int .i64 r19.2)])] rfl ⟨(by kernel_rfl), ⟨⟨b1, 0, none⟩, (by kernel_rfl), run_loadVar_row w40 b1 _ 24 _ _ _ hb42 Tryd.underlying24 rfl (by kernel_rfl)⟩, trivial⟩ ?_)
  have hg49 := (grown_trans hg23 hg27)
  have hB50 := bg hB21 hg49 nb
  have hB51 := bg hB21 hg23 nb
  have hlo52 : w0.heap.size ≤ b25 := lob hbe29 hB51.size
  have hB53 := bg hB50 hg32 (rowlo hlo52)
  have hB54 := bg hB53 hg37 nb
  have hlo55 : w0.heap.size ≤ b1 := lob hbe5 hB0.size
  have hB56 := bg hB54 hg41 (rowlo hlo55)
  exact ⟨grown_of_below hB56, rfl⟩
 ·replace h0 := ite_f hc35 h0
  refine gv_skip <| gv_seq <| gv_region <| gv_pureN 2 [14, 15] [(14, (.func (.func 64) #[] #[])), (15, (.string s_0))] (by kernel_rfl) ?_
  refine bindE h0 ?_; clear h0; intro r57 hr58 h0
  have hg59 := (grown_trans hg23 hg27)
  have hB60 := bg hB21 hg59 nb
  have hB61 := bg hB21 hg23 nb
  have hlo62 : w0.heap.size ≤ b25 := lob hbe29 hB61.size
  have hB63 := bg hB60 hg32 (rowlo hlo62)
  refine gv_call0 (by kernel_rfl) rfl (by kernel_rfl) enters90 (strings_Map_lower_ok fuel s_0 w31 (fun k => X0 k ∨ X0 k) (fun k hk => (hk).elim (fun h => (fun k (hk : X0 k) => ltl (hX0 k hk) hB63.size) k h) (fun h => (fun k (hk : X0 k) => ltl (hX0 k hk) hB63.size) k h)) ((hG1.below hB63 hX0).wide (fun k hk => (.inl hk))) ((hG2.below hB63 hX0).wide (fun k hk => (.inr hk))) r57 hr58) ?_
  rintro v66 w64 ⟨hg65, rfl⟩
  clear hlo62 hB61 hB60 hg59 hr58 hc35 hz34 hb33 hz30 hb28 hB21 hr20 hl14 hB18 ho13 hz12 hbe11 hb10 hz6 hg3
  refine gv_pureN 2 [4, 17] [(4, (.string r57)), (17, (.agg #[(.int .i64 0), (.int .i64 0)]))] (by kernel_rfl) ?_
  have hg71 := (grown_trans (grown_trans hg9 hg23) hg27)
  have hg72 := (grown_trans hg9 hg23)
  have hk73 := hb4.grown hg72 nb
  have lt74 := ltl ((ltb hk73) _ rfl) ((lowb hbe29) _ rfl)
  have hk75 := ((hb4.grown hg71 nb).grown hg32 (rowne (ng lt74))).grown hg65 nb
  refine gv_store0 24 0 (.agg #[(.int .i64 0), (.int .i64 0)]) #[(.int .i64 0), (.int .i64 0)] hk75 (by kernel_rfl) (by kernel_rfl) (by kernel_rfl) ?_
  intro w67 hg68 hb69 hz70
  refine gv_nil <| gv_cret ?_
  have e := sj h0; subst e
  refine gv_ret (gv_done [(.string r57), (.agg #[(.int .i64 0), (.int .i64 0)])] rfl ⟨(by kernel_rfl), ⟨⟨b1, 0, none⟩, (by kernel_rfl), run_loadVar_row w67 b1 _ 24 _ _ _ hb69 Tryd.underlying24 rfl (by kernel_rfl)⟩, trivial⟩ ?_)
  have hB76 := bg hB63 hg65 nb
  have hlo77 : w0.heap.size ≤ b1 := lob hbe5 hB0.size
  have hB78 := bg hB76 hg68 (rowlo hlo77)
  exact ⟨grown_of_below hB78, rfl⟩

theorem textstr_ToLower_ok (fuel : Nat) (s_0 : ByteArray) (w0 : World) (X0 : Nat → Prop) (hX0 : ∀ k, X0 k → k < w0.heap.size) (hG1 : Rd bE w0 X0 (some ⟨1, 0, none⟩) 256 utf8First) (hG2 : Rd (prE (iE .u8) (iE .u8)) w0 X0 (some ⟨2, 0, none⟩) 16 utf8Acc) (r0 : (ByteArray × (Int × Int))) (h0 : textstr_ToLower fuel s_0 = some r0) :
    Calls Tryd.prog 20 ([(.string s_0)] : List Value).toArray w0 (Ret fun v w' => w0.grownBy w' none ∧ v = tup [(.string r0.1), (.agg #[(.int .i64 r0.2.1), (.int .i64 r0.2.2)])]) := by
 have hB0 : Below w0.heap.size w0 w0 := Below.refl _ _
 unfold textstr_ToLower at h0
 refine calls_run Tryd.func20 rfl Tryd.ntmps20 (by kernel_rfl) ?_
 refine gv_sub [0] (σ' := [(0, (.string s_0))]) (by kernel_rfl) ?_
 refine gv_seq <| gv_region <| gv_pureN 1 [2] [] (by kernel_rfl) ?_
 refine gv_new0 (fun b => .pointer (some ⟨b, 0, none⟩)) #[(.int .i64 0), (.int .i64 0)] 24 (by kernel_rfl) (by kernel_rfl) ?_
 intro b1 w2 hg3 hb4 hbe5 hz6
 refine gv_nil <| gv_seq <| gv_region <| gv_pureN 1 [4] [(4, (.string s_0))] (by kernel_rfl) ?_
 refine bindE h0 ?_; clear h0; intro r7 hr8 h0
 have hB9 := bg hB0 hg3 nb
 refine gv_call0 (by kernel_rfl) rfl (by kernel_rfl) enters62 (textstr_change_lower_ok fuel s_0 w2 (fun k => X0 k ∨ X0 k) (fun k hk => (hk).elim (fun h => (fun k (hk : X0 k) => ltl (hX0 k hk) hB9.size) k h) (fun h => (fun k (hk : X0 k) => ltl (hX0 k hk) hB9.size) k h)) ((hG1.below hB9 hX0).wide (fun k hk => (.inl hk))) ((hG2.below hB9 hX0).wide (fun k hk => (.inr hk))) r7 hr8) ?_
 rintro v12 w10 ⟨hg11, rfl⟩
 refine gv_pureN 3 [2, 6, 7] [(2, (.string r7.1)), (7, (.agg #[(.int .i64 r7.2.1), (.int .i64 r7.2.2)]))] (by kernel_rfl) ?_
 have hk17 := hb4.grown hg11 nb
 refine gv_store0 24 0 (.agg #[(.int .i64 r7.2.1), (.int .i64 r7.2.2)]) #[(.int .i64 r7.2.1), (.int .i64 r7.2.2)] hk17 (by kernel_rfl) (by kernel_rfl) (by kernel_rfl) ?_
 intro w13 hg14 hb15 hz16
 refine gv_nil <| gv_cret ?_
 have e := sj h0; subst e
 refine gv_ret (gv_done [(.string r7.1), (.agg #[(.int .i64 r7.2.1), (.int .i64 r7.2.2)])] rfl ⟨(by kernel_rfl), ⟨⟨b1, 0, none⟩, (by kernel_rfl), run_loadVar_row w13 b1 _ 24 _ _ _ hb15 Tryd.underlying24 rfl (by kernel_rfl)⟩, trivial⟩ ?_)
 have hB18 := bg hB9 hg11 nb
 have hlo19 : w0.heap.size ≤ b1 := lob hbe5 hB0.size
 have hB20 := bg hB18 hg14 (rowlo hlo19)
 exact ⟨grown_of_below hB20, rfl⟩

theorem ref4_behind_ok (fuel : Nat) (pa0_0 : Option Addr) (pc0_0 : Nat) (s_0 : (List UInt8)) (i_1 : Int) (w0 : World) (X0 : Nat → Prop) (hX0 : ∀ k, X0 k → k < w0.heap.size) (hpa0_0 : Rd bE w0 X0 pa0_0 pc0_0 s_0) (r0 : Int) (h0 : ref4_behind fuel s_0 i_1 = some r0) :
    Calls Tryd.prog 92 ([(.slice pa0_0 (List.length s_0) pc0_0), (.int .i64 i_1)] : List Value).toArray w0 (Ret fun v w' => w0.grownBy w' none ∧ v = tup [(.int .i64 r0)]) := by
 have hB0 : Below w0.heap.size w0 w0 := Below.refl _ _
 unfold ref4_behind at h0
 refine calls_run Tryd.func92 rfl Tryd.ntmps92 (by kernel_rfl) ?_
 refine gv_sub [0, 1] (σ' := [(0, (.slice pa0_0 (List.length s_0) pc0_0)), (1, (.int .i64 i_1))]) (by kernel_rfl) ?_
 refine gv_seq <| gv_region <| gv_pureN 1 [4] [] (by kernel_rfl) ?_
 refine gv_nil <| gv_seq <| gv_seq <| gv_region <| bindE h0 ?_; clear h0; intro j1 h1 h0
 refine gv_cut_ops (J := fun a w2 => Below w0.heap.size w0 w2 ∧ w0.heap.size ≤ w2.heap.size ∧ a.defers = [] ∧ a.tmps.size = 29 ∧ Ok [(0, (.slice pa0_0 (List.length s_0) pc0_0)), (1, (.int .i64 i_1)), (22, (.bool j1))] a.tmps) ?_ ?_
 ·skip
  refine gv_pureN 5 [5, 6, 7, 8, 9] [(9, (.bool (decide (i_1 < ((List.length s_0 : Nat) : Int)))))] (by kernel_rfl) ?_
  refine gv_split (s := 9) (g := (decide (i_1 < ((List.length s_0 : Nat) : Int)))) (by kernel_rfl) (fun hc3 => ?_) (fun hc3 => ?_)
  ·skip
   replace h1 := ite_t hc3 h1
   refine gv_pureN 2 [10, 11] [(10, (.slice pa0_0 (List.length s_0) pc0_0)), (11, (.int .i64 i_1))] (by kernel_rfl) ?_
   refine bindE h1 ?_; clear h1; intro x4 hx5 h1
   refine gv_idxaddr (t := 82) (e := 5) (a := pa0_0) (len := List.length s_0) (cap := pc0_0) (kk := .i64) (i := i_1) (sz := 1) [] (fun e => by cases e) rfl rfl rfl (by kernel_rfl) (by kernel_rfl) Tryd.underlying82 (by kernel_rfl) ((hpa0_0.below hB0 hX0).has hx5) (idx_spec hx5).1 (idx_spec hx5).2.1 rfl ?_
   refine gv_load (t := 5) (A := (elemAddr pa0_0 ((i_1 : Int).toNat * 1))) (.int .u8 ((x4).toNat : Int)) [] (fun e => by cases e) rfl rfl rfl (by kernel_rfl) (by kernel_rfl) (by kernel_rfl) (inw0 ((hpa0_0.below hB0 hX0).cell hx5)) rfl ?_
   refine gv_pureN 3 [14, 15, 16] [(16, (.bool (decide (((x4).toNat : Int) ≥ 128))))] (by kernel_rfl) ?_
   refine gv_split (s := 16) (g := (decide (((x4).toNat : Int) ≥ 128))) (by kernel_rfl) (fun hc6 => ?_) (fun hc6 => ?_)
   ·skip
    replace h1 := ite_t hc6 h1
    refine gv_pureN 2 [17, 18] [(17, (.slice pa0_0 (List.length s_0) pc0_0)), (18, (.int .i64 i_1))] (by kernel_rfl) ?_
    refine bindE h1 ?_; clear h1; intro x7 hx8 h1
    refine gv_idxaddr (t := 82) (e := 5) (a := pa0_0) (len := List.length s_0) (cap := pc0_0) (kk := .i64) (i := i_1) (sz := 1) [] (fun e => by cases e) rfl rfl rfl (by kernel_rfl) (by kernel_rfl) Tryd.underlying82 (by kernel_rfl) ((hpa0_0.below hB0 hX0).has hx8) (idx_spec hx8).1 (idx_spec hx8).2.1 rfl ?_
    refine gv_load (t := 5) (A := (elemAddr pa0_0 ((i_1 : Int).toNat * 1))) (.int .u8 ((x7).toNat : Int)) [] (fun e => by cases e) rfl rfl rfl (by kernel_rfl) (by kernel_rfl) (by kernel_rfl) (inw0 ((hpa0_0.below hB0 hX0).cell hx8)) rfl ?_
    refine gv_pureN 2 [21, 22] [(22, (.bool (decide (((x7).toNat : Int) < 192))))] (by kernel_rfl) ?_
    refine gv_nil ?_
    have e := sj h1; subst e
    refine gv_goal fun a hd hs hok => ?_
    exact ⟨hB0, (Nat.le_refl _), hd, hs, ok_pick [0, 1, 22] hok (by kernel_rfl)⟩
   ·skip
    replace h1 := ite_f hc6 h1
    refine gv_pureN 6 [17, 18, 19, 20, 21, 22] [(22, (.bool false))] (by kernel_rfl) ?_
    refine gv_nil ?_
    have e := sj h1; subst e
    refine gv_goal fun a hd hs hok => ?_
    exact ⟨hB0, (Nat.le_refl _), hd, hs, ok_pick [0, 1, 22] hok (by kernel_rfl)⟩
  ·skip
   replace h1 := ite_f hc3 h1
   refine gv_pureN 13 [10, 11, 12, 13, 14, 15, 16, 17, 18, 19, 20, 21, 22] [(22, (.bool false))] (by kernel_rfl) ?_
   refine gv_nil ?_
   have e := sj h1; subst e
   refine gv_goal fun a hd hs hok => ?_
   exact ⟨hB0, (Nat.le_refl _), hd, hs, ok_pick [0, 1, 22] hok (by kernel_rfl)⟩
 ·rintro a w2 ⟨hB9, hz10, hd, hs, hok⟩
  refine gv_in ?_ hd hs hok
  clear hd hs hok
  refine gv_cond (b := j1) (by kernel_rfl) (fun hc11 => ?_) (fun hc11 => ?_)
  ·replace h0 := ite_t hc11 h0
   refine gv_seq <| gv_region <| gv_pureN 2 [23, 24] [(23, (.slice pa0_0 (List.length s_0) pc0_0)), (24, (.int .i64 i_1))] (by kernel_rfl) ?_
   refine bindE h0 ?_; clear h0; intro x12 hx13 h0
   refine gv_idxaddr (t := 82) (e := 5) (a := pa0_0) (len := List.length s_0) (cap := pc0_0) (kk := .i64) (i := i_1) (sz := 1) [] (fun e => by cases e) rfl rfl rfl (by kernel_rfl) (by kernel_rfl) Tryd.underlying82 (by kernel_rfl) ((hpa0_0.below hB9 hX0).has hx13) (idx_spec hx13).1 (idx_spec hx13).2.1 rfl ?_
   refine gv_load (t := 5) (A := (elemAddr pa0_0 ((i_1 : Int).toNat * 1))) (.int .u8 ((x12).toNat : Int)) [] (fun e => by cases e) rfl rfl rfl (by kernel_rfl) (by kernel_rfl) (by kernel_rfl) (inw0 ((hpa0_0.below hB9 hX0).cell hx13)) rfl ?_
   refine gv_pureN 3 [4, 27, 28] [(4, (.int .i64 (IntKind.i64.wrap ((IntKind.i64.wrap (((x12).toNat : Int))) - 128))))] (by kernel_rfl) ?_
   refine bindE h0 ?_; clear h0; intro n14 hn15 h0
   refine gv_name (s := 4) (v := (.int .i64 (IntKind.i64.wrap ((IntKind.i64.wrap (((x12).toNat : Int))) - 128)))) (v' := (.int .i64 n14)) (by kernel_rfl) (congrArg (Value.int .i64) (sj hn15)) ?_
   refine gv_nil <| gv_cret ?_
   have e := sj h0; subst e
   refine gv_ret (gv_done [(.int .i64 n14)] rfl ⟨(by kernel_rfl), trivial⟩ ?_)
   exact ⟨grown_of_below hB9, rfl⟩
  ·replace h0 := ite_f hc11 h0
   refine gv_skip <| gv_seq <| gv_region <| gv_pureN 1 [4] [(4, (.int .i64 (-1)))] (by kernel_rfl) ?_
   refine gv_nil <| gv_cret ?_
   have e := sj h0; subst e
   refine gv_ret (gv_done [(.int .i64 (-1))] rfl ⟨(by kernel_rfl), trivial⟩ ?_)
   exact ⟨grown_of_below hB9, rfl⟩

theorem ref4_unit_ok (fuel : Nat) (pa0_0 : Option Addr) (pc0_0 : Nat) (s_0 : (List UInt8)) (at_1 : Int) (w0 : World) (X0 : Nat → Prop) (hX0 : ∀ k, X0 k → k < w0.heap.size) (hpa0_0 : Rd bE w0 X0 pa0_0 pc0_0 s_0) (r0 : (Int × Int)) (h0 : ref4_unit fuel s_0 at_1 = some r0) :
    Calls Tryd.prog 67 ([(.slice pa0_0 (List.length s_0) pc0_0), (.int .i64 at_1)] : List Value).toArray w0 (Ret fun v w' => w0.grownBy w' none ∧ v = tup [(.int .i64 r0.1), (.int .i64 r0.2)]) := by
 have hB0 : Below w0.heap.size w0 w0 := Below.refl _ _
 unfold ref4_unit at h0
 refine calls_run Tryd.func67 rfl Tryd.ntmps67 (by kernel_rfl) ?_
 refine gv_sub [0, 1] (σ' := [(0, (.slice pa0_0 (List.length s_0) pc0_0)), (1, (.int .i64 at_1))]) (by kernel_rfl) ?_
 refine gv_seq <| gv_region <| gv_pureN 2 [4, 5] [] (by kernel_rfl) ?_
 refine gv_nil <| gv_seq <| gv_drawA (by kernel_rfl) ?_
 intro w1 hg2
 refine gv_pre [0, 1, 2, 5, 6, 7, 9, 10, 11, 13, 14, 15] (bA 21 [0, 1, 2, 5, 6, 7, 9, 10, 11, 13, 14, 15]) 9 (by kernel_rfl) (by kernel_rfl) ?_
 refine gv_pureN 2 [12, 13] [(12, (.slice pa0_0 (List.length s_0) pc0_0)), (13, (.int .i64 at_1))] (by kernel_rfl) ?_
 refine bindE h0 ?_; clear h0; intro x3 hx4 h0
 have hB5 := bg hB0 hg2 nb
 refine gv_idxaddr (t := 82) (e := 5) (a := pa0_0) (len := List.length s_0) (cap := pc0_0) (kk := .i64) (i := at_1) (sz := 1) [] (fun e => by cases e) rfl rfl rfl (by kernel_rfl) (by kernel_rfl) Tryd.underlying82 (by kernel_rfl) ((hpa0_0.below hB5 hX0).has hx4) (idx_spec hx4).1 (idx_spec hx4).2.1 rfl ?_
 refine gv_pureN 9 [17, 18, 19, 21, 22, 23, 25, 26, 27] [(17, (.slice pa0_0 (List.length s_0) pc0_0)), (19, (.int .i64 (IntKind.i64.wrap (at_1 + 1)))), (21, (.slice pa0_0 (List.length s_0) pc0_0)), (23, (.int .i64 (IntKind.i64.wrap (at_1 + 2)))), (25, (.slice pa0_0 (List.length s_0) pc0_0)), (27, (.int .i64 (IntKind.i64.wrap (at_1 + 3))))] (by kernel_rfl) ?_
 refine gv_nil <| gv_goA ?_
 refine gv_stage (Cls w1 []) [0, 1, 2, 3, 4, 5, 6, 7, 8, 9, 10, 11, 12, 13, 14, 15, 16] [(3, some true), (4, some true), (8, some false), (12, some false), (16, some false)] (bA 21 [0, 1, 2, 3, 4, 5, 6, 7, 8, 9, 10, 11, 12, 13, 14, 15, 16]) 4 (by kernel_rfl) (by kernel_rfl) (Cls.refl _ _) ?_
 have hC6 := Cls.refl w1 []
 refine gv_load (t := 5) (A := (elemAddr pa0_0 ((at_1 : Int).toNat * 1))) (.int .u8 ((x3).toNat : Int)) [] (fun e => by cases e) rfl rfl rfl (by kernel_rfl) (by kernel_rfl) (by kernel_rfl) (inw1 fun w' hC' => ((hC'.rd (hpa0_0.below hB5 hX0) (fun k (hk : X0 k) => ltl (hX0 k hk) hB5.size) nmx_nil).cell hx4)) rfl ?_
 refine gv_pureN 1 [16] [(16, (.int .i64 (IntKind.i64.wrap (((x3).toNat : Int)))))] (by kernel_rfl) ?_
 refine bindE h0 ?_; clear h0; intro r7 hr8 h0
 refine gv_call (f := 92) (vs := [(.slice pa0_0 (List.length s_0) pc0_0), (.int .i64 (IntKind.i64.wrap (at_1 + 1)))]) (cap := []) _ (by decide) rfl rfl rfl (by kernel_rfl) (by kernel_rfl) enters92 (ref4_behind_ok fuel pa0_0 pc0_0 s_0 (IntKind.i64.wrap (at_1 + 1)) w1 (fun k => X0 k) (fun k hk => (fun k (hk : X0 k) => ltl (hX0 k hk) hB5.size) k hk) ((hpa0_0.below hB5 hX0).wide (fun k hk => hk)) r7 hr8) ?_
 rintro v11 w9 ⟨hg10, rfl⟩
 refine ⟨(fun _ => hC6.grown hg10 nb), ?_⟩
 refine bindE h0 ?_; clear h0; intro r12 hr13 h0
 have hB14 := bg hB5 hg10 nb
 refine gv_call (f := 92) (vs := [(.slice pa0_0 (List.length s_0) pc0_0), (.int .i64 (IntKind.i64.wrap (at_1 + 2)))]) (cap := []) _ (by decide) rfl rfl rfl (by kernel_rfl) (by kernel_rfl) enters92 (ref4_behind_ok fuel pa0_0 pc0_0 s_0 (IntKind.i64.wrap (at_1 + 2)) w9 (fun k => X0 k) (fun k hk => (fun k (hk : X0 k) => ltl (hX0 k hk) hB14.size) k hk) ((hpa0_0.below hB14 hX0).wide (fun k hk => hk)) r12 hr13) ?_
 rintro v17 w15 ⟨hg16, rfl⟩
 have hC18 := hC6.grown hg10 nb
 refine ⟨(fun _ => hC18.grown hg16 nb), ?_⟩
 refine bindE h0 ?_; clear h0; intro r19 hr20 h0
 have hB21 := bg hB14 hg16 nb
 refine gv_call (f := 92) (vs := [(.slice pa0_0 (List.length s_0) pc0_0), (.int .i64 (IntKind.i64.wrap (at_1 + 3)))]) (cap := []) _ (by decide) rfl rfl rfl (by kernel_rfl) (by kernel_rfl) enters92 (ref4_behind_ok fuel pa0_0 pc0_0 s_0 (IntKind.i64.wrap (at_1 + 3)) w15 (fun k => X0 k) (fun k hk => (fun k (hk : X0 k) => ltl (hX0 k hk) hB21.size) k hk) ((hpa0_0.below hB21 hX0).wide (fun k hk => hk)) r19 hr20) ?_
 rintro v24 w22 ⟨hg23, rfl⟩
 have hC25 := hC18.grown hg16 nb
 refine ⟨(fun _ => hC25.grown hg23 nb), ?_⟩
 refine gv_nil <| gv_goA ?_
 refine gv_pre [17, 18, 19, 20] (bA 21 [0, 1, 2, 3, 4, 5, 6, 7, 8, 9, 10, 11, 12, 13, 14, 15, 16, 17, 18, 19, 20]) 0 (by kernel_rfl) (by kernel_rfl) ?_
 refine gv_pureN 4 [6, 7, 8, 9] [(6, (.int .i64 (IntKind.i64.wrap (((x3).toNat : Int))))), (7, (.int .i64 r7)), (8, (.int .i64 r12)), (9, (.int .i64 r19))] (by kernel_rfl) ?_
 refine gv_nil <| gv_goA ?_
 refine gv_stageE (by kernel_rfl) ?_
 refine gv_seq <| gv_block <| gv_seq <| gv_region <| gv_pureN 3 [29, 30, 31] [(29, (.bool (decide ((IntKind.i64.wrap (((x3).toNat : Int))) < 128))))] (by kernel_rfl) ?_
 refine bindE h0 ?_; clear h0; intro n26 hn27 h0
 refine gv_name (s := 29) (v := (.bool (decide ((IntKind.i64.wrap (((x3).toNat : Int))) < 128)))) (v' := (.bool n26)) (by kernel_rfl) (congrArg (Value.bool) (sj hn27)) ?_
 refine gv_nil <| gv_cond (b := n26) (by kernel_rfl) (fun hc28 => ?_) (fun hc28 => ?_)
 ·replace h0 := ite_t hc28 h0
  refine gv_seq <| gv_region <| gv_pureN 3 [4, 5, 32] [(4, (.int .i64 (IntKind.i64.wrap (((x3).toNat : Int))))), (5, (.int .i64 1))] (by kernel_rfl) ?_
  refine gv_nil <| gv_cret ?_
  have e := sj h0; subst e
  refine gv_ret (gv_done [(.int .i64 (IntKind.i64.wrap (((x3).toNat : Int)))), (.int .i64 1)] rfl ⟨(by kernel_rfl), (by kernel_rfl), trivial⟩ ?_)
  have hB29 := bg hB21 hg23 nb
  exact ⟨grown_of_below hB29, rfl⟩
 ·replace h0 := ite_f hc28 h0
  refine gv_seq <| gv_region <| gv_cut_ops (J := fun a w30 => w22 = w30 ∧ a.defers = [] ∧ a.tmps.size = 120 ∧ Ok [(6, (.int .i64 (IntKind.i64.wrap (((x3).toNat : Int))))), (7, (.int .i64 r7)), (8, (.int .i64 r12)), (9, (.int .i64 r19)), (33, (.bool ((decide ((IntKind.i64.wrap (((x3).toNat : Int))) ≥ 194)) && ((decide ((IntKind.i64.wrap (((x3).toNat : Int))) < 224)) && (decide (r7 ≥ 0))))))] a.tmps) ?_ ?_
  ·skip
   refine gv_pureN 3 [34, 35, 36] [(36, (.bool (decide ((IntKind.i64.wrap (((x3).toNat : Int))) ≥ 194))))] (by kernel_rfl) ?_
   refine gv_split (s := 36) (g := (decide ((IntKind.i64.wrap (((x3).toNat : Int))) ≥ 194))) (by kernel_rfl) (fun hc31 => ?_) (fun hc31 => ?_)
   ·skip
    refine gv_pureN 4 [37, 38, 39, 40] [(40, (.bool (decide ((IntKind.i64.wrap (((x3).toNat : Int))) < 224))))] (by kernel_rfl) ?_
    refine gv_split (s := 40) (g := (decide ((IntKind.i64.wrap (((x3).toNat : Int))) < 224))) (by kernel_rfl) (fun hc32 => ?_) (fun hc32 => ?_)
    ·skip
     refine gv_pureN 4 [33, 41, 42, 43] [(33, (.bool (decide (r7 ≥ 0))))] (by kernel_rfl) ?_
     refine gv_sub [6, 7, 8, 9, 33] (σ' := [(6, (.int .i64 (IntKind.i64.wrap (((x3).toNat : Int))))), (7, (.int .i64 r7)), (8, (.int .i64 r12)), (9, (.int .i64 r19)), (33, (.bool (decide (r7 ≥ 0))))]) (by kernel_rfl) ?_
     refine gv_nil <| gv_sub [6, 7, 8, 9, 33] (σ' := [(6, (.int .i64 (IntKind.i64.wrap (((x3).toNat : Int))))), (7, (.int .i64 r7)), (8, (.int .i64 r12)), (9, (.int .i64 r19)), (33, (.bool (decide (r7 ≥ 0))))]) (by kernel_rfl) ?_
     refine gv_goal fun a hd hs hok => ⟨rfl, hd, hs, ?_⟩
     obtain ⟨q6, q7, q8, q9, q33, _⟩ := hok
     exact ⟨q6, q7, q8, q9, (by rw [hc31, hc32]; exact q33), trivial⟩
    ·skip
     refine gv_pureN 4 [33, 41, 42, 43] [(33, (.bool false))] (by kernel_rfl) ?_
     refine gv_sub [6, 7, 8, 9, 33] (σ' := [(6, (.int .i64 (IntKind.i64.wrap (((x3).toNat : Int))))), (7, (.int .i64 r7)), (8, (.int .i64 r12)), (9, (.int .i64 r19)), (33, (.bool false))]) (by kernel_rfl) ?_
     refine gv_nil <| gv_sub [6, 7, 8, 9, 33] (σ' := [(6, (.int .i64 (IntKind.i64.wrap (((x3).toNat : Int))))), (7, (.int .i64 r7)), (8, (.int .i64 r12)), (9, (.int .i64 r19)), (33, (.bool false))]) (by kernel_rfl) ?_
     refine gv_goal fun a hd hs hok => ⟨rfl, hd, hs, ?_⟩
     obtain ⟨q6, q7, q8, q9, q33, _⟩ := hok
     exact ⟨q6, q7, q8, q9, (by rw [hc31, hc32]; exact q33), trivial⟩
   ·skip
    refine gv_pureN 8 [33, 37, 38, 39, 40, 41, 42, 43] [(33, (.bool false))] (by kernel_rfl) ?_
    refine gv_nil <| gv_sub [6, 7, 8, 9, 33] (σ' := [(6, (.int .i64 (IntKind.i64.wrap (((x3).toNat : Int))))), (7, (.int .i64 r7)), (8, (.int .i64 r12)), (9, (.int .i64 r19)), (33, (.bool false))]) (by kernel_rfl) ?_
    refine gv_goal fun a hd hs hok => ⟨rfl, hd, hs, ?_⟩
    obtain ⟨q6, q7, q8, q9, q33, _⟩ := hok
    exact ⟨q6, q7, q8, q9, (by rw [hc31]; exact q33), trivial⟩
  ·rintro a w30 ⟨e, hd, hs, hok⟩; subst e
   refine gv_in ?_ hd hs hok
   clear hd hs hok
   refine gv_cond (b := ((decide ((IntKind.i64.wrap (((x3).toNat : Int))) ≥ 194)) && ((decide ((IntKind.i64.wrap (((x3).toNat : Int))) < 224)) && (decide (r7 ≥ 0))))) (by kernel_rfl) (fun hc33 => ?_) (fun hc33 => ?_)
   ·replace h0 := ite_t hc33 h0
    refine gv_seq <| gv_region <| gv_pureN 7 [4, 5, 44, 45, 46, 47, 48] [(4, (.int .i64 (IntKind.i64.wrap ((IntKind.i64.wrap ((IntKind.i64.wrap ((IntKind.i64.wrap (((x3).toNat : Int))) - 192)) * 64)) + r7)))), (5, (.int .i64 2))] (by kernel_rfl) ?_
    refine bindE h0 ?_; clear h0; intro n34 hn35 h0
    refine gv_name (s := 4) (v := (.int .i64 (IntKind.i64.wrap ((IntKind.i64.wrap ((IntKind.i64.wrap ((IntKind.i64.wrap (((x3).toNat : Int))) - 192)) * 64)) + r7)))) (v' := (.int .i64 n34)) (by kernel_rfl) (congrArg (Value.int .i64) (sj hn35)) ?_
    refine gv_nil <| gv_cret ?_
    have e := sj h0; subst e
    refine gv_ret (gv_done [(.int .i64 n34), (.int .i64 2)] rfl ⟨(by kernel_rfl), (by kernel_rfl), trivial⟩ ?_)
    have hB36 := bg hB21 hg23 nb
    exact ⟨grown_of_below hB36, rfl⟩
   ·replace h0 := ite_f hc33 h0
    refine gv_seq <| gv_region <| gv_cut_ops (J := fun a w37 => w22 = w37 ∧ a.defers = [] ∧ a.tmps.size = 120 ∧ Ok [(6, (.int .i64 (IntKind.i64.wrap (((x3).toNat : Int))))), (7, (.int .i64 r7)), (8, (.int .i64 r12)), (9, (.int .i64 r19)), (49, (.bool ((decide ((IntKind.i64.wrap (((x3).toNat : Int))) ≥ 224)) && ((decide ((IntKind.i64.wrap (((x3).toNat : Int))) < 240)) && ((decide (r7 ≥ 0)) && (decide (r12 ≥ 0)))))))] a.tmps) ?_ ?_
    ·skip
     refine gv_pureN 3 [50, 51, 52] [(52, (.bool (decide ((IntKind.i64.wrap (((x3).toNat : Int))) ≥ 224))))] (by kernel_rfl) ?_
     refine gv_split (s := 52) (g := (decide ((IntKind.i64.wrap (((x3).toNat : Int))) ≥ 224))) (by kernel_rfl) (fun hc38 => ?_) (fun hc38 => ?_)
     ·skip
      refine gv_pureN 4 [53, 54, 55, 56] [(56, (.bool (decide ((IntKind.i64.wrap (((x3).toNat : Int))) < 240))))] (by kernel_rfl) ?_
      refine gv_split (s := 56) (g := (decide ((IntKind.i64.wrap (((x3).toNat : Int))) < 240))) (by kernel_rfl) (fun hc39 => ?_) (fun hc39 => ?_)
      ·skip
       refine gv_pureN 4 [57, 58, 59, 60] [(60, (.bool (decide (r7 ≥ 0))))] (by kernel_rfl) ?_
       refine gv_sub [6, 7, 8, 9, 60] (σ' := [(6, (.int .i64 (IntKind.i64.wrap (((x3).toNat : Int))))), (7, (.int .i64 r7)), (8, (.int .i64 r12)), (9, (.int .i64 r19)), (60, (.bool (decide (r7 ≥ 0))))]) (by kernel_rfl) ?_
       refine gv_split (s := 60) (g := (decide (r7 ≥ 0))) (by kernel_rfl) (fun hc40 => ?_) (fun hc40 => ?_)
       ·skip
        refine gv_pureN 4 [49, 61, 62, 63] [(49, (.bool (decide (r12 ≥ 0))))] (by kernel_rfl) ?_
        refine gv_nil <| gv_sub [6, 7, 8, 9, 49] (σ' := [(6, (.int .i64 (IntKind.i64.wrap (((x3).toNat : Int))))), (7, (.int .i64 r7)), (8, (.int .i64 r12)), (9, (.int .i64 r19)), (49, (.bool (decide (r12 ≥ 0))))]) (by kernel_rfl) ?_
        refine gv_goal fun a hd hs hok => ⟨rfl, hd, hs, ?_⟩
        obtain ⟨q6, q7, q8, q9, q49, _⟩ := hok
        exact ⟨q6, q7, q8, q9, (by rw [hc38, hc39, hc40]; exact q49), trivial⟩
       ·skip
        refine gv_pureN 4 [49, 61, 62, 63] [(49, (.bool false))] (by kernel_rfl) ?_
        refine gv_nil <| gv_sub [6, 7, 8, 9, 49] (σ' := [(6, (.int .i64 (IntKind.i64.wrap (((x3).toNat : Int))))), (7, (.int .i64 r7)), (8, (.int .i64 r12)), (9, (.int .i64 r19)), (49, (.bool false))]) (by kernel_rfl) ?_
        refine gv_goal fun a hd hs hok => ⟨rfl, hd, hs, ?_⟩
        obtain ⟨q6, q7, q8, q9, q49, _⟩ := hok
        exact ⟨q6, q7, q8, q9, (by rw [hc38, hc39, hc40]; exact q49), trivial⟩
      ·skip
       refine gv_pureN 8 [49, 57, 58, 59, 60, 61, 62, 63] [(49, (.bool false))] (by kernel_rfl) ?_
       refine gv_sub [6, 7, 8, 9, 49] (σ' := [(6, (.int .i64 (IntKind.i64.wrap (((x3).toNat : Int))))), (7, (.int .i64 r7)), (8, (.int .i64 r12)), (9, (.int .i64 r19)), (49, (.bool false))]) (by kernel_rfl) ?_
       refine gv_nil <| gv_sub [6, 7, 8, 9, 49] (σ' := [(6, (.int .i64 (IntKind.i64.wrap (((x3).toNat : Int))))), (7, (.int .i64 r7)), (8, (.int .i64 r12)), (9, (.int .i64 r19)), (49, (.bool false))]) (by kernel_rfl) ?_
       refine gv_goal fun a hd hs hok => ⟨rfl, hd, hs, ?_⟩
       obtain ⟨q6, q7, q8, q9, q49, _⟩ := hok
       exact ⟨q6, q7, q8, q9, (by rw [hc38, hc39]; exact q49), trivial⟩
     ·skip
      refine gv_pureN 12 [49, 53, 54, 55, 56, 57, 58, 59, 60, 61, 62, 63] [(49, (.bool false))] (by kernel_rfl) ?_
      refine gv_nil <| gv_sub [6, 7, 8, 9, 49] (σ' := [(6, (.int .i64 (IntKind.i64.wrap (((x3).toNat : Int))))), (7, (.int .i64 r7)), (8, (.int .i64 r12)), (9, (.int .i64 r19)), (49, (.bool false))]) (by kernel_rfl) ?_
      refine gv_goal fun a hd hs hok => ⟨rfl, hd, hs, ?_⟩
      obtain ⟨q6, q7, q8, q9, q49, _⟩ := hok
      exact ⟨q6, q7, q8, q9, (by rw [hc38]; exact q49), trivial⟩
    ·rintro a w37 ⟨e, hd, hs, hok⟩; subst e
     refine gv_in ?_ hd hs hok
     clear hd hs hok
     refine bindE h0 ?_; clear h0; intro j41 h1 h0
     refine gv_cut_code (J := fun a w43 => ∃ s42 : Unit, j41 = .inl s42 ∧ Below w0.heap.size w0 w43 ∧ w22.heap.size ≤ w43.heap.size ∧ a.defers = [] ∧ a.tmps.size = 120 ∧ Ok [] a.tmps) ?_ ?_
     ·skip
      refine gv_cond (b := ((decide ((IntKind.i64.wrap (((x3).toNat : Int))) ≥ 224)) && ((decide ((IntKind.i64.wrap (((x3).toNat : Int))) < 240)) && ((decide (r7 ≥ 0)) && (decide (r12 ≥ 0)))))) (by kernel_rfl) (fun hc44 => ?_) (fun hc44 => ?_)
      ·replace h1 := ite_t hc44 h1
       refine gv_seq <| gv_region <| gv_pureN 9 [10, 64, 65, 66, 67, 68, 69, 70, 71] [(10, (.int .i64 (IntKind.i64.wrap ((IntKind.i64.wrap ((IntKind.i64.wrap ((IntKind.i64.wrap ((IntKind.i64.wrap (((x3).toNat : Int))) - 224)) * 4096)) + (IntKind.i64.wrap (r7 * 64)))) + r12))))] (by kernel_rfl) ?_
       refine bindE h1 ?_; clear h1; intro n45 hn46 h1
       refine gv_name (s := 10) (v := (.int .i64 (IntKind.i64.wrap ((IntKind.i64.wrap ((IntKind.i64.wrap ((IntKind.i64.wrap ((IntKind.i64.wrap (((x3).toNat : Int))) - 224)) * 4096)) + (IntKind.i64.wrap (r7 * 64)))) + r12)))) (v' := (.int .i64 n45)) (by kernel_rfl) (congrArg (Value.int .i64) (sj hn46)) ?_
       refine gv_nil <| gv_seq <| gv_region <| gv_cut_ops (J := fun a w47 => w22 = w47 ∧ a.defers = [] ∧ a.tmps.size = 120 ∧ Ok [(10, (.int .i64 n45)), (81, (.bool ((decide (n45 ≥ 2048)) && ((decide (n45 < 55296)) || (decide (n45 > 57343))))))] a.tmps) ?_ ?_
       ·skip
        refine gv_pureN 3 [72, 73, 74] [(74, (.bool (decide (n45 ≥ 2048))))] (by kernel_rfl) ?_
        refine gv_split (s := 74) (g := (decide (n45 ≥ 2048))) (by kernel_rfl) (fun hc48 => ?_) (fun hc48 => ?_)
        ·skip
         refine gv_pureN 3 [75, 76, 77] [(77, (.bool (decide (n45 < 55296))))] (by kernel_rfl) ?_
         refine gv_sub [10, 74, 77] (σ' := [(10, (.int .i64 n45)), (74, (.bool true)), (77, (.bool (decide (n45 < 55296))))]) (by kernel_rfl) ?_
         refine gv_split (s := 77) (g := (decide (n45 < 55296))) (by kernel_rfl) (fun hc49 => ?_) (fun hc49 => ?_)
         ·skip
          refine gv_pureN 4 [78, 79, 80, 81] [(81, (.bool true))] (by kernel_rfl) ?_
          refine gv_nil <| gv_sub [10, 81] (σ' := [(10, (.int .i64 n45)), (81, (.bool true))]) (by kernel_rfl) ?_
          refine gv_goal fun a hd hs hok => ⟨rfl, hd, hs, ?_⟩
          obtain ⟨q10, q81, _⟩ := hok
          exact ⟨q10, (by rw [hc48, hc49]; exact q81), trivial⟩
         ·skip
          refine gv_pureN 4 [78, 79, 80, 81] [(81, (.bool (decide (n45 > 57343))))] (by kernel_rfl) ?_
          refine gv_nil <| gv_sub [10, 81] (σ' := [(10, (.int .i64 n45)), (81, (.bool (decide (n45 > 57343))))]) (by kernel_rfl) ?_
          refine gv_goal fun a hd hs hok => ⟨rfl, hd, hs, ?_⟩
          obtain ⟨q10, q81, _⟩ := hok
          exact ⟨q10, (by rw [hc48, hc49]; exact q81), trivial⟩
        ·skip
         refine gv_pureN 7 [75, 76, 77, 78, 79, 80, 81] [(81, (.bool false))] (by kernel_rfl) ?_
         refine gv_sub [10, 81] (σ' := [(10, (.int .i64 n45)), (81, (.bool false))]) (by kernel_rfl) ?_
         refine gv_nil <| gv_sub [10, 81] (σ' := [(10, (.int .i64 n45)), (81, (.bool false))]) (by kernel_rfl) ?_
         refine gv_goal fun a hd hs hok => ⟨rfl, hd, hs, ?_⟩
         obtain ⟨q10, q81, _⟩ := hok
         exact ⟨q10, (by rw [hc48]; exact q81), trivial⟩
       ·rintro a w47 ⟨e, hd, hs, hok⟩; subst e
        refine gv_in ?_ hd hs hok
        clear hd hs hok
        refine gv_cond (b := ((decide (n45 ≥ 2048)) && ((decide (n45 < 55296)) || (decide (n45 > 57343))))) (by kernel_rfl) (fun hc50 => ?_) (fun hc50 => ?_)
        ·replace h1 := ite_t hc50 h1
         refine gv_seq <| gv_region <| gv_pureN 3 [4, 5, 82] [(4, (.int .i64 n45)), (5, (.int .i64 3))] (by kernel_rfl) ?_
         refine gv_nil <| gv_cret ?_
         have e := sj h1; subst e
         replace h0 := cont_inr h0
         have e := sj h0; subst e
         refine gv_ret (gv_done [(.int .i64 n45), (.int .i64 3)] rfl ⟨(by kernel_rfl), (by kernel_rfl), trivial⟩ ?_)
         have hB51 := bg hB21 hg23 nb
         exact ⟨grown_of_below hB51, rfl⟩
        ·replace h1 := ite_f hc50 h1
         refine gv_skip ?_
         have e := sj h1; subst e
         refine gv_goal fun a hd hs hok => ?_
         have hB52 := bg hB21 hg23 nb
         exact ⟨(), rfl, hB52, (Nat.le_refl _), hd, hs, ok_pick [] hok (by kernel_rfl)⟩
      ·replace h1 := ite_f hc44 h1
       refine gv_seq <| gv_region <| gv_cut_ops (J := fun a w53 => w22 = w53 ∧ a.defers = [] ∧ a.tmps.size = 120 ∧ Ok [(6, (.int .i64 (IntKind.i64.wrap (((x3).toNat : Int))))), (7, (.int .i64 r7)), (8, (.int .i64 r12)), (9, (.int .i64 r19)), (83, (.bool ((decide ((IntKind.i64.wrap (((x3).toNat : Int))) ≥ 240)) && ((decide ((IntKind.i64.wrap (((x3).toNat : Int))) < 245)) && ((decide (r7 ≥ 0)) && ((decide (r12 ≥ 0)) && (decide (r19 ≥ 0))))))))] a.tmps) ?_ ?_
       ·skip
        refine gv_pureN 3 [84, 85, 86] [(86, (.bool (decide ((IntKind.i64.wrap (((x3).toNat : Int))) ≥ 240))))] (by kernel_rfl) ?_
        refine gv_split (s := 86) (g := (decide ((IntKind.i64.wrap (((x3).toNat : Int))) ≥ 240))) (by kernel_rfl) (fun hc54 => ?_) (fun hc54 => ?_)
        ·skip
         refine gv_pureN 4 [87, 88, 89, 90] [(90, (.bool (decide ((IntKind.i64.wrap (((x3).toNat : Int))) < 245))))] (by kernel_rfl) ?_
         refine gv_split (s := 90) (g := (decide ((IntKind.i64.wrap (((x3).toNat : Int))) < 245))) (by kernel_rfl) (fun hc55 => ?_) (fun hc55 => ?_)
         ·skip
          refine gv_pureN 4 [91, 92, 93, 94] [(94, (.bool (decide (r7 ≥ 0))))] (by kernel_rfl) ?_
          refine gv_sub [6, 7, 8, 9, 94] (σ' := [(6, (.int .i64 (IntKind.i64.wrap (((x3).toNat : Int))))), (7, (.int .i64 r7)), (8, (.int .i64 r12)), (9, (.int .i64 r19)), (94, (.bool (decide (r7 ≥ 0))))]) (by kernel_rfl) ?_
          refine gv_split (s := 94) (g := (decide (r7 ≥ 0))) (by kernel_rfl) (fun hc56 => ?_) (fun hc56 => ?_)
          ·skip
           refine gv_pureN 4 [95, 96, 97, 98] [(98, (.bool (decide (r12 ≥ 0))))] (by kernel_rfl) ?_
           refine gv_split (s := 98) (g := (decide (r12 ≥ 0))) (by kernel_rfl) (fun hc57 => ?_) (fun hc57 => ?_)
           ·skip
            refine gv_pureN 4 [83, 99, 100, 101] [(83, (.bool (decide (r19 ≥ 0))))] (by kernel_rfl) ?_
            refine gv_nil <| gv_sub [6, 7, 8, 9, 83] (σ' := [(6, (.int .i64 (IntKind.i64.wrap (((x3).toNat : Int))))), (7, (.int .i64 r7)), (8, (.int .i64 r12)), (9, (.int .i64 r19)), (83, (.bool (decide (r19 ≥ 0))))]) (by kernel_rfl) ?_
            refine gv_goal fun a hd hs hok => ⟨rfl, hd, hs, ?_⟩
            obtain ⟨q6, q7, q8, q9, q83, _⟩ := hok
            exact ⟨q6, q7, q8, q9, (by rw [hc54, hc55, hc56, hc57]; exact q83), trivial⟩
           ·skip
            refine gv_pureN 4 [83, 99, 100, 101] [(83, (.bool false))] (by kernel_rfl) ?_
            refine gv_nil <| gv_sub [6, 7, 8, 9, 83] (σ' := [(6, (.int .i64 (IntKind.i64.wrap (((x3).toNat : Int))))), (7, (.int .i64 r7)), (8, (.int .i64 r12)), (9, (.int .i64 r19)), (83, (.bool false))]) (by kernel_rfl) ?_
            refine gv_goal fun a hd hs hok => ⟨rfl, hd, hs, ?_⟩
            obtain ⟨q6, q7, q8, q9, q83, _⟩ := hok
            exact ⟨q6, q7, q8, q9, (by rw [hc54, hc55, hc56, hc57]; exact q83), trivial⟩
          ·skip
           refine gv_pureN 8 [83, 95, 96, 97, 98, 99, 100, 101] [(83, (.bool false))] (by kernel_rfl) ?_
           refine gv_nil <| gv_sub [6, 7, 8, 9, 83] (σ' := [(6, (.int .i64 (IntKind.i64.wrap (((x3).toNat : Int))))), (7, (.int .i64 r7)), (8, (.int .i64 r12)), (9, (.int .i64 r19)), (83, (.bool false))]) (by kernel_rfl) ?_
           refine gv_goal fun a hd hs hok => ⟨rfl, hd, hs, ?_⟩
           obtain ⟨q6, q7, q8, q9, q83, _⟩ := hok
           exact ⟨q6, q7, q8, q9, (by rw [hc54, hc55, hc56]; exact q83), trivial⟩
         ·skip
          refine gv_pureN 12 [83, 91, 92, 93, 94, 95, 96, 97, 98, 99, 100, 101] [(83, (.bool false))] (by kernel_rfl) ?_
          refine gv_sub [6, 7, 8, 9, 83] (σ' := [(6, (.int .i64 (IntKind.i64.wrap (((x3).toNat : Int))))), (7, (.int .i64 r7)), (8, (.int .i64 r12)), (9, (.int .i64 r19)), (83, (.bool false))]) (by kernel_rfl) ?_
          refine gv_nil <| gv_sub [6, 7, 8, 9, 83] (σ' := [(6, (.int .i64 (IntKind.i64.wrap (((x3).toNat : Int))))), (7, (.int .i64 r7)), (8, (.int .i64 r12)), (9, (.int .i64 r19)), (83, (.bool false))]) (by kernel_rfl) ?_
          refine gv_goal fun a hd hs hok => ⟨rfl, hd, hs, ?_⟩
          obtain ⟨q6, q7, q8, q9, q83, _⟩ := hok
          exact ⟨q6, q7, q8, q9, (by rw [hc54, hc55]; exact q83), trivial⟩
        ·skip
         refine gv_pureN 16 [83, 87, 88, 89, 90, 91, 92, 93, 94, 95, 96, 97, 98, 99, 100, 101] [(83, (.bool false))] (by kernel_rfl) ?_
         refine gv_nil <| gv_sub [6, 7, 8, 9, 83] (σ' := [(6, (.int .i64 (IntKind.i64.wrap (((x3).toNat : Int))))), (7, (.int .i64 r7)), (8, (.int .i64 r12)), (9, (.int .i64 r19)), (83, (.bool false))]) (by kernel_rfl) ?_
         refine gv_goal fun a hd hs hok => ⟨rfl, hd, hs, ?_⟩
         obtain ⟨q6, q7, q8, q9, q83, _⟩ := hok
         exact ⟨q6, q7, q8, q9, (by rw [hc54]; exact q83), trivial⟩
       ·rintro a w53 ⟨e, hd, hs, hok⟩; subst e
        refine gv_in ?_ hd hs hok
        clear hd hs hok
        refine gv_cond (b := ((decide ((IntKind.i64.wrap (((x3).toNat : Int))) ≥ 240)) && ((decide ((IntKind.i64.wrap (((x3).toNat : Int))) < 245)) && ((decide (r7 ≥ 0)) && ((decide (r12 ≥ 0)) && (decide (r19 ≥ 0))))))) (by kernel_rfl) (fun hc58 => ?_) (fun hc58 => ?_)
        ·replace h1 := ite_t hc58 h1
         refine gv_seq <| gv_region <| gv_pureN 12 [11, 102, 103, 104, 105, 106, 107, 108, 109, 110, 111, 112] [(11, (.int .i64 (IntKind.i64.wrap ((IntKind.i64.wrap ((IntKind.i64.wrap ((IntKind.i64.wrap ((IntKind.i64.wrap ((IntKind.i64.wrap (((x3).toNat : Int))) - 240)) * 262144)) + (IntKind.i64.wrap (r7 * 4096)))) + (IntKind.i64.wrap (r12 * 64)))) + r19))))] (by kernel_rfl) ?_
         refine bindE h1 ?_; clear h1; intro n59 hn60 h1
         refine gv_name (s := 11) (v := (.int .i64 (IntKind.i64.wrap ((IntKind.i64.wrap ((IntKind.i64.wrap ((IntKind.i64.wrap ((IntKind.i64.wrap ((IntKind.i64.wrap (((x3).toNat : Int))) - 240)) * 262144)) + (IntKind.i64.wrap (r7 * 4096)))) + (IntKind.i64.wrap (r12 * 64)))) + r19)))) (v' := (.int .i64 n59)) (by kernel_rfl) (congrArg (Value.int .i64) (sj hn60)) ?_
         refine gv_nil <| gv_seq <| gv_region <| gv_cut_ops (J := fun a w61 => w22 = w61 ∧ a.defers = [] ∧ a.tmps.size = 120 ∧ Ok [(11, (.int .i64 n59)), (118, (.bool ((decide (n59 ≥ 65536)) && (decide (n59 ≤ 1114111)))))] a.tmps) ?_ ?_
         ·skip
          refine gv_pureN 3 [113, 114, 115] [(115, (.bool (decide (n59 ≥ 65536))))] (by kernel_rfl) ?_
          refine gv_split (s := 115) (g := (decide (n59 ≥ 65536))) (by kernel_rfl) (fun hc62 => ?_) (fun hc62 => ?_)
          ·skip
           refine gv_pureN 3 [116, 117, 118] [(118, (.bool (decide (n59 ≤ 1114111))))] (by kernel_rfl) ?_
           refine gv_sub [11, 118] (σ' := [(11, (.int .i64 n59)), (118, (.bool (decide (n59 ≤ 1114111))))]) (by kernel_rfl) ?_
           refine gv_nil <| gv_sub [11, 118] (σ' := [(11, (.int .i64 n59)), (118, (.bool (decide (n59 ≤ 1114111))))]) (by kernel_rfl) ?_
           refine gv_goal fun a hd hs hok => ⟨rfl, hd, hs, ?_⟩
           obtain ⟨q11, q118, _⟩ := hok
           exact ⟨q11, (by rw [hc62]; exact q118), trivial⟩
          ·skip
           refine gv_pureN 3 [116, 117, 118] [(118, (.bool false))] (by kernel_rfl) ?_
           refine gv_sub [11, 118] (σ' := [(11, (.int .i64 n59)), (118, (.bool false))]) (by kernel_rfl) ?_
           refine gv_nil <| gv_sub [11, 118] (σ' := [(11, (.int .i64 n59)), (118, (.bool false))]) (by kernel_rfl) ?_
           refine gv_goal fun a hd hs hok => ⟨rfl, hd, hs, ?_⟩
           obtain ⟨q11, q118, _⟩ := hok
           exact ⟨q11, (by rw [hc62]; exact q118), trivial⟩
         ·rintro a w61 ⟨e, hd, hs, hok⟩; subst e
          refine gv_in ?_ hd hs hok
          clear hd hs hok
          refine gv_cond (b := ((decide (n59 ≥ 65536)) && (decide (n59 ≤ 1114111)))) (by kernel_rfl) (fun hc63 => ?_) (fun hc63 => ?_)
          ·replace h1 := ite_t hc63 h1
           refine gv_seq <| gv_region <| gv_pureN 3 [4, 5, 119] [(4, (.int .i64 n59)), (5, (.int .i64 4))] (by kernel_rfl) ?_
           refine gv_nil <| gv_cret ?_
           have e := sj h1; subst e
           replace h0 := cont_inr h0
           have e := sj h0; subst e
           refine gv_ret (gv_done [(.int .i64 n59), (.int .i64 4)] rfl ⟨(by kernel_rfl), (by kernel_rfl), trivial⟩ ?_)
           have hB64 := bg hB21 hg23 nb
           exact ⟨grown_of_below hB64, rfl⟩
          ·replace h1 := ite_f hc63 h1
           refine gv_skip ?_
           have e := sj h1; subst e
           refine gv_goal fun a hd hs hok => ?_
           have hB65 := bg hB21 hg23 nb
           exact ⟨(), rfl, hB65, (Nat.le_refl _), hd, hs, ok_pick [] hok (by kernel_rfl)⟩
        ·replace h1 := ite_f hc58 h1
         refine gv_skip ?_
         have e := sj h1; subst e
         refine gv_goal fun a hd hs hok => ?_
         have hB66 := bg hB21 hg23 nb
         exact ⟨(), rfl, hB66, (Nat.le_refl _), hd, hs, ok_pick [] hok (by kernel_rfl)⟩
     ·rintro a w43 ⟨s42, e, hB67, hz68, hd, hs, hok⟩
      subst e
      refine gv_in ?_ hd hs hok
      clear hd hs hok
      replace h0 := cont_inl h0
      clear hc33 hc28 hn27 hC25 hg23 hB21 hr20 hC18 hg16 hB14 hr13 hg10 hr8 hC6 hB5 hx4 hg2
      refine gv_blk <| gv_seq <| gv_region <| gv_pureN 2 [4, 5] [(4, (.int .i64 0)), (5, (.int .i64 0))] (by kernel_rfl) ?_
      refine gv_nil <| gv_cret ?_
      have e := sj h0; subst e
      refine gv_ret (gv_done [(.int .i64 0), (.int .i64 0)] rfl ⟨(by kernel_rfl), (by kernel_rfl), trivial⟩ ?_)
      exact ⟨grown_of_below hB67, rfl⟩

theorem ref4_Points_ok (fuel : Nat) (s_0 : ByteArray) (w0 : World)  (r0 : ((List Int) × Bool)) (h0 : ref4_Points fuel s_0 = some r0) :
    Calls Tryd.prog 24 ([(.string s_0)] : List Value).toArray w0 (Ret fun v w' => w0.grownBy w' none ∧ ∃ (a0_0r : Option Addr) (c0_0r : Nat), v = tup [(.slice a0_0r (List.length r0.1) c0_0r), (.bool r0.2)] ∧ Gv.Own (iE .i64) 3 w' (fun _ => False) a0_0r c0_0r r0.1 ∧ (∀ g, blk a0_0r = some g → w0.heap.size ≤ g)) := by
 have hB0 : Below w0.heap.size w0 w0 := Below.refl _ _
 unfold ref4_Points at h0
 refine calls_run Tryd.func24 rfl Tryd.ntmps24 (by kernel_rfl) ?_
 refine gv_sub [0] (σ' := [(0, (.string s_0))]) (by kernel_rfl) ?_
 refine gv_seq <| gv_region <| gv_pureN 2 [2, 3] [] (by kernel_rfl) ?_
 refine gv_nil <| gv_seq <| gv_region <| gv_pureN 1 [4] [(4, (.slice none (List.length ([] : List Int)) 0))] (by kernel_rfl) ?_
 refine gv_nil <| gv_seq <| gv_seq <| gv_region <| gv_pureN 1 [5] [(5, (.int .i64 0))] (by kernel_rfl) ?_
 refine gv_nil <| bindE h0 ?_; clear h0; intro j1 h1 h0
 refine gv_cut_code (J := fun a w3 => ∃ s2 : (List Int), j1 = .inl s2 ∧ ∃ (a4_0j : Option Addr) (c4_0j : Nat), Below w0.heap.size w0 w3 ∧ w0.heap.size ≤ w3.heap.size ∧ Gv.Own (iE .i64) 3 w3 (fun _ => False) a4_0j c4_0j s2 ∧ (∀ g, blk a4_0j = some g → w0.heap.size ≤ g) ∧ a.defers = [] ∧ a.tmps.size = 29 ∧ Ok [(4, (.slice a4_0j (List.length s2) c4_0j))] a.tmps) ?_ ?_
 ·skip
  refine gv_block <| gv_loop (A := fun (s4 : ((List Int) × Int)) a w5 => ∃ (a4_0j : Option Addr) (c4_0j : Nat), Below w0.heap.size w0 w5 ∧ w0.heap.size ≤ w5.heap.size ∧ Gv.Own (iE .i64) 3 w5 (fun _ => False) a4_0j c4_0j s4.1 ∧ (∀ g, blk a4_0j = some g → w0.heap.size ≤ g) ∧ a.defers = [] ∧ a.tmps.size = 29 ∧ Ok [(0, (.string s_0)), (4, (.slice a4_0j (List.length s4.1) c4_0j)), (5, (.int .i64 s4.2))] a.tmps) h1 ?_ ?_
  ·intro a hd hs hok
   exact ⟨none, 0, hB0, (Nat.le_refl _), (Gv.Own.nil (iE .i64) 3 w0 (fun _ => False)), (fun _ h => by cases h), hd, hs, ok_pick [0, 4, 5] hok (by kernel_rfl)⟩
  ·rintro s4 r2 h2 hR2 a w5 ⟨a8, c9, hB6, hz7, ho10, hl11, hd, hs, hok⟩
   refine gv_in ?_ hd hs hok
   clear hd hs hok
   refine gv_seq <| gv_seq <| gv_region <| gv_pureN 4 [8, 9, 10, 11] [(11, (.bool (decide (s4.2 < ((ByteArray.size s_0 : Nat) : Int)))))] (by kernel_rfl) ?_
   refine gv_nil <| gv_cond (b := (decide (s4.2 < ((ByteArray.size s_0 : Nat) : Int)))) (by kernel_rfl) (fun hc12 => ?_) (fun hc12 => ?_)
   ·replace h2 := ite_t hc12 h2
    refine gv_skip <| gv_block <| gv_seq <| gv_region <| gv_pureN 1 [13] [(13, (.string s_0))] (by kernel_rfl) ?_
    refine gv_s2b (src := 9) (dst := 82) (e := 5) (s := s_0) (by decide) rfl rfl (by kernel_rfl) (by kernel_rfl) Tryd.underlying9 Tryd.underlying82 Tryd.underlying5 ?_
    rintro a13 c14 w15 hg16 hr17 hz19
    refine ⟨(fun e => by cases e), ?_⟩
    have hx20 : ∀ k, k = w5.heap.size → k < w15.heap.size := lts hz19
    have hx21 : ∀ k, k = w5.heap.size → (fun _ => False) k ∨ w0.heap.size ≤ k := fun k hk => .inr (lowe hB6.size k hk)
    refine gv_pureN 1 [15] [(15, (.int .i64 s4.2))] (by kernel_rfl) ?_
    refine bindE h2 ?_; clear h2; intro r22 hr23 h2
    refine gv_call0 (by kernel_rfl) rfl (by kernel_rfl) enters67 (ref4_unit_ok fuel a13 c14 (bytesOf s_0) s4.2 w15 (fun k => (· = w5.heap.size) k) (fun k hk => hx20 k hk) (hr17.wide (fun k hk => hk)) r22 hr23) ?_
    rintro v26 w24 ⟨hg25, rfl⟩
    refine gv_pureN 5 [6, 7, 12, 17, 18] [(6, (.int .i64 r22.1)), (7, (.int .i64 r22.2))] (by kernel_rfl) ?_
    refine gv_nil <| gv_seq <| gv_seq <| gv_region <| gv_pureN 2 [19, 20] [(20, (.bool (r22.2 == 0)))] (by kernel_rfl) ?_
    refine gv_nil <| gv_cond (b := (r22.2 == 0)) (by kernel_rfl) (fun hc27 => ?_) (fun hc27 => ?_)
    ·replace h2 := ite_t hc27 h2
     refine gv_seq <| gv_region <| gv_pureN 2 [2, 3] [(2, (.slice none (List.length ([] : List Int)) 0)), (3, (.bool false))] (by kernel_rfl) ?_
     refine gv_nil <| gv_cret ?_
     have e := sj h2; subst e
     replace h1 := congrArg some (hR2 _ rfl)
     have e := sj h1; subst e
     replace h0 := cont_inr h0
     have e := sj h0; subst e
     refine gv_ret (gv_done [(.slice none (List.length ([] : List Int)) 0), (.bool false)] rfl ⟨(by kernel_rfl), (by kernel_rfl), trivial⟩ ?_)
     have hg28 := (grown_trans hg16 hg25)
     have hB29 := bg hB6 hg28 nb
     exact ⟨grown_of_below hB29, none, 0, rfl, (Gv.Own.nil (iE .i64) 3 w24 (fun _ => False)), (fun _ h => by cases h)⟩
    ·replace h2 := ite_f hc27 h2
     refine gv_skip <| gv_seq <| gv_region <| gv_pureN 2 [21, 22] [(21, (.slice a8 (List.length s4.1) c9)), (22, (.int .i64 r22.1))] (by kernel_rfl) ?_
     refine gv_new0 (fun b => .slice (some ⟨b, 0, none⟩) 1 1) #[(.int .i64 r22.1)] 3 (by kernel_rfl) (by kernel_rfl) ?_
     intro b30 w31 hg32 hb33 hbe34 hz35
     have ho36 : Gv.Own (iE .i64) 3 w31 (fun _ => False) (some ⟨b30, 0, none⟩) 1 ([r22.1] : List Int) := Box.ownE hb33 ⟨[(.int .i64 r22.1)], [], rfl, rfl, rfl⟩ (show 1 ≤ maxLen by decide) (fun h => h)
     have hg41 := (grown_trans hg16 hg25)
     have hB42 := bg hB6 hg41 nb
     have hl37 : ∀ g, blk (some ⟨b30, 0, none⟩) = some g → w0.heap.size ≤ g := loo hbe34 hB42.size
     refine bindE h2 ?_; clear h2; intro l43 hx44 h2
     have hg51 := (grown_trans hg41 hg32)
     have hk52 := ho10.grown hg51 (fun _ h => h.elim) nb
     refine gv_append (iE .i64) (t := 38) (ty := 38) (e := 3) (a := a8) (ax := (some ⟨b30, 0, none⟩)) (cap := c9) (cx := 1) (xs := s4.1) (ys := ([r22.1] : List Int)) l43 (X := (fun _ => False)) (Y := (fun k => blk (some ⟨b30, 0, none⟩) = some k)) (by decide) rfl rfl (by kernel_rfl) (by kernel_rfl) Tryd.underlying38 info3 hk52 (ho36.rd (Y := fun k => blk (some ⟨b30, 0, none⟩) = some k) (fun _ h => h.elim) (fun g e => e)) hx44 (.inr fun _ _ _ _ _ h => h) (fun _ h => h.elim) ?_
     intro a45 c46 w47 hg48 ho49 hk50
     refine ⟨(fun e => by cases e), ?_⟩
     have hB54 := bg hB42 hg32 nb
     have hl53 : ∀ g, blk a45 = some g → w0.heap.size ≤ g := blk_step hk50 hl11 hB54.size
     have ap56 : ∀ g, blk a8 = some g → ¬ (· = w5.heap.size) g := fun g e hx => nl ((lowe (Nat.le_refl w5.heap.size)) _ hx) ((fun k (hk : blk a8 = some k) => ho10.lt k hk) g e)
     have hg57 := (grown_trans hg25 hg32)
     have hx58 := ltx hx20 hg57.size
     have ap55 : ∀ g, blk a45 = some g → ¬ (· = w5.heap.size) g := blk_neX hk50 ap56 hx58
     have hk60 := ho10.grown hg41 (fun _ h => h.elim) nb
     have ap61 : ∀ g, blk a8 = some g → ¬ (fun k => blk (some ⟨b30, 0, none⟩) = some k) g := fun g e hx => nl ((lowo hbe34) _ hx) ((fun k (hk : blk a8 = some k) => hk60.lt k hk) g e)
     have ap59 : ∀ g, blk a45 = some g → ¬ (fun k => blk (some ⟨b30, 0, none⟩) = some k) g := blk_neX hk50 ap61 (fun k (hk : blk (some ⟨b30, 0, none⟩) = some k) => ho36.lt k hk)
     have ap63 : ∀ g, blk (some ⟨b30, 0, none⟩) = some g → ¬ (fun k => blk a8 = some k) g := fun g e hx => nl ((lowo hbe34) g e) ((fun k (hk : blk a8 = some k) => hk60.lt k hk) _ hx)
     have ap62 : ∀ g, blk (some ⟨b30, 0, none⟩) = some g → ¬ (fun k => blk a45 = some k) g := fun g e h => blk_rev hk50 (fun h => ((ap63) g e) h) (ho36.lt g e) h
     refine gv_pureN 1 [4] [(4, (.slice a45 (List.length l43) c46))] (by kernel_rfl) ?_
     refine gv_nil <| gv_region <| gv_pureN 4 [5, 25, 26, 27] [(5, (.int .i64 (IntKind.i64.wrap (s4.2 + r22.2))))] (by kernel_rfl) ?_
     refine gv_nil <| gv_blk ?_
     have e := sj h2; subst e
     refine gv_goal fun a hd hs hok => ?_
     have hB64 := bg hB54 hg48 hl11
     have hz65 := (nt (nt (nt (nt hz7 hg16.size) hg25.size) hg32.size) hg48.size)
     exact ⟨(l43, (IntKind.i64.wrap (s4.2 + r22.2))), rfl, a45, c46, hB64, hz65, ho49, hl53, hd, hs, ok_pick [0, 4, 5] hok (by kernel_rfl)⟩
   ·replace h2 := ite_f hc12 h2
    refine gv_cexit <| gv_exit rfl ?_
    have e := sj h2; subst e
    replace h1 := congrArg some (hR2 _ rfl)
    have e := sj h1; subst e
    refine gv_goal fun a hd hs hok => ?_
    have hz66 := hz7
    exact ⟨s4.1, rfl, a8, c9, hB6, hz66, ho10, hl11, hd, hs, ok_pick [4] hok (by kernel_rfl)⟩
 ·rintro a w3 ⟨s2, e, a69, c70, hB67, hz68, ho71, hl72, hd, hs, hok⟩
  subst e
  refine gv_in ?_ hd hs hok
  clear hd hs hok
  replace h0 := cont_inl h0
  refine gv_seq <| gv_region <| gv_pureN 3 [2, 3, 28] [(2, (.slice a69 (List.length s2) c70)), (3, (.bool true))] (by kernel_rfl) ?_
  refine gv_nil <| gv_cret ?_
  have e := sj h0; subst e
  refine gv_ret (gv_done [(.slice a69 (List.length s2) c70), (.bool true)] rfl ⟨(by kernel_rfl), (by kernel_rfl), trivial⟩ ?_)
  exact ⟨grown_of_below hB67, a69, c70, rfl, ho71, hl72⟩

theorem ref4_TextOk_ok (fuel : Nat) (s_0 : ByteArray) (w0 : World)  (r0 : Bool) (h0 : ref4_TextOk fuel s_0 = some r0) :
    Calls Tryd.prog 31 ([(.string s_0)] : List Value).toArray w0 (Ret fun v w' => w0.grownBy w' none ∧ v = tup [(.bool r0)]) := by
 have hB0 : Below w0.heap.size w0 w0 := Below.refl _ _
 unfold ref4_TextOk at h0
 refine calls_run Tryd.func31 rfl Tryd.ntmps31 (by kernel_rfl) ?_
 refine gv_sub [0] (σ' := [(0, (.string s_0))]) (by kernel_rfl) ?_
 refine gv_seq <| gv_region <| gv_pureN 1 [2] [] (by kernel_rfl) ?_
 refine gv_nil <| gv_seq <| gv_region <| gv_pureN 1 [6] [(6, (.string s_0))] (by kernel_rfl) ?_
 refine bindE h0 ?_; clear h0; intro r1 hr2 h0
 refine gv_call0 (by kernel_rfl) rfl (by kernel_rfl) enters24 (ref4_Points_ok fuel s_0 w0  r1 hr2) ?_
 rintro v5 w3 ⟨hg4, a6, c7, rfl, ho8, hl9⟩
 have hl10 : ∀ g, blk a6 = some g → w0.heap.size ≤ g := fun g e => Nat.le_trans hB0.size (hl9 g e)
 refine gv_pureN 5 [3, 4, 5, 8, 9] [(4, (.bool r1.2))] (by kernel_rfl) ?_
 refine gv_nil <| gv_seq <| gv_region <| gv_cut_ops (J := fun a w11 => w3 = w11 ∧ a.defers = [] ∧ a.tmps.size = 16 ∧ Ok [(2, (.bool (r1.2 && (decide (((ByteArray.size s_0 : Nat) : Int) ≤ 4000)))))] a.tmps) ?_ ?_
 ·skip
  refine gv_pureN 2 [10, 11] [(11, (.bool r1.2))] (by kernel_rfl) ?_
  refine gv_split (s := 11) (g := r1.2) (by kernel_rfl) (fun hc12 => ?_) (fun hc12 => ?_)
  ·skip
   refine gv_pureN 5 [2, 12, 13, 14, 15] [(2, (.bool (decide (((ByteArray.size s_0 : Nat) : Int) ≤ 4000))))] (by kernel_rfl) ?_
   refine gv_nil <| gv_sub [2] (σ' := [(2, (.bool (decide (((ByteArray.size s_0 : Nat) : Int) ≤ 4000))))]) (by kernel_rfl) ?_
   refine gv_goal fun a hd hs hok => ⟨rfl, hd, hs, ?_⟩
   obtain ⟨q2, _⟩ := hok
   exact ⟨(by rw [hc12]; exact q2), trivial⟩
  ·skip
   refine gv_pureN 5 [2, 12, 13, 14, 15] [(2, (.bool false))] (by kernel_rfl) ?_
   refine gv_nil <| gv_sub [2] (σ' := [(2, (.bool false))]) (by kernel_rfl) ?_
   refine gv_goal fun a hd hs hok => ⟨rfl, hd, hs, ?_⟩
   obtain ⟨q2, _⟩ := hok
   exact ⟨(by rw [hc12]; exact q2), trivial⟩
 ·rintro a w11 ⟨e, hd, hs, hok⟩; subst e
  refine gv_in ?_ hd hs hok
  clear hd hs hok
  refine gv_cret ?_
  have e := sj h0; subst e
  refine gv_ret (gv_done [(.bool (r1.2 && (decide (((ByteArray.size s_0 : Nat) : Int) ≤ 4000))))] rfl ⟨(by kernel_rfl), trivial⟩ ?_)
  have hB13 := bg hB0 hg4 nb
  exact ⟨grown_of_below hB13, rfl⟩

theorem law4_TextstrCases_ok (fuel : Nat) (s_0 : ByteArray) (w0 : World) (X0 : Nat → Prop) (hX0 : ∀ k, X0 k → k < w0.heap.size) {gmx : Int} (hG0 : Rd (iE .i64) w0 X0 (some ⟨0, 0, none⟩) 1 [gmx]) (hG1 : Rd bE w0 X0 (some ⟨1, 0, none⟩) 256 utf8First) (hG2 : Rd (prE (iE .u8) (iE .u8)) w0 X0 (some ⟨2, 0, none⟩) 16 utf8Acc) (r0 : Bool) (h0 : law4_TextstrCases fuel s_0 = some r0) :
    Calls Tryd.prog 5 ([(.string s_0)] : List Value).toArray w0 (Ret fun v w' => w0.grownBy w' none ∧ v = tup [(.bool r0)]) := by
 have hB0 : Below w0.heap.size w0 w0 := Below.refl _ _
 unfold law4_TextstrCases at h0
 refine calls_run Tryd.func5 rfl Tryd.ntmps5 (by kernel_rfl) ?_
 refine gv_sub [0] (σ' := [(0, (.string s_0))]) (by kernel_rfl) ?_
 refine gv_seq <| gv_region <| gv_pureN 1 [2] [] (by kernel_rfl) ?_
 refine gv_nil <| gv_seq <| gv_seq <| gv_region <| bindE h0 ?_; clear h0; intro j1 h1 h0
 refine gv_cut_ops (J := fun a w2 => Below w0.heap.size w0 w2 ∧ w0.heap.size ≤ w2.heap.size ∧ a.defers = [] ∧ a.tmps.size = 149 ∧ Ok [(0, (.string s_0)), (27, (.bool j1))] a.tmps) ?_ ?_
 ·skip
  refine bindE h1 ?_; clear h1; intro r3 hr4 h1
  refine gv_call0 (by kernel_rfl) rfl (by kernel_rfl) enters15 (law4_letters_ok fuel  w0 (fun k => X0 k ∨ X0 k ∨ X0 k) (fun k hk => (hk).elim (fun h => (fun k (hk : X0 k) => ltl (hX0 k hk) hB0.size) k h) (fun h => (h).elim (fun h => (fun k (hk : X0 k) => ltl (hX0 k hk) hB0.size) k h) (fun h => (fun k (hk : X0 k) => ltl (hX0 k hk) hB0.size) k h))) ((hG0.below hB0 hX0).wide (fun k hk => (.inl hk))) ((hG1.below hB0 hX0).wide (fun k hk => (.inr (.inl hk)))) ((hG2.below hB0 hX0).wide (fun k hk => (.inr (.inr hk)))) r3 hr4) ?_
  rintro v7 w5 ⟨hg6, rfl⟩
  refine gv_pureN 2 [22, 23] [(23, (.bool (!r3)))] (by kernel_rfl) ?_
  refine gv_split (s := 23) (g := (!r3)) (by kernel_rfl) (fun hc8 => ?_) (fun hc8 => ?_)
  ·skip
   replace h1 := ite_t hc8 h1
   refine gv_pureN 4 [24, 25, 26, 27] [(27, (.bool true))] (by kernel_rfl) ?_
   refine gv_nil ?_
   have e := sj h1; subst e
   refine gv_goal fun a hd hs hok => ?_
   have hB9 := bg hB0 hg6 nb
   have hz10 := hg6.size
   exact ⟨hB9, hz10, hd, hs, ok_pick [0, 27] hok (by kernel_rfl)⟩
  ·skip
   replace h1 := ite_f hc8 h1
   refine gv_pureN 1 [24] [(24, (.string s_0))] (by kernel_rfl) ?_
   refine bindE h1 ?_; clear h1; intro r11 hr12 h1
   refine gv_call0 (by kernel_rfl) rfl (by kernel_rfl) enters31 (ref4_TextOk_ok fuel s_0 w5  r11 hr12) ?_
   rintro v15 w13 ⟨hg14, rfl⟩
   refine gv_pureN 2 [26, 27] [(27, (.bool (!r11)))] (by kernel_rfl) ?_
   refine gv_nil ?_
   have e := sj h1; subst e
   refine gv_goal fun a hd hs hok => ?_
   have hg16 := (grown_trans hg6 hg14)
   have hB17 := bg hB0 hg16 nb
   have hz18 := (nt hg6.size hg14.size)
   exact ⟨hB17, hz18, hd, hs, ok_pick [0, 27] hok (by kernel_rfl)⟩
 ·rintro a w2 ⟨hB19, hz20, hd, hs, hok⟩
  refine gv_in ?_ hd hs hok
  clear hd hs hok
  refine gv_cond (b := j1) (by kernel_rfl) (fun hc21 => ?_) (fun hc21 => ?_)
  ·replace h0 := ite_t hc21 h0
   refine gv_seq <| gv_region <| bindE h0 ?_; clear h0; intro r22 hr23 h0
   refine gv_call0 (by kernel_rfl) rfl (by kernel_rfl) enters15 (law4_letters_ok fuel  w2 (fun k => X0 k ∨ X0 k ∨ X0 k) (fun k hk => (hk).elim (fun h => (fun k (hk : X0 k) => ltl (hX0 k hk) hB19.size) k h) (fun h => (h).elim (fun h => (fun k (hk : X0 k) => ltl (hX0 k hk) hB19.size) k h) (fun h => (fun k (hk : X0 k) => ltl (hX0 k hk) hB19.size) k h))) ((hG0.below hB19 hX0).wide (fun k hk => (.inl hk))) ((hG1.below hB19 hX0).wide (fun k hk => (.inr (.inl hk)))) ((hG2.below hB19 hX0).wide (fun k hk => (.inr (.inr hk)))) r22 hr23) ?_
   rintro v26 w24 ⟨hg25, rfl⟩
   refine gv_pureN 1 [2] [(2, (.bool r22))] (by kernel_rfl) ?_
   refine gv_nil <| gv_cret ?_
   have e := sj h0; subst e
   refine gv_ret (gv_done [(.bool r22)] rfl ⟨(by kernel_rfl), trivial⟩ ?_)
   have hB27 := bg hB19 hg25 nb
   exact ⟨grown_of_below hB27, rfl⟩
  ·replace h0 := ite_f hc21 h0
   refine gv_skip <| gv_seq <| gv_region <| gv_pureN 1 [30] [(30, (.string s_0))] (by kernel_rfl) ?_
   refine bindE h0 ?_; clear h0; intro r28 hr29 h0
   refine gv_call0 (by kernel_rfl) rfl (by kernel_rfl) enters19 (textstr_ToUpper_ok fuel s_0 w2 (fun k => X0 k ∨ X0 k) (fun k hk => (hk).elim (fun h => (fun k (hk : X0 k) => ltl (hX0 k hk) hB19.size) k h) (fun h => (fun k (hk : X0 k) => ltl (hX0 k hk) hB19.size) k h)) ((hG1.below hB19 hX0).wide (fun k hk => (.inl hk))) ((hG2.below hB19 hX0).wide (fun k hk => (.inr hk))) r28 hr29) ?_
   rintro v32 w30 ⟨hg31, rfl⟩
   refine gv_pureN 3 [29, 32, 33] [(32, (.string r28.1)), (33, (.agg #[(.int .i64 r28.2.1), (.int .i64 r28.2.2)]))] (by kernel_rfl) ?_
   refine gv_new0 (fun b => .pointer (some ⟨b, 0, none⟩)) #[(.int .i64 0), (.int .i64 0)] 24 (by kernel_rfl) (by kernel_rfl) ?_
   intro b33 w34 hg35 hb36 hbe37 hz38
   refine gv_pureN 1 [3] [(3, (.string r28.1))] (by kernel_rfl) ?_
   refine gv_store0 24 0 (.agg #[(.int .i64 r28.2.1), (.int .i64 r28.2.2)]) #[(.int .i64 r28.2.1), (.int .i64 r28.2.2)] hb36 (by kernel_rfl) (by kernel_rfl) (by kernel_rfl) ?_
   intro w39 hg40 hb41 hz42
   refine gv_nil <| gv_seq <| gv_region <| gv_pureN 1 [35] [(35, (.string s_0))] (by kernel_rfl) ?_
   refine bindE h0 ?_; clear h0; intro r43 hr44 h0
   have hg45 := (grown_trans hg31 hg35)
   have hB46 := bg hB19 hg45 nb
   have hB47 := bg hB19 hg31 nb
   have hlo48 : w0.heap.size ≤ b33 := lob hbe37 hB47.size
   have hB49 := bg hB46 hg40 (rowlo hlo48)
   refine gv_call0 (by kernel_rfl) rfl (by kernel_rfl) enters20 (textstr_ToLower_ok fuel s_0 w39 (fun k => X0 k ∨ X0 k) (fun k hk => (hk).elim (fun h => (fun k (hk : X0 k) => ltl (hX0 k hk) hB49.size) k h) (fun h => (fun k (hk : X0 k) => ltl (hX0 k hk) hB49.size) k h)) ((hG1.below hB49 hX0).wide (fun k hk => (.inl hk))) ((hG2.below hB49 hX0).wide (fun k hk => (.inr hk))) r43 hr44) ?_
   rintro v52 w50 ⟨hg51, rfl⟩
   refine gv_pureN 3 [34, 37, 38] [(37, (.string r43.1)), (38, (.agg #[(.int .i64 r43.2.1), (.int .i64 r43.2.2)]))] (by kernel_rfl) ?_
   refine gv_new0 (fun b => .pointer (some ⟨b, 0, none⟩)) #[(.int .i64 0), (.int .i64 0)] 24 (by kernel_rfl) (by kernel_rfl) ?_
   intro b53 w54 hg55 hb56 hbe57 hz58
   clear hz58 hB47 hB46 hg45 hr44 hz42 hg40 hz38 hbe37 hb36 hg35 hg31 hr29 hc21 hz20 hB19
   refine gv_pureN 1 [5] [(5, (.string r43.1))] (by kernel_rfl) ?_
   refine gv_store0 24 0 (.agg #[(.int .i64 r43.2.1), (.int .i64 r43.2.2)]) #[(.int .i64 r43.2.1), (.int .i64 r43.2.2)] hb56 (by kernel_rfl) (by kernel_rfl) (by kernel_rfl) ?_
   intro w59 hg60 hb61 hz62
   refine gv_nil <| gv_seq <| gv_region <| gv_pureN 1 [40] [(40, (.string r43.1))] (by kernel_rfl) ?_
   refine bindE h0 ?_; clear h0; intro r63 hr64 h0
   have hg65 := (grown_trans hg51 hg55)
   have hB66 := bg hB49 hg65 nb
   have hB67 := bg hB49 hg51 nb
   have hlo68 : w0.heap.size ≤ b53 := lob hbe57 hB67.size
   have hB69 := bg hB66 hg60 (rowlo hlo68)
   refine gv_call0 (by kernel_rfl) rfl (by kernel_rfl) enters19 (textstr_ToUpper_ok fuel r43.1 w59 (fun k => X0 k ∨ X0 k) (fun k hk => (hk).elim (fun h => (fun k (hk : X0 k) => ltl (hX0 k hk) hB69.size) k h) (fun h => (fun k (hk : X0 k) => ltl (hX0 k hk) hB69.size) k h)) ((hG1.below hB69 hX0).wide (fun k hk => (.inl hk))) ((hG2.below hB69 hX0).wide (fun k hk => (.inr hk))) r63 hr64) ?_
   rintro v72 w70 ⟨hg71, rfl⟩
   refine gv_pureN 3 [39, 42, 43] [(42, (.string r63.1)), (43, (.agg #[(.int .i64 r63.2.1), (.int .i64 r63.2.2)]))] (by kernel_rfl) ?_
   refine gv_sub [0, 3, 4, 5, 6, 42, 43] (σ' := [(0, (.string s_0)), (3, (.string r28.1)), (4, (bp b33)), (5, (.string r43.1)), (6, (bp b53)), (42, (.string r63.1)), (43, (.agg #[(.int .i64 r63.2.1), (.int .i64 r63.2.2)]))]) (by kernel_rfl) ?_
   refine gv_new0 (fun b => .pointer (some ⟨b, 0, none⟩)) #[(.int .i64 0), (.int .i64 0)] 24 (by kernel_rfl) (by kernel_rfl) ?_
   intro b73 w74 hg75 hb76 hbe77 hz78
   refine gv_pureN 1 [7] [(7, (.string r63.1))] (by kernel_rfl) ?_
   refine gv_store0 24 0 (.agg #[(.int .i64 r63.2.1), (.int .i64 r63.2.2)]) #[(.int .i64 r63.2.1), (.int .i64 r63.2.2)] hb76 (by kernel_rfl) (by kernel_rfl) (by kernel_rfl) ?_
   intro w79 hg80 hb81 hz82
   refine gv_nil <| gv_seq <| gv_region <| gv_pureN 1 [45] [(45, (.string r28.1))] (by kernel_rfl) ?_
   refine bindE h0 ?_; clear h0; intro r83 hr84 h0
   have hg85 := (grown_trans hg71 hg75)
   have hB86 := bg hB69 hg85 nb
   have hB87 := bg hB69 hg71 nb
   have hlo88 : w0.heap.size ≤ b73 := lob hbe77 hB87.size
   have hB89 := bg hB86 hg80 (rowlo hlo88)
   refine gv_call0 (by kernel_rfl) rfl (by kernel_rfl) enters20 (textstr_ToLower_ok fuel r28.1 w79 (fun k => X0 k ∨ X0 k) (fun k hk => (hk).elim (fun h => (fun k (hk : X0 k) => ltl (hX0 k hk) hB89.size) k h) (fun h => (fun k (hk : X0 k) => ltl (hX0 k hk) hB89.size) k h)) ((hG1.below hB89 hX0).wide (fun k hk => (.inl hk))) ((hG2.below hB89 hX0).wide (fun k hk => (.inr hk))) r83 hr84) ?_
   rintro v92 w90 ⟨hg91, rfl⟩
   refine gv_pureN 3 [44, 47, 48] [(47, (.string r83.1)), (48, (.agg #[(.int .i64 r83.2.1), (.int .i64 r83.2.2)]))] (by kernel_rfl) ?_
   refine gv_new0 (fun b => .pointer (some ⟨b, 0, none⟩)) #[(.int .i64 0), (.int .i64 0)] 24 (by kernel_rfl) (by kernel_rfl) ?_
   intro b93 w94 hg95 hb96 hbe97 hz98
   refine gv_pureN 1 [9] [(9, (.string r83.1))] (by kernel_rfl) ?_
   refine gv_store0 24 0 (.agg #[(.int .i64 r83.2.1), (.int .i64 r83.2.2)]) #[(.int .i64 r83.2.1), (.int .i64 r83.2.2)] hb96 (by kernel_rfl) (by kernel_rfl) (by kernel_rfl) ?_
   intro w99 hg100 hb101 hz102
   refine gv_nil <| gv_seq <| gv_region <| gv_pureN 1 [50] [(50, (.string s_0))] (by kernel_rfl) ?_
   refine bindE h0 ?_; clear h0; intro r103 hr104 h0
   have hg105 := (grown_trans hg91 hg95)
   have hB106 := bg hB89 hg105 nb
   have hB107 := bg hB89 hg91 nb
   have hlo108 : w0.heap.size ≤ b93 := lob hbe97 hB107.size
   have hB109 := bg hB106 hg100 (rowlo hlo108)
   refine gv_call0 (by kernel_rfl) rfl (by kernel_rfl) enters21 (textstr_ToTitle_ok fuel s_0 w99 (fun k => X0 k ∨ X0 k) (fun k hk => (hk).elim (fun h => (fun k (hk : X0 k) => ltl (hX0 k hk) hB109.size) k h) (fun h => (fun k (hk : X0 k) => ltl (hX0 k hk) hB109.size) k h)) ((hG1.below hB109 hX0).wide (fun k hk => (.inl hk))) ((hG2.below hB109 hX0).wide (fun k hk => (.inr hk))) r103 hr104) ?_
   rintro v112 w110 ⟨hg111, rfl⟩
   clear hB107 hB106 hg105 hr104 hz102 hz98 hb96 hB89 hB87 hB86 hg85 hr84 hz82 hz78 hb76 hB69 hB67 hB66 hg65 hr64 hz62 hb56 hB49
   refine gv_pureN 3 [49, 52, 53] [(52, (.string r103.1)), (53, (.agg #[(.int .i64 r103.2.1), (.int .i64 r103.2.2)]))] (by kernel_rfl) ?_
   refine gv_new0 (fun b => .pointer (some ⟨b, 0, none⟩)) #[(.int .i64 0), (.int .i64 0)] 24 (by kernel_rfl) (by kernel_rfl) ?_
   intro b113 w114 hg115 hb116 hbe117 hz118
   refine gv_pureN 1 [11] [(11, (.string r103.1))] (by kernel_rfl) ?_
   refine gv_sub [0, 3, 4, 5, 6, 7, 8, 9, 10, 11, 12, 53] (σ' := [(0, (.string s_0)), (3, (.string r28.1)), (4, (bp b33)), (5, (.string r43.1)), (6, (bp b53)), (7, (.string r63.1)), (8, (bp b73)), (9, (.string r83.1)), (10, (bp b93)), (11, (.string r103.1)), (12, (bp b113)), (53, (.agg #[(.int .i64 r103.2.1), (.int .i64 r103.2.2)]))]) (by kernel_rfl) ?_
   refine gv_store0 24 0 (.agg #[(.int .i64 r103.2.1), (.int .i64 r103.2.2)]) #[(.int .i64 r103.2.1), (.int .i64 r103.2.2)] hb116 (by kernel_rfl) (by kernel_rfl) (by kernel_rfl) ?_
   intro w119 hg120 hb121 hz122
   refine gv_nil <| gv_seq <| gv_region <| gv_pureN 1 [55] [(55, (.string r28.1))] (by kernel_rfl) ?_
   refine bindE h0 ?_; clear h0; intro r123 hr124 h0
   have hg125 := (grown_trans hg111 hg115)
   have hB126 := bg hB109 hg125 nb
   have hB127 := bg hB109 hg111 nb
   have hlo128 : w0.heap.size ≤ b113 := lob hbe117 hB127.size
   have hB129 := bg hB126 hg120 (rowlo hlo128)
   refine gv_call0 (by kernel_rfl) rfl (by kernel_rfl) enters21 (textstr_ToTitle_ok fuel r28.1 w119 (fun k => X0 k ∨ X0 k) (fun k hk => (hk).elim (fun h => (fun k (hk : X0 k) => ltl (hX0 k hk) hB129.size) k h) (fun h => (fun k (hk : X0 k) => ltl (hX0 k hk) hB129.size) k h)) ((hG1.below hB129 hX0).wide (fun k hk => (.inl hk))) ((hG2.below hB129 hX0).wide (fun k hk => (.inr hk))) r123 hr124) ?_
   rintro v132 w130 ⟨hg131, rfl⟩
   refine gv_pureN 3 [54, 57, 58] [(57, (.string r123.1)), (58, (.agg #[(.int .i64 r123.2.1), (.int .i64 r123.2.2)]))] (by kernel_rfl) ?_
   refine gv_new0 (fun b => .pointer (some ⟨b, 0, none⟩)) #[(.int .i64 0), (.int .i64 0)] 24 (by kernel_rfl) (by kernel_rfl) ?_
   intro b133 w134 hg135 hb136 hbe137 hz138
   refine gv_pureN 1 [13] [(13, (.string r123.1))] (by kernel_rfl) ?_
   refine gv_store0 24 0 (.agg #[(.int .i64 r123.2.1), (.int .i64 r123.2.2)]) #[(.int .i64 r123.2.1), (.int .i64 r123.2.2)] hb136 (by kernel_rfl) (by kernel_rfl) (by kernel_rfl) ?_
   intro w139 hg140 hb141 hz142
   refine gv_nil <| gv_seq <| gv_region <| gv_pureN 1 [60] [(60, (.string r103.1))] (by kernel_rfl) ?_
   refine bindE h0 ?_; clear h0; intro r143 hr144 h0
   have hg145 := (grown_trans hg131 hg135)
   have hB146 := bg hB129 hg145 nb
   have hB147 := bg hB129 hg131 nb
   have hlo148 : w0.heap.size ≤ b133 := lob hbe137 hB147.size
   have hB149 := bg hB146 hg140 (rowlo hlo148)
   refine gv_call0 (by kernel_rfl) rfl (by kernel_rfl) enters20 (textstr_ToLower_ok fuel r103.1 w139 (fun k => X0 k ∨ X0 k) (fun k hk => (hk).elim (fun h => (fun k (hk : X0 k) => ltl (hX0 k hk) hB149.size) k h) (fun h => (fun k (hk : X0 k) => ltl (hX0 k hk) hB149.size) k h)) ((hG1.below hB149 hX0).wide (fun k hk => (.inl hk))) ((hG2.below hB149 hX0).wide (fun k hk => (.inr hk))) r143 hr144) ?_
   rintro v152 w150 ⟨hg151, rfl⟩
   refine gv_pureN 3 [59, 62, 63] [(62, (.string r143.1)), (63, (.agg #[(.int .i64 r143.2.1), (.int .i64 r143.2.2)]))] (by kernel_rfl) ?_
   refine gv_new0 (fun b => .pointer (some ⟨b, 0, none⟩)) #[(.int .i64 0), (.int .i64 0)] 24 (by kernel_rfl) (by kernel_rfl) ?_
   intro b153 w154 hg155 hb156 hbe157 hz158
   refine gv_pureN 1 [15] [(15, (.string r143.1))] (by kernel_rfl) ?_
   refine gv_store0 24 0 (.agg #[(.int .i64 r143.2.1), (.int .i64 r143.2.2)]) #[(.int .i64 r143.2.1), (.int .i64 r143.2.2)] hb156 (by kernel_rfl) (by kernel_rfl) (by kernel_rfl) ?_
   intro w159 hg160 hb161 hz162
   clear hz162 hz158 hb156 hB147 hB146 hg145 hr144 hz142 hz138 hb136 hB129 hB127 hB126 hg125 hr124 hz122 hz118 hb116 hB109
   refine gv_nil <| gv_seq <| gv_region <| gv_pureN 1 [65] [(65, (.string s_0))] (by kernel_rfl) ?_
   refine gv_sub [0, 3, 4, 5, 6, 7, 8, 9, 10, 11, 12, 13, 14, 15, 16, 65] (σ' := [(0, (.string s_0)), (3, (.string r28.1)), (4, (bp b33)), (5, (.string r43.1)), (6, (bp b53)), (7, (.string r63.1)), (8, (bp b73)), (9, (.string r83.1)), (10, (bp b93)), (11, (.string r103.1)), (12, (bp b113)), (13, (.string r123.1)), (14, (bp b133)), (15, (.string r143.1)), (16, (bp b153)), (65, (.string s_0))]) (by kernel_rfl) ?_
   refine bindE h0 ?_; clear h0; intro r163 hr164 h0
   have hg165 := (grown_trans hg151 hg155)
   have hB166 := bg hB149 hg165 nb
   have hB167 := bg hB149 hg151 nb
   have hlo168 : w0.heap.size ≤ b153 := lob hbe157 hB167.size
   have hB169 := bg hB166 hg160 (rowlo hlo168)
   refine gv_call0 (by kernel_rfl) rfl (by kernel_rfl) enters17 (textstr_Length_ok fuel s_0 w159 (fun k => X0 k ∨ X0 k) (fun k hk => (hk).elim (fun h => (fun k (hk : X0 k) => ltl (hX0 k hk) hB169.size) k h) (fun h => (fun k (hk : X0 k) => ltl (hX0 k hk) hB169.size) k h)) ((hG1.below hB169 hX0).wide (fun k hk => (.inl hk))) ((hG2.below hB169 hX0).wide (fun k hk => (.inr hk))) r163 hr164) ?_
   rintro v172 w170 ⟨hg171, rfl⟩
   refine gv_pureN 3 [64, 67, 68] [(67, (.int .i64 r163.1)), (68, (.agg #[(.int .i64 r163.2.1), (.int .i64 r163.2.2)]))] (by kernel_rfl) ?_
   refine gv_new0 (fun b => .pointer (some ⟨b, 0, none⟩)) #[(.int .i64 0), (.int .i64 0)] 24 (by kernel_rfl) (by kernel_rfl) ?_
   intro b173 w174 hg175 hb176 hbe177 hz178
   refine gv_pureN 1 [17] [(17, (.int .i64 r163.1))] (by kernel_rfl) ?_
   refine gv_store0 24 0 (.agg #[(.int .i64 r163.2.1), (.int .i64 r163.2.2)]) #[(.int .i64 r163.2.1), (.int .i64 r163.2.2)] hb176 (by kernel_rfl) (by kernel_rfl) (by kernel_rfl) ?_
   intro w179 hg180 hb181 hz182
   refine gv_nil <| gv_seq <| gv_region <| gv_pureN 1 [70] [(70, (.string r103.1))] (by kernel_rfl) ?_
   refine bindE h0 ?_; clear h0; intro r183 hr184 h0
   have hg185 := (grown_trans hg171 hg175)
   have hB186 := bg hB169 hg185 nb
   have hB187 := bg hB169 hg171 nb
   have hlo188 : w0.heap.size ≤ b173 := lob hbe177 hB187.size
   have hB189 := bg hB186 hg180 (rowlo hlo188)
   refine gv_call0 (by kernel_rfl) rfl (by kernel_rfl) enters17 (textstr_Length_ok fuel r103.1 w179 (fun k => X0 k ∨ X0 k) (fun k hk => (hk).elim (fun h => (fun k (hk : X0 k) => ltl (hX0 k hk) hB189.size) k h) (fun h => (fun k (hk : X0 k) => ltl (hX0 k hk) hB189.size) k h)) ((hG1.below hB189 hX0).wide (fun k hk => (.inl hk))) ((hG2.below hB189 hX0).wide (fun k hk => (.inr hk))) r183 hr184) ?_
   rintro v192 w190 ⟨hg191, rfl⟩
   refine gv_pureN 3 [69, 72, 73] [(72, (.int .i64 r183.1)), (73, (.agg #[(.int .i64 r183.2.1), (.int .i64 r183.2.2)]))] (by kernel_rfl) ?_
   refine gv_new0 (fun b => .pointer (some ⟨b, 0, none⟩)) #[(.int .i64 0), (.int .i64 0)] 24 (by kernel_rfl) (by kernel_rfl) ?_
   intro b193 w194 hg195 hb196 hbe197 hz198
   refine gv_pureN 1 [19] [(19, (.int .i64 r183.1))] (by kernel_rfl) ?_
   refine gv_store0 24 0 (.agg #[(.int .i64 r183.2.1), (.int .i64 r183.2.2)]) #[(.int .i64 r183.2.1), (.int .i64 r183.2.2)] hb196 (by kernel_rfl) (by kernel_rfl) (by kernel_rfl) ?_
   intro w199 hg200 hb201 hz202
   refine gv_nil <| gv_seq <| gv_region <| bindE h0 ?_; clear h0; intro j203 h1 h0
   refine gv_cut_ops (J := fun a w204 => Below w0.heap.size w0 w204 ∧ w199.heap.size ≤ w204.heap.size ∧ a.defers = [] ∧ a.tmps.size = 149 ∧ Ok [(2, (.bool j203))] a.tmps) ?_ ?_
   ·skip
    refine gv_pureN 1 [74] [(74, (bp b33))] (by kernel_rfl) ?_
    have hg205 := (grown_trans hg51 hg55)
    have hk206 := hb41.grown hg51 nb
    have lt207 := ltl ((ltb hk206) _ rfl) ((lowb hbe57) _ rfl)
    have hg208 := (grown_trans hg71 hg75)
    have hk209 := hb61.grown hg71 nb
    have lt210 := ltl ((ltb hk209) _ rfl) ((lowb hbe77) _ rfl)
    have lt211 := ltt lt207 lt210
    have hg212 := (grown_trans hg91 hg95)
    have hk213 := hb81.grown hg91 nb
    have lt214 := ltl ((ltb hk213) _ rfl) ((lowb hbe97) _ rfl)
    have lt215 := ltt lt211 lt214
    have hg216 := (grown_trans hg111 hg115)
    have hk217 := hb101.grown hg111 nb
    have lt218 := ltl ((ltb hk217) _ rfl) ((lowb hbe117) _ rfl)
    have lt219 := ltt lt215 lt218
    have hg220 := (grown_trans hg131 hg135)
    have hk221 := hb121.grown hg131 nb
    have lt222 := ltl ((ltb hk221) _ rfl) ((lowb hbe137) _ rfl)
    have lt223 := ltt lt219 lt222
    have hk224 := hb141.grown hg151 nb
    have lt225 := ltl ((ltb hk224) _ rfl) ((lowb hbe157) _ rfl)
    have lt226 := ltt lt223 lt225
    have hk227 := hb161.grown hg171 nb
    have lt228 := ltl ((ltb hk227) _ rfl) ((lowb hbe177) _ rfl)
    have lt229 := ltt lt226 lt228
    have hg230 := (grown_trans hg191 hg195)
    have hk231 := hb181.grown hg191 nb
    have lt232 := ltl ((ltb hk231) _ rfl) ((lowb hbe197) _ rfl)
    have lt233 := ltt lt229 lt232
    have hk234 := (((((((((((((((hb41.grown hg205 nb).grown hg60 (rowne (ng lt207))).grown hg208 nb).grown hg80 (rowne (ng lt211))).grown hg212 nb).grown hg100 (rowne (ng lt215))).grown hg216 nb).grown hg120 (rowne (ng lt219))).grown hg220 nb).grown hg140 (rowne (ng lt223))).grown hg165 nb).grown hg160 (rowne (ng lt226))).grown hg185 nb).grown hg180 (rowne (ng lt229))).grown hg230 nb).grown hg200 (rowne (ng lt233))
    refine gv_load (t := 3) (A := ⟨b33, 0, none⟩) (.int .i64 r28.2.1) [] (fun e => by cases e) rfl rfl rfl (by kernel_rfl) (by kernel_rfl) (by kernel_rfl) (inw0 (hk234.cell 0 rfl)) rfl ?_
    refine gv_pureN 2 [76, 77] [(77, (.bool (r28.2.1 == 0)))] (by kernel_rfl) ?_
    refine gv_sub [0, 3, 5, 6, 7, 8, 9, 10, 11, 12, 13, 14, 15, 16, 17, 18, 19, 20, 77] (σ' := [(0, (.string s_0)), (3, (.string r28.1)), (5, (.string r43.1)), (6, (bp b53)), (7, (.string r63.1)), (8, (bp b73)), (9, (.string r83.1)), (10, (bp b93)), (11, (.string r103.1)), (12, (bp b113)), (13, (.string r123.1)), (14, (bp b133)), (15, (.string r143.1)), (16, (bp b153)), (17, (.int .i64 r163.1)), (18, (bp b173)), (19, (.int .i64 r183.1)), (20, (bp b193)), (77, (.bool (r28.2.1 == 0)))]) (by kernel_rfl) ?_
    refine gv_split (s := 77) (g := (r28.2.1 == 0)) (by kernel_rfl) (fun hc235 => ?_) (fun hc235 => ?_)
    ·skip
     replace h1 := ite_t hc235 h1
     refine gv_pureN 1 [78] [(78, (bp b53))] (by kernel_rfl) ?_
     have lt236 := ltt lt210 lt214
     have lt237 := ltt lt236 lt218
     have lt238 := ltt lt237 lt222
     have lt239 := ltt lt238 lt225
     have lt240 := ltt lt239 lt228
     have lt241 := ltt lt240 lt232
     have hk242 := (((((((((((((hk209.grown hg75 nb).grown hg80 (rowne (ng lt210))).grown hg212 nb).grown hg100 (rowne (ng lt236))).grown hg216 nb).grown hg120 (rowne (ng lt237))).grown hg220 nb).grown hg140 (rowne (ng lt238))).grown hg165 nb).grown hg160 (rowne (ng lt239))).grown hg185 nb).grown hg180 (rowne (ng lt240))).grown hg230 nb).grown hg200 (rowne (ng lt241))
     refine gv_load (t := 3) (A := ⟨b53, 0, none⟩) (.int .i64 r43.2.1) [] (fun e => by cases e) rfl rfl rfl (by kernel_rfl) (by kernel_rfl) (by kernel_rfl) (inw0 (hk242.cell 0 rfl)) rfl ?_
     refine gv_pureN 3 [80, 81, 82] [(82, (.bool (r43.2.1 == 0)))] (by kernel_rfl) ?_
     refine gv_split (s := 82) (g := (r43.2.1 == 0)) (by kernel_rfl) (fun hc243 => ?_) (fun hc243 => ?_)
     ·skip
      replace h1 := ite_t hc243 h1
      refine gv_pureN 1 [83] [(83, (bp b73))] (by kernel_rfl) ?_
      have lt244 := ltt lt214 lt218
      have lt245 := ltt lt244 lt222
      have lt246 := ltt lt245 lt225
      have lt247 := ltt lt246 lt228
      have lt248 := ltt lt247 lt232
      have hk249 := (((((((((((hk213.grown hg95 nb).grown hg100 (rowne (ng lt214))).grown hg216 nb).grown hg120 (rowne (ng lt244))).grown hg220 nb).grown hg140 (rowne (ng lt245))).grown hg165 nb).grown hg160 (rowne (ng lt246))).grown hg185 nb).grown hg180 (rowne (ng lt247))).grown hg230 nb).grown hg200 (rowne (ng lt248))
      refine gv_load (t := 3) (A := ⟨b73, 0, none⟩) (.int .i64 r63.2.1) [] (fun e => by cases e) rfl rfl rfl (by kernel_rfl) (by kernel_rfl) (by kernel_rfl) (inw0 (hk249.cell 0 rfl)) rfl ?_
      refine gv_pureN 3 [85, 86, 87] [(87, (.bool (r63.2.1 == 0)))] (by kernel_rfl) ?_
      refine gv_split (s := 87) (g := (r63.2.1 == 0)) (by kernel_rfl) (fun hc250 => ?_) (fun hc250 => ?_)
      ·skip
       replace h1 := ite_t hc250 h1
       refine gv_pureN 1 [88] [(88, (bp b93))] (by kernel_rfl) ?_
       have lt251 := ltt lt218 lt222
       have lt252 := ltt lt251 lt225
       have lt253 := ltt lt252 lt228
       have lt254 := ltt lt253 lt232
       have hk255 := (((((((((hk217.grown hg115 nb).grown hg120 (rowne (ng lt218))).grown hg220 nb).grown hg140 (rowne (ng lt251))).grown hg165 nb).grown hg160 (rowne (ng lt252))).grown hg185 nb).grown hg180 (rowne (ng lt253))).grown hg230 nb).grown hg200 (rowne (ng lt254))
       refine gv_load (t := 3) (A := ⟨b93, 0, none⟩) (.int .i64 r83.2.1) [] (fun e => by cases e) rfl rfl rfl (by kernel_rfl) (by kernel_rfl) (by kernel_rfl) (inw0 (hk255.cell 0 rfl)) rfl ?_
       refine gv_pureN 3 [90, 91, 92] [(92, (.bool (r83.2.1 == 0)))] (by kernel_rfl) ?_
       refine gv_split (s := 92) (g := (r83.2.1 == 0)) (by kernel_rfl) (fun hc256 => ?_) (fun hc256 => ?_)
       ·skip
        replace h1 := ite_t hc256 h1
        refine gv_pureN 1 [93] [(93, (bp b113))] (by kernel_rfl) ?_
        have lt257 := ltt lt222 lt225
        have lt258 := ltt lt257 lt228
        have lt259 := ltt lt258 lt232
        have hk260 := (((((((hk221.grown hg135 nb).grown hg140 (rowne (ng lt222))).grown hg165 nb).grown hg160 (rowne (ng lt257))).grown hg185 nb).grown hg180 (rowne (ng lt258))).grown hg230 nb).grown hg200 (rowne (ng lt259))
        refine gv_load (t := 3) (A := ⟨b113, 0, none⟩) (.int .i64 r103.2.1) [] (fun e => by cases e) rfl rfl rfl (by kernel_rfl) (by kernel_rfl) (by kernel_rfl) (inw0 (hk260.cell 0 rfl)) rfl ?_
        refine gv_pureN 3 [95, 96, 97] [(97, (.bool (r103.2.1 == 0)))] (by kernel_rfl) ?_
        refine gv_split (s := 97) (g := (r103.2.1 == 0)) (by kernel_rfl) (fun hc261 => ?_) (fun hc261 => ?_)
        ·skip
         replace h1 := ite_t hc261 h1
         refine gv_pureN 1 [98] [(98, (bp b133))] (by kernel_rfl) ?_
         have lt262 := ltt lt225 lt228
         have lt263 := ltt lt262 lt232
         have hk264 := (((((hk224.grown hg155 nb).grown hg160 (rowne (ng lt225))).grown hg185 nb).grown hg180 (rowne (ng lt262))).grown hg230 nb).grown hg200 (rowne (ng lt263))
         refine gv_load (t := 3) (A := ⟨b133, 0, none⟩) (.int .i64 r123.2.1) [] (fun e => by cases e) rfl rfl rfl (by kernel_rfl) (by kernel_rfl) (by kernel_rfl) (inw0 (hk264.cell 0 rfl)) rfl ?_
         refine gv_pureN 3 [100, 101, 102] [(102, (.bool (r123.2.1 == 0)))] (by kernel_rfl) ?_
         refine gv_sub [0, 3, 5, 7, 9, 11, 13, 15, 16, 17, 18, 19, 20, 102] (σ' := [(0, (.string s_0)), (3, (.string r28.1)), (5, (.string r43.1)), (7, (.string r63.1)), (9, (.string r83.1)), (11, (.string r103.1)), (13, (.string r123.1)), (15, (.string r143.1)), (16, (bp b153)), (17, (.int .i64 r163.1)), (18, (bp b173)), (19, (.int .i64 r183.1)), (20, (bp b193)), (102, (.bool (r123.2.1 == 0)))]) (by kernel_rfl) ?_
         refine gv_split (s := 102) (g := (r123.2.1 == 0)) (by kernel_rfl) (fun hc265 => ?_) (fun hc265 => ?_)
         ·skip
          replace h1 := ite_t hc265 h1
          refine gv_pureN 1 [103] [(103, (bp b153))] (by kernel_rfl) ?_
          have lt266 := ltt lt228 lt232
          have hk267 := (((hk227.grown hg175 nb).grown hg180 (rowne (ng lt228))).grown hg230 nb).grown hg200 (rowne (ng lt266))
          refine gv_load (t := 3) (A := ⟨b153, 0, none⟩) (.int .i64 r143.2.1) [] (fun e => by cases e) rfl rfl rfl (by kernel_rfl) (by kernel_rfl) (by kernel_rfl) (inw0 (hk267.cell 0 rfl)) rfl ?_
          refine gv_pureN 3 [105, 106, 107] [(107, (.bool (r143.2.1 == 0)))] (by kernel_rfl) ?_
          refine gv_split (s := 107) (g := (r143.2.1 == 0)) (by kernel_rfl) (fun hc268 => ?_) (fun hc268 => ?_)
          ·skip
           replace h1 := ite_t hc268 h1
           refine gv_pureN 1 [108] [(108, (bp b173))] (by kernel_rfl) ?_
           have hk269 := (hk231.grown hg195 nb).grown hg200 (rowne (ng lt232))
           refine gv_load (t := 3) (A := ⟨b173, 0, none⟩) (.int .i64 r163.2.1) [] (fun e => by cases e) rfl rfl rfl (by kernel_rfl) (by kernel_rfl) (by kernel_rfl) (inw0 (hk269.cell 0 rfl)) rfl ?_
           refine gv_pureN 3 [110, 111, 112] [(112, (.bool (r163.2.1 == 0)))] (by kernel_rfl) ?_
           refine gv_split (s := 112) (g := (r163.2.1 == 0)) (by kernel_rfl) (fun hc270 => ?_) (fun hc270 => ?_)
           ·skip
            replace h1 := ite_t hc270 h1
            refine gv_pureN 1 [113] [(113, (bp b193))] (by kernel_rfl) ?_
            refine gv_load (t := 3) (A := ⟨b193, 0, none⟩) (.int .i64 r183.2.1) [] (fun e => by cases e) rfl rfl rfl (by kernel_rfl) (by kernel_rfl) (by kernel_rfl) (inw0 (hb201.cell 0 rfl)) rfl ?_
            refine gv_pureN 3 [115, 116, 117] [(117, (.bool (r183.2.1 == 0)))] (by kernel_rfl) ?_
            refine gv_split (s := 117) (g := (r183.2.1 == 0)) (by kernel_rfl) (fun hc271 => ?_) (fun hc271 => ?_)
            ·skip
             replace h1 := ite_t hc271 h1
             refine gv_pureN 5 [118, 119, 120, 121, 122] [(122, (.bool (r63.1.toList == r28.1.toList)))] (by kernel_rfl) ?_
             refine gv_split (s := 122) (g := (r63.1.toList == r28.1.toList)) (by kernel_rfl) (fun hc272 => ?_) (fun hc272 => ?_)
             ·skip
              replace h1 := ite_t hc272 h1
              refine gv_pureN 5 [123, 124, 125, 126, 127] [(127, (.bool (r83.1.toList == r43.1.toList)))] (by kernel_rfl) ?_
              refine gv_split (s := 127) (g := (r83.1.toList == r43.1.toList)) (by kernel_rfl) (fun hc273 => ?_) (fun hc273 => ?_)
              ·skip
               replace h1 := ite_t hc273 h1
               refine gv_pureN 5 [128, 129, 130, 131, 132] [(132, (.bool (r103.1.toList == r123.1.toList)))] (by kernel_rfl) ?_
               refine gv_split (s := 132) (g := (r103.1.toList == r123.1.toList)) (by kernel_rfl) (fun hc274 => ?_) (fun hc274 => ?_)
               ·skip
                replace h1 := ite_t hc274 h1
                refine gv_pureN 5 [133, 134, 135, 136, 137] [(137, (.bool (r143.1.toList == r43.1.toList)))] (by kernel_rfl) ?_
                refine gv_split (s := 137) (g := (r143.1.toList == r43.1.toList)) (by kernel_rfl) (fun hc275 => ?_) (fun hc275 => ?_)
                ·skip
                 replace h1 := ite_t hc275 h1
                 refine gv_pureN 5 [138, 139, 140, 141, 142] [(142, (.bool (r163.1 == r183.1)))] (by kernel_rfl) ?_
                 refine gv_sub [0, 3, 142] (σ' := [(0, (.string s_0)), (3, (.string r28.1)), (142, (.bool (r163.1 == r183.1)))]) (by kernel_rfl) ?_
                 refine gv_split (s := 142) (g := (r163.1 == r183.1)) (by kernel_rfl) (fun hc276 => ?_) (fun hc276 => ?_)
                 ·skip
                  replace h1 := ite_t hc276 h1
                  refine gv_pureN 7 [2, 143, 144, 145, 146, 147, 148] [(2, (.bool (((ByteArray.size r28.1 : Nat) : Int) == ((ByteArray.size s_0 : Nat) : Int))))] (by kernel_rfl) ?_
                  refine bindE h1 ?_; clear h1; intro n277 hn278 h1
                  refine gv_name (s := 2) (v := (.bool (((ByteArray.size r28.1 : Nat) : Int) == ((ByteArray.size s_0 : Nat) : Int)))) (v' := (.bool n277)) (by kernel_rfl) (congrArg (Value.bool) (sj hn278)) ?_
                  refine gv_nil ?_
                  have e := sj h1; subst e
                  refine gv_goal fun a hd hs hok => ?_
                  have hB279 := bg hB189 hg230 nb
                  have hB280 := bg hB189 hg191 nb
                  have hlo281 : w0.heap.size ≤ b193 := lob hbe197 hB280.size
                  have hB282 := bg hB279 hg200 (rowlo hlo281)
                  exact ⟨hB282, (Nat.le_refl _), hd, hs, ok_pick [2] hok (by kernel_rfl)⟩
                 ·skip
                  replace h1 := ite_f hc276 h1
                  refine gv_pureN 7 [2, 143, 144, 145, 146, 147, 148] [(2, (.bool false))] (by kernel_rfl) ?_
                  refine gv_nil ?_
                  have e := sj h1; subst e
                  refine gv_goal fun a hd hs hok => ?_
                  have hB283 := bg hB189 hg230 nb
                  have hB284 := bg hB189 hg191 nb
                  have hlo285 : w0.heap.size ≤ b193 := lob hbe197 hB284.size
                  have hB286 := bg hB283 hg200 (rowlo hlo285)
                  exact ⟨hB286, (Nat.le_refl _), hd, hs, ok_pick [2] hok (by kernel_rfl)⟩
                ·skip
                 replace h1 := ite_f hc275 h1
                 refine gv_pureN 12 [2, 138, 139, 140, 141, 142, 143, 144, 145, 146, 147, 148] [(2, (.bool false))] (by kernel_rfl) ?_
                 refine gv_sub [2] (σ' := [(2, (.bool false))]) (by kernel_rfl) ?_
                 refine gv_nil ?_
                 have e := sj h1; subst e
                 refine gv_goal fun a hd hs hok => ?_
                 have hB287 := bg hB189 hg230 nb
                 have hB288 := bg hB189 hg191 nb
                 have hlo289 : w0.heap.size ≤ b193 := lob hbe197 hB288.size
                 have hB290 := bg hB287 hg200 (rowlo hlo289)
                 exact ⟨hB290, (Nat.le_refl _), hd, hs, ok_pick [2] hok (by kernel_rfl)⟩
               ·skip
                replace h1 := ite_f hc274 h1
                refine gv_pureN 17 [2, 133, 134, 135, 136, 137, 138, 139, 140, 141, 142, 143, 144, 145, 146, 147, 148] [(2, (.bool false))] (by kernel_rfl) ?_
                refine gv_nil ?_
                have e := sj h1; subst e
                refine gv_goal fun a hd hs hok => ?_
                have hB291 := bg hB189 hg230 nb
                have hB292 := bg hB189 hg191 nb
                have hlo293 : w0.heap.size ≤ b193 := lob hbe197 hB292.size
                have hB294 := bg hB291 hg200 (rowlo hlo293)
                exact ⟨hB294, (Nat.le_refl _), hd, hs, ok_pick [2] hok (by kernel_rfl)⟩
              ·skip
               replace h1 := ite_f hc273 h1
               refine gv_pureN 22 [2, 128, 129, 130, 131, 132, 133, 134, 135, 136, 137, 138, 139, 140, 141, 142, 143, 144, 145, 146, 147, 148] [(2, (.bool false))] (by kernel_rfl) ?_
               refine gv_nil ?_
               have e := sj h1; subst e
               refine gv_goal fun a hd hs hok => ?_
               have hB295 := bg hB189 hg230 nb
               have hB296 := bg hB189 hg191 nb
               have hlo297 : w0.heap.size ≤ b193 := lob hbe197 hB296.size
               have hB298 := bg hB295 hg200 (rowlo hlo297)
               exact ⟨hB298, (Nat.le_refl _), hd, hs, ok_pick [2] hok (by kernel_rfl)⟩
             ·skip
              replace h1 := ite_f hc272 h1
              refine gv_pureN 27 [2, 123, 124, 125, 126, 127, 128, 129, 130, 131, 132, 133, 134, 135, 136, 137, 138, 139, 140, 141, 142, 143, 144, 145, 146, 147, 148] [(2, (.bool false))] (by kernel_rfl) ?_
              refine gv_nil ?_
              have e := sj h1; subst e
              refine gv_goal fun a hd hs hok => ?_
              have hB299 := bg hB189 hg230 nb
              have hB300 := bg hB189 hg191 nb
              have hlo301 : w0.heap.size ≤ b193 := lob hbe197 hB300.size
              have hB302 := bg hB299 hg200 (rowlo hlo301)
              exact ⟨hB302, (Nat.le_refl _), hd, hs, ok_pick [2] hok (by kernel_rfl)⟩
            ·skip
             replace h1 := ite_f hc271 h1
             refine gv_pureN 32 [2, 118, 119, 120, 121, 122, 123, 124, 125, 126, 127, 128, 129, 130, 131, 132, 133, 134, 135, 136, 137, 138, 139, 140, 141, 142, 143, 144, 145, 146, 147, 148] [(2, (.bool false))] (by kernel_rfl) ?_
             refine gv_nil ?_
             have e := sj h1; subst e
             refine gv_goal fun a hd hs hok => ?_
             have hB303 := bg hB189 hg230 nb
             have hB304 := bg hB189 hg191 nb
             have hlo305 : w0.heap.size ≤ b193 := lob hbe197 hB304.size
             have hB306 := bg hB303 hg200 (rowlo hlo305)
             exact ⟨hB306, (Nat.le_refl _), hd, hs, ok_pick [2] hok (by kernel_rfl)⟩
           ·skip
            replace h1 := ite_f hc270 h1
            refine gv_pureN 37 [2, 113, 114, 115, 116, 117, 118, 119, 120, 121, 122, 123, 124, 125, 126, 127, 128, 129, 130, 131, 132, 133, 134, 135, 136, 137, 138, 139, 140, 141, 142, 143, 144, 145, 146, 147, 148] [(2, (.bool false))] (by kernel_rfl) ?_
            refine gv_nil ?_
            have e := sj h1; subst e
            refine gv_goal fun a hd hs hok => ?_
            have hB307 := bg hB189 hg230 nb
            have hB308 := bg hB189 hg191 nb
            have hlo309 : w0.heap.size ≤ b193 := lob hbe197 hB308.size
            have hB310 := bg hB307 hg200 (rowlo hlo309)
            exact ⟨hB310, (Nat.le_refl _), hd, hs, ok_pick [2] hok (by kernel_rfl)⟩
          ·skip
           replace h1 := ite_f hc268 h1
           refine gv_pureN 42 [2, 108, 109, 110, 111, 112, 113, 114, 115, 116, 117, 118, 119, 120, 121, 122, 123, 124, 125, 126, 127, 128, 129, 130, 131, 132, 133, 134, 135, 136, 137, 138, 139, 140, 141, 142, 143, 144, 145, 146, 147, 148] [(2, (.bool false))] (by kernel_rfl) ?_
           refine gv_nil ?_
           have e := sj h1; subst e
           refine gv_goal fun a hd hs hok => ?_
           have hB311 := bg hB189 hg230 nb
           have hB312 := bg hB189 hg191 nb
           have hlo313 : w0.heap.size ≤ b193 := lob hbe197 hB312.size
           have hB314 := bg hB311 hg200 (rowlo hlo313)
           exact ⟨hB314, (Nat.le_refl _), hd, hs, ok_pick [2] hok (by kernel_rfl)⟩
         ·skip
          replace h1 := ite_f hc265 h1
          refine gv_pureN 47 [2, 103, 104, 105, 106, 107, 108, 109, 110, 111, 112, 113, 114, 115, 116, 117, 118, 119, 120, 121, 122, 123, 124, 125, 126, 127, 128, 129, 130, 131, 132, 133, 134, 135, 136, 137, 138, 139, 140, 141, 142, 143, 144, 145, 146, 147, 148] [(2, (.bool false))] (by kernel_rfl) ?_
          refine gv_nil ?_
          have e := sj h1; subst e
          refine gv_goal fun a hd hs hok => ?_
          have hB315 := bg hB189 hg230 nb
          have hB316 := bg hB189 hg191 nb
          have hlo317 : w0.heap.size ≤ b193 := lob hbe197 hB316.size
          have hB318 := bg hB315 hg200 (rowlo hlo317)
          exact ⟨hB318, (Nat.le_refl _), hd, hs, ok_pick [2] hok (by kernel_rfl)⟩
        ·skip
         replace h1 := ite_f hc261 h1
         refine gv_pureN 52 [2, 98, 99, 100, 101, 102, 103, 104, 105, 106, 107, 108, 109, 110, 111, 112, 113, 114, 115, 116, 117, 118, 119, 120, 121, 122, 123, 124, 125, 126, 127, 128, 129, 130, 131, 132, 133, 134, 135, 136, 137, 138, 139, 140, 141, 142, 143, 144, 145, 146, 147, 148] [(2, (.bool false))] (by kernel_rfl) ?_
         refine gv_nil ?_
         have e := sj h1; subst e
         refine gv_goal fun a hd hs hok => ?_
         have hB319 := bg hB189 hg230 nb
         have hB320 := bg hB189 hg191 nb
         have hlo321 : w0.heap.size ≤ b193 := lob hbe197 hB320.size
         have hB322 := bg hB319 hg200 (rowlo hlo321)
         exact ⟨hB322, (Nat.le_refl _), hd, hs, ok_pick [2] hok (by kernel_rfl)⟩
       ·skip
        replace h1 := ite_f hc256 h1
        refine gv_pureN 57 [2, 93, 94, 95, 96, 97, 98, 99, 100, 101, 102, 103, 104, 105, 106, 107, 108, 109, 110, 111, 112, 113, 114, 115, 116, 117, 118, 119, 120, 121, 122, 123, 124, 125, 126, 127, 128, 129, 130, 131, 132, 133, 134, 135, 136, 137, 138, 139, 140, 141, 142, 143, 144, 145, 146, 147, 148] [(2, (.bool false))] (by kernel_rfl) ?_
        refine gv_nil ?_
        have e := sj h1; subst e
        refine gv_goal fun a hd hs hok => ?_
        have hB323 := bg hB189 hg230 nb
        have hB324 := bg hB189 hg191 nb
        have hlo325 : w0.heap.size ≤ b193 := lob hbe197 hB324.size
        have hB326 := bg hB323 hg200 (rowlo hlo325)
        exact ⟨hB326, (Nat.le_refl _), hd, hs, ok_pick [2] hok (by kernel_rfl)⟩
      ·skip
       replace h1 := ite_f hc250 h1
       refine gv_pureN 62 [2, 88, 89, 90, 91, 92, 93, 94, 95, 96, 97, 98, 99, 100, 101, 102, 103, 104, 105, 106, 107, 108, 109, 110, 111, 112, 113, 114, 115, 116, 117, 118, 119, 120, 121, 122, 123, 124, 125, 126, 127, 128, 129, 130, 131, 132, 133, 134, 135, 136, 137, 138, 139, 140, 141, 142, 143, 144, 145, 146, 147, 148] [(2, (.bool false))] (by kernel_rfl) ?_
       refine gv_nil ?_
       have e := sj h1; subst e
       refine gv_goal fun a hd hs hok => ?_
       have hB327 := bg hB189 hg230 nb
       have hB328 := bg hB189 hg191 nb
       have hlo329 : w0.heap.size ≤ b193 := lob hbe197 hB328.size
       have hB330 := bg hB327 hg200 (rowlo hlo329)
       exact ⟨hB330, (Nat.le_refl _), hd, hs, ok_pick [2] hok (by kernel_rfl)⟩
     ·skip
      replace h1 := ite_f hc243 h1
      refine gv_pureN 67 [2, 83, 84, 85, 86, 87, 88, 89, 90, 91, 92, 93, 94, 95, 96, 97, 98, 99, 100, 101, 102, 103, 104, 105, 106, 107, 108, 109, 110, 111, 112, 113, 114, 115, 116, 117, 118, 119, 120, 121, 122, 123, 124, 125, 126, 127, 128, 129, 130, 131, 132, 133, 134, 135, 136, 137, 138, 139, 140, 141, 142, 143, 144, 145, 146, 147, 148] [(2, (.bool false))] (by kernel_rfl) ?_
      refine gv_nil ?_
      have e := sj h1; subst e
      refine gv_goal fun a hd hs hok => ?_
      have hB331 := bg hB189 hg230 nb
      have hB332 := bg hB189 hg191 nb
      have hlo333 : w0.heap.size ≤ b193 := lob hbe197 hB332.size
      have hB334 := bg hB331 hg200 (rowlo hlo333)
      exact ⟨hB334, (Nat.le_refl _), hd, hs, ok_pick [2] hok (by kernel_rfl)⟩
    ·skip
     replace h1 := ite_f hc235 h1
     refine gv_pureN 72 [2, 78, 79, 80, 81, 82, 83, 84, 85, 86, 87, 88, 89, 90, 91, 92, 93, 94, 95, 96, 97, 98, 99, 100, 101, 102, 103, 104, 105, 106, 107, 108, 109, 110, 111, 112, 113, 114, 115, 116, 117, 118, 119, 120, 121, 122, 123, 124, 125, 126, 127, 128, 129, 130, 131, 132, 133, 134, 135, 136, 137, 138, 139, 140, 141, 142, 143, 144, 145, 146, 147, 148] [(2, (.bool false))] (by kernel_rfl) ?_
     refine gv_nil ?_
     have e := sj h1; subst e
     refine gv_goal fun a hd hs hok => ?_
     have hB335 := bg hB189 hg230 nb
     have hB336 := bg hB189 hg191 nb
     have hlo337 : w0.heap.size ≤ b193 := lob hbe197 hB336.size
     have hB338 := bg hB335 hg200 (rowlo hlo337)
     exact ⟨hB338, (Nat.le_refl _), hd, hs, ok_pick [2] hok (by kernel_rfl)⟩
   ·rintro a w204 ⟨hB339, hz340, hd, hs, hok⟩
    refine gv_in ?_ hd hs hok
    clear hd hs hok
    clear hz340 hz202 hb201 hg200 hz198 hbe197 hb196 hg195 hg191 hB189 hlo188 hB187 hB186 hg185 hr184 hz182 hb181 hg180 hz178 hbe177 hb176 hg175 hg171 hB169 hlo168 hB167 hB166 hg165 hr164 hb161 hg160 hbe157 hg155 hg151 hB149 hlo148 hb141 hg140 hbe137 hg135 hg131 hlo128 hb121 hg120 hbe117 hg115 hg111 hlo108 hb101 hg100 hbe97 hg95 hg91 hlo88 hb81 hg80 hbe77 hg75 hg71 hlo68 hb61 hg60 hbe57 hg55 hg51 hlo48 hb41
    refine gv_cret ?_
    have e := sj h0; subst e
    refine gv_ret (gv_done [(.bool j203)] rfl ⟨(by kernel_rfl), trivial⟩ ?_)
    exact ⟨grown_of_below hB339, rfl⟩

end Go.Proofs.YtkmcegicngjhbaaDoor
