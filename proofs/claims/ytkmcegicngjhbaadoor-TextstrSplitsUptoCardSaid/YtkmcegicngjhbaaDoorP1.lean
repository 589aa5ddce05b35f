import Derived.Test.YtkmcegicngjhbaaDoorP0
set_option linter.all false
set_option maxHeartbeats 4000000
set_option maxRecDepth 100000
/- Own work, printed by a program of mine: the walk of each function: a call returns what the plain function says. -/
namespace Go.Proofs.YtkmcegicngjhbaaDoor
open Go.Gv Go.Gv.D Go.RowKit
theorem utf8_ValidRune_ok (fuel : Nat) (r_0 : Int) (w0 : World)  (r0 : Bool) (h0 : utf8_ValidRune fuel r_0 = some r0) :
    Calls Tryd.prog 88 ([(.int .i32 r_0)] : List Value).toArray w0 (Ret fun v w' => w0.grownBy w' none ∧ v = tup [(.bool r0)]) := by
 have hB0 : Below w0.heap.size w0 w0 := Below.refl _ _
 unfold utf8_ValidRune at h0
 refine calls_run Tryd.func88 rfl Tryd.ntmps88 (by kernel_rfl) ?_
 refine gv_sub [0] (σ' := [(0, (.int .i32 r_0))]) (by kernel_rfl) ?_
 refine gv_seq <| gv_region <| gv_pureN 1 [2] [] (by kernel_rfl) ?_
 refine gv_nil <| gv_seq <| gv_block <| gv_seq <| gv_region <| gv_cut_ops (J := fun a w1 => w0 = w1 ∧ a.defers = [] ∧ a.tmps.size = 17 ∧ Ok [(0, (.int .i32 r_0)), (3, (.bool ((decide (0 ≤ r_0)) && (decide (r_0 < 55296)))))] a.tmps) ?_ ?_
 ·skip
  refine gv_pureN 3 [4, 5, 6] [(6, (.bool (decide (0 ≤ r_0))))] (by kernel_rfl) ?_
  refine gv_split (s := 6) (g := (decide (0 ≤ r_0))) (by kernel_rfl) (fun hc2 => ?_) (fun hc2 => ?_)
  ·skip
   refine gv_pureN 4 [3, 7, 8, 9] [(3, (.bool (decide (r_0 < 55296))))] (by kernel_rfl) ?_
   refine gv_nil <| gv_sub [0, 3] (σ' := [(0, (.int .i32 r_0)), (3, (.bool (decide (r_0 < 55296))))]) (by kernel_rfl) ?_
   refine gv_goal fun a hd hs hok => ⟨rfl, hd, hs, ?_⟩
   obtain ⟨q0, q3, _⟩ := hok
   exact ⟨q0, (by rw [hc2]; exact q3), trivial⟩
  ·skip
   refine gv_pureN 4 [3, 7, 8, 9] [(3, (.bool false))] (by kernel_rfl) ?_
   refine gv_nil <| gv_sub [0, 3] (σ' := [(0, (.int .i32 r_0)), (3, (.bool false))]) (by kernel_rfl) ?_
   refine gv_goal fun a hd hs hok => ⟨rfl, hd, hs, ?_⟩
   obtain ⟨q0, q3, _⟩ := hok
   exact ⟨q0, (by rw [hc2]; exact q3), trivial⟩
 ·rintro a w1 ⟨e, hd, hs, hok⟩; subst e
  refine gv_in ?_ hd hs hok
  clear hd hs hok
  refine gv_cond (b := ((decide (0 ≤ r_0)) && (decide (r_0 < 55296)))) (by kernel_rfl) (fun hc3 => ?_) (fun hc3 => ?_)
  ·replace h0 := ite_t hc3 h0
   refine gv_seq <| gv_region <| gv_pureN 1 [2] [(2, (.bool true))] (by kernel_rfl) ?_
   refine gv_nil <| gv_cret ?_
   have e := sj h0; subst e
   refine gv_ret (gv_done [(.bool true)] rfl ⟨(by kernel_rfl), trivial⟩ ?_)
   exact ⟨grown_of_below hB0, rfl⟩
  ·replace h0 := ite_f hc3 h0
   refine gv_seq <| gv_region <| gv_cut_ops (J := fun a w4 => w0 = w4 ∧ a.defers = [] ∧ a.tmps.size = 17 ∧ Ok [(10, (.bool ((decide (57343 < r_0)) && (decide (r_0 ≤ 1114111)))))] a.tmps) ?_ ?_
   ·skip
    refine gv_pureN 3 [11, 12, 13] [(13, (.bool (decide (57343 < r_0))))] (by kernel_rfl) ?_
    refine gv_split (s := 13) (g := (decide (57343 < r_0))) (by kernel_rfl) (fun hc5 => ?_) (fun hc5 => ?_)
    ·skip
     refine gv_pureN 4 [10, 14, 15, 16] [(10, (.bool (decide (r_0 ≤ 1114111))))] (by kernel_rfl) ?_
     refine gv_nil <| gv_sub [10] (σ' := [(10, (.bool (decide (r_0 ≤ 1114111))))]) (by kernel_rfl) ?_
     refine gv_goal fun a hd hs hok => ⟨rfl, hd, hs, ?_⟩
     obtain ⟨q10, _⟩ := hok
     exact ⟨(by rw [hc5]; exact q10), trivial⟩
    ·skip
     refine gv_pureN 4 [10, 14, 15, 16] [(10, (.bool false))] (by kernel_rfl) ?_
     refine gv_nil <| gv_sub [10] (σ' := [(10, (.bool false))]) (by kernel_rfl) ?_
     refine gv_goal fun a hd hs hok => ⟨rfl, hd, hs, ?_⟩
     obtain ⟨q10, _⟩ := hok
     exact ⟨(by rw [hc5]; exact q10), trivial⟩
   ·rintro a w4 ⟨e, hd, hs, hok⟩; subst e
    refine gv_in ?_ hd hs hok
    clear hd hs hok
    refine gv_cond (b := ((decide (57343 < r_0)) && (decide (r_0 ≤ 1114111)))) (by kernel_rfl) (fun hc6 => ?_) (fun hc6 => ?_)
    ·replace h0 := ite_t hc6 h0
     refine gv_seq <| gv_region <| gv_pureN 1 [2] [(2, (.bool true))] (by kernel_rfl) ?_
     refine gv_nil <| gv_cret ?_
     have e := sj h0; subst e
     refine gv_ret (gv_done [(.bool true)] rfl ⟨(by kernel_rfl), trivial⟩ ?_)
     exact ⟨grown_of_below hB0, rfl⟩
    ·replace h0 := ite_f hc6 h0
     refine gv_skip <| gv_blk <| gv_seq <| gv_region <| gv_pureN 1 [2] [(2, (.bool false))] (by kernel_rfl) ?_
     refine gv_nil <| gv_cret ?_
     have e := sj h0; subst e
     refine gv_ret (gv_done [(.bool false)] rfl ⟨(by kernel_rfl), trivial⟩ ?_)
     exact ⟨grown_of_below hB0, rfl⟩

theorem textstr_limited_ok (fuel : Nat) (s_0 : ByteArray) (w0 : World)  (r0 : (ByteArray × (Int × Int))) (h0 : textstr_limited fuel s_0 = some r0) :
    Calls Tryd.prog 89 ([(.string s_0)] : List Value).toArray w0 (Ret fun v w' => w0.grownBy w' none ∧ v = tup [(.string r0.1), (.agg #[(.int .i64 r0.2.1), (.int .i64 r0.2.2)])]) := by
 have hB0 : Below w0.heap.size w0 w0 := Below.refl _ _
 unfold textstr_limited at h0
 refine calls_run Tryd.func89 rfl Tryd.ntmps89 (by kernel_rfl) ?_
 refine gv_sub [0] (σ' := [(0, (.string s_0))]) (by kernel_rfl) ?_
 refine gv_seq <| gv_region <| gv_pureN 1 [2] [] (by kernel_rfl) ?_
 refine gv_new0 (fun b => .pointer (some ⟨b, 0, none⟩)) #[(.int .i64 0), (.int .i64 0)] 24 (by kernel_rfl) (by kernel_rfl) ?_
 intro b1 w2 hg3 hb4 hbe5 hz6
 refine gv_nil <| gv_seq <| gv_seq <| gv_region <| gv_pureN 3 [4, 5, 6] [(6, (.bool (decide (((ByteArray.size s_0 : Nat) : Int) > 4000))))] (by kernel_rfl) ?_
 refine gv_nil <| gv_cond (b := (decide (((ByteArray.size s_0 : Nat) : Int) > 4000))) (by kernel_rfl) (fun hc7 => ?_) (fun hc7 => ?_)
 ·replace h0 := ite_t hc7 h0
  refine gv_seq <| gv_region <| bindE h0 ?_; clear h0; intro r8 hr9 h0
  refine gv_call0 (by kernel_rfl) rfl (by kernel_rfl) enters56 (textstr_at_ok fuel 3 (-1) w2  r8 hr9) ?_
  rintro v12 w10 ⟨hg11, rfl⟩
  refine gv_pureN 1 [2] [(2, (.string (strOf [])))] (by kernel_rfl) ?_
  have hk17 := hb4.grown hg11 nb
  refine gv_store0 24 0 (.agg #[(.int .i64 r8.1), (.int .i64 r8.2)]) #[(.int .i64 r8.1), (.int .i64 r8.2)] hk17 (by kernel_rfl) (by kernel_rfl) (by kernel_rfl) ?_
  intro w13 hg14 hb15 hz16
  refine gv_nil <| gv_cret ?_
  have e := sj h0; subst e
  refine gv_ret (gv_done [(.string (strOf [])), (.agg #[(.int .i64 r8.1), (.int .i64 r8.2)])] rfl ⟨(by kernel_rfl), ⟨⟨b1, 0, none⟩, (by kernel_rfl), run_loadVar_row w13 b1 _ 24 _ _ _ hb15 Tryd.underlying24 rfl (by kernel_rfl)⟩, trivial⟩ ?_)
  have hg18 := (grown_trans hg3 hg11)
  have hB19 := bg hB0 hg18 nb
  have hlo20 : w0.heap.size ≤ b1 := lob hbe5 hB0.size
  have hB21 := bg hB19 hg14 (rowlo hlo20)
  exact ⟨grown_of_below hB21, rfl⟩
 ·replace h0 := ite_f hc7 h0
  refine gv_skip <| gv_seq <| gv_region <| gv_pureN 3 [2, 8, 9] [(2, (.string s_0)), (9, (.agg #[(.int .i64 0), (.int .i64 0)]))] (by kernel_rfl) ?_
  refine gv_store0 24 0 (.agg #[(.int .i64 0), (.int .i64 0)]) #[(.int .i64 0), (.int .i64 0)] hb4 (by kernel_rfl) (by kernel_rfl) (by kernel_rfl) ?_
  intro w22 hg23 hb24 hz25
  refine gv_nil <| gv_cret ?_
  have e := sj h0; subst e
  refine gv_ret (gv_done [(.string s_0), (.agg #[(.int .i64 0), (.int .i64 0)])] rfl ⟨(by kernel_rfl), ⟨⟨b1, 0, none⟩, (by kernel_rfl), run_loadVar_row w22 b1 _ 24 _ _ _ hb24 Tryd.underlying24 rfl (by kernel_rfl)⟩, trivial⟩ ?_)
  have hB26 := bg hB0 hg3 nb
  have hlo27 : w0.heap.size ≤ b1 := lob hbe5 hB0.size
  have hB28 := bg hB26 hg23 (rowlo hlo27)
  exact ⟨grown_of_below hB28, rfl⟩

theorem textstr_Pad_ok (fuel : Nat) (s_0 : ByteArray) (width_1 : Int) (fill_2 : Int) (sides_3 : Int) (w0 : World) (X0 : Nat → Prop) (hX0 : ∀ k, X0 k → k < w0.heap.size) (hG1 : Rd bE w0 X0 (some ⟨1, 0, none⟩) 256 utf8First) (hG2 : Rd (prE (iE .u8) (iE .u8)) w0 X0 (some ⟨2, 0, none⟩) 16 utf8Acc) (r0 : (ByteArray × (Int × Int))) (h0 : textstr_Pad fuel s_0 width_1 fill_2 sides_3 = some r0) :
    Calls Tryd.prog 52 ([(.string s_0), (.int .i64 width_1), (.int .i64 fill_2), (.int .i64 sides_3)] : List Value).toArray w0 (Ret fun v w' => w0.grownBy w' none ∧ v = tup [(.string r0.1), (.agg #[(.int .i64 r0.2.1), (.int .i64 r0.2.2)])]) := by
 have hB0 : Below w0.heap.size w0 w0 := Below.refl _ _
 unfold textstr_Pad at h0
 refine calls_run Tryd.func52 rfl Tryd.ntmps52 (by kernel_rfl) ?_
 refine gv_sub [0, 1, 2, 3] (σ' := [(0, (.string s_0)), (1, (.int .i64 width_1)), (2, (.int .i64 fill_2)), (3, (.int .i64 sides_3))]) (by kernel_rfl) ?_
 refine gv_seq <| gv_region <| gv_pureN 1 [8] [] (by kernel_rfl) ?_
 refine gv_new0 (fun b => .pointer (some ⟨b, 0, none⟩)) #[(.int .i64 0), (.int .i64 0)] 24 (by kernel_rfl) (by kernel_rfl) ?_
 intro b1 w2 hg3 hb4 hbe5 hz6
 refine gv_nil <| gv_seq <| gv_seq <| gv_region <| gv_pureN 1 [14] [(14, (.string s_0))] (by kernel_rfl) ?_
 refine gv_new0 (fun b => .slice (some ⟨b, 0, none⟩) 1 1) #[(.string s_0)] 9 (by kernel_rfl) (by kernel_rfl) ?_
 intro b7 w8 hg9 hb10 hbe11 hz12
 have ho13 : Gv.Own sE 9 w8 (fun _ => False) (some ⟨b7, 0, none⟩) 1 ([s_0] : List ByteArray) := Box.ownE hb10 ⟨[(.string s_0)], [], rfl, rfl, rfl⟩ (show 1 ≤ maxLen by decide) (fun h => h)
 have hB18 := bg hB0 hg3 nb
 have hl14 : ∀ g, blk (some ⟨b7, 0, none⟩) = some g → w0.heap.size ≤ g := loo hbe11 hB18.size
 refine bindE h0 ?_; clear h0; intro r19 hr20 h0
 have hB21 := bg hB18 hg9 nb
 refine gv_call0 (by kernel_rfl) rfl (by kernel_rfl) enters58 (textstr_check_ok fuel (some ⟨b7, 0, none⟩) 1 ([s_0] : List ByteArray) w8 (fun k => (fun k => blk (some ⟨b7, 0, none⟩) = some k) k ∨ X0 k ∨ X0 k) (fun k hk => (hk).elim (fun h => (fun k (hk : blk (some ⟨b7, 0, none⟩) = some k) => ho13.lt k hk) k h) (fun h => (h).elim (fun h => (fun k (hk : X0 k) => ltl (hX0 k hk) hB21.size) k h) (fun h => (fun k (hk : X0 k) => ltl (hX0 k hk) hB21.size) k h))) ((ho13.rd (Y := fun k => blk (some ⟨b7, 0, none⟩) = some k) (fun _ h => h.elim) (fun g e => e)).wide (fun k hk => (.inl hk))) ((hG1.below hB21 hX0).wide (fun k hk => (.inr (.inl hk)))) ((hG2.below hB21 hX0).wide (fun k hk => (.inr (.inr hk)))) r19 hr20) ?_
 rintro v24 w22 ⟨hg23, rfl⟩
 refine gv_new0 (fun b => .pointer (some ⟨b, 0, none⟩)) #[(.int .i64 0), (.int .i64 0)] 24 (by kernel_rfl) (by kernel_rfl) ?_
 intro b25 w26 hg27 hb28 hbe29 hz30
 refine gv_store0 24 0 (.agg #[(.int .i64 r19.1), (.int .i64 r19.2)]) #[(.int .i64 r19.1), (.int .i64 r19.2)] hb28 (by kernel_rfl) (by kernel_rfl) (by kernel_rfl) ?_
 intro w31 hg32 hb33 hz34
 refine gv_nil <| gv_seq <| gv_region <| gv_pureN 1 [17] [(17, (bp b25))] (by kernel_rfl) ?_
 refine gv_load (t := 3) (A := ⟨b25, 0, none⟩) (.int .i64 r19.1) [] (fun e => by cases e) rfl rfl rfl (by kernel_rfl) (by kernel_rfl) (by kernel_rfl) (inw0 (hb33.cell 0 rfl)) rfl ?_
 refine gv_pureN 1 [19] [(19, (.bool (r19.1 != 0)))] (by kernel_rfl) ?_
 refine gv_nil <| gv_cond (b := (r19.1 != 0)) (by kernel_rfl) (fun hc35 => ?_) (fun hc35 => ?_)
 ·replace h0 := ite_t hc35 h0
  refine gv_seq <| gv_drawA (by kernel_rfl) ?_
  intro w36 hg37
  refine gv_pre [1] (bA 3 [1]) 2 (by kernel_rfl) (by kernel_rfl) ?_
  refine gv_pureN 1 [8] [(8, (.string (strOf [])))] (by kernel_rfl) ?_
  refine gv_nil <| gv_goA ?_
  refine gv_stage (Cls w36 []) [0, 1] [(0, some true)] (bA 3 [0, 1]) 1 (by kernel_rfl) (by kernel_rfl) (Cls.refl _ _) ?_
  have hC38 := Cls.refl w36 []
  have hk39 := hb33.grown hg37 nb
  refine gv_loadBox (t := 24) (b := b25) (t' := 24) (fr := (0, 0)) #[(.int .i64 r19.1), (.int .i64 r19.2)] [] (fun e => by cases e) rfl rfl rfl (by kernel_rfl) (by kernel_rfl) (by kernel_rfl) (by kernel_rfl) (inw1 fun w' hC' => (hC'.box hk39 nm_nil)) rfl ?_
  refine gv_nil <| gv_goA ?_
  refine gv_stage (fun _ => True) [0, 1, 2] [(2, some false)] (bA 3 [0, 1, 2]) 0 (by kernel_rfl) (by kernel_rfl) trivial ?_
  have hg44 := (grown_trans (grown_trans hg9 hg23) hg27)
  have hg45 := (grown_trans hg9 hg23)
  have hk46 := hb4.grown hg45 nb
  have lt47 := ltl ((ltb hk46) _ rfl) ((lowb hbe29) _ rfl)
  have hk48 := ((hb4.grown hg44 nb).grown hg32 (rowne (ng lt47))).grown hg37 nb
  refine gv_store (t := 24) (b := b1) (off := 0) (v := (.agg #[(.int .i64 r19.1), (.int .i64 r19.2)])) (t' := 24) (cs := #[(.int .i64 0), (.int .i64 0)]) #[(.int .i64 r19.1), (.int .i64 r19.2)] (by decide) rfl rfl (by kernel_rfl) (by kernel_rfl) (by kernel_rfl) (by intro u hu; simp [Value.cells] at hu; rcases hu with rfl | rfl <;> rfl) (show 0 + 2 ≤ 2 by decide) (by rfl) hk48 ?_
  intro w40 hg41 hb42 hz43
  refine ⟨(fun _ => trivial), ?_⟩
  refine gv_nil <| gv_goA ?_
  refine gv_stageE (by kernel_rfl) ?_
  refine gv_cret ?_
  have e := sj h0; subst e
  refine gv_ret (gv_done [(.string (strOf [])), (.agg #[(.int .i64 r19.1), (.int .i64 r19.2)])] rfl ⟨(by kernel_rfl), ⟨⟨b1, 0, none⟩, (by kernel_rfl), run_loadVar_row w40 b1 _ 24 _ _ _ hb42 Tryd.underlying24 rfl (by kernel_rfl)⟩, trivial⟩ ?_)
  have hg49 := (grown_trans hg23 hg27)
  have hB50 := bg hB21 hg49 nb
  have hB51 := bg hB21 hg23 nb
  have hlo52 : w0.heap.size ≤ b25 := lob hbe29 hB51.size
  have hB53 := bg hB50 hg32 (rowlo hlo52)
  have hB54 := bg hB53 hg37 nb
  have hlo55 : w0.heap.size ≤ b1 := lob hbe5 hB0.size
  have hB56 := bg hB54 hg41 (rowlo hlo55)
  exact ⟨grown_of_below hB56, rfl⟩
 ·replace h0 := ite_f hc35 h0
  refine gv_skip <| gv_seq <| gv_block <| gv_seq <| gv_region <| gv_cut_ops (J := fun a w57 => w31 = w57 ∧ a.defers = [] ∧ a.tmps.size = 80 ∧ Ok [(0, (.string s_0)), (1, (.int .i64 width_1)), (2, (.int .i64 fill_2)), (3, (.int .i64 sides_3)), (9, (bp b1)), (21, (.bool ((decide (width_1 < 0)) || (decide (width_1 > 4000)))))] a.tmps) ?_ ?_
  ·skip
   refine gv_pureN 3 [22, 23, 24] [(24, (.bool (decide (width_1 < 0))))] (by kernel_rfl) ?_
   refine gv_split (s := 24) (g := (decide (width_1 < 0))) (by kernel_rfl) (fun hc58 => ?_) (fun hc58 => ?_)
   ·skip
    refine gv_pureN 4 [21, 25, 26, 27] [(21, (.bool true))] (by kernel_rfl) ?_
    refine gv_nil <| gv_sub [0, 1, 2, 3, 9, 21] (σ' := [(0, (.string s_0)), (1, (.int .i64 width_1)), (2, (.int .i64 fill_2)), (3, (.int .i64 sides_3)), (9, (bp b1)), (21, (.bool true))]) (by kernel_rfl) ?_
    refine gv_goal fun a hd hs hok => ⟨rfl, hd, hs, ?_⟩
    obtain ⟨q0, q1, q2, q3, q9, q21, _⟩ := hok
    exact ⟨q0, q1, q2, q3, q9, (by rw [hc58]; exact q21), trivial⟩
   ·skip
    refine gv_pureN 4 [21, 25, 26, 27] [(21, (.bool (decide (width_1 > 4000))))] (by kernel_rfl) ?_
    refine gv_nil <| gv_sub [0, 1, 2, 3, 9, 21] (σ' := [(0, (.string s_0)), (1, (.int .i64 width_1)), (2, (.int .i64 fill_2)), (3, (.int .i64 sides_3)), (9, (bp b1)), (21, (.bool (decide (width_1 > 4000))))]) (by kernel_rfl) ?_
    refine gv_goal fun a hd hs hok => ⟨rfl, hd, hs, ?_⟩
    obtain ⟨q0, q1, q2, q3, q9, q21, _⟩ := hok
    exact ⟨q0, q1, q2, q3, q9, (by rw [hc58]; exact q21), trivial⟩
  ·rintro a w57 ⟨e, hd, hs, hok⟩; subst e
   refine gv_in ?_ hd hs hok
   clear hd hs hok
   refine gv_cond (b := ((decide (width_1 < 0)) || (decide (width_1 > 4000)))) (by kernel_rfl) (fun hc59 => ?_) (fun hc59 => ?_)
   ·replace h0 := ite_t hc59 h0
    refine gv_seq <| gv_region <| bindE h0 ?_; clear h0; intro r60 hr61 h0
    refine gv_call0 (by kernel_rfl) rfl (by kernel_rfl) enters56 (textstr_at_ok fuel 4 (-2) w31  r60 hr61) ?_
    rintro v64 w62 ⟨hg63, rfl⟩
    clear hr61 hc59 hc35 hz34 hb33 hz30 hb28 hr20 hl14 hB18 ho13 hz12 hbe11 hb10 hz6 hg3
    refine gv_pureN 1 [8] [(8, (.string (strOf [])))] (by kernel_rfl) ?_
    have hg69 := (grown_trans (grown_trans hg9 hg23) hg27)
    have hg70 := (grown_trans hg9 hg23)
    have hk71 := hb4.grown hg70 nb
    have lt72 := ltl ((ltb hk71) _ rfl) ((lowb hbe29) _ rfl)
    have hk73 := ((hb4.grown hg69 nb).grown hg32 (rowne (ng lt72))).grown hg63 nb
    refine gv_store0 24 0 (.agg #[(.int .i64 r60.1), (.int .i64 r60.2)]) #[(.int .i64 r60.1), (.int .i64 r60.2)] hk73 (by kernel_rfl) (by kernel_rfl) (by kernel_rfl) ?_
    intro w65 hg66 hb67 hz68
    refine gv_nil <| gv_cret ?_
    have e := sj h0; subst e
    refine gv_ret (gv_done [(.string (strOf [])), (.agg #[(.int .i64 r60.1), (.int .i64 r60.2)])] rfl ⟨(by kernel_rfl), ⟨⟨b1, 0, none⟩, (by kernel_rfl), run_loadVar_row w65 b1 _ 24 _ _ _ hb67 Tryd.underlying24 rfl (by kernel_rfl)⟩, trivial⟩ ?_)
    have hg74 := (grown_trans hg23 hg27)
    have hB75 := bg hB21 hg74 nb
    have hB76 := bg hB21 hg23 nb
    have hlo77 : w0.heap.size ≤ b25 := lob hbe29 hB76.size
    have hB78 := bg hB75 hg32 (rowlo hlo77)
    have hB79 := bg hB78 hg63 nb
    have hlo80 : w0.heap.size ≤ b1 := lob hbe5 hB0.size
    have hB81 := bg hB79 hg66 (rowlo hlo80)
    exact ⟨grown_of_below hB81, rfl⟩
   ·replace h0 := ite_f hc59 h0
    refine gv_seq <| gv_region <| bindE h0 ?_; clear h0; intro j82 h1 h0
    refine gv_cut_ops (J := fun a w83 => Below w0.heap.size w0 w83 ∧ w31.heap.size ≤ w83.heap.size ∧ Box w83 b1 24 #[(.int .i64 0), (.int .i64 0)] ∧ a.defers = [] ∧ a.tmps.size = 80 ∧ Ok [(0, (.string s_0)), (1, (.int .i64 width_1)), (2, (.int .i64 fill_2)), (3, (.int .i64 sides_3)), (9, (bp b1)), (29, (.bool j82))] a.tmps) ?_ ?_
    ·skip
     refine gv_pureN 3 [30, 31, 32] [(32, (.bool (decide (fill_2 < 0))))] (by kernel_rfl) ?_
     refine gv_split (s := 32) (g := (decide (fill_2 < 0))) (by kernel_rfl) (fun hc84 => ?_) (fun hc84 => ?_)
     ·skip
      replace h1 := ite_t hc84 h1
      refine gv_pureN 10 [29, 33, 34, 35, 36, 37, 38, 39, 40, 41] [(29, (.bool true))] (by kernel_rfl) ?_
      refine gv_nil ?_
      have e := sj h1; subst e
      refine gv_goal fun a hd hs hok => ?_
      have hg85 := (grown_trans hg23 hg27)
      have hB86 := bg hB21 hg85 nb
      have hB87 := bg hB21 hg23 nb
      have hlo88 : w0.heap.size ≤ b25 := lob hbe29 hB87.size
      have hB89 := bg hB86 hg32 (rowlo hlo88)
      have hg90 := (grown_trans hg9 hg85)
      have hg91 := (grown_trans hg9 hg23)
      have hk92 := hb4.grown hg91 nb
      have lt93 := ltl ((ltb hk92) _ rfl) ((lowb hbe29) _ rfl)
      have hk94 := (hb4.grown hg90 nb).grown hg32 (rowne (ng lt93))
      exact ⟨hB89, (Nat.le_refl _), hk94, hd, hs, ok_pick [0, 1, 2, 3, 9, 29] hok (by kernel_rfl)⟩
     ·skip
      replace h1 := ite_f hc84 h1
      refine gv_pureN 4 [33, 34, 35, 36] [(36, (.bool (decide (fill_2 > 1114111))))] (by kernel_rfl) ?_
      refine gv_split (s := 36) (g := (decide (fill_2 > 1114111))) (by kernel_rfl) (fun hc95 => ?_) (fun hc95 => ?_)
      ·skip
       replace h1 := ite_t hc95 h1
       refine gv_pureN 6 [29, 37, 38, 39, 40, 41] [(29, (.bool true))] (by kernel_rfl) ?_
       refine gv_nil ?_
       have e := sj h1; subst e
       refine gv_goal fun a hd hs hok => ?_
       have hg96 := (grown_trans hg23 hg27)
       have hB97 := bg hB21 hg96 nb
       have hB98 := bg hB21 hg23 nb
       have hlo99 : w0.heap.size ≤ b25 := lob hbe29 hB98.size
       have hB100 := bg hB97 hg32 (rowlo hlo99)
       have hg101 := (grown_trans hg9 hg96)
       have hg102 := (grown_trans hg9 hg23)
       have hk103 := hb4.grown hg102 nb
       have lt104 := ltl ((ltb hk103) _ rfl) ((lowb hbe29) _ rfl)
       have hk105 := (hb4.grown hg101 nb).grown hg32 (rowne (ng lt104))
       exact ⟨hB100, (Nat.le_refl _), hk105, hd, hs, ok_pick [0, 1, 2, 3, 9, 29] hok (by kernel_rfl)⟩
      ·skip
       replace h1 := ite_f hc95 h1
       refine gv_pureN 2 [37, 38] [(38, (.int .i32 (IntKind.i32.wrap (fill_2))))] (by kernel_rfl) ?_
       refine bindE h1 ?_; clear h1; intro r106 hr107 h1
       refine gv_call0 (by kernel_rfl) rfl (by kernel_rfl) enters88 (utf8_ValidRune_ok fuel (IntKind.i32.wrap (fill_2)) w31  r106 hr107) ?_
       rintro v110 w108 ⟨hg109, rfl⟩
       refine gv_pureN 3 [29, 40, 41] [(29, (.bool (!r106)))] (by kernel_rfl) ?_
       refine gv_sub [0, 1, 2, 3, 9, 29] (σ' := [(0, (.string s_0)), (1, (.int .i64 width_1)), (2, (.int .i64 fill_2)), (3, (.int .i64 sides_3)), (9, (bp b1)), (29, (.bool (!r106)))]) (by kernel_rfl) ?_
       refine gv_nil ?_
       have e := sj h1; subst e
       refine gv_goal fun a hd hs hok => ?_
       have hg111 := (grown_trans hg23 hg27)
       have hB112 := bg hB21 hg111 nb
       have hB113 := bg hB21 hg23 nb
       have hlo114 : w0.heap.size ≤ b25 := lob hbe29 hB113.size
       have hB115 := bg hB112 hg32 (rowlo hlo114)
       have hB116 := bg hB115 hg109 nb
       have hz117 := hg109.size
       have hg118 := (grown_trans hg9 hg111)
       have hg119 := (grown_trans hg9 hg23)
       have hk120 := hb4.grown hg119 nb
       have lt121 := ltl ((ltb hk120) _ rfl) ((lowb hbe29) _ rfl)
       have hk122 := ((hb4.grown hg118 nb).grown hg32 (rowne (ng lt121))).grown hg109 nb
       exact ⟨hB116, hz117, hk122, hd, hs, ok_pick [0, 1, 2, 3, 9, 29] hok (by kernel_rfl)⟩
    ·rintro a w83 ⟨hB123, hz124, hb125, hd, hs, hok⟩
     refine gv_in ?_ hd hs hok
     clear hd hs hok
     clear hz124 hc59 hc35 hz34 hb33 hg32 hz30 hbe29 hb28 hg27 hg23 hB21 hr20 hl14 hB18 ho13 hz12 hbe11 hb10 hg9 hz6 hb4 hg3
     refine gv_cond (b := j82) (by kernel_rfl) (fun hc126 => ?_) (fun hc126 => ?_)
     ·replace h0 := ite_t hc126 h0
      refine gv_seq <| gv_region <| bindE h0 ?_; clear h0; intro r127 hr128 h0
      refine gv_call0 (by kernel_rfl) rfl (by kernel_rfl) enters56 (textstr_at_ok fuel 4 (-3) w83  r127 hr128) ?_
      rintro v131 w129 ⟨hg130, rfl⟩
      refine gv_pureN 1 [8] [(8, (.string (strOf [])))] (by kernel_rfl) ?_
      have hk136 := hb125.grown hg130 nb
      refine gv_store0 24 0 (.agg #[(.int .i64 r127.1), (.int .i64 r127.2)]) #[(.int .i64 r127.1), (.int .i64 r127.2)] hk136 (by kernel_rfl) (by kernel_rfl) (by kernel_rfl) ?_
      intro w132 hg133 hb134 hz135
      refine gv_nil <| gv_cret ?_
      have e := sj h0; subst e
      refine gv_ret (gv_done [(.string (strOf [])), (.agg #[(.int .i64 r127.1), (.int .i64 r127.2)])] rfl ⟨(by kernel_rfl), ⟨⟨b1, 0, none⟩, (by kernel_rfl), run_loadVar_row w132 b1 _ 24 _ _ _ hb134 Tryd.underlying24 rfl (by kernel_rfl)⟩, trivial⟩ ?_)
      have hB137 := bg hB123 hg130 nb
      have hlo138 : w0.heap.size ≤ b1 := lob hbe5 hB0.size
      have hB139 := bg hB137 hg133 (rowlo hlo138)
      exact ⟨grown_of_below hB139, rfl⟩
     ·replace h0 := ite_f hc126 h0
      refine gv_seq <| gv_region <| gv_cut_ops (J := fun a w140 => w83 = w140 ∧ a.defers = [] ∧ a.tmps.size = 80 ∧ Ok [(0, (.string s_0)), (1, (.int .i64 width_1)), (2, (.int .i64 fill_2)), (3, (.int .i64 sides_3)), (9, (bp b1)), (43, (.bool ((decide (sides_3 < 1)) || (decide (sides_3 > 3)))))] a.tmps) ?_ ?_
      ·skip
       refine gv_pureN 3 [44, 45, 46] [(46, (.bool (decide (sides_3 < 1))))] (by kernel_rfl) ?_
       refine gv_split (s := 46) (g := (decide (sides_3 < 1))) (by kernel_rfl) (fun hc141 => ?_) (fun hc141 => ?_)
       ·skip
        refine gv_pureN 4 [43, 47, 48, 49] [(43, (.bool true))] (by kernel_rfl) ?_
        refine gv_nil <| gv_sub [0, 1, 2, 3, 9, 43] (σ' := [(0, (.string s_0)), (1, (.int .i64 width_1)), (2, (.int .i64 fill_2)), (3, (.int .i64 sides_3)), (9, (bp b1)), (43, (.bool true))]) (by kernel_rfl) ?_
        refine gv_goal fun a hd hs hok => ⟨rfl, hd, hs, ?_⟩
        obtain ⟨q0, q1, q2, q3, q9, q43, _⟩ := hok
        exact ⟨q0, q1, q2, q3, q9, (by rw [hc141]; exact q43), trivial⟩
       ·skip
        refine gv_pureN 4 [43, 47, 48, 49] [(43, (.bool (decide (sides_3 > 3))))] (by kernel_rfl) ?_
        refine gv_nil <| gv_sub [0, 1, 2, 3, 9, 43] (σ' := [(0, (.string s_0)), (1, (.int .i64 width_1)), (2, (.int .i64 fill_2)), (3, (.int .i64 sides_3)), (9, (bp b1)), (43, (.bool (decide (sides_3 > 3))))]) (by kernel_rfl) ?_
        refine gv_goal fun a hd hs hok => ⟨rfl, hd, hs, ?_⟩
        obtain ⟨q0, q1, q2, q3, q9, q43, _⟩ := hok
        exact ⟨q0, q1, q2, q3, q9, (by rw [hc141]; exact q43), trivial⟩
      ·rintro a w140 ⟨e, hd, hs, hok⟩; subst e
       refine gv_in ?_ hd hs hok
       clear hd hs hok
       refine gv_cond (b := ((decide (sides_3 < 1)) || (decide (sides_3 > 3)))) (by kernel_rfl) (fun hc142 => ?_) (fun hc142 => ?_)
       ·replace h0 := ite_t hc142 h0
        refine gv_seq <| gv_region <| bindE h0 ?_; clear h0; intro r143 hr144 h0
        refine gv_call0 (by kernel_rfl) rfl (by kernel_rfl) enters56 (textstr_at_ok fuel 4 (-4) w83  r143 hr144) ?_
        rintro v147 w145 ⟨hg146, rfl⟩
        refine gv_pureN 1 [8] [(8, (.string (strOf [])))] (by kernel_rfl) ?_
        have hk152 := hb125.grown hg146 nb
        refine gv_store0 24 0 (.agg #[(.int .i64 r143.1), (.int .i64 r143.2)]) #[(.int .i64 r143.1), (.int .i64 r143.2)] hk152 (by kernel_rfl) (by kernel_rfl) (by kernel_rfl) ?_
        intro w148 hg149 hb150 hz151
        refine gv_nil <| gv_cret ?_
        have e := sj h0; subst e
        refine gv_ret (gv_done [(.string (strOf [])), (.agg #[(.int .i64 r143.1), (.int .i64 r143.2)])] rfl ⟨(by kernel_rfl), ⟨⟨b1, 0, none⟩, (by kernel_rfl), run_loadVar_row w148 b1 _ 24 _ _ _ hb150 Tryd.underlying24 rfl (by kernel_rfl)⟩, trivial⟩ ?_)
        have hB153 := bg hB123 hg146 nb
        have hlo154 : w0.heap.size ≤ b1 := lob hbe5 hB0.size
        have hB155 := bg hB153 hg149 (rowlo hlo154)
        exact ⟨grown_of_below hB155, rfl⟩
       ·replace h0 := ite_f hc142 h0
        refine gv_skip <| gv_blk <| gv_seq <| gv_region <| gv_pureN 2 [51, 52] [(51, (.int .i64 width_1)), (52, (.string s_0))] (by kernel_rfl) ?_
        refine bindE h0 ?_; clear h0; intro r156 hr157 h0
        refine gv_call0 (by kernel_rfl) rfl (by kernel_rfl) enters73 (utf8_RuneCountInString_ok fuel s_0 w83  r156 hr157) ?_
        rintro v160 w158 ⟨hg159, rfl⟩
        refine gv_pureN 3 [11, 54, 55] [(11, (.int .i64 (if 0 < (IntKind.i64.wrap (width_1 - r156)) then (IntKind.i64.wrap (width_1 - r156)) else 0)))] (by kernel_rfl) ?_
        refine bindE h0 ?_; clear h0; intro n161 hn162 h0
        refine gv_name (s := 11) (v := (.int .i64 (if 0 < (IntKind.i64.wrap (width_1 - r156)) then (IntKind.i64.wrap (width_1 - r156)) else 0))) (v' := (.int .i64 n161)) (by kernel_rfl) (congrArg (Value.int .i64) (sj hn162)) ?_
        refine gv_nil <| gv_seq <| gv_region <| gv_pureN 6 [56, 57, 58, 59, 60, 61] [(59, (.agg #[(.int .i64 n161), (.int .i64 0), (.int .i64 (IntKind.i64.wrap ((n161).tdiv 2)))])), (61, (.int .i64 (IntKind.i64.wrap (sides_3 - 1))))] (by kernel_rfl) ?_
        refine bindE h0 ?_; clear h0; intro x163 hx164 h0
        refine gv_aindex (fun n : Int => Value.int .i64 n) (t := 86) (e := 3) (len := 3) (kk := .i64) (i := (IntKind.i64.wrap (sides_3 - 1))) ([n161, 0, (IntKind.i64.wrap ((n161).tdiv 2))] : List Int) x163 [] (fun e => by cases e) rfl rfl rfl (by kernel_rfl) (by kernel_rfl) Tryd.underlying86 (by kernel_rfl) (by kernel_rfl) rfl hx164 rfl ?_
        refine gv_pureN 1 [12] [(12, (.int .i64 x163))] (by kernel_rfl) ?_
        refine gv_nil <| gv_seq <| gv_region <| gv_pureN 2 [63, 64] [(64, (.int .i32 (IntKind.i32.wrap (fill_2))))] (by kernel_rfl) ?_
        refine gv_i2s (src := 21) (dst := 9) (kk := .i32) (x := (IntKind.i32.wrap (fill_2))) [] (fun e => by cases e) rfl rfl rfl (by kernel_rfl) (by kernel_rfl) (by kernel_rfl) Tryd.underlying9 rfl ?_
        refine gv_pureN 1 [13] [(13, (.string (Utf8.encode (IntKind.i32.wrap (fill_2)))))] (by kernel_rfl) ?_
        refine bindE h0 ?_; clear h0; intro n165 hn166 h0
        refine gv_name (s := 13) (v := (.string (Utf8.encode (IntKind.i32.wrap (fill_2))))) (v' := (.string n165)) (by kernel_rfl) (congrArg (Value.string) (sj hn166)) ?_
        refine gv_nil <| gv_seq <| gv_region <| gv_pureN 2 [66, 67] [(66, (.string n165)), (67, (.int .i64 x163))] (by kernel_rfl) ?_
        refine bindE h0 ?_; clear h0; intro r167 hr168 h0
        refine gv_call0 (by kernel_rfl) rfl (by kernel_rfl) enters79 (strings_Repeat_ok fuel n165 x163 w158  r167 hr168) ?_
        rintro v171 w169 ⟨hg170, rfl⟩
        clear hr168 hn166 hx164 hn162 hr157 hc142 hc126
        refine gv_pureN 1 [69] [(69, (.string s_0))] (by kernel_rfl) ?_
        refine bindE h0 ?_; clear h0; intro x172 hx173 h0
        refine gv_cat (t := 9) (s := r167) (u := s_0) x172 [] (fun e => by cases e) rfl rfl rfl (by kernel_rfl) (by kernel_rfl) hx173 rfl ?_
        refine gv_pureN 4 [71, 72, 73, 74] [(71, (.string n165)), (74, (.int .i64 (IntKind.i64.wrap (n161 - x163))))] (by kernel_rfl) ?_
        refine gv_sub [9, 70, 71, 74] (σ' := [(9, (bp b1)), (70, (.string x172)), (71, (.string n165)), (74, (.int .i64 (IntKind.i64.wrap (n161 - x163))))]) (by kernel_rfl) ?_
        refine bindE h0 ?_; clear h0; intro r174 hr175 h0
        refine gv_call0 (by kernel_rfl) rfl (by kernel_rfl) enters79 (strings_Repeat_ok fuel n165 (IntKind.i64.wrap (n161 - x163)) w169  r174 hr175) ?_
        rintro v178 w176 ⟨hg177, rfl⟩
        refine bindE h0 ?_; clear h0; intro x179 hx180 h0
        refine gv_cat (t := 9) (s := x172) (u := r174) x179 [] (fun e => by cases e) rfl rfl rfl (by kernel_rfl) (by kernel_rfl) hx180 rfl ?_
        refine bindE h0 ?_; clear h0; intro r181 hr182 h0
        refine gv_call0 (by kernel_rfl) rfl (by kernel_rfl) enters89 (textstr_limited_ok fuel x179 w176  r181 hr182) ?_
        rintro v185 w183 ⟨hg184, rfl⟩
        refine gv_pureN 3 [8, 78, 79] [(8, (.string r181.1)), (79, (.agg #[(.int .i64 r181.2.1), (.int .i64 r181.2.2)]))] (by kernel_rfl) ?_
        have hg190 := (grown_trans (grown_trans (grown_trans hg159 hg170) hg177) hg184)
        have hk191 := hb125.grown hg190 nb
        refine gv_store0 24 0 (.agg #[(.int .i64 r181.2.1), (.int .i64 r181.2.2)]) #[(.int .i64 r181.2.1), (.int .i64 r181.2.2)] hk191 (by kernel_rfl) (by kernel_rfl) (by kernel_rfl) ?_
        intro w186 hg187 hb188 hz189
        refine gv_nil <| gv_cret ?_
        have e := sj h0; subst e
        refine gv_ret (gv_done [(.string r181.1), (.agg #[(.int .i64 r181.2.1), (.int .i64 r181.2.2)])] rfl ⟨(by kernel_rfl), ⟨⟨b1, 0, none⟩, (by kernel_rfl), run_loadVar_row w186 b1 _ 24 _ _ _ hb188 Tryd.underlying24 rfl (by kernel_rfl)⟩, trivial⟩ ?_)
        have hB192 := bg hB123 hg190 nb
        have hlo193 : w0.heap.size ≤ b1 := lob hbe5 hB0.size
        have hB194 := bg hB192 hg187 (rowlo hlo193)
        exact ⟨grown_of_below hB194, rfl⟩

theorem ref4_SameTexts_ok (fuel : Nat) (pa0_0 : Option Addr) (pc0_0 : Nat) (a_0 : (List ByteArray)) (pa1_0 : Option Addr) (pc1_0 : Nat) (b_1 : (List ByteArray)) (w0 : World) (X0 : Nat → Prop) (hX0 : ∀ k, X0 k → k < w0.heap.size) (hpa0_0 : Rd sE w0 X0 pa0_0 pc0_0 a_0) (hpa1_0 : Rd sE w0 X0 pa1_0 pc1_0 b_1) (r0 : Bool) (h0 : ref4_SameTexts fuel a_0 b_1 = some r0) :
    Calls Tryd.prog 18 ([(.slice pa0_0 (List.length a_0) pc0_0), (.slice pa1_0 (List.length b_1) pc1_0)] : List Value).toArray w0 (Ret fun v w' => w0.grownBy w' none ∧ v = tup [(.bool r0)]) := by
 have hB0 : Below w0.heap.size w0 w0 := Below.refl _ _
 unfold ref4_SameTexts at h0
 refine calls_run Tryd.func18 rfl Tryd.ntmps18 (by kernel_rfl) ?_
 refine gv_sub [0, 1] (σ' := [(0, (.slice pa0_0 (List.length a_0) pc0_0)), (1, (.slice pa1_0 (List.length b_1) pc1_0))]) (by kernel_rfl) ?_
 refine gv_seq <| gv_region <| gv_pureN 1 [4] [] (by kernel_rfl) ?_
 refine gv_nil <| gv_seq <| gv_seq <| gv_region <| gv_pureN 5 [6, 7, 8, 9, 10] [(10, (.bool (((List.length a_0 : Nat) : Int) != ((List.length b_1 : Nat) : Int))))] (by kernel_rfl) ?_
 refine gv_nil <| gv_cond (b := (((List.length a_0 : Nat) : Int) != ((List.length b_1 : Nat) : Int))) (by kernel_rfl) (fun hc1 => ?_) (fun hc1 => ?_)
 ·replace h0 := ite_t hc1 h0
  refine gv_seq <| gv_region <| gv_pureN 1 [4] [(4, (.bool false))] (by kernel_rfl) ?_
  refine gv_nil <| gv_cret ?_
  have e := sj h0; subst e
  refine gv_ret (gv_done [(.bool false)] rfl ⟨(by kernel_rfl), trivial⟩ ?_)
  exact ⟨grown_of_below hB0, rfl⟩
 ·replace h0 := ite_f hc1 h0
  refine gv_skip <| gv_seq <| gv_seq <| gv_region <| gv_pureN 1 [5] [(5, (.int .i64 0))] (by kernel_rfl) ?_
  refine gv_nil <| bindE h0 ?_; clear h0; intro j2 h1 h0
  refine gv_cut_code (J := fun a w4 => ∃ s3 : Unit, j2 = .inl s3 ∧ Below w0.heap.size w0 w4 ∧ w0.heap.size ≤ w4.heap.size ∧ a.defers = [] ∧ a.tmps.size = 26 ∧ Ok [] a.tmps) ?_ ?_
  ·skip
   refine gv_block <| gv_loop (A := fun (s5 : Int) a w6 => Below w0.heap.size w0 w6 ∧ w0.heap.size ≤ w6.heap.size ∧ a.defers = [] ∧ a.tmps.size = 26 ∧ Ok [(0, (.slice pa0_0 (List.length a_0) pc0_0)), (1, (.slice pa1_0 (List.length b_1) pc1_0)), (5, (.int .i64 s5))] a.tmps) h1 ?_ ?_
   ·intro a hd hs hok
    exact ⟨hB0, (Nat.le_refl _), hd, hs, ok_pick [0, 1, 5] hok (by kernel_rfl)⟩
   ·rintro s5 r2 h2 hR2 a w6 ⟨hB7, hz8, hd, hs, hok⟩
    refine gv_in ?_ hd hs hok
    clear hd hs hok
    refine gv_seq <| gv_seq <| gv_region <| gv_pureN 4 [11, 12, 13, 14] [(14, (.bool (decide (s5 < ((List.length a_0 : Nat) : Int)))))] (by kernel_rfl) ?_
    refine gv_nil <| gv_cond (b := (decide (s5 < ((List.length a_0 : Nat) : Int)))) (by kernel_rfl) (fun hc9 => ?_) (fun hc9 => ?_)
    ·replace h2 := ite_t hc9 h2
     refine gv_skip <| gv_seq <| gv_block <| gv_seq <| gv_drawA (by kernel_rfl) ?_
     intro w10 hg11
     refine gv_pre [0, 1, 2, 4, 5, 6] (bA 9 [0, 1, 2, 4, 5, 6]) 3 (by kernel_rfl) (by kernel_rfl) ?_
     refine gv_pureN 2 [17, 18] [(17, (.slice pa0_0 (List.length a_0) pc0_0)), (18, (.int .i64 s5))] (by kernel_rfl) ?_
     refine bindE h2 ?_; clear h2; intro x12 hx13 h2
     have hB14 := bg hB7 hg11 nb
     refine gv_idxaddr (t := 22) (e := 9) (a := pa0_0) (len := List.length a_0) (cap := pc0_0) (kk := .i64) (i := s5) (sz := 1) [] (fun e => by cases e) rfl rfl rfl (by kernel_rfl) (by kernel_rfl) Tryd.underlying22 (by kernel_rfl) ((hpa0_0.below hB14 hX0).has hx13) (idx_spec hx13).1 (idx_spec hx13).2.1 rfl ?_
     refine gv_pureN 2 [21, 22] [(21, (.slice pa1_0 (List.length b_1) pc1_0)), (22, (.int .i64 s5))] (by kernel_rfl) ?_
     refine bindE h2 ?_; clear h2; intro x15 hx16 h2
     refine gv_idxaddr (t := 22) (e := 9) (a := pa1_0) (len := List.length b_1) (cap := pc1_0) (kk := .i64) (i := s5) (sz := 1) [] (fun e => by cases e) rfl rfl rfl (by kernel_rfl) (by kernel_rfl) Tryd.underlying22 (by kernel_rfl) ((hpa1_0.below hB14 hX0).has hx16) (idx_spec hx16).1 (idx_spec hx16).2.1 rfl ?_
     refine gv_nil <| gv_goA ?_
     refine gv_stage (Cls w10 []) [0, 1, 2, 3, 4, 5, 6, 7] [(3, some true), (7, some true)] (bA 9 [0, 1, 2, 3, 4, 5, 6, 7]) 1 (by kernel_rfl) (by kernel_rfl) (Cls.refl _ _) ?_
     have hC17 := Cls.refl w10 []
     refine gv_load (t := 9) (A := (elemAddr pa0_0 ((s5 : Int).toNat * 1))) (.string x12) [] (fun e => by cases e) rfl rfl rfl (by kernel_rfl) (by kernel_rfl) (by kernel_rfl) (inw1 fun w' hC' => ((hC'.rd (hpa0_0.below hB14 hX0) (fun k (hk : X0 k) => ltl (hX0 k hk) hB14.size) nmx_nil).cell hx13)) rfl ?_
     refine gv_load (t := 9) (A := (elemAddr pa1_0 ((s5 : Int).toNat * 1))) (.string x15) [] (fun e => by cases e) rfl rfl rfl (by kernel_rfl) (by kernel_rfl) (by kernel_rfl) (inw1 fun w' hC' => ((hC'.rd (hpa1_0.below hB14 hX0) (fun k (hk : X0 k) => ltl (hX0 k hk) hB14.size) nmx_nil).cell hx16)) rfl ?_
     refine gv_nil <| gv_goA ?_
     refine gv_pre [8] (bA 9 [0, 1, 2, 3, 4, 5, 6, 7, 8]) 0 (by kernel_rfl) (by kernel_rfl) ?_
     refine gv_pureN 1 [25] [(25, (.bool (!(x12.toList == x15.toList))))] (by kernel_rfl) ?_
     refine gv_nil <| gv_goA ?_
     refine gv_stageE (by kernel_rfl) ?_
     refine gv_cond (b := (!(x12.toList == x15.toList))) (by kernel_rfl) (fun hc18 => ?_) (fun hc18 => ?_)
     ·replace h2 := ite_t hc18 h2
      refine gv_seq <| gv_region <| gv_pureN 1 [4] [(4, (.bool false))] (by kernel_rfl) ?_
      refine gv_nil <| gv_cret ?_
      have e := sj h2; subst e
      replace h1 := congrArg some (hR2 _ rfl)
      have e := sj h1; subst e
      replace h0 := cont_inr h0
      have e := sj h0; subst e
      refine gv_ret (gv_done [(.bool false)] rfl ⟨(by kernel_rfl), trivial⟩ ?_)
      exact ⟨grown_of_below hB14, rfl⟩
     ·replace h2 := ite_f hc18 h2
      refine gv_skip <| gv_blk <| gv_region <| gv_pureN 3 [5, 15, 16] [(5, (.int .i64 (IntKind.i64.wrap (s5 + 1))))] (by kernel_rfl) ?_
      refine gv_nil ?_
      have e := sj h2; subst e
      refine gv_goal fun a hd hs hok => ?_
      have hz19 := (nt hz8 hg11.size)
      exact ⟨(IntKind.i64.wrap (s5 + 1)), rfl, hB14, hz19, hd, hs, ok_pick [0, 1, 5] hok (by kernel_rfl)⟩
    ·replace h2 := ite_f hc9 h2
     refine gv_cexit <| gv_exit rfl ?_
     have e := sj h2; subst e
     replace h1 := congrArg some (hR2 _ rfl)
     have e := sj h1; subst e
     refine gv_goal fun a hd hs hok => ?_
     have hz20 := hz8
     exact ⟨(), rfl, hB7, hz20, hd, hs, ok_pick [] hok (by kernel_rfl)⟩
  ·rintro a w4 ⟨s3, e, hB21, hz22, hd, hs, hok⟩
   subst e
   refine gv_in ?_ hd hs hok
   clear hd hs hok
   replace h0 := cont_inl h0
   refine gv_seq <| gv_region <| gv_pureN 1 [4] [(4, (.bool true))] (by kernel_rfl) ?_
   refine gv_nil <| gv_cret ?_
   have e := sj h0; subst e
   refine gv_ret (gv_done [(.bool true)] rfl ⟨(by kernel_rfl), trivial⟩ ?_)
   exact ⟨grown_of_below hB21, rfl⟩

theorem law4_letters_ok (fuel : Nat)  (w0 : World) (X0 : Nat → Prop) (hX0 : ∀ k, X0 k → k < w0.heap.size) {gmx : Int} (hG0 : Rd (iE .i64) w0 X0 (some ⟨0, 0, none⟩) 1 [gmx]) (hG1 : Rd bE w0 X0 (some ⟨1, 0, none⟩) 256 utf8First) (hG2 : Rd (prE (iE .u8) (iE .u8)) w0 X0 (some ⟨2, 0, none⟩) 16 utf8Acc) (r0 : Bool) (h0 : law4_letters fuel  = some r0) :
    Calls Tryd.prog 15 ([] : List Value).toArray w0 (Ret fun v w' => w0.grownBy w' none ∧ v = tup [(.bool r0)]) := by
 have hB0 : Below w0.heap.size w0 w0 := Below.refl _ _
 unfold law4_letters at h0
 refine calls_run Tryd.func15 rfl Tryd.ntmps15 (by kernel_rfl) ?_
 refine gv_sub [] (σ' := []) (by kernel_rfl) ?_
 refine gv_seq <| gv_region <| gv_pureN 1 [0] [] (by kernel_rfl) ?_
 refine gv_nil <| gv_seq <| gv_region <| bindE h0 ?_; clear h0; intro r1 hr2 h0
 refine gv_call0 (by kernel_rfl) rfl (by kernel_rfl) enters46 (textstr_Split_ok fuel (strOf [97, 44, 98, 44, 44, 99]) (strOf [44]) 2 w0 (fun k => X0 k ∨ X0 k ∨ X0 k) (fun k hk => (hk).elim (fun h => (fun k (hk : X0 k) => ltl (hX0 k hk) hB0.size) k h) (fun h => (h).elim (fun h => (fun k (hk : X0 k) => ltl (hX0 k hk) hB0.size) k h) (fun h => (fun k (hk : X0 k) => ltl (hX0 k hk) hB0.size) k h))) ((hG0.below hB0 hX0).wide (fun k hk => (.inl hk))) ((hG1.below hB0 hX0).wide (fun k hk => (.inr (.inl hk)))) ((hG2.below hB0 hX0).wide (fun k hk => (.inr (.inr hk)))) r1 hr2) ?_
 rintro v5 w3 ⟨hg4, a6, c7, X9, rfl, ho8, hx10⟩
 have hx11 : ∀ k, X9 k → k < w3.heap.size := fun k hk => (hx10 k hk).1
 have hx12 : ∀ k, X9 k → X0 k ∨ w0.heap.size ≤ k := fun k hk => (hx10 k hk).2.elim (fun h => (h).elim (fun h => (fun k (hk : X0 k) => Or.inl hk) k h) (fun h => (h).elim (fun h => (fun k (hk : X0 k) => Or.inl hk) k h) (fun h => (fun k (hk : X0 k) => Or.inl hk) k h))) (fun h => .inr (Nat.le_trans hB0.size h))
 refine gv_pureN 3 [9, 11, 12] [(11, (.slice a6 (List.length r1.1) c7)), (12, (.agg #[(.int .i64 r1.2.1), (.int .i64 r1.2.2)]))] (by kernel_rfl) ?_
 refine gv_new0 (fun b => .pointer (some ⟨b, 0, none⟩)) #[(.int .i64 0), (.int .i64 0)] 24 (by kernel_rfl) (by kernel_rfl) ?_
 intro b13 w14 hg15 hb16 hbe17 hz18
 refine gv_pureN 1 [1] [(1, (.slice a6 (List.length r1.1) c7))] (by kernel_rfl) ?_
 refine gv_store0 24 0 (.agg #[(.int .i64 r1.2.1), (.int .i64 r1.2.2)]) #[(.int .i64 r1.2.1), (.int .i64 r1.2.2)] hb16 (by kernel_rfl) (by kernel_rfl) (by kernel_rfl) ?_
 intro w19 hg20 hb21 hz22
 refine gv_nil <| gv_seq <| gv_region <| bindE h0 ?_; clear h0; intro r23 hr24 h0
 have hg25 := (grown_trans hg4 hg15)
 have hB26 := bg hB0 hg25 nb
 have hB27 := bg hB0 hg4 nb
 have hlo28 : w0.heap.size ≤ b13 := lob hbe17 hB27.size
 have hB29 := bg hB26 hg20 (rowlo hlo28)
 refine gv_call0 (by kernel_rfl) rfl (by kernel_rfl) enters21 (textstr_ToTitle_ok fuel (strOf [100, 111, 110, 39, 116, 32, 195, 169, 108, 97, 110]) w19 (fun k => X0 k ∨ X0 k) (fun k hk => (hk).elim (fun h => (fun k (hk : X0 k) => ltl (hX0 k hk) hB29.size) k h) (fun h => (fun k (hk : X0 k) => ltl (hX0 k hk) hB29.size) k h)) ((hG1.below hB29 hX0).wide (fun k hk => (.inl hk))) ((hG2.below hB29 hX0).wide (fun k hk => (.inr hk))) r23 hr24) ?_
 rintro v32 w30 ⟨hg31, rfl⟩
 refine gv_pureN 3 [13, 15, 16] [(15, (.string r23.1)), (16, (.agg #[(.int .i64 r23.2.1), (.int .i64 r23.2.2)]))] (by kernel_rfl) ?_
 refine gv_new0 (fun b => .pointer (some ⟨b, 0, none⟩)) #[(.int .i64 0), (.int .i64 0)] 24 (by kernel_rfl) (by kernel_rfl) ?_
 intro b33 w34 hg35 hb36 hbe37 hz38
 refine gv_pureN 1 [3] [(3, (.string r23.1))] (by kernel_rfl) ?_
 refine gv_store0 24 0 (.agg #[(.int .i64 r23.2.1), (.int .i64 r23.2.2)]) #[(.int .i64 r23.2.1), (.int .i64 r23.2.2)] hb36 (by kernel_rfl) (by kernel_rfl) (by kernel_rfl) ?_
 intro w39 hg40 hb41 hz42
 refine gv_nil <| gv_seq <| gv_region <| bindE h0 ?_; clear h0; intro r43 hr44 h0
 have hg45 := (grown_trans hg31 hg35)
 have hB46 := bg hB29 hg45 nb
 have hB47 := bg hB29 hg31 nb
 have hlo48 : w0.heap.size ≤ b33 := lob hbe37 hB47.size
 have hB49 := bg hB46 hg40 (rowlo hlo48)
 refine gv_call0 (by kernel_rfl) rfl (by kernel_rfl) enters52 (textstr_Pad_ok fuel (strOf [97, 98]) 5 42 3 w39 (fun k => X0 k ∨ X0 k) (fun k hk => (hk).elim (fun h => (fun k (hk : X0 k) => ltl (hX0 k hk) hB49.size) k h) (fun h => (fun k (hk : X0 k) => ltl (hX0 k hk) hB49.size) k h)) ((hG1.below hB49 hX0).wide (fun k hk => (.inl hk))) ((hG2.below hB49 hX0).wide (fun k hk => (.inr hk))) r43 hr44) ?_
 rintro v52 w50 ⟨hg51, rfl⟩
 refine gv_pureN 3 [17, 19, 20] [(19, (.string r43.1)), (20, (.agg #[(.int .i64 r43.2.1), (.int .i64 r43.2.2)]))] (by kernel_rfl) ?_
 refine gv_new0 (fun b => .pointer (some ⟨b, 0, none⟩)) #[(.int .i64 0), (.int .i64 0)] 24 (by kernel_rfl) (by kernel_rfl) ?_
 intro b53 w54 hg55 hb56 hbe57 hz58
 clear hz58 hB47 hB46 hg45 hr44 hz42 hz38 hb36 hB29 hB27 hB26 hg25 hr24 hz22 hz18 hb16 hx10 hg4 hr2
 refine gv_pureN 1 [5] [(5, (.string r43.1))] (by kernel_rfl) ?_
 refine gv_sub [1, 2, 3, 4, 5, 6, 20] (σ' := [(1, (.slice a6 (List.length r1.1) c7)), (2, (bp b13)), (3, (.string r23.1)), (4, (bp b33)), (5, (.string r43.1)), (6, (bp b53)), (20, (.agg #[(.int .i64 r43.2.1), (.int .i64 r43.2.2)]))]) (by kernel_rfl) ?_
 refine gv_store0 24 0 (.agg #[(.int .i64 r43.2.1), (.int .i64 r43.2.2)]) #[(.int .i64 r43.2.1), (.int .i64 r43.2.2)] hb56 (by kernel_rfl) (by kernel_rfl) (by kernel_rfl) ?_
 intro w59 hg60 hb61 hz62
 refine gv_nil <| gv_seq <| gv_region <| bindE h0 ?_; clear h0; intro r63 hr64 h0
 have hg65 := (grown_trans hg51 hg55)
 have hB66 := bg hB49 hg65 nb
 have hB67 := bg hB49 hg51 nb
 have hlo68 : w0.heap.size ≤ b53 := lob hbe57 hB67.size
 have hB69 := bg hB66 hg60 (rowlo hlo68)
 refine gv_call0 (by kernel_rfl) rfl (by kernel_rfl) enters14 (textstr_Wrap_ok fuel (strOf [116, 111, 32, 98, 101, 32, 111, 114]) 5 w59 (fun k => X0 k ∨ X0 k) (fun k hk => (hk).elim (fun h => (fun k (hk : X0 k) => ltl (hX0 k hk) hB69.size) k h) (fun h => (fun k (hk : X0 k) => ltl (hX0 k hk) hB69.size) k h)) ((hG1.below hB69 hX0).wide (fun k hk => (.inl hk))) ((hG2.below hB69 hX0).wide (fun k hk => (.inr hk))) r63 hr64) ?_
 rintro v72 w70 ⟨hg71, a73, c74, X76, rfl, ho75, hx77⟩
 have hx78 : ∀ k, X76 k → k < w70.heap.size := fun k hk => (hx77 k hk).1
 have hx79 : ∀ k, X76 k → X0 k ∨ w0.heap.size ≤ k := fun k hk => (hx77 k hk).2.elim (fun h => (h).elim (fun h => (fun k (hk : X0 k) => Or.inl hk) k h) (fun h => (fun k (hk : X0 k) => Or.inl hk) k h)) (fun h => .inr (Nat.le_trans hB69.size h))
 refine gv_pureN 3 [21, 23, 24] [(23, (.slice a73 (List.length r63.1) c74)), (24, (.agg #[(.int .i64 r63.2.1), (.int .i64 r63.2.2)]))] (by kernel_rfl) ?_
 refine gv_new0 (fun b => .pointer (some ⟨b, 0, none⟩)) #[(.int .i64 0), (.int .i64 0)] 24 (by kernel_rfl) (by kernel_rfl) ?_
 intro b80 w81 hg82 hb83 hbe84 hz85
 refine gv_pureN 1 [7] [(7, (.slice a73 (List.length r63.1) c74))] (by kernel_rfl) ?_
 refine gv_store0 24 0 (.agg #[(.int .i64 r63.2.1), (.int .i64 r63.2.2)]) #[(.int .i64 r63.2.1), (.int .i64 r63.2.2)] hb83 (by kernel_rfl) (by kernel_rfl) (by kernel_rfl) ?_
 intro w86 hg87 hb88 hz89
 refine gv_nil <| gv_seq <| gv_region <| bindE h0 ?_; clear h0; intro j90 h1 h0
 refine gv_cut_ops (J := fun a w91 => Below w0.heap.size w0 w91 ∧ w86.heap.size ≤ w91.heap.size ∧ a.defers = [] ∧ a.tmps.size = 61 ∧ Ok [(0, (.bool j90))] a.tmps) ?_ ?_
 ·skip
  refine gv_pureN 1 [25] [(25, (bp b13))] (by kernel_rfl) ?_
  have hg92 := (grown_trans hg31 hg35)
  have hk93 := hb21.grown hg31 nb
  have lt94 := ltl ((ltb hk93) _ rfl) ((lowb hbe37) _ rfl)
  have hk95 := hb41.grown hg51 nb
  have lt96 := ltl ((ltb hk95) _ rfl) ((lowb hbe57) _ rfl)
  have lt97 := ltt lt94 lt96
  have hg98 := (grown_trans hg71 hg82)
  have hk99 := hb61.grown hg71 nb
  have lt100 := ltl ((ltb hk99) _ rfl) ((lowb hbe84) _ rfl)
  have lt101 := ltt lt97 lt100
  have hk102 := (((((hb21.grown hg92 nb).grown hg40 (rowne (ng lt94))).grown hg65 nb).grown hg60 (rowne (ng lt97))).grown hg98 nb).grown hg87 (rowne (ng lt101))
  refine gv_load (t := 3) (A := ⟨b13, 0, none⟩) (.int .i64 r1.2.1) [] (fun e => by cases e) rfl rfl rfl (by kernel_rfl) (by kernel_rfl) (by kernel_rfl) (inw0 (hk102.cell 0 rfl)) rfl ?_
  refine gv_pureN 2 [27, 28] [(28, (.bool (r1.2.1 == 0)))] (by kernel_rfl) ?_
  refine gv_split (s := 28) (g := (r1.2.1 == 0)) (by kernel_rfl) (fun hc103 => ?_) (fun hc103 => ?_)
  ·skip
   replace h1 := ite_t hc103 h1
   refine gv_pureN 1 [29] [(29, (bp b33))] (by kernel_rfl) ?_
   have lt104 := ltt lt96 lt100
   have hk105 := (((hk95.grown hg55 nb).grown hg60 (rowne (ng lt96))).grown hg98 nb).grown hg87 (rowne (ng lt104))
   refine gv_load (t := 3) (A := ⟨b33, 0, none⟩) (.int .i64 r23.2.1) [] (fun e => by cases e) rfl rfl rfl (by kernel_rfl) (by kernel_rfl) (by kernel_rfl) (inw0 (hk105.cell 0 rfl)) rfl ?_
   refine gv_pureN 3 [31, 32, 33] [(33, (.bool (r23.2.1 == 0)))] (by kernel_rfl) ?_
   refine gv_split (s := 33) (g := (r23.2.1 == 0)) (by kernel_rfl) (fun hc106 => ?_) (fun hc106 => ?_)
   ·skip
    replace h1 := ite_t hc106 h1
    refine gv_pureN 1 [34] [(34, (bp b53))] (by kernel_rfl) ?_
    have hk107 := (hk99.grown hg82 nb).grown hg87 (rowne (ng lt100))
    refine gv_load (t := 3) (A := ⟨b53, 0, none⟩) (.int .i64 r43.2.1) [] (fun e => by cases e) rfl rfl rfl (by kernel_rfl) (by kernel_rfl) (by kernel_rfl) (inw0 (hk107.cell 0 rfl)) rfl ?_
    refine gv_pureN 3 [36, 37, 38] [(38, (.bool (r43.2.1 == 0)))] (by kernel_rfl) ?_
    refine gv_sub [1, 3, 5, 7, 8, 38] (σ' := [(1, (.slice a6 (List.length r1.1) c7)), (3, (.string r23.1)), (5, (.string r43.1)), (7, (.slice a73 (List.length r63.1) c74)), (8, (bp b80)), (38, (.bool (r43.2.1 == 0)))]) (by kernel_rfl) ?_
    refine gv_split (s := 38) (g := (r43.2.1 == 0)) (by kernel_rfl) (fun hc108 => ?_) (fun hc108 => ?_)
    ·skip
     replace h1 := ite_t hc108 h1
     refine gv_pureN 1 [39] [(39, (bp b80))] (by kernel_rfl) ?_
     refine gv_load (t := 3) (A := ⟨b80, 0, none⟩) (.int .i64 r63.2.1) [] (fun e => by cases e) rfl rfl rfl (by kernel_rfl) (by kernel_rfl) (by kernel_rfl) (inw0 (hb88.cell 0 rfl)) rfl ?_
     refine gv_pureN 3 [41, 42, 43] [(43, (.bool (r63.2.1 == 0)))] (by kernel_rfl) ?_
     refine gv_split (s := 43) (g := (r63.2.1 == 0)) (by kernel_rfl) (fun hc109 => ?_) (fun hc109 => ?_)
     ·skip
      replace h1 := ite_t hc109 h1
      refine gv_pureN 1 [44] [(44, (.slice a6 (List.length r1.1) c7))] (by kernel_rfl) ?_
      refine gv_new0 (fun b => .slice (some ⟨b, 0, none⟩) 3 3) #[(.string (strOf [97])), (.string (strOf [98])), (.string (strOf [44, 99]))] 9 (by kernel_rfl) (by kernel_rfl) ?_
      intro b110 w111 hg112 hb113 hbe114 hz115
      have ho116 : Gv.Own sE 9 w111 (fun _ => False) (some ⟨b110, 0, none⟩) 3 ([(strOf [97]), (strOf [98]), (strOf [44, 99])] : List ByteArray) := Box.ownE hb113 ⟨[(.string (strOf [97]))], [(.string (strOf [98])), (.string (strOf [44, 99]))], rfl, rfl, ⟨[(.string (strOf [98]))], [(.string (strOf [44, 99]))], rfl, rfl, ⟨[(.string (strOf [44, 99]))], [], rfl, rfl, rfl⟩⟩⟩ (show 3 ≤ maxLen by decide) (fun h => h)
      have hB121 := bg hB69 hg98 nb
      have hB122 := bg hB69 hg71 nb
      have hlo123 : w0.heap.size ≤ b80 := lob hbe84 hB122.size
      have hB124 := bg hB121 hg87 (rowlo hlo123)
      have hl117 : ∀ g, blk (some ⟨b110, 0, none⟩) = some g → w0.heap.size ≤ g := loo hbe114 hB124.size
      refine bindE h1 ?_; clear h1; intro r125 hr126 h1
      have hx127 := ltx (ltx (ltx (ltx (ltx (ltx (ltx (ltx (ltx hx11 hg15.size) hg20.size) hg92.size) hg40.size) hg65.size) hg60.size) hg98.size) hg87.size) hg112.size
      have ap128 : ¬ X9 b13 := fun hx => nl ((lowb hbe17) _ rfl) (hx11 _ hx)
      have hx129 := ltx hx11 hg15.size
      have hx130 := ltx hx129 hg20.size
      have hx131 := ltx hx130 hg31.size
      have ap132 : ¬ X9 b33 := fun hx => nl ((lowb hbe37) _ rfl) (hx131 _ hx)
      have hx133 := ltx hx131 hg35.size
      have hx134 := ltx hx133 hg40.size
      have hx135 := ltx hx134 hg51.size
      have ap136 : ¬ X9 b53 := fun hx => nl ((lowb hbe57) _ rfl) (hx135 _ hx)
      have hx137 := ltx hx135 hg55.size
      have hx138 := ltx hx137 hg60.size
      have hx139 := ltx hx138 hg71.size
      have ap140 : ¬ X9 b80 := fun hx => nl ((lowb hbe84) _ rfl) (hx139 _ hx)
      have hx141 := ltx hx139 hg82.size
      have hx142 := ltx hx141 hg87.size
      have hk143 := ((((((((ho8.grown hg15 hx11 nb).grown hg20 hx129 (rowne ap128)).grown hg92 hx130 nb).grown hg40 hx133 (rowne ap132)).grown hg65 hx134 nb).grown hg60 hx137 (rowne ap136)).grown hg98 hx138 nb).grown hg87 hx141 (rowne ap140)).grown hg112 hx142 nb
      refine gv_call0 (by kernel_rfl) rfl (by kernel_rfl) enters18 (ref4_SameTexts_ok fuel a6 c7 r1.1 (some ⟨b110, 0, none⟩) 3 ([(strOf [97]), (strOf [98]), (strOf [44, 99])] : List ByteArray) w111 (fun k => X9 k ∨ (fun k => blk (some ⟨b110, 0, none⟩) = some k) k) (fun k hk => (hk).elim (fun h => hx127 k h) (fun h => (fun k (hk : blk (some ⟨b110, 0, none⟩) = some k) => ho116.lt k hk) k h)) (hk143.wide (fun k hk => (.inl hk))) ((ho116.rd (Y := fun k => blk (some ⟨b110, 0, none⟩) = some k) (fun _ h => h.elim) (fun g e => e)).wide (fun k hk => (.inr hk))) r125 hr126) ?_
      rintro v146 w144 ⟨hg145, rfl⟩
      refine gv_pureN 2 [47, 48] [(48, (.bool r125))] (by kernel_rfl) ?_
      refine gv_split (s := 48) (g := r125) (by kernel_rfl) (fun hc147 => ?_) (fun hc147 => ?_)
      ·skip
       replace h1 := ite_t hc147 h1
       refine gv_pureN 4 [49, 50, 51, 52] [(52, (.bool (r23.1.toList == (strOf [68, 111, 110, 39, 84, 32, 195, 137, 108, 97, 110]).toList)))] (by kernel_rfl) ?_
       refine gv_split (s := 52) (g := (r23.1.toList == (strOf [68, 111, 110, 39, 84, 32, 195, 137, 108, 97, 110]).toList)) (by kernel_rfl) (fun hc148 => ?_) (fun hc148 => ?_)
       ·skip
        replace h1 := ite_t hc148 h1
        refine gv_pureN 4 [53, 54, 55, 56] [(56, (.bool (r43.1.toList == (strOf [42, 97, 98, 42, 42]).toList)))] (by kernel_rfl) ?_
        refine gv_split (s := 56) (g := (r43.1.toList == (strOf [42, 97, 98, 42, 42]).toList)) (by kernel_rfl) (fun hc149 => ?_) (fun hc149 => ?_)
        ·skip
         replace h1 := ite_t hc149 h1
         refine gv_pureN 1 [57] [(57, (.slice a73 (List.length r63.1) c74))] (by kernel_rfl) ?_
         refine gv_new0 (fun b => .slice (some ⟨b, 0, none⟩) 2 2) #[(.string (strOf [116, 111, 32, 98, 101])), (.string (strOf [111, 114]))] 9 (by kernel_rfl) (by kernel_rfl) ?_
         intro b150 w151 hg152 hb153 hbe154 hz155
         have ho156 : Gv.Own sE 9 w151 (fun _ => False) (some ⟨b150, 0, none⟩) 2 ([(strOf [116, 111, 32, 98, 101]), (strOf [111, 114])] : List ByteArray) := Box.ownE hb153 ⟨[(.string (strOf [116, 111, 32, 98, 101]))], [(.string (strOf [111, 114]))], rfl, rfl, ⟨[(.string (strOf [111, 114]))], [], rfl, rfl, rfl⟩⟩ (show 2 ≤ maxLen by decide) (fun h => h)
         have hg161 := (grown_trans hg112 hg145)
         have hB162 := bg hB124 hg161 nb
         have hl157 : ∀ g, blk (some ⟨b150, 0, none⟩) = some g → w0.heap.size ≤ g := loo hbe154 hB162.size
         refine bindE h1 ?_; clear h1; intro r163 hr164 h1
         have hg165 := (grown_trans hg161 hg152)
         have hx166 := ltx (ltx (ltx hx78 hg82.size) hg87.size) hg165.size
         have ap167 : ¬ X76 b80 := fun hx => nl ((lowb hbe84) _ rfl) (hx78 _ hx)
         have hx168 := ltx hx78 hg82.size
         have hx169 := ltx hx168 hg87.size
         have hk170 := ((ho75.grown hg82 hx78 nb).grown hg87 hx168 (rowne ap167)).grown hg165 hx169 nb
         refine gv_call0 (by kernel_rfl) rfl (by kernel_rfl) enters18 (ref4_SameTexts_ok fuel a73 c74 r63.1 (some ⟨b150, 0, none⟩) 2 ([(strOf [116, 111, 32, 98, 101]), (strOf [111, 114])] : List ByteArray) w151 (fun k => X76 k ∨ (fun k => blk (some ⟨b150, 0, none⟩) = some k) k) (fun k hk => (hk).elim (fun h => hx166 k h) (fun h => (fun k (hk : blk (some ⟨b150, 0, none⟩) = some k) => ho156.lt k hk) k h)) (hk170.wide (fun k hk => (.inl hk))) ((ho156.rd (Y := fun k => blk (some ⟨b150, 0, none⟩) = some k) (fun _ h => h.elim) (fun g e => e)).wide (fun k hk => (.inr hk))) r163 hr164) ?_
         rintro v173 w171 ⟨hg172, rfl⟩
         have hz174 := (nt (nt (nt hg112.size hg145.size) hg152.size) hg172.size)
         clear hk170 hx169 hx168 ap167 hx166 hg165 hr164 hl157 hg161 ho156 hz155 hbe154 hb153 hc149 hc148 hc147 hg145 hk143 hx142 hx141 ap140 hx139 hx138 hx137 ap136 hx135 hx134 hx133 ap132 hx131 hx130 hx129 ap128 hx127 hr126 hl117 hB124 hlo123 hB122 hB121 ho116 hz115 hbe114 hb113 hg112 hc109 hc108 hk107 hc106 hk105 lt104 hc103 hk102 lt101 lt100 hk99 hg98 lt97 lt96 hk95 lt94 hk93 hg92 hz89 hb88 hg87 hz85 hbe84 hb83 hg82 hx79 hx78 hx77 ho75 hg71 hB69 hlo68 hB67 hB66 hg65 hr64 hz62 hb61 hg60 hbe57 hb56 hg55 hg51 hB49 hlo48 hb41 hg40 hbe37 hg35 hg31 hlo28 hb21 hg20 hbe17 hg15 hx12 hx11 ho8
         refine gv_pureN 2 [0, 60] [(0, (.bool r163))] (by kernel_rfl) ?_
         refine gv_nil ?_
         have e := sj h1; subst e
         refine gv_goal fun a hd hs hok => ?_
         have hg175 := (grown_trans hg152 hg172)
         have hB176 := bg hB162 hg175 nb
         have hz177 := hz174
         exact ⟨hB176, hz177, hd, hs, ok_pick [0] hok (by kernel_rfl)⟩
        ·skip
         replace h1 := ite_f hc149 h1
         refine gv_pureN 5 [0, 57, 58, 59, 60] [(0, (.bool false))] (by kernel_rfl) ?_
         refine gv_nil ?_
         have e := sj h1; subst e
         refine gv_goal fun a hd hs hok => ?_
         have hg178 := (grown_trans hg112 hg145)
         have hB179 := bg hB124 hg178 nb
         have hz180 := (nt hg112.size hg145.size)
         exact ⟨hB179, hz180, hd, hs, ok_pick [0] hok (by kernel_rfl)⟩
       ·skip
        replace h1 := ite_f hc148 h1
        refine gv_pureN 9 [0, 53, 54, 55, 56, 57, 58, 59, 60] [(0, (.bool false))] (by kernel_rfl) ?_
        refine gv_nil ?_
        have e := sj h1; subst e
        refine gv_goal fun a hd hs hok => ?_
        have hg181 := (grown_trans hg112 hg145)
        have hB182 := bg hB124 hg181 nb
        have hz183 := (nt hg112.size hg145.size)
        exact ⟨hB182, hz183, hd, hs, ok_pick [0] hok (by kernel_rfl)⟩
      ·skip
       replace h1 := ite_f hc147 h1
       refine gv_pureN 13 [0, 49, 50, 51, 52, 53, 54, 55, 56, 57, 58, 59, 60] [(0, (.bool false))] (by kernel_rfl) ?_
       refine gv_nil ?_
       have e := sj h1; subst e
       refine gv_goal fun a hd hs hok => ?_
       have hg184 := (grown_trans hg112 hg145)
       have hB185 := bg hB124 hg184 nb
       have hz186 := (nt hg112.size hg145.size)
       exact ⟨hB185, hz186, hd, hs, ok_pick [0] hok (by kernel_rfl)⟩
     ·skip
      replace h1 := ite_f hc109 h1
      refine gv_pureN 18 [0, 44, 45, 46, 47, 48, 49, 50, 51, 52, 53, 54, 55, 56, 57, 58, 59, 60] [(0, (.bool false))] (by kernel_rfl) ?_
      refine gv_nil ?_
      have e := sj h1; subst e
      refine gv_goal fun a hd hs hok => ?_
      have hB187 := bg hB69 hg98 nb
      have hB188 := bg hB69 hg71 nb
      have hlo189 : w0.heap.size ≤ b80 := lob hbe84 hB188.size
      have hB190 := bg hB187 hg87 (rowlo hlo189)
      exact ⟨hB190, (Nat.le_refl _), hd, hs, ok_pick [0] hok (by kernel_rfl)⟩
    ·skip
     replace h1 := ite_f hc108 h1
     refine gv_pureN 23 [0, 39, 40, 41, 42, 43, 44, 45, 46, 47, 48, 49, 50, 51, 52, 53, 54, 55, 56, 57, 58, 59, 60] [(0, (.bool false))] (by kernel_rfl) ?_
     refine gv_nil ?_
     have e := sj h1; subst e
     refine gv_goal fun a hd hs hok => ?_
     have hB191 := bg hB69 hg98 nb
     have hB192 := bg hB69 hg71 nb
     have hlo193 : w0.heap.size ≤ b80 := lob hbe84 hB192.size
     have hB194 := bg hB191 hg87 (rowlo hlo193)
     exact ⟨hB194, (Nat.le_refl _), hd, hs, ok_pick [0] hok (by kernel_rfl)⟩
   ·skip
    replace h1 := ite_f hc106 h1
    refine gv_pureN 28 [0, 34, 35, 36, 37, 38, 39, 40, 41, 42, 43, 44, 45, 46, 47, 48, 49, 50, 51, 52, 53, 54, 55, 56, 57, 58, 59, 60] [(0, (.bool false))] (by kernel_rfl) ?_
    refine gv_nil ?_
    have e := sj h1; subst e
    refine gv_goal fun a hd hs hok => ?_
    have hB195 := bg hB69 hg98 nb
    have hB196 := bg hB69 hg71 nb
    have hlo197 : w0.heap.size ≤ b80 := lob hbe84 hB196.size
    have hB198 := bg hB195 hg87 (rowlo hlo197)
    exact ⟨hB198, (Nat.le_refl _), hd, hs, ok_pick [0] hok (by kernel_rfl)⟩
  ·skip
   replace h1 := ite_f hc103 h1
   refine gv_pureN 33 [0, 29, 30, 31, 32, 33, 34, 35, 36, 37, 38, 39, 40, 41, 42, 43, 44, 45, 46, 47, 48, 49, 50, 51, 52, 53, 54, 55, 56, 57, 58, 59, 60] [(0, (.bool false))] (by kernel_rfl) ?_
   refine gv_nil ?_
   have e := sj h1; subst e
   refine gv_goal fun a hd hs hok => ?_
   have hB199 := bg hB69 hg98 nb
   have hB200 := bg hB69 hg71 nb
   have hlo201 : w0.heap.size ≤ b80 := lob hbe84 hB200.size
   have hB202 := bg hB199 hg87 (rowlo hlo201)
   exact ⟨hB202, (Nat.le_refl _), hd, hs, ok_pick [0] hok (by kernel_rfl)⟩
 ·rintro a w91 ⟨hB203, hz204, hd, hs, hok⟩
  refine gv_in ?_ hd hs hok
  clear hd hs hok
  clear hz204 hz89 hb88 hg87 hz85 hbe84 hb83 hg82 hx79 hx78 hx77 ho75 hg71 hB69 hlo68 hB67 hB66 hg65 hr64 hz62 hb61 hg60 hbe57 hb56 hg55 hg51 hB49 hlo48 hb41 hg40 hbe37 hg35 hg31 hlo28 hb21 hg20 hbe17 hg15 hx12 hx11 ho8
  refine gv_cret ?_
  have e := sj h0; subst e
  refine gv_ret (gv_done [(.bool j90)] rfl ⟨(by kernel_rfl), trivial⟩ ?_)
  exact ⟨grown_of_below hB203, rfl⟩

end Go.Proofs.YtkmcegicngjhbaaDoor
