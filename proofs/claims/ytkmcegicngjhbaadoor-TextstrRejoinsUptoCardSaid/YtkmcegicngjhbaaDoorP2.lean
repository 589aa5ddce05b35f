import Derived.Test.YtkmcegicngjhbaaDoorP1
set_option linter.all false
set_option maxHeartbeats 4000000
set_option maxRecDepth 100000
/- Own work, printed by a program of mine: the walk of each function: a call returns what the plain function says. -/
namespace Go.Proofs.YtkmcegicngjhbaaDoor
open Go.Gv Go.Gv.D Go.RowKit
theorem enters15 : Go.Gv.Enters Tryd.prog 15 := ⟨Tryd.f15, Tryd.func15, by kernel_rfl, by kernel_rfl⟩
theorem enters38 : Go.Gv.Enters Tryd.prog 38 := ⟨Tryd.f38, Tryd.func38, by kernel_rfl, by kernel_rfl⟩
theorem enters41 : Go.Gv.Enters Tryd.prog 41 := ⟨Tryd.f41, Tryd.func41, by kernel_rfl, by kernel_rfl⟩
theorem enters47 : Go.Gv.Enters Tryd.prog 47 := ⟨Tryd.f47, Tryd.func47, by kernel_rfl, by kernel_rfl⟩
theorem enters72 : Go.Gv.Enters Tryd.prog 72 := ⟨Tryd.f72, Tryd.func72, by kernel_rfl, by kernel_rfl⟩
theorem enters74 : Go.Gv.Enters Tryd.prog 74 := ⟨Tryd.f74, Tryd.func74, by kernel_rfl, by kernel_rfl⟩
theorem enters77 : Go.Gv.Enters Tryd.prog 77 := ⟨Tryd.f77, Tryd.func77, by kernel_rfl, by kernel_rfl⟩
theorem eqs24eql (a0 : Int) (a1 : Int) (b0 : Int) (b1 : Int) (x y : Operand) (w : World) : (do eqGuard .eql 24 x y (.agg #[.int .i64 a0, .int .i64 a1]) (.agg #[.int .i64 b0, .int .i64 b1]); binOp .eql 24 (.agg #[.int .i64 a0, .int .i64 a1]) (.agg #[.int .i64 b0, .int .i64 b1]) : Sem Value).run Tryd.prog w = .ok (.bool ((a0 == b0) && (a1 == b1))) w := by
  have h1 : Tryd.prog.eqGuardType Tryd.prog.depth 24 = false := by kernel_rfl
  have h2 : Tryd.prog.stoodInHeld 24 = false := by kernel_rfl
  have h3 : Tryd.prog.underlying 24 = some (.struct (Tryd.prog.fieldsOf 24)) := by kernel_rfl
  have h4 := Tryd.underlying24
  rw [Sem.run_bind, run_eqGuard_agg w .eql 24 x y _ _ h1, Result.andThen_ok, run_eql_struct, run_equalIn_struct w 9999 24 _ _ h3 h2]
  by_cases g0 : a0 = b0 <;> by_cases g1 : a1 = b1 <;> simp [Program.fieldsOf, h4, Op.eqFields, part, isAgg, run_underlying Tryd.underlying3, run_equalIn_int _ _ _ _ _ _ _ Tryd.underlying3, g0, g1]

theorem strings_CountA_ok (fuel : Nat) (s_0 : ByteArray) (substr_1 : ByteArray) (w0 : World) (X0 : Nat → Prop) (hX0 : ∀ k, X0 k → k < w0.heap.size) {gmx : Int} (hG0 : Rd (iE .i64) w0 X0 (some ⟨0, 0, none⟩) 1 [gmx]) (r0 : Int) (h0 : strings_CountA fuel s_0 substr_1 = some r0) :
    Calls Tryd.prog 74 ([(.string s_0), (.string substr_1)] : List Value).toArray w0 (Ret fun v w' => w0.grownBy w' none ∧ v = tup [(.int .i64 r0)]) := by
  have hB0 : Below w0.heap.size w0 w0 := Below.refl _ _
  unfold strings_CountA at h0
  by_cases hz : (((ByteArray.size substr_1 : Nat) : Int) == 0) = true
  · replace h0 := ite_t hz h0
    refine calls_run Tryd.func74 rfl Tryd.ntmps74 (by kernel_rfl) ?_
    refine gv_sub [0, 1] (σ' := [(0, (.string s_0)), (1, (.string substr_1))]) (by kernel_rfl) ?_
    refine gv_seq <| gv_region <| gv_pureN 1 [4] [] (by kernel_rfl) ?_
    refine gv_nil <| gv_seq <| gv_seq <| gv_region <| gv_pureN 3 [7, 8, 9] [(9, (.bool (((ByteArray.size substr_1 : Nat) : Int) == 0)))] (by kernel_rfl) ?_
    refine gv_nil <| gv_cond (b := (((ByteArray.size substr_1 : Nat) : Int) == 0)) (by kernel_rfl) (fun hc1 => ?_) (fun hc1 => ?_)
    · refine gv_seq <| gv_region <| gv_pureN 1 [10] [(10, (.string s_0))] (by kernel_rfl) ?_
      refine bindE h0 ?_; clear h0; intro r2 hr3 h0
      refine gv_call0 (by kernel_rfl) rfl (by kernel_rfl) enters73 (utf8_RuneCountInString_ok fuel s_0 w0  r2 hr3) ?_
      rintro v6 w4 ⟨hg5, rfl⟩
      refine gv_pureN 2 [4, 12] [(4, (.int .i64 (IntKind.i64.wrap (r2 + 1))))] (by kernel_rfl) ?_
      refine gv_nil <| gv_cret ?_
      have e := sj h0; subst e
      refine gv_ret (gv_done [(.int .i64 (IntKind.i64.wrap (r2 + 1)))] rfl ⟨(by kernel_rfl), trivial⟩ ?_)
      have hB7 := bg hB0 hg5 nb
      exact ⟨grown_of_below hB7, rfl⟩
    · rw [hz] at hc1; cases hc1
  · have hz : (((ByteArray.size substr_1 : Nat) : Int) == 0) = false := by cases h : (((ByteArray.size substr_1 : Nat) : Int) == 0) <;> first | rfl | exact absurd h hz
    exact strings_Count_ok fuel s_0 substr_1 w0 X0 hX0 hG0 r0 (ite_f hz h0)

theorem textstr_Count_ok (fuel : Nat) (s_0 : ByteArray) (sub_1 : ByteArray) (w0 : World) (X0 : Nat → Prop) (hX0 : ∀ k, X0 k → k < w0.heap.size) {gmx : Int} (hG0 : Rd (iE .i64) w0 X0 (some ⟨0, 0, none⟩) 1 [gmx]) (hG1 : Rd bE w0 X0 (some ⟨1, 0, none⟩) 256 utf8First) (hG2 : Rd (prE (iE .u8) (iE .u8)) w0 X0 (some ⟨2, 0, none⟩) 16 utf8Acc) (r0 : (Int × (Int × Int))) (h0 : textstr_Count fuel s_0 sub_1 = some r0) :
    Calls Tryd.prog 38 ([(.string s_0), (.string sub_1)] : List Value).toArray w0 (Ret fun v w' => w0.grownBy w' none ∧ v = tup [(.int .i64 r0.1), (.agg #[(.int .i64 r0.2.1), (.int .i64 r0.2.2)])]) := by
 have hB0 : Below w0.heap.size w0 w0 := Below.refl _ _
 unfold textstr_Count at h0
 refine calls_run Tryd.func38 rfl Tryd.ntmps38 (by kernel_rfl) ?_
 refine gv_sub [0, 1] (σ' := [(0, (.string s_0)), (1, (.string sub_1))]) (by kernel_rfl) ?_
 refine gv_seq <| gv_region <| gv_pureN 1 [4] [] (by kernel_rfl) ?_
 refine gv_new0 (fun b => .pointer (some ⟨b, 0, none⟩)) #[(.int .i64 0), (.int .i64 0)] 24 (by kernel_rfl) (by kernel_rfl) ?_
 intro b1 w2 hg3 hb4 hbe5 hz6
 refine gv_nil <| gv_seq <| gv_seq <| gv_region <| gv_pureN 2 [7, 8] [(7, (.string s_0)), (8, (.string sub_1))] (by kernel_rfl) ?_
 refine gv_new0 (fun b => .slice (some ⟨b, 0, none⟩) 2 2) #[(.string s_0), (.string sub_1)] 9 (by kernel_rfl) (by kernel_rfl) ?_
 intro b7 w8 hg9 hb10 hbe11 hz12
 have ho13 : Gv.Own sE 9 w8 (fun _ => False) (some ⟨b7, 0, none⟩) 2 ([s_0, sub_1] : List ByteArray) := Box.ownE hb10 ⟨[(.string s_0)], [(.string sub_1)], rfl, rfl, ⟨[(.string sub_1)], [], rfl, rfl, rfl⟩⟩ (show 2 ≤ maxLen by decide) (fun h => h)
 have hB18 := bg hB0 hg3 nb
 have hl14 : ∀ g, blk (some ⟨b7, 0, none⟩) = some g → w0.heap.size ≤ g := loo hbe11 hB18.size
 refine bindE h0 ?_; clear h0; intro r19 hr20 h0
 have hB21 := bg hB18 hg9 nb
 refine gv_call0 (by kernel_rfl) rfl (by kernel_rfl) enters58 (textstr_check_ok fuel (some ⟨b7, 0, none⟩) 2 ([s_0, sub_1] : List ByteArray) w8 (fun k => (fun k => blk (some ⟨b7, 0, none⟩) = some k) k ∨ X0 k ∨ X0 k) (fun k hk => (hk).elim (fun h => (fun k (hk : blk (some ⟨b7, 0, none⟩) = some k) => ho13.lt k hk) k h) (fun h => (h).elim (fun h => (fun k (hk : X0 k) => ltl (hX0 k hk) hB21.size) k h) (fun h => (fun k (hk : X0 k) => ltl (hX0 k hk) hB21.size) k h))) ((ho13.rd (Y := fun k => blk (some ⟨b7, 0, none⟩) = some k) (fun _ h => h.elim) (fun g e => e)).wide (fun k hk => (.inl hk))) ((hG1.below hB21 hX0).wide (fun k hk => (.inr (.inl hk)))) ((hG2.below hB21 hX0).wide (fun k hk => (.inr (.inr hk)))) r19 hr20) ?_
 rintro v24 w22 ⟨hg23, rfl⟩
 refine gv_new0 (fun b => .pointer (some ⟨b, 0, none⟩)) #[(.int .i64 0), (.int .i64 0)] 24 (by kernel_rfl) (by kernel_rfl) ?_
 intro b25 w26 hg27 hb28 hbe29 hz30
 refine gv_store0 24 0 (.agg #[(.int .i64 r19.1), (.int .i64 r19.2)]) #[(.int .i64 r19.1), (.int .i64 r19.2)] hb28 (by kernel_rfl) (by kernel_rfl) (by kernel_rfl) ?_
 intro w31 hg32 hb33 hz34
 refine gv_nil <| gv_seq <| gv_region <| gv_pureN 1 [11] [(11, (bp b25))] (by kernel_rfl) ?_
 refine gv_load (t := 3) (A := ⟨b25, 0, none⟩) (.int .i64 r19.1) [] (fun e => by cases e) rfl rfl rfl (by kernel_rfl) (by kernel_rfl) (by kernel_rfl) (inw0 (hb33.cell 0 rfl)) rfl ?_
 refine gv_pureN 1 [13] [(13, (.bool (r19.1 != 0)))] (by kernel_rfl) ?_
 refine gv_nil <| gv_cond (b := (r19.1 != 0)) (by kernel_rfl) (fun hc35 => ?_) (fun hc35 => ?_)
 ·replace h0 := ite_t hc35 h0
  refine gv_seq <| gv_drawA (by kernel_rfl) ?_
  intro w36 hg37
  refine gv_pre [1] (bA 3 [1]) 2 (by kernel_rfl) (by kernel_rfl) ?_
  refine gv_pureN 1 [4] [(4, (.int .i64 0))] (by kernel_rfl) ?_
  refine gv_nil <| gv_goA ?_
  refine gv_stage (Cls w36 []) [0, 1] [(0, some true)] (bA 3 [0, 1]) 1 (by kernel_rfl) (by kernel_rfl) (Cls.refl _ _) ?_
  have hC38 := Cls.refl w36 []
  have hk39 := hb33.grown hg37 nb
  refine gv_loadBox (t := 24) (b := b25) (t' := 24) (fr := (0, 0)) #[(.int .i64 r19.1), (.int .i64 r19.2)] [] (fun e => by cases e) rfl rfl rfl (by kernel_rfl) (by kernel_rfl) (by kernel_rfl) (by kernel_rfl) (inw1 fun w' hC' => (hC'.box hk39 nm_nil)) rfl ?_
  refine gv_nil <| gv_goA ?_
  refine gv_stage (fun _ => True) [0, 1, 2] [(2, some false)] (bA 3 [0, 1, 2]) 0 (by kernel_rfl) (by kernel_rfl) trivial ?_
  have hg44 := (grown_trans (grown_trans hg9 hg23) hg27)
  have hg45 := (grown_trans hg9 hg23)
  have hk46 := hb4.grown hg45 nb
  have lt47 := ltl ((ltb hk46) _ rfl) ((lowb hbe29) _ rfl)
  have hk48 := ((hb4.grown hg44 nb).grown hg32 (rowne (ng lt47))).grown hg37 nb
  refine gv_store (t := 24) (b := b1) (off := 0) (v := (.agg #[(.int .i64 r19.1), (.int .i64 r19.2)])) (t' := 24) (cs := #[(.int .i64 0), (.int .i64 0)]) #[(.int .i64 r19.1), (.int .i64 r19.2)] (by decide) rfl rfl (by kernel_rfl) (by kernel_rfl) (by kernel_rfl) (by intro u hu; simp [Value.cells] at hu; rcases hu with rfl | rfl <;> rfl) (show 0 + 2 ≤ 2 by decide) (by rfl) hk48 ?_
  intro w40 hg41 hb42 hz43
  refine ⟨(fun _ => trivial), ?_⟩
  refine gv_nil <| gv_goA ?_
  refine gv_stageE (by kernel_rfl) ?_
  refine gv_cret ?_
  have e := sj h0; subst e
  refine gv_ret (gv_done [(.int .i64 0), (.agg #[(.int .i64 r19.1), (.int .i64 r19.2)])] rfl ⟨(by kernel_rfl), ⟨⟨b1, 0, none⟩, (by kernel_rfl), run_loadVar_row w40 b1 _ 24 _ _ _ hb42 Tryd.underlying24 rfl (by kernel_rfl)⟩, trivial⟩ ?_)
  have hg49 := (grown_trans hg23 hg27)
  have hB50 := bg hB21 hg49 nb
  have hB51 := bg hB21 hg23 nb
  have hlo52 : w0.heap.size ≤ b25 := lob hbe29 hB51.size
  have hB53 := bg hB50 hg32 (rowlo hlo52)
  have hB54 := bg hB53 hg37 nb
  have hlo55 : w0.heap.size ≤ b1 := lob hbe5 hB0.size
  have hB56 := bg hB54 hg41 (rowlo hlo55)
  exact ⟨grown_of_below hB56, rfl⟩
 ·replace h0 := ite_f hc35 h0
  refine gv_skip <| gv_seq <| gv_region <| gv_pureN 2 [15, 16] [(15, (.string s_0)), (16, (.string sub_1))] (by kernel_rfl) ?_
  refine bindE h0 ?_; clear h0; intro r57 hr58 h0
  have hg59 := (grown_trans hg23 hg27)
  have hB60 := bg hB21 hg59 nb
  have hB61 := bg hB21 hg23 nb
  have hlo62 : w0.heap.size ≤ b25 := lob hbe29 hB61.size
  have hB63 := bg hB60 hg32 (rowlo hlo62)
  refine gv_call0 (by kernel_rfl) rfl (by kernel_rfl) enters74 (strings_CountA_ok fuel s_0 sub_1 w31 (fun k => X0 k) (fun k hk => (fun k (hk : X0 k) => ltl (hX0 k hk) hB63.size) k hk) ((hG0.below hB63 hX0).wide (fun k hk => hk)) r57 hr58) ?_
  rintro v66 w64 ⟨hg65, rfl⟩
  clear hlo62 hB61 hB60 hg59 hr58 hc35 hz34 hb33 hz30 hb28 hB21 hr20 hl14 hB18 ho13 hz12 hbe11 hb10 hz6 hg3
  refine gv_pureN 2 [4, 18] [(4, (.int .i64 r57)), (18, (.agg #[(.int .i64 0), (.int .i64 0)]))] (by kernel_rfl) ?_
  have hg71 := (grown_trans (grown_trans hg9 hg23) hg27)
  have hg72 := (grown_trans hg9 hg23)
  have hk73 := hb4.grown hg72 nb
  have lt74 := ltl ((ltb hk73) _ rfl) ((lowb hbe29) _ rfl)
  have hk75 := ((hb4.grown hg71 nb).grown hg32 (rowne (ng lt74))).grown hg65 nb
  refine gv_store0 24 0 (.agg #[(.int .i64 0), (.int .i64 0)]) #[(.int .i64 0), (.int .i64 0)] hk75 (by kernel_rfl) (by kernel_rfl) (by kernel_rfl) ?_
  intro w67 hg68 hb69 hz70
  refine gv_nil <| gv_cret ?_
  have e := sj h0; subst e
  refine gv_ret (gv_done [(.int .i64 r57), (.agg #[(.int .i64 0), (.int .i64 0)])] rfl ⟨(by kernel_rfl), ⟨⟨b1, 0, none⟩, (by kernel_rfl), run_loadVar_row w67 b1 _ 24 _ _ _ hb69 Tryd.underlying24 rfl (by kernel_rfl)⟩, trivial⟩ ?_)
  have hB76 := bg hB63 hg65 nb
  have hlo77 : w0.heap.size ≤ b1 := lob hbe5 hB0.size
  have hB78 := bg hB76 hg68 (rowlo hlo77)
  exact ⟨grown_of_below hB78, rfl⟩

theorem textstr_Join_ok (fuel : Nat) (pa0_0 : Option Addr) (pc0_0 : Nat) (l_0 : (List ByteArray)) (sep_1 : ByteArray) (w0 : World) (X0 : Nat → Prop) (hX0 : ∀ k, X0 k → k < w0.heap.size) (hpa0_0 : Rd sE w0 X0 pa0_0 pc0_0 l_0) (hG1 : Rd bE w0 X0 (some ⟨1, 0, none⟩) 256 utf8First) (hG2 : Rd (prE (iE .u8) (iE .u8)) w0 X0 (some ⟨2, 0, none⟩) 16 utf8Acc) (r0 : (ByteArray × (Int × Int))) (h0 : textstr_Join fuel l_0 sep_1 = some r0) :
    Calls Tryd.prog 41 ([(.slice pa0_0 (List.length l_0) pc0_0), (.string sep_1)] : List Value).toArray w0 (Ret fun v w' => w0.grownBy w' none ∧ v = tup [(.string r0.1), (.agg #[(.int .i64 r0.2.1), (.int .i64 r0.2.2)])]) := by
 have hB0 : Below w0.heap.size w0 w0 := Below.refl _ _
 unfold textstr_Join at h0
 refine calls_run Tryd.func41 rfl Tryd.ntmps41 (by kernel_rfl) ?_
 refine gv_sub [0, 1] (σ' := [(0, (.slice pa0_0 (List.length l_0) pc0_0)), (1, (.string sep_1))]) (by kernel_rfl) ?_
 refine gv_seq <| gv_region <| gv_pureN 1 [4] [] (by kernel_rfl) ?_
 refine gv_new0 (fun b => .pointer (some ⟨b, 0, none⟩)) #[(.int .i64 0), (.int .i64 0)] 24 (by kernel_rfl) (by kernel_rfl) ?_
 intro b1 w2 hg3 hb4 hbe5 hz6
 refine gv_nil <| gv_seq <| gv_region <| gv_pureN 1 [6] [(6, (.int .i64 0))] (by kernel_rfl) ?_
 refine gv_nil <| gv_seq <| gv_seq <| gv_region <| gv_pureN 3 [9, 10, 11] [(9, (.slice pa0_0 (List.length l_0) pc0_0)), (10, (.int .i64 ((List.length l_0 : Nat) : Int))), (11, (.int .i64 0))] (by kernel_rfl) ?_
 refine gv_nil <| bindE h0 ?_; clear h0; intro j7 h1 h0
 refine gv_cut_code (J := fun a w9 => ∃ s8 : (Int × (Int × Int)), j7 = .inl s8 ∧ Below w0.heap.size w0 w9 ∧ w2.heap.size ≤ w9.heap.size ∧ Box w9 b1 24 #[(.int .i64 s8.2.1), (.int .i64 s8.2.2)] ∧ a.defers = [] ∧ a.tmps.size = 45 ∧ Ok [(0, (.slice pa0_0 (List.length l_0) pc0_0)), (1, (.string sep_1)), (5, (bp b1)), (6, (.int .i64 s8.1))] a.tmps) ?_ ?_
 ·skip
  refine gv_block <| gv_loop (A := fun (s10 : (Int × Int × (Int × Int))) a w11 => Below w0.heap.size w0 w11 ∧ w2.heap.size ≤ w11.heap.size ∧ Box w11 b1 24 #[(.int .i64 s10.2.2.1), (.int .i64 s10.2.2.2)] ∧ a.defers = [] ∧ a.tmps.size = 45 ∧ Ok [(0, (.slice pa0_0 (List.length l_0) pc0_0)), (1, (.string sep_1)), (5, (bp b1)), (6, (.int .i64 s10.1)), (9, (.slice pa0_0 (List.length l_0) pc0_0)), (10, (.int .i64 ((List.length l_0 : Nat) : Int))), (11, (.int .i64 s10.2.1))] a.tmps) h1 ?_ ?_
  ·intro a hd hs hok
   have hB12 := bg hB0 hg3 nb
   exact ⟨hB12, (Nat.le_refl _), hb4, hd, hs, ok_pick [0, 1, 5, 6, 9, 10, 11] hok (by kernel_rfl)⟩
  ·rintro s10 r2 h2 hR2 a w11 ⟨hB13, hz14, hb15, hd, hs, hok⟩
   refine gv_in ?_ hd hs hok
   clear hd hs hok
   refine gv_seq <| gv_region <| gv_pureN 1 [12] [(12, (.bool (decide (s10.2.1 < ((List.length l_0 : Nat) : Int)))))] (by kernel_rfl) ?_
   refine gv_nil <| gv_seq <| gv_cond (b := (decide (s10.2.1 < ((List.length l_0 : Nat) : Int)))) (by kernel_rfl) (fun hc16 => ?_) (fun hc16 => ?_)
   ·replace h2 := ite_t hc16 h2
    refine gv_skip <| gv_seq <| gv_block <| gv_seq <| gv_region <| gv_pureN 1 [13] [(13, (.int .i64 s10.2.1))] (by kernel_rfl) ?_
    refine bindE h2 ?_; clear h2; intro x17 hx18 h2
    refine gv_idxaddr (t := 22) (e := 9) (a := pa0_0) (len := List.length l_0) (cap := pc0_0) (kk := .i64) (i := s10.2.1) (sz := 1) [] (fun e => by cases e) rfl rfl rfl (by kernel_rfl) (by kernel_rfl) Tryd.underlying22 (by kernel_rfl) ((hpa0_0.below hB13 hX0).has hx18) (idx_spec hx18).1 (idx_spec hx18).2.1 rfl ?_
    refine gv_load (t := 9) (A := (elemAddr pa0_0 ((s10.2.1 : Int).toNat * 1))) (.string x17) [] (fun e => by cases e) rfl rfl rfl (by kernel_rfl) (by kernel_rfl) (by kernel_rfl) (inw0 ((hpa0_0.below hB13 hX0).cell hx18)) rfl ?_
    refine gv_pureN 2 [7, 8] [(7, (.int .i64 s10.2.1)), (8, (.string x17))] (by kernel_rfl) ?_
    refine gv_nil <| gv_seq <| gv_seq <| gv_region <| gv_pureN 1 [16] [(16, (.string x17))] (by kernel_rfl) ?_
    refine bindE h2 ?_; clear h2; intro r19 hr20 h2
    refine gv_call0 (by kernel_rfl) rfl (by kernel_rfl) enters76 (textstr_Valid_ok fuel x17 w11 (fun k => X0 k ∨ X0 k) (fun k hk => (hk).elim (fun h => (fun k (hk : X0 k) => ltl (hX0 k hk) hB13.size) k h) (fun h => (fun k (hk : X0 k) => ltl (hX0 k hk) hB13.size) k h)) ((hG1.below hB13 hX0).wide (fun k hk => (.inl hk))) ((hG2.below hB13 hX0).wide (fun k hk => (.inr hk))) r19 hr20) ?_
    rintro v23 w21 ⟨hg22, rfl⟩
    refine gv_pureN 1 [18] [(18, (.bool (!r19)))] (by kernel_rfl) ?_
    refine gv_nil <| gv_cond (b := (!r19)) (by kernel_rfl) (fun hc24 => ?_) (fun hc24 => ?_)
    ·replace h2 := ite_t hc24 h2
     refine gv_seq <| gv_region <| gv_pureN 1 [19] [(19, (.int .i64 s10.2.1))] (by kernel_rfl) ?_
     refine bindE h2 ?_; clear h2; intro r25 hr26 h2
     refine gv_call0 (by kernel_rfl) rfl (by kernel_rfl) enters56 (textstr_at_ok fuel 6 s10.2.1 w21  r25 hr26) ?_
     rintro v29 w27 ⟨hg28, rfl⟩
     refine gv_pureN 1 [4] [(4, (.string (strOf [])))] (by kernel_rfl) ?_
     have hg34 := (grown_trans hg22 hg28)
     have hk35 := hb15.grown hg34 nb
     refine gv_store0 24 0 (.agg #[(.int .i64 r25.1), (.int .i64 r25.2)]) #[(.int .i64 r25.1), (.int .i64 r25.2)] hk35 (by kernel_rfl) (by kernel_rfl) (by kernel_rfl) ?_
     intro w30 hg31 hb32 hz33
     refine gv_nil <| gv_cret ?_
     have e := sj h2; subst e
     replace h1 := congrArg some (hR2 _ rfl)
     have e := sj h1; subst e
     replace h0 := cont_inr h0
     have e := sj h0; subst e
     refine gv_ret (gv_done [(.string (strOf [])), (.agg #[(.int .i64 r25.1), (.int .i64 r25.2)])] rfl ⟨(by kernel_rfl), ⟨⟨b1, 0, none⟩, (by kernel_rfl), run_loadVar_row w30 b1 _ 24 _ _ _ hb32 Tryd.underlying24 rfl (by kernel_rfl)⟩, trivial⟩ ?_)
     have hB36 := bg hB13 hg34 nb
     have hlo37 : w0.heap.size ≤ b1 := lob hbe5 hB0.size
     have hB38 := bg hB36 hg31 (rowlo hlo37)
     exact ⟨grown_of_below hB38, rfl⟩
    ·replace h2 := ite_f hc24 h2
     refine gv_skip <| gv_region <| gv_pureN 5 [6, 21, 22, 23, 24] [(6, (.int .i64 (IntKind.i64.wrap (s10.1 + ((ByteArray.size x17 : Nat) : Int)))))] (by kernel_rfl) ?_
     refine bindE h2 ?_; clear h2; intro n39 hn40 h2
     refine gv_name (s := 6) (v := (.int .i64 (IntKind.i64.wrap (s10.1 + ((ByteArray.size x17 : Nat) : Int))))) (v' := (.int .i64 n39)) (by kernel_rfl) (congrArg (Value.int .i64) (sj hn40)) ?_
     refine gv_nil <| gv_blk <| gv_region <| gv_pureN 2 [11, 25] [(11, (.int .i64 (IntKind.i64.wrap (s10.2.1 + 1))))] (by kernel_rfl) ?_
     refine gv_nil ?_
     have e := sj h2; subst e
     refine gv_goal fun a hd hs hok => ?_
     have hB41 := bg hB13 hg22 nb
     have hz42 := (nt hz14 hg22.size)
     have hk43 := hb15.grown hg22 nb
     exact ⟨(n39, (IntKind.i64.wrap (s10.2.1 + 1)), (s10.2.2.1, s10.2.2.2)), rfl, hB41, hz42, hk43, hd, hs, ok_pick [0, 1, 5, 6, 9, 10, 11] hok (by kernel_rfl)⟩
   ·replace h2 := ite_f hc16 h2
    refine gv_cexit <| gv_exit rfl ?_
    have e := sj h2; subst e
    replace h1 := congrArg some (hR2 _ rfl)
    have e := sj h1; subst e
    refine gv_goal fun a hd hs hok => ?_
    have hz44 := hz14
    exact ⟨(s10.1, (s10.2.2.1, s10.2.2.2)), rfl, hB13, hz44, hb15, hd, hs, ok_pick [0, 1, 5, 6] hok (by kernel_rfl)⟩
 ·rintro a w9 ⟨s8, e, hB45, hz46, hb47, hd, hs, hok⟩
  subst e
  refine gv_in ?_ hd hs hok
  clear hd hs hok
  replace h0 := cont_inl h0
  clear hz46 hz6 hb4 hg3
  refine gv_seq <| gv_seq <| gv_region <| gv_pureN 1 [26] [(26, (.string sep_1))] (by kernel_rfl) ?_
  refine bindE h0 ?_; clear h0; intro r48 hr49 h0
  refine gv_call0 (by kernel_rfl) rfl (by kernel_rfl) enters76 (textstr_Valid_ok fuel sep_1 w9 (fun k => X0 k ∨ X0 k) (fun k hk => (hk).elim (fun h => (fun k (hk : X0 k) => ltl (hX0 k hk) hB45.size) k h) (fun h => (fun k (hk : X0 k) => ltl (hX0 k hk) hB45.size) k h)) ((hG1.below hB45 hX0).wide (fun k hk => (.inl hk))) ((hG2.below hB45 hX0).wide (fun k hk => (.inr hk))) r48 hr49) ?_
  rintro v52 w50 ⟨hg51, rfl⟩
  refine gv_pureN 1 [28] [(28, (.bool (!r48)))] (by kernel_rfl) ?_
  refine gv_nil <| gv_cond (b := (!r48)) (by kernel_rfl) (fun hc53 => ?_) (fun hc53 => ?_)
  ·replace h0 := ite_t hc53 h0
   refine gv_seq <| gv_region <| bindE h0 ?_; clear h0; intro r54 hr55 h0
   refine gv_call0 (by kernel_rfl) rfl (by kernel_rfl) enters56 (textstr_at_ok fuel 6 (-2) w50  r54 hr55) ?_
   rintro v58 w56 ⟨hg57, rfl⟩
   refine gv_pureN 1 [4] [(4, (.string (strOf [])))] (by kernel_rfl) ?_
   have hg63 := (grown_trans hg51 hg57)
   have hk64 := hb47.grown hg63 nb
   refine gv_store0 24 0 (.agg #[(.int .i64 r54.1), (.int .i64 r54.2)]) #[(.int .i64 r54.1), (.int .i64 r54.2)] hk64 (by kernel_rfl) (by kernel_rfl) (by kernel_rfl) ?_
   intro w59 hg60 hb61 hz62
   refine gv_nil <| gv_cret ?_
   have e := sj h0; subst e
   refine gv_ret (gv_done [(.string (strOf [])), (.agg #[(.int .i64 r54.1), (.int .i64 r54.2)])] rfl ⟨(by kernel_rfl), ⟨⟨b1, 0, none⟩, (by kernel_rfl), run_loadVar_row w59 b1 _ 24 _ _ _ hb61 Tryd.underlying24 rfl (by kernel_rfl)⟩, trivial⟩ ?_)
   have hB65 := bg hB45 hg63 nb
   have hlo66 : w0.heap.size ≤ b1 := lob hbe5 hB0.size
   have hB67 := bg hB65 hg60 (rowlo hlo66)
   exact ⟨grown_of_below hB67, rfl⟩
  ·replace h0 := ite_f hc53 h0
   refine gv_skip <| gv_seq <| gv_seq <| gv_region <| gv_pureN 10 [30, 31, 32, 33, 34, 35, 36, 37, 38, 39] [(39, (.bool (decide ((IntKind.i64.wrap (s8.1 + (IntKind.i64.wrap ((if 0 < (IntKind.i64.wrap (((List.length l_0 : Nat) : Int) - 1)) then (IntKind.i64.wrap (((List.length l_0 : Nat) : Int) - 1)) else 0) * ((ByteArray.size sep_1 : Nat) : Int))))) > 4000))))] (by kernel_rfl) ?_
   refine gv_nil <| gv_cond (b := (decide ((IntKind.i64.wrap (s8.1 + (IntKind.i64.wrap ((if 0 < (IntKind.i64.wrap (((List.length l_0 : Nat) : Int) - 1)) then (IntKind.i64.wrap (((List.length l_0 : Nat) : Int) - 1)) else 0) * ((ByteArray.size sep_1 : Nat) : Int))))) > 4000))) (by kernel_rfl) (fun hc68 => ?_) (fun hc68 => ?_)
   ·replace h0 := ite_t hc68 h0
    refine gv_seq <| gv_region <| bindE h0 ?_; clear h0; intro r69 hr70 h0
    refine gv_call0 (by kernel_rfl) rfl (by kernel_rfl) enters56 (textstr_at_ok fuel 3 (-1) w50  r69 hr70) ?_
    rintro v73 w71 ⟨hg72, rfl⟩
    clear hr70 hc68 hc53 hr49
    refine gv_pureN 1 [4] [(4, (.string (strOf [])))] (by kernel_rfl) ?_
    have hg78 := (grown_trans hg51 hg72)
    have hk79 := hb47.grown hg78 nb
    refine gv_store0 24 0 (.agg #[(.int .i64 r69.1), (.int .i64 r69.2)]) #[(.int .i64 r69.1), (.int .i64 r69.2)] hk79 (by kernel_rfl) (by kernel_rfl) (by kernel_rfl) ?_
    intro w74 hg75 hb76 hz77
    refine gv_nil <| gv_cret ?_
    have e := sj h0; subst e
    refine gv_ret (gv_done [(.string (strOf [])), (.agg #[(.int .i64 r69.1), (.int .i64 r69.2)])] rfl ⟨(by kernel_rfl), ⟨⟨b1, 0, none⟩, (by kernel_rfl), run_loadVar_row w74 b1 _ 24 _ _ _ hb76 Tryd.underlying24 rfl (by kernel_rfl)⟩, trivial⟩ ?_)
    have hB80 := bg hB45 hg78 nb
    have hlo81 : w0.heap.size ≤ b1 := lob hbe5 hB0.size
    have hB82 := bg hB80 hg75 (rowlo hlo81)
    exact ⟨grown_of_below hB82, rfl⟩
   ·replace h0 := ite_f hc68 h0
    refine gv_skip <| gv_seq <| gv_region <| gv_pureN 2 [41, 42] [(41, (.slice pa0_0 (List.length l_0) pc0_0)), (42, (.string sep_1))] (by kernel_rfl) ?_
    refine bindE h0 ?_; clear h0; intro r83 hr84 h0
    have hB85 := bg hB45 hg51 nb
    refine gv_call0 (by kernel_rfl) rfl (by kernel_rfl) enters77 (strings_Join_ok fuel pa0_0 pc0_0 l_0 sep_1 w50 (fun k => X0 k) (fun k hk => (fun k (hk : X0 k) => ltl (hX0 k hk) hB85.size) k hk) ((hpa0_0.below hB85 hX0).wide (fun k hk => hk)) r83 hr84) ?_
    rintro v88 w86 ⟨hg87, rfl⟩
    refine gv_pureN 2 [4, 44] [(4, (.string r83)), (44, (.agg #[(.int .i64 0), (.int .i64 0)]))] (by kernel_rfl) ?_
    have hg93 := (grown_trans hg51 hg87)
    have hk94 := hb47.grown hg93 nb
    refine gv_store0 24 0 (.agg #[(.int .i64 0), (.int .i64 0)]) #[(.int .i64 0), (.int .i64 0)] hk94 (by kernel_rfl) (by kernel_rfl) (by kernel_rfl) ?_
    intro w89 hg90 hb91 hz92
    refine gv_nil <| gv_cret ?_
    have e := sj h0; subst e
    refine gv_ret (gv_done [(.string r83), (.agg #[(.int .i64 0), (.int .i64 0)])] rfl ⟨(by kernel_rfl), ⟨⟨b1, 0, none⟩, (by kernel_rfl), run_loadVar_row w89 b1 _ 24 _ _ _ hb91 Tryd.underlying24 rfl (by kernel_rfl)⟩, trivial⟩ ?_)
    have hB95 := bg hB85 hg87 nb
    have hlo96 : w0.heap.size ≤ b1 := lob hbe5 hB0.size
    have hB97 := bg hB95 hg90 (rowlo hlo96)
    exact ⟨grown_of_below hB97, rfl⟩

theorem textstr_SplitLast_ok (fuel : Nat) (s_0 : ByteArray) (sep_1 : ByteArray) (most_2 : Int) (w0 : World) (X0 : Nat → Prop) (hX0 : ∀ k, X0 k → k < w0.heap.size) (hG1 : Rd bE w0 X0 (some ⟨1, 0, none⟩) 256 utf8First) (hG2 : Rd (prE (iE .u8) (iE .u8)) w0 X0 (some ⟨2, 0, none⟩) 16 utf8Acc) (r0 : ((List ByteArray) × (Int × Int))) (h0 : textstr_SplitLast fuel s_0 sep_1 most_2 = some r0) :
    Calls Tryd.prog 47 ([(.string s_0), (.string sep_1), (.int .i64 most_2)] : List Value).toArray w0 (Ret fun v w' => w0.grownBy w' none ∧ ∃ (a0_0r : Option Addr) (c0_0r : Nat), ∃ (X0_0r : Nat → Prop), v = tup [(.slice a0_0r (List.length r0.1) c0_0r), (.agg #[(.int .i64 r0.2.1), (.int .i64 r0.2.2)])] ∧ Rd sE w' X0_0r a0_0r c0_0r r0.1 ∧ (∀ k, X0_0r k → k < w'.heap.size ∧ (X0 k ∨ w0.heap.size ≤ k))) := by
 have hB0 : Below w0.heap.size w0 w0 := Below.refl _ _
 unfold textstr_SplitLast at h0
 refine calls_run Tryd.func47 rfl Tryd.ntmps47 (by kernel_rfl) ?_
 refine gv_sub [0, 1, 2] (σ' := [(0, (.string s_0)), (1, (.string sep_1)), (2, (.int .i64 most_2))]) (by kernel_rfl) ?_
 refine gv_seq <| gv_region <| gv_pureN 1 [6] [] (by kernel_rfl) ?_
 refine gv_new0 (fun b => .pointer (some ⟨b, 0, none⟩)) #[(.int .i64 0), (.int .i64 0)] 24 (by kernel_rfl) (by kernel_rfl) ?_
 intro b1 w2 hg3 hb4 hbe5 hz6
 refine gv_nil <| gv_seq <| gv_seq <| gv_region <| gv_pureN 2 [13, 14] [(13, (.string s_0)), (14, (.string sep_1))] (by kernel_rfl) ?_
 refine gv_new0 (fun b => .slice (some ⟨b, 0, none⟩) 2 2) #[(.string s_0), (.string sep_1)] 9 (by kernel_rfl) (by kernel_rfl) ?_
 intro b7 w8 hg9 hb10 hbe11 hz12
 have ho13 : Gv.Own sE 9 w8 (fun _ => False) (some ⟨b7, 0, none⟩) 2 ([s_0, sep_1] : List ByteArray) := Box.ownE hb10 ⟨[(.string s_0)], [(.string sep_1)], rfl, rfl, ⟨[(.string sep_1)], [], rfl, rfl, rfl⟩⟩ (show 2 ≤ maxLen by decide) (fun h => h)
 have hB18 := bg hB0 hg3 nb
 have hl14 : ∀ g, blk (some ⟨b7, 0, none⟩) = some g → w0.heap.size ≤ g := loo hbe11 hB18.size
 refine bindE h0 ?_; clear h0; intro r19 hr20 h0
 have hB21 := bg hB18 hg9 nb
 refine gv_call0 (by kernel_rfl) rfl (by kernel_rfl) enters58 (textstr_check_ok fuel (some ⟨b7, 0, none⟩) 2 ([s_0, sep_1] : List ByteArray) w8 (fun k => (fun k => blk (some ⟨b7, 0, none⟩) = some k) k ∨ X0 k ∨ X0 k) (fun k hk => (hk).elim (fun h => (fun k (hk : blk (some ⟨b7, 0, none⟩) = some k) => ho13.lt k hk) k h) (fun h => (h).elim (fun h => (fun k (hk : X0 k) => ltl (hX0 k hk) hB21.size) k h) (fun h => (fun k (hk : X0 k) => ltl (hX0 k hk) hB21.size) k h))) ((ho13.rd (Y := fun k => blk (some ⟨b7, 0, none⟩) = some k) (fun _ h => h.elim) (fun g e => e)).wide (fun k hk => (.inl hk))) ((hG1.below hB21 hX0).wide (fun k hk => (.inr (.inl hk)))) ((hG2.below hB21 hX0).wide (fun k hk => (.inr (.inr hk)))) r19 hr20) ?_
 rintro v24 w22 ⟨hg23, rfl⟩
 refine gv_new0 (fun b => .pointer (some ⟨b, 0, none⟩)) #[(.int .i64 0), (.int .i64 0)] 24 (by kernel_rfl) (by kernel_rfl) ?_
 intro b25 w26 hg27 hb28 hbe29 hz30
 refine gv_store0 24 0 (.agg #[(.int .i64 r19.1), (.int .i64 r19.2)]) #[(.int .i64 r19.1), (.int .i64 r19.2)] hb28 (by kernel_rfl) (by kernel_rfl) (by kernel_rfl) ?_
 intro w31 hg32 hb33 hz34
 refine gv_nil <| gv_seq <| gv_region <| gv_pureN 1 [17] [(17, (bp b25))] (by kernel_rfl) ?_
 refine gv_load (t := 3) (A := ⟨b25, 0, none⟩) (.int .i64 r19.1) [] (fun e => by cases e) rfl rfl rfl (by kernel_rfl) (by kernel_rfl) (by kernel_rfl) (inw0 (hb33.cell 0 rfl)) rfl ?_
 refine gv_pureN 1 [19] [(19, (.bool (r19.1 != 0)))] (by kernel_rfl) ?_
 refine gv_nil <| gv_cond (b := (r19.1 != 0)) (by kernel_rfl) (fun hc35 => ?_) (fun hc35 => ?_)
 ·replace h0 := ite_t hc35 h0
  refine gv_seq <| gv_drawA (by kernel_rfl) ?_
  intro w36 hg37
  refine gv_pre [1] (bA 3 [1]) 2 (by kernel_rfl) (by kernel_rfl) ?_
  refine gv_pureN 1 [6] [(6, (.slice none (List.length ([] : List ByteArray)) 0))] (by kernel_rfl) ?_
  refine gv_nil <| gv_goA ?_
  refine gv_stage (Cls w36 []) [0, 1] [(0, some true)] (bA 3 [0, 1]) 1 (by kernel_rfl) (by kernel_rfl) (Cls.refl _ _) ?_
  have hC38 := Cls.refl w36 []
  have hk39 := hb33.grown hg37 nb
  refine gv_loadBox (t := 24) (b := b25) (t' := 24) (fr := (0, 0)) #[(.int .i64 r19.1), (.int .i64 r19.2)] [] (fun e => by cases e) rfl rfl rfl (by kernel_rfl) (by kernel_rfl) (by kernel_rfl) (by kernel_rfl) (inw1 fun w' hC' => (hC'.box hk39 nm_nil)) rfl ?_
  refine gv_nil <| gv_goA ?_
  refine gv_stage (fun _ => True) [0, 1, 2] [(2, some false)] (bA 3 [0, 1, 2]) 0 (by kernel_rfl) (by kernel_rfl) trivial ?_
  have hg44 := (grown_trans (grown_trans hg9 hg23) hg27)
  have hg45 := (grown_trans hg9 hg23)
  have hk46 := hb4.grown hg45 nb
  have lt47 := ltl ((ltb hk46) _ rfl) ((lowb hbe29) _ rfl)
  have hk48 := ((hb4.grown hg44 nb).grown hg32 (rowne (ng lt47))).grown hg37 nb
  refine gv_store (t := 24) (b := b1) (off := 0) (v := (.agg #[(.int .i64 r19.1), (.int .i64 r19.2)])) (t' := 24) (cs := #[(.int .i64 0), (.int .i64 0)]) #[(.int .i64 r19.1), (.int .i64 r19.2)] (by decide) rfl rfl (by kernel_rfl) (by kernel_rfl) (by kernel_rfl) (by intro u hu; simp [Value.cells] at hu; rcases hu with rfl | rfl <;> rfl) (show 0 + 2 ≤ 2 by decide) (by rfl) hk48 ?_
  intro w40 hg41 hb42 hz43
  refine ⟨(fun _ => trivial), ?_⟩
  refine gv_nil <| gv_goA ?_
  refine gv_stageE (by kernel_rfl) ?_
  refine gv_cret ?_
  have e := sj h0; subst e
  refine gv_ret (gv_done [(.slice none (List.length ([] : List ByteArray)) 0), (.agg #[(.int .i64 r19.1), (.int .i64 r19.2)])] rfl ⟨(by kernel_rfl), ⟨⟨b1, 0, none⟩, (by kernel_rfl), run_loadVar_row w40 b1 _ 24 _ _ _ hb42 Tryd.underlying24 rfl (by kernel_rfl)⟩, trivial⟩ ?_)
  have hg49 := (grown_trans hg23 hg27)
  have hB50 := bg hB21 hg49 nb
  have hB51 := bg hB21 hg23 nb
  have hlo52 : w0.heap.size ≤ b25 := lob hbe29 hB51.size
  have hB53 := bg hB50 hg32 (rowlo hlo52)
  have hB54 := bg hB53 hg37 nb
  have hlo55 : w0.heap.size ≤ b1 := lob hbe5 hB0.size
  have hB56 := bg hB54 hg41 (rowlo hlo55)
  exact ⟨grown_of_below hB56, none, 0, (fun _ => False), rfl, (Rd.nil sE w40 (fun _ => False) none 0), (fun k hk => ⟨(fun _ h => h.elim) k hk, (fun _ h => h.elim) k hk⟩)⟩
 ·replace h0 := ite_f hc35 h0
  refine gv_skip <| gv_seq <| gv_seq <| gv_region <| gv_pureN 2 [21, 22] [(22, (.bool (sep_1.toList == (strOf []).toList)))] (by kernel_rfl) ?_
  refine gv_nil <| gv_cond (b := (sep_1.toList == (strOf []).toList)) (by kernel_rfl) (fun hc57 => ?_) (fun hc57 => ?_)
  ·replace h0 := ite_t hc57 h0
   refine gv_seq <| gv_region <| bindE h0 ?_; clear h0; intro r58 hr59 h0
   refine gv_call0 (by kernel_rfl) rfl (by kernel_rfl) enters56 (textstr_at_ok fuel 10 (-2) w31  r58 hr59) ?_
   rintro v62 w60 ⟨hg61, rfl⟩
   clear hr59 hc57 hc35 hz34 hb33 hz30 hb28 hr20 hl14 hB18 ho13 hz12 hbe11 hb10 hz6 hg3
   refine gv_pureN 1 [6] [(6, (.slice none (List.length ([] : List ByteArray)) 0))] (by kernel_rfl) ?_
   have hg67 := (grown_trans (grown_trans hg9 hg23) hg27)
   have hg68 := (grown_trans hg9 hg23)
   have hk69 := hb4.grown hg68 nb
   have lt70 := ltl ((ltb hk69) _ rfl) ((lowb hbe29) _ rfl)
   have hk71 := ((hb4.grown hg67 nb).grown hg32 (rowne (ng lt70))).grown hg61 nb
   refine gv_store0 24 0 (.agg #[(.int .i64 r58.1), (.int .i64 r58.2)]) #[(.int .i64 r58.1), (.int .i64 r58.2)] hk71 (by kernel_rfl) (by kernel_rfl) (by kernel_rfl) ?_
   intro w63 hg64 hb65 hz66
   refine gv_nil <| gv_cret ?_
   have e := sj h0; subst e
   refine gv_ret (gv_done [(.slice none (List.length ([] : List ByteArray)) 0), (.agg #[(.int .i64 r58.1), (.int .i64 r58.2)])] rfl ⟨(by kernel_rfl), ⟨⟨b1, 0, none⟩, (by kernel_rfl), run_loadVar_row w63 b1 _ 24 _ _ _ hb65 Tryd.underlying24 rfl (by kernel_rfl)⟩, trivial⟩ ?_)
   have hg72 := (grown_trans hg23 hg27)
   have hB73 := bg hB21 hg72 nb
   have hB74 := bg hB21 hg23 nb
   have hlo75 : w0.heap.size ≤ b25 := lob hbe29 hB74.size
   have hB76 := bg hB73 hg32 (rowlo hlo75)
   have hB77 := bg hB76 hg61 nb
   have hlo78 : w0.heap.size ≤ b1 := lob hbe5 hB0.size
   have hB79 := bg hB77 hg64 (rowlo hlo78)
   exact ⟨grown_of_below hB79, none, 0, (fun _ => False), rfl, (Rd.nil sE w63 (fun _ => False) none 0), (fun k hk => ⟨(fun _ h => h.elim) k hk, (fun _ h => h.elim) k hk⟩)⟩
  ·replace h0 := ite_f hc57 h0
   refine gv_skip <| gv_seq <| gv_region <| gv_pureN 1 [9] [(9, (.slice none (List.length ([] : List ByteArray)) 0))] (by kernel_rfl) ?_
   refine gv_nil <| gv_seq <| gv_seq <| gv_region <| gv_pureN 2 [24, 25] [(24, (.string s_0)), (25, (.string sep_1))] (by kernel_rfl) ?_
   refine bindE h0 ?_; clear h0; intro r80 hr81 h0
   refine gv_call0 (by kernel_rfl) rfl (by kernel_rfl) enters72 (strings_LastIndex_ok fuel s_0 sep_1 w31  r80 hr81) ?_
   rintro v84 w82 ⟨hg83, rfl⟩
   refine gv_pureN 1 [10] [(10, (.int .i64 r80))] (by kernel_rfl) ?_
   refine gv_sub [0, 1, 2, 7, 9, 10] (σ' := [(0, (.string s_0)), (1, (.string sep_1)), (2, (.int .i64 most_2)), (7, (bp b1)), (9, (.slice none (List.length ([] : List ByteArray)) 0)), (10, (.int .i64 r80))]) (by kernel_rfl) ?_
   refine gv_nil <| bindE h0 ?_; clear h0; intro j85 h1 h0
   refine gv_cut_code (J := fun a w86 => ∃ (a9_0j : Option Addr) (c9_0j : Nat), Below w0.heap.size w0 w86 ∧ w82.heap.size ≤ w86.heap.size ∧ Gv.Own sE 9 w86 (fun _ => False) a9_0j c9_0j j85.2 ∧ (∀ g, blk a9_0j = some g → w0.heap.size ≤ g) ∧ (∀ g, blk a9_0j = some g → ¬ (· = b1) g) ∧ ¬ (fun k => blk a9_0j = some k) b1 ∧ Box w86 b1 24 #[(.int .i64 0), (.int .i64 0)] ∧ a.defers = [] ∧ a.tmps.size = 74 ∧ Ok [(0, (.string j85.1)), (7, (bp b1)), (9, (.slice a9_0j (List.length j85.2) c9_0j))] a.tmps) ?_ ?_
   ·skip
    refine gv_block <| gv_loop (A := fun (s87 : (ByteArray × (List ByteArray) × Int)) a w88 => ∃ (a9_0j : Option Addr) (c9_0j : Nat), Below w0.heap.size w0 w88 ∧ w82.heap.size ≤ w88.heap.size ∧ Gv.Own sE 9 w88 (fun _ => False) a9_0j c9_0j s87.2.1 ∧ (∀ g, blk a9_0j = some g → w0.heap.size ≤ g) ∧ (∀ g, blk a9_0j = some g → ¬ (· = b1) g) ∧ ¬ (fun k => blk a9_0j = some k) b1 ∧ Box w88 b1 24 #[(.int .i64 0), (.int .i64 0)] ∧ a.defers = [] ∧ a.tmps.size = 74 ∧ Ok [(0, (.string s87.1)), (1, (.string sep_1)), (2, (.int .i64 most_2)), (7, (bp b1)), (9, (.slice a9_0j (List.length s87.2.1) c9_0j)), (10, (.int .i64 s87.2.2))] a.tmps) h1 ?_ ?_
    ·intro a hd hs hok
     have hg89 := (grown_trans hg23 hg27)
     have hB90 := bg hB21 hg89 nb
     have hB91 := bg hB21 hg23 nb
     have hlo92 : w0.heap.size ≤ b25 := lob hbe29 hB91.size
     have hB93 := bg hB90 hg32 (rowlo hlo92)
     have hB94 := bg hB93 hg83 nb
     have hg95 := (grown_trans hg9 hg89)
     have hg96 := (grown_trans hg9 hg23)
     have hk97 := hb4.grown hg96 nb
     have lt98 := ltl ((ltb hk97) _ rfl) ((lowb hbe29) _ rfl)
     have hk99 := ((hb4.grown hg95 nb).grown hg32 (rowne (ng lt98))).grown hg83 nb
     exact ⟨none, 0, hB94, (Nat.le_refl _), (Gv.Own.nil sE 9 w82 (fun _ => False)), (fun _ h => by cases h), (fun _ h => by cases h), (fun h => by cases h), hk99, hd, hs, ok_pick [0, 1, 2, 7, 9, 10] hok (by kernel_rfl)⟩
    ·rintro s87 r2 h2 hR2 a w88 ⟨a102, c103, hB100, hz101, ho104, hl105, ap106, ap107, hb108, hd, hs, hok⟩
     refine gv_in ?_ hd hs hok
     clear hd hs hok
     clear hg83 hr81 hc57 hc35 hz34 hb33 hg32 hz30 hbe29 hb28 hg27 hg23 hB21 hr20 hl14 hB18 ho13 hz12 hbe11 hb10 hg9 hz6 hb4 hg3
     refine gv_seq <| gv_seq <| gv_region <| gv_cut_ops (J := fun a w109 => w88 = w109 ∧ a.defers = [] ∧ a.tmps.size = 74 ∧ Ok [(0, (.string s87.1)), (1, (.string sep_1)), (2, (.int .i64 most_2)), (7, (bp b1)), (9, (.slice a102 (List.length s87.2.1) c103)), (10, (.int .i64 s87.2.2)), (38, (.bool ((decide (s87.2.2 ≥ 0)) && ((decide (most_2 < 0)) || (decide (((List.length s87.2.1 : Nat) : Int) < most_2))))))] a.tmps) ?_ ?_
     ·skip
      refine gv_pureN 3 [27, 28, 29] [(29, (.bool (decide (s87.2.2 ≥ 0))))] (by kernel_rfl) ?_
      refine gv_split (s := 29) (g := (decide (s87.2.2 ≥ 0))) (by kernel_rfl) (fun hc110 => ?_) (fun hc110 => ?_)
      ·skip
       refine gv_pureN 3 [30, 31, 32] [(32, (.bool (decide (most_2 < 0))))] (by kernel_rfl) ?_
       refine gv_split (s := 32) (g := (decide (most_2 < 0))) (by kernel_rfl) (fun hc111 => ?_) (fun hc111 => ?_)
       ·skip
        refine gv_pureN 6 [33, 34, 35, 36, 37, 38] [(38, (.bool true))] (by kernel_rfl) ?_
        refine gv_nil <| gv_sub [0, 1, 2, 7, 9, 10, 38] (σ' := [(0, (.string s87.1)), (1, (.string sep_1)), (2, (.int .i64 most_2)), (7, (bp b1)), (9, (.slice a102 (List.length s87.2.1) c103)), (10, (.int .i64 s87.2.2)), (38, (.bool true))]) (by kernel_rfl) ?_
        refine gv_goal fun a hd hs hok => ⟨rfl, hd, hs, ?_⟩
        obtain ⟨q0, q1, q2, q7, q9, q10, q38, _⟩ := hok
        exact ⟨q0, q1, q2, q7, q9, q10, (by rw [hc110, hc111]; exact q38), trivial⟩
       ·skip
        refine gv_pureN 6 [33, 34, 35, 36, 37, 38] [(38, (.bool (decide (((List.length s87.2.1 : Nat) : Int) < most_2))))] (by kernel_rfl) ?_
        refine gv_nil <| gv_sub [0, 1, 2, 7, 9, 10, 38] (σ' := [(0, (.string s87.1)), (1, (.string sep_1)), (2, (.int .i64 most_2)), (7, (bp b1)), (9, (.slice a102 (List.length s87.2.1) c103)), (10, (.int .i64 s87.2.2)), (38, (.bool (decide (((List.length s87.2.1 : Nat) : Int) < most_2))))]) (by kernel_rfl) ?_
        refine gv_goal fun a hd hs hok => ⟨rfl, hd, hs, ?_⟩
        obtain ⟨q0, q1, q2, q7, q9, q10, q38, _⟩ := hok
        exact ⟨q0, q1, q2, q7, q9, q10, (by rw [hc110, hc111]; exact q38), trivial⟩
      ·skip
       refine gv_pureN 9 [30, 31, 32, 33, 34, 35, 36, 37, 38] [(38, (.bool false))] (by kernel_rfl) ?_
       refine gv_nil <| gv_sub [0, 1, 2, 7, 9, 10, 38] (σ' := [(0, (.string s87.1)), (1, (.string sep_1)), (2, (.int .i64 most_2)), (7, (bp b1)), (9, (.slice a102 (List.length s87.2.1) c103)), (10, (.int .i64 s87.2.2)), (38, (.bool false))]) (by kernel_rfl) ?_
       refine gv_goal fun a hd hs hok => ⟨rfl, hd, hs, ?_⟩
       obtain ⟨q0, q1, q2, q7, q9, q10, q38, _⟩ := hok
       exact ⟨q0, q1, q2, q7, q9, q10, (by rw [hc110]; exact q38), trivial⟩
     ·rintro a w109 ⟨e, hd, hs, hok⟩; subst e
      refine gv_in ?_ hd hs hok
      clear hd hs hok
      refine gv_cond (b := ((decide (s87.2.2 ≥ 0)) && ((decide (most_2 < 0)) || (decide (((List.length s87.2.1 : Nat) : Int) < most_2))))) (by kernel_rfl) (fun hc112 => ?_) (fun hc112 => ?_)
      ·replace h2 := ite_t hc112 h2
       refine gv_skip <| gv_seq <| gv_block <| gv_seq <| gv_region <| gv_pureN 6 [42, 43, 44, 45, 46, 47] [(42, (.slice a102 (List.length s87.2.1) c103)), (43, (.string s87.1)), (47, (.int .i64 (IntKind.i64.wrap (s87.2.2 + ((ByteArray.size sep_1 : Nat) : Int)))))] (by kernel_rfl) ?_
       refine bindE h2 ?_; clear h2; intro x113 hx114 h2
       refine gv_ssub (t := 9) (s := s87.1) (lo := (some (.int .i64 (IntKind.i64.wrap (s87.2.2 + ((ByteArray.size sep_1 : Nat) : Int)))))) (hi := none) (IntKind.i64.wrap (s87.2.2 + ((ByteArray.size sep_1 : Nat) : Int))) ((ByteArray.size s87.1 : Nat) : Int) x113 [] (fun e => by cases e) rfl rfl rfl (by kernel_rfl) (by kernel_rfl) Tryd.underlying9 (.inr ⟨_, rfl⟩) (.inl ⟨rfl, rfl⟩) hx114 rfl ?_
       refine gv_new0 (fun b => .slice (some ⟨b, 0, none⟩) 1 1) #[(.string x113)] 9 (by kernel_rfl) (by kernel_rfl) ?_
       intro b115 w116 hg117 hb118 hbe119 hz120
       have ho121 : Gv.Own sE 9 w116 (fun _ => False) (some ⟨b115, 0, none⟩) 1 ([x113] : List ByteArray) := Box.ownE hb118 ⟨[(.string x113)], [], rfl, rfl, rfl⟩ (show 1 ≤ maxLen by decide) (fun h => h)
       have hl122 : ∀ g, blk (some ⟨b115, 0, none⟩) = some g → w0.heap.size ≤ g := loo hbe119 hB100.size
       refine bindE h2 ?_; clear h2; intro l126 hx127 h2
       have hk134 := ho104.grown hg117 (fun _ h => h.elim) nb
       refine gv_append sE (t := 22) (ty := 22) (e := 9) (a := a102) (ax := (some ⟨b115, 0, none⟩)) (cap := c103) (cx := 1) (xs := s87.2.1) (ys := ([x113] : List ByteArray)) l126 (X := (fun _ => False)) (Y := (fun k => blk (some ⟨b115, 0, none⟩) = some k)) (by decide) rfl rfl (by kernel_rfl) (by kernel_rfl) Tryd.underlying22 info9 hk134 (ho121.rd (Y := fun k => blk (some ⟨b115, 0, none⟩) = some k) (fun _ h => h.elim) (fun g e => e)) hx127 (.inr fun _ _ _ _ _ h => h) (fun _ h => h.elim) ?_
       intro a128 c129 w130 hg131 ho132 hk133
       refine ⟨(fun e => by cases e), ?_⟩
       have hB136 := bg hB100 hg117 nb
       have hl135 : ∀ g, blk a128 = some g → w0.heap.size ≤ g := blk_step hk133 hl105 hB136.size
       have hk138 := hb108.grown hg117 nb
       have ap137 : ∀ g, blk a128 = some g → ¬ (· = b1) g := blk_neX hk133 ap106 (ltb hk138)
       have ap139 : ¬ (fun k => blk a128 = some k) b1 := fun h => blk_rev hk133 (fun h => (ap107) h) (hk138.lt) h
       have ap141 : ∀ g, blk a102 = some g → ¬ (fun k => blk (some ⟨b115, 0, none⟩) = some k) g := fun g e hx => nl ((lowo hbe119) _ hx) ((fun k (hk : blk a102 = some k) => ho104.lt k hk) g e)
       have ap140 : ∀ g, blk a128 = some g → ¬ (fun k => blk (some ⟨b115, 0, none⟩) = some k) g := blk_neX hk133 ap141 (fun k (hk : blk (some ⟨b115, 0, none⟩) = some k) => ho121.lt k hk)
       have ap143 : ∀ g, blk (some ⟨b115, 0, none⟩) = some g → ¬ (fun k => blk a102 = some k) g := fun g e hx => nl ((lowo hbe119) g e) ((fun k (hk : blk a102 = some k) => ho104.lt k hk) _ hx)
       have ap142 : ∀ g, blk (some ⟨b115, 0, none⟩) = some g → ¬ (fun k => blk a128 = some k) g := fun g e h => blk_rev hk133 (fun h => ((ap143) g e) h) (ho121.lt g e) h
       refine gv_pureN 1 [9] [(9, (.slice a128 (List.length l126) c129))] (by kernel_rfl) ?_
       refine gv_nil <| gv_region <| gv_pureN 2 [51, 52] [(51, (.string s87.1)), (52, (.int .i64 s87.2.2))] (by kernel_rfl) ?_
       refine bindE h2 ?_; clear h2; intro x144 hx145 h2
       refine gv_ssub (t := 9) (s := s87.1) (lo := none) (hi := (some (.int .i64 s87.2.2))) 0 s87.2.2 x144 [] (fun e => by cases e) rfl rfl rfl (by kernel_rfl) (by kernel_rfl) Tryd.underlying9 (.inl ⟨rfl, rfl⟩) (.inr ⟨_, rfl⟩) hx145 rfl ?_
       refine gv_pureN 1 [0] [(0, (.string x144))] (by kernel_rfl) ?_
       refine gv_nil <| gv_blk <| gv_region <| gv_pureN 2 [39, 40] [(39, (.string x144)), (40, (.string sep_1))] (by kernel_rfl) ?_
       refine bindE h2 ?_; clear h2; intro r146 hr147 h2
       refine gv_call0 (by kernel_rfl) rfl (by kernel_rfl) enters72 (strings_LastIndex_ok fuel x144 sep_1 w130  r146 hr147) ?_
       rintro v150 w148 ⟨hg149, rfl⟩
       refine gv_pureN 1 [10] [(10, (.int .i64 r146))] (by kernel_rfl) ?_
       refine gv_nil ?_
       have e := sj h2; subst e
       refine gv_goal fun a hd hs hok => ?_
       have hB151 := bg hB136 hg131 hl105
       have hB152 := bg hB151 hg149 nb
       have hz153 := (nt (nt (nt hz101 hg117.size) hg131.size) hg149.size)
       have hk154 := ho132.grown hg149 (fun _ h => h.elim) nb
       have hk155 := (hk138.grown hg131 ap106).grown hg149 nb
       exact ⟨(x144, l126, r146), rfl, a128, c129, hB152, hz153, hk154, hl135, ap137, ap139, hk155, hd, hs, ok_pick [0, 1, 2, 7, 9, 10] hok (by kernel_rfl)⟩
      ·replace h2 := ite_f hc112 h2
       refine gv_cexit <| gv_exit rfl ?_
       have e := sj h2; subst e
       replace h1 := congrArg some (hR2 _ rfl)
       have e := sj h1; subst e
       refine gv_goal fun a hd hs hok => ?_
       have hz156 := hz101
       exact ⟨a102, c103, hB100, hz156, ho104, hl105, ap106, ap107, hb108, hd, hs, ok_pick [0, 7, 9] hok (by kernel_rfl)⟩
   ·rintro a w86 ⟨a159, c160, hB157, hz158, ho161, hl162, ap163, ap164, hb165, hd, hs, hok⟩
    refine gv_in ?_ hd hs hok
    clear hd hs hok
    clear hz158 hg83 hr81 hc57 hc35 hz34 hb33 hg32 hz30 hbe29 hb28 hg27 hg23 hB21 hr20 hl14 hB18 ho13 hz12 hbe11 hb10 hg9 hz6 hb4 hg3
    refine gv_seq <| gv_region <| gv_pureN 1 [54] [(54, (.string j85.1))] (by kernel_rfl) ?_
    refine gv_new0 (fun b => .slice (some ⟨b, 0, none⟩) 1 1) #[(.string j85.1)] 9 (by kernel_rfl) (by kernel_rfl) ?_
    intro b166 w167 hg168 hb169 hbe170 hz171
    have ho172 : Gv.Own sE 9 w167 (fun _ => False) (some ⟨b166, 0, none⟩) 1 ([j85.1] : List ByteArray) := Box.ownE hb169 ⟨[(.string j85.1)], [], rfl, rfl, rfl⟩ (show 1 ≤ maxLen by decide) (fun h => h)
    have hl173 : ∀ g, blk (some ⟨b166, 0, none⟩) = some g → w0.heap.size ≤ g := loo hbe170 hB157.size
    refine gv_pureN 1 [11] [(11, (.slice (some ⟨b166, 0, none⟩) (List.length ([j85.1] : List ByteArray)) 1))] (by kernel_rfl) ?_
    refine gv_nil <| gv_seq <| gv_seq <| gv_region <| gv_pureN 4 [12, 56, 57, 58] [(12, (.int .i64 (IntKind.i64.wrap (((List.length j85.2 : Nat) : Int) - 1))))] (by kernel_rfl) ?_
    refine bindE h0 ?_; clear h0; intro n177 hn178 h0
    refine gv_name (s := 12) (v := (.int .i64 (IntKind.i64.wrap (((List.length j85.2 : Nat) : Int) - 1)))) (v' := (.int .i64 n177)) (by kernel_rfl) (congrArg (Value.int .i64) (sj hn178)) ?_
    refine gv_nil <| bindE h0 ?_; clear h0; intro j179 h1 h0
    refine gv_cut_code (J := fun a w180 => ∃ (a11_0j : Option Addr) (c11_0j : Nat), Below w0.heap.size w0 w180 ∧ w167.heap.size ≤ w180.heap.size ∧ Gv.Own sE 9 w180 (fun _ => False) a11_0j c11_0j j179 ∧ (∀ g, blk a11_0j = some g → w0.heap.size ≤ g) ∧ (∀ g, blk a11_0j = some g → ¬ (· = b1) g) ∧ ¬ (fun k => blk a11_0j = some k) b1 ∧ Box w180 b1 24 #[(.int .i64 0), (.int .i64 0)] ∧ a.defers = [] ∧ a.tmps.size = 74 ∧ Ok [(7, (bp b1)), (11, (.slice a11_0j (List.length j179) c11_0j))] a.tmps) ?_ ?_
    ·skip
     refine gv_block <| gv_loop (A := fun (s181 : ((List ByteArray) × Int)) a w182 => ∃ (a11_0j : Option Addr) (c11_0j : Nat), Below w0.heap.size w0 w182 ∧ w167.heap.size ≤ w182.heap.size ∧ Gv.Own sE 9 w182 (fun _ => False) a11_0j c11_0j s181.1 ∧ (∀ g, blk a11_0j = some g → w0.heap.size ≤ g) ∧ (∀ g, blk a11_0j = some g → ¬ (· = b1) g) ∧ (∀ g, blk a11_0j = some g → ¬ (fun k => blk a159 = some k) g) ∧ ¬ (fun k => blk a11_0j = some k) b1 ∧ (∀ g, blk a159 = some g → ¬ (fun k => blk a11_0j = some k) g) ∧ Box w182 b1 24 #[(.int .i64 0), (.int .i64 0)] ∧ Gv.Own sE 9 w182 (fun _ => False) a159 c160 j85.2 ∧ a.defers = [] ∧ a.tmps.size = 74 ∧ Ok [(7, (bp b1)), (9, (.slice a159 (List.length j85.2) c160)), (11, (.slice a11_0j (List.length s181.1) c11_0j)), (12, (.int .i64 s181.2))] a.tmps) h1 ?_ ?_
     ·intro a hd hs hok
      have hB183 := bg hB157 hg168 nb
      have ap184 : ∀ g, blk (some ⟨b166, 0, none⟩) = some g → ¬ (· = b1) g := fun g e hx => nl ((lowo hbe170) g e) ((ltb hb165) _ hx)
      have ap185 : ∀ g, blk (some ⟨b166, 0, none⟩) = some g → ¬ (fun k => blk a159 = some k) g := fun g e hx => nl ((lowo hbe170) g e) ((fun k (hk : blk a159 = some k) => ho161.lt k hk) _ hx)
      have ap186 : ¬ (fun k => blk (some ⟨b166, 0, none⟩) = some k) b1 := fun hx => nl ((lowo hbe170) _ hx) ((ltb hb165) _ rfl)
      have ap187 : ∀ g, blk a159 = some g → ¬ (fun k => blk (some ⟨b166, 0, none⟩) = some k) g := fun g e hx => nl ((lowo hbe170) _ hx) ((fun k (hk : blk a159 = some k) => ho161.lt k hk) g e)
      have hk188 := hb165.grown hg168 nb
      have hk189 := ho161.grown hg168 (fun _ h => h.elim) nb
      exact ⟨(some ⟨b166, 0, none⟩), 1, hB183, (Nat.le_refl _), ho172, hl173, ap184, ap185, ap186, ap187, hk188, hk189, hd, hs, ok_pick [7, 9, 11, 12] hok (by kernel_rfl)⟩
     ·rintro s181 r2 h2 hR2 a w182 ⟨a192, c193, hB190, hz191, ho194, hl195, ap196, ap197, ap198, ap199, hb200, hk201, hd, hs, hok⟩
      refine gv_in ?_ hd hs hok
      clear hd hs hok
      clear hn178 hl173 ho172 hz171 hbe170 hb169 hg168 hb165 ho161 hB157
      refine gv_seq <| gv_seq <| gv_region <| gv_pureN 2 [59, 60] [(60, (.bool (decide (s181.2 ≥ 0))))] (by kernel_rfl) ?_
      refine gv_nil <| gv_cond (b := (decide (s181.2 ≥ 0))) (by kernel_rfl) (fun hc202 => ?_) (fun hc202 => ?_)
      ·replace h2 := ite_t hc202 h2
       refine gv_skip <| gv_seq <| gv_block <| gv_region <| gv_pureN 3 [63, 64, 65] [(63, (.slice a192 (List.length s181.1) c193)), (64, (.slice a159 (List.length j85.2) c160)), (65, (.int .i64 s181.2))] (by kernel_rfl) ?_
       refine bindE h2 ?_; clear h2; intro x203 hx204 h2
       refine gv_idxaddr (t := 22) (e := 9) (a := a159) (len := List.length j85.2) (cap := c160) (kk := .i64) (i := s181.2) (sz := 1) [] (fun e => by cases e) rfl rfl rfl (by kernel_rfl) (by kernel_rfl) Tryd.underlying22 (by kernel_rfl) ((hk201.rd (Y := fun k => blk a159 = some k) (fun _ h => h.elim) (fun g e => e)).has hx204) (idx_spec hx204).1 (idx_spec hx204).2.1 rfl ?_
       refine gv_load (t := 9) (A := (elemAddr a159 ((s181.2 : Int).toNat * 1))) (.string x203) [] (fun e => by cases e) rfl rfl rfl (by kernel_rfl) (by kernel_rfl) (by kernel_rfl) (inw0 ((hk201.rd (Y := fun k => blk a159 = some k) (fun _ h => h.elim) (fun g e => e)).cell hx204)) rfl ?_
       refine gv_new0 (fun b => .slice (some ⟨b, 0, none⟩) 1 1) #[(.string x203)] 9 (by kernel_rfl) (by kernel_rfl) ?_
       intro b205 w206 hg207 hb208 hbe209 hz210
       have ho211 : Gv.Own sE 9 w206 (fun _ => False) (some ⟨b205, 0, none⟩) 1 ([x203] : List ByteArray) := Box.ownE hb208 ⟨[(.string x203)], [], rfl, rfl, rfl⟩ (show 1 ≤ maxLen by decide) (fun h => h)
       have hl212 : ∀ g, blk (some ⟨b205, 0, none⟩) = some g → w0.heap.size ≤ g := loo hbe209 hB190.size
       refine bindE h2 ?_; clear h2; intro l216 hx217 h2
       have hk224 := ho194.grown hg207 (fun _ h => h.elim) nb
       refine gv_append sE (t := 22) (ty := 22) (e := 9) (a := a192) (ax := (some ⟨b205, 0, none⟩)) (cap := c193) (cx := 1) (xs := s181.1) (ys := ([x203] : List ByteArray)) l216 (X := (fun _ => False)) (Y := (fun k => blk (some ⟨b205, 0, none⟩) = some k)) (by decide) rfl rfl (by kernel_rfl) (by kernel_rfl) Tryd.underlying22 info9 hk224 (ho211.rd (Y := fun k => blk (some ⟨b205, 0, none⟩) = some k) (fun _ h => h.elim) (fun g e => e)) hx217 (.inr fun _ _ _ _ _ h => h) (fun _ h => h.elim) ?_
       intro a218 c219 w220 hg221 ho222 hk223
       refine ⟨(fun e => by cases e), ?_⟩
       have hB226 := bg hB190 hg207 nb
       have hl225 : ∀ g, blk a218 = some g → w0.heap.size ≤ g := blk_step hk223 hl195 hB226.size
       have hk228 := hb200.grown hg207 nb
       have ap227 : ∀ g, blk a218 = some g → ¬ (· = b1) g := blk_neX hk223 ap196 (ltb hk228)
       have ap229 : ¬ (fun k => blk a218 = some k) b1 := fun h => blk_rev hk223 (fun h => (ap198) h) (hk228.lt) h
       have hk231 := hk201.grown hg207 (fun _ h => h.elim) nb
       have ap230 : ∀ g, blk a218 = some g → ¬ (fun k => blk a159 = some k) g := blk_neX hk223 ap197 (fun k (hk : blk a159 = some k) => hk231.lt k hk)
       have ap232 : ∀ g, blk a159 = some g → ¬ (fun k => blk a218 = some k) g := fun g e h => blk_rev hk223 (fun h => ((ap199) g e) h) (hk231.lt g e) h
       have ap234 : ∀ g, blk a192 = some g → ¬ (fun k => blk (some ⟨b205, 0, none⟩) = some k) g := fun g e hx => nl ((lowo hbe209) _ hx) ((fun k (hk : blk a192 = some k) => ho194.lt k hk) g e)
       have ap233 : ∀ g, blk a218 = some g → ¬ (fun k => blk (some ⟨b205, 0, none⟩) = some k) g := blk_neX hk223 ap234 (fun k (hk : blk (some ⟨b205, 0, none⟩) = some k) => ho211.lt k hk)
       have ap236 : ∀ g, blk (some ⟨b205, 0, none⟩) = some g → ¬ (fun k => blk a192 = some k) g := fun g e hx => nl ((lowo hbe209) g e) ((fun k (hk : blk a192 = some k) => ho194.lt k hk) _ hx)
       have ap235 : ∀ g, blk (some ⟨b205, 0, none⟩) = some g → ¬ (fun k => blk a218 = some k) g := fun g e h => blk_rev hk223 (fun h => ((ap236) g e) h) (ho211.lt g e) h
       have hz237 := (nt (nt hz191 hg207.size) hg221.size)
       clear ap235 ap236 ap233 ap234 hk223 hk224 hx217 hl212 ho211 hz210 hbe209 hb208 hg207 hx204 hc202 hk201 hb200 ap199 ap198 ho194 hz191 hB190
       refine gv_pureN 1 [11] [(11, (.slice a218 (List.length l216) c219))] (by kernel_rfl) ?_
       refine gv_nil <| gv_blk <| gv_region <| gv_pureN 3 [12, 61, 62] [(12, (.int .i64 (IntKind.i64.wrap (s181.2 - 1))))] (by kernel_rfl) ?_
       refine gv_nil ?_
       have e := sj h2; subst e
       refine gv_goal fun a hd hs hok => ?_
       have hB238 := bg hB226 hg221 hl195
       have hz239 := hz237
       have hk240 := hk228.grown hg221 ap196
       have hk241 := hk231.grown hg221 (fun _ h => h.elim) (rdnn ap197)
       exact ⟨(l216, (IntKind.i64.wrap (s181.2 - 1))), rfl, a218, c219, hB238, hz239, ho222, hl225, ap227, ap230, ap229, ap232, hk240, hk241, hd, hs, ok_pick [7, 9, 11, 12] hok (by kernel_rfl)⟩
      ·replace h2 := ite_f hc202 h2
       refine gv_cexit <| gv_exit rfl ?_
       have e := sj h2; subst e
       replace h1 := congrArg some (hR2 _ rfl)
       have e := sj h1; subst e
       refine gv_goal fun a hd hs hok => ?_
       have hz242 := hz191
       exact ⟨a192, c193, hB190, hz242, ho194, hl195, ap196, ap198, hb200, hd, hs, ok_pick [7, 11] hok (by kernel_rfl)⟩
    ·rintro a w180 ⟨a245, c246, hB243, hz244, ho247, hl248, ap249, ap250, hb251, hd, hs, hok⟩
     refine gv_in ?_ hd hs hok
     clear hd hs hok
     clear hz244 hn178 hl173 ho172 hz171 hbe170 hb169 hg168 hb165 ap164 ap163 hl162 ho161 hB157
     refine gv_seq <| gv_region <| gv_pureN 1 [70] [(70, (.slice a245 (List.length j179) c246))] (by kernel_rfl) ?_
     refine bindE h0 ?_; clear h0; intro r252 hr253 h0
     refine gv_call0 (by kernel_rfl) rfl (by kernel_rfl) enters57 (textstr_pieces_ok fuel a245 c246 j179 w180 (fun k => (fun k => blk a245 = some k) k) (fun k hk => (fun k (hk : blk a245 = some k) => ho247.lt k hk) k hk) ((ho247.rd (Y := fun k => blk a245 = some k) (fun _ h => h.elim) (fun g e => e)).wide (fun k hk => hk)) r252 hr253) ?_
     rintro v256 w254 ⟨hg255, a257, c258, X260, rfl, ho259, hx261⟩
     have hx262 : ∀ k, X260 k → k < w254.heap.size := fun k hk => (hx261 k hk).1
     have hx263 : ∀ k, X260 k → X0 k ∨ w0.heap.size ≤ k := fun k hk => (hx261 k hk).2.elim (fun h => (fun k (hk : blk a245 = some k) => Or.inr (hl248 k hk)) k h) (fun h => .inr (Nat.le_trans hB243.size h))
     refine gv_pureN 3 [6, 72, 73] [(6, (.slice a257 (List.length r252.1) c258)), (73, (.agg #[(.int .i64 r252.2.1), (.int .i64 r252.2.2)]))] (by kernel_rfl) ?_
     have hk268 := hb251.grown hg255 nb
     refine gv_store0 24 0 (.agg #[(.int .i64 r252.2.1), (.int .i64 r252.2.2)]) #[(.int .i64 r252.2.1), (.int .i64 r252.2.2)] hk268 (by kernel_rfl) (by kernel_rfl) (by kernel_rfl) ?_
     intro w264 hg265 hb266 hz267
     refine gv_nil <| gv_cret ?_
     have e := sj h0; subst e
     refine gv_ret (gv_done [(.slice a257 (List.length r252.1) c258), (.agg #[(.int .i64 r252.2.1), (.int .i64 r252.2.2)])] rfl ⟨(by kernel_rfl), ⟨⟨b1, 0, none⟩, (by kernel_rfl), run_loadVar_row w264 b1 _ 24 _ _ _ hb266 Tryd.underlying24 rfl (by kernel_rfl)⟩, trivial⟩ ?_)
     have hB269 := bg hB243 hg255 nb
     have hlo270 : w0.heap.size ≤ b1 := lob hbe5 hB0.size
     have hB271 := bg hB269 hg265 (rowlo hlo270)
     have ap272 : ¬ X260 b1 := fun h => ((hx261 _ h).2.elim (fun h => (ap250)  h) (fun h => nl h (hb251.lt)))
     have hk273 := ho259.grown hg265 hx262 (rowne ap272)
     have hx274 := ltx hx262 hg265.size
     exact ⟨grown_of_below hB271, a257, c258, X260, rfl, hk273, (fun k hk => ⟨hx274 k hk, hx263 k hk⟩)⟩

theorem law4_TextstrRejoins_ok (fuel : Nat) (s_0 : ByteArray) (sep_1 : ByteArray) (most_2 : Int) (w0 : World) (X0 : Nat → Prop) (hX0 : ∀ k, X0 k → k < w0.heap.size) {gmx : Int} (hG0 : Rd (iE .i64) w0 X0 (some ⟨0, 0, none⟩) 1 [gmx]) (hG1 : Rd bE w0 X0 (some ⟨1, 0, none⟩) 256 utf8First) (hG2 : Rd (prE (iE .u8) (iE .u8)) w0 X0 (some ⟨2, 0, none⟩) 16 utf8Acc) (r0 : Bool) (h0 : law4_TextstrRejoins fuel s_0 sep_1 most_2 = some r0) :
    Calls Tryd.prog 12 ([(.string s_0), (.string sep_1), (.int .i64 most_2)] : List Value).toArray w0 (Ret fun v w' => w0.grownBy w' none ∧ v = tup [(.bool r0)]) := by
 have hB0 : Below w0.heap.size w0 w0 := Below.refl _ _
 unfold law4_TextstrRejoins at h0
 refine calls_run Tryd.func12 rfl Tryd.ntmps12 (by kernel_rfl) ?_
 refine gv_sub [0, 1, 2] (σ' := [(0, (.string s_0)), (1, (.string sep_1)), (2, (.int .i64 most_2))]) (by kernel_rfl) ?_
 refine gv_seq <| gv_region <| gv_pureN 1 [6] [] (by kernel_rfl) ?_
 refine gv_nil <| gv_seq <| gv_region <| gv_pureN 3 [21, 22, 23] [(21, (.string s_0)), (22, (.string sep_1)), (23, (.int .i64 most_2))] (by kernel_rfl) ?_
 refine bindE h0 ?_; clear h0; intro r1 hr2 h0
 refine gv_call0 (by kernel_rfl) rfl (by kernel_rfl) enters46 (textstr_Split_ok fuel s_0 sep_1 most_2 w0 (fun k => X0 k ∨ X0 k ∨ X0 k) (fun k hk => (hk).elim (fun h => (fun k (hk : X0 k) => ltl (hX0 k hk) hB0.size) k h) (fun h => (h).elim (fun h => (fun k (hk : X0 k) => ltl (hX0 k hk) hB0.size) k h) (fun h => (fun k (hk : X0 k) => ltl (hX0 k hk) hB0.size) k h))) ((hG0.below hB0 hX0).wide (fun k hk => (.inl hk))) ((hG1.below hB0 hX0).wide (fun k hk => (.inr (.inl hk)))) ((hG2.below hB0 hX0).wide (fun k hk => (.inr (.inr hk)))) r1 hr2) ?_
 rintro v5 w3 ⟨hg4, a6, c7, X9, rfl, ho8, hx10⟩
 have hx11 : ∀ k, X9 k → k < w3.heap.size := fun k hk => (hx10 k hk).1
 have hx12 : ∀ k, X9 k → X0 k ∨ w0.heap.size ≤ k := fun k hk => (hx10 k hk).2.elim (fun h => (h).elim (fun h => (fun k (hk : X0 k) => Or.inl hk) k h) (fun h => (h).elim (fun h => (fun k (hk : X0 k) => Or.inl hk) k h) (fun h => (fun k (hk : X0 k) => Or.inl hk) k h))) (fun h => .inr (Nat.le_trans hB0.size h))
 refine gv_pureN 3 [20, 25, 26] [(25, (.slice a6 (List.length r1.1) c7)), (26, (.agg #[(.int .i64 r1.2.1), (.int .i64 r1.2.2)]))] (by kernel_rfl) ?_
 refine gv_new0 (fun b => .pointer (some ⟨b, 0, none⟩)) #[(.int .i64 0), (.int .i64 0)] 24 (by kernel_rfl) (by kernel_rfl) ?_
 intro b13 w14 hg15 hb16 hbe17 hz18
 refine gv_pureN 1 [7] [(7, (.slice a6 (List.length r1.1) c7))] (by kernel_rfl) ?_
 refine gv_store0 24 0 (.agg #[(.int .i64 r1.2.1), (.int .i64 r1.2.2)]) #[(.int .i64 r1.2.1), (.int .i64 r1.2.2)] hb16 (by kernel_rfl) (by kernel_rfl) (by kernel_rfl) ?_
 intro w19 hg20 hb21 hz22
 refine gv_nil <| gv_seq <| gv_region <| gv_pureN 3 [28, 29, 30] [(28, (.string s_0)), (29, (.string sep_1)), (30, (.int .i64 most_2))] (by kernel_rfl) ?_
 refine bindE h0 ?_; clear h0; intro r23 hr24 h0
 have hg25 := (grown_trans hg4 hg15)
 have hB26 := bg hB0 hg25 nb
 have hB27 := bg hB0 hg4 nb
 have hlo28 : w0.heap.size ≤ b13 := lob hbe17 hB27.size
 have hB29 := bg hB26 hg20 (rowlo hlo28)
 refine gv_call0 (by kernel_rfl) rfl (by kernel_rfl) enters47 (textstr_SplitLast_ok fuel s_0 sep_1 most_2 w19 (fun k => X0 k ∨ X0 k) (fun k hk => (hk).elim (fun h => (fun k (hk : X0 k) => ltl (hX0 k hk) hB29.size) k h) (fun h => (fun k (hk : X0 k) => ltl (hX0 k hk) hB29.size) k h)) ((hG1.below hB29 hX0).wide (fun k hk => (.inl hk))) ((hG2.below hB29 hX0).wide (fun k hk => (.inr hk))) r23 hr24) ?_
 rintro v32 w30 ⟨hg31, a33, c34, X36, rfl, ho35, hx37⟩
 have hx38 : ∀ k, X36 k → k < w30.heap.size := fun k hk => (hx37 k hk).1
 have hx39 : ∀ k, X36 k → X0 k ∨ w0.heap.size ≤ k := fun k hk => (hx37 k hk).2.elim (fun h => (h).elim (fun h => (fun k (hk : X0 k) => Or.inl hk) k h) (fun h => (fun k (hk : X0 k) => Or.inl hk) k h)) (fun h => .inr (Nat.le_trans hB29.size h))
 refine gv_pureN 3 [27, 32, 33] [(32, (.slice a33 (List.length r23.1) c34)), (33, (.agg #[(.int .i64 r23.2.1), (.int .i64 r23.2.2)]))] (by kernel_rfl) ?_
 refine gv_new0 (fun b => .pointer (some ⟨b, 0, none⟩)) #[(.int .i64 0), (.int .i64 0)] 24 (by kernel_rfl) (by kernel_rfl) ?_
 intro b40 w41 hg42 hb43 hbe44 hz45
 refine gv_pureN 1 [9] [(9, (.slice a33 (List.length r23.1) c34))] (by kernel_rfl) ?_
 refine gv_store0 24 0 (.agg #[(.int .i64 r23.2.1), (.int .i64 r23.2.2)]) #[(.int .i64 r23.2.1), (.int .i64 r23.2.2)] hb43 (by kernel_rfl) (by kernel_rfl) (by kernel_rfl) ?_
 intro w46 hg47 hb48 hz49
 refine gv_nil <| gv_seq <| gv_seq <| gv_region <| bindE h0 ?_; clear h0; intro r50 hr51 h0
 have hg52 := (grown_trans hg31 hg42)
 have hB53 := bg hB29 hg52 nb
 have hB54 := bg hB29 hg31 nb
 have hlo55 : w0.heap.size ≤ b40 := lob hbe44 hB54.size
 have hB56 := bg hB53 hg47 (rowlo hlo55)
 refine gv_call0 (by kernel_rfl) rfl (by kernel_rfl) enters15 (law4_letters_ok fuel  w46 (fun k => X0 k ∨ X0 k ∨ X0 k) (fun k hk => (hk).elim (fun h => (fun k (hk : X0 k) => ltl (hX0 k hk) hB56.size) k h) (fun h => (h).elim (fun h => (fun k (hk : X0 k) => ltl (hX0 k hk) hB56.size) k h) (fun h => (fun k (hk : X0 k) => ltl (hX0 k hk) hB56.size) k h))) ((hG0.below hB56 hX0).wide (fun k hk => (.inl hk))) ((hG1.below hB56 hX0).wide (fun k hk => (.inr (.inl hk)))) ((hG2.below hB56 hX0).wide (fun k hk => (.inr (.inr hk)))) r50 hr51) ?_
 rintro v59 w57 ⟨hg58, rfl⟩
 refine gv_pureN 1 [35] [(35, (.bool (!r50)))] (by kernel_rfl) ?_
 refine gv_sub [0, 1, 2, 7, 8, 9, 10, 35] (σ' := [(0, (.string s_0)), (1, (.string sep_1)), (2, (.int .i64 most_2)), (7, (.slice a6 (List.length r1.1) c7)), (8, (bp b13)), (9, (.slice a33 (List.length r23.1) c34)), (10, (bp b40)), (35, (.bool (!r50)))]) (by kernel_rfl) ?_
 refine gv_nil <| gv_cond (b := (!r50)) (by kernel_rfl) (fun hc60 => ?_) (fun hc60 => ?_)
 ·replace h0 := ite_t hc60 h0
  refine gv_seq <| gv_region <| gv_pureN 1 [6] [(6, (.bool false))] (by kernel_rfl) ?_
  refine gv_nil <| gv_cret ?_
  have e := sj h0; subst e
  refine gv_ret (gv_done [(.bool false)] rfl ⟨(by kernel_rfl), trivial⟩ ?_)
  have hB61 := bg hB56 hg58 nb
  exact ⟨grown_of_below hB61, rfl⟩
 ·replace h0 := ite_f hc60 h0
  refine gv_skip <| gv_seq <| gv_seq <| gv_region <| bindE h0 ?_; clear h0; intro j62 h1 h0
  refine gv_cut_ops (J := fun a w63 => Below w0.heap.size w0 w63 ∧ w57.heap.size ≤ w63.heap.size ∧ Box w63 b13 24 #[(.int .i64 r1.2.1), (.int .i64 r1.2.2)] ∧ Box w63 b40 24 #[(.int .i64 r23.2.1), (.int .i64 r23.2.2)] ∧ Rd sE w63 X9 a6 c7 r1.1 ∧ Rd sE w63 X36 a33 c34 r23.1 ∧ a.defers = [] ∧ a.tmps.size = 144 ∧ Ok [(0, (.string s_0)), (1, (.string sep_1)), (2, (.int .i64 most_2)), (7, (.slice a6 (List.length r1.1) c7)), (8, (bp b13)), (9, (.slice a33 (List.length r23.1) c34)), (10, (bp b40)), (43, (.bool j62))] a.tmps) ?_ ?_
  ·skip
   refine gv_pureN 1 [36] [(36, (bp b13))] (by kernel_rfl) ?_
   have hk64 := hb21.grown hg31 nb
   have lt65 := ltl ((ltb hk64) _ rfl) ((lowb hbe44) _ rfl)
   have hk66 := ((hb21.grown hg52 nb).grown hg47 (rowne (ng lt65))).grown hg58 nb
   refine gv_load (t := 3) (A := ⟨b13, 0, none⟩) (.int .i64 r1.2.1) [] (fun e => by cases e) rfl rfl rfl (by kernel_rfl) (by kernel_rfl) (by kernel_rfl) (inw0 (hk66.cell 0 rfl)) rfl ?_
   refine gv_pureN 2 [38, 39] [(39, (.bool (r1.2.1 != 0)))] (by kernel_rfl) ?_
   refine gv_split (s := 39) (g := (r1.2.1 != 0)) (by kernel_rfl) (fun hc67 => ?_) (fun hc67 => ?_)
   ·skip
    replace h1 := ite_t hc67 h1
    refine gv_pureN 4 [40, 41, 42, 43] [(43, (.bool true))] (by kernel_rfl) ?_
    refine gv_nil ?_
    have e := sj h1; subst e
    refine gv_goal fun a hd hs hok => ?_
    have hB68 := bg hB56 hg58 nb
    have hk69 := hb48.grown hg58 nb
    have ap70 : ¬ X9 b13 := fun hx => nl ((lowb hbe17) _ rfl) (hx11 _ hx)
    have hx71 := ltx hx11 hg15.size
    have hx72 := ltx hx71 hg20.size
    have hx73 := ltx hx72 hg31.size
    have ap74 : ¬ X9 b40 := fun hx => nl ((lowb hbe44) _ rfl) (hx73 _ hx)
    have hx75 := ltx hx73 hg42.size
    have hx76 := ltx hx75 hg47.size
    have hk77 := ((((ho8.grown hg15 hx11 nb).grown hg20 hx71 (rowne ap70)).grown hg52 hx72 nb).grown hg47 hx75 (rowne ap74)).grown hg58 hx76 nb
    have ap78 : ¬ X36 b40 := fun hx => nl ((lowb hbe44) _ rfl) (hx38 _ hx)
    have hx79 := ltx hx38 hg42.size
    have hx80 := ltx hx79 hg47.size
    have hk81 := ((ho35.grown hg42 hx38 nb).grown hg47 hx79 (rowne ap78)).grown hg58 hx80 nb
    exact ⟨hB68, (Nat.le_refl _), hk66, hk69, hk77, hk81, hd, hs, ok_pick [0, 1, 2, 7, 8, 9, 10, 43] hok (by kernel_rfl)⟩
   ·skip
    replace h1 := ite_f hc67 h1
    refine gv_pureN 1 [40] [(40, (bp b40))] (by kernel_rfl) ?_
    have hk82 := hb48.grown hg58 nb
    refine gv_load (t := 3) (A := ⟨b40, 0, none⟩) (.int .i64 r23.2.1) [] (fun e => by cases e) rfl rfl rfl (by kernel_rfl) (by kernel_rfl) (by kernel_rfl) (inw0 (hk82.cell 0 rfl)) rfl ?_
    refine gv_pureN 2 [42, 43] [(43, (.bool (r23.2.1 != 0)))] (by kernel_rfl) ?_
    refine gv_nil ?_
    have e := sj h1; subst e
    refine gv_goal fun a hd hs hok => ?_
    have hB83 := bg hB56 hg58 nb
    have ap84 : ¬ X9 b13 := fun hx => nl ((lowb hbe17) _ rfl) (hx11 _ hx)
    have hx85 := ltx hx11 hg15.size
    have hx86 := ltx hx85 hg20.size
    have hx87 := ltx hx86 hg31.size
    have ap88 : ¬ X9 b40 := fun hx => nl ((lowb hbe44) _ rfl) (hx87 _ hx)
    have hx89 := ltx hx87 hg42.size
    have hx90 := ltx hx89 hg47.size
    have hk91 := ((((ho8.grown hg15 hx11 nb).grown hg20 hx85 (rowne ap84)).grown hg52 hx86 nb).grown hg47 hx89 (rowne ap88)).grown hg58 hx90 nb
    have ap92 : ¬ X36 b40 := fun hx => nl ((lowb hbe44) _ rfl) (hx38 _ hx)
    have hx93 := ltx hx38 hg42.size
    have hx94 := ltx hx93 hg47.size
    have hk95 := ((ho35.grown hg42 hx38 nb).grown hg47 hx93 (rowne ap92)).grown hg58 hx94 nb
    exact ⟨hB83, (Nat.le_refl _), hk66, hk82, hk91, hk95, hd, hs, ok_pick [0, 1, 2, 7, 8, 9, 10, 43] hok (by kernel_rfl)⟩
  ·rintro a w63 ⟨hB96, hz97, hb98, hb99, hk100, hk101, hd, hs, hok⟩
   refine gv_in ?_ hd hs hok
   clear hd hs hok
   clear hc60 hB56 hB54 hB53 hg52 hr51 hz49 hb48 hz45 hb43 ho35 hB29 hB27 hB26 hg25 hr24 hz22 hz18 hb16 hx10 ho8 hg4 hr2
   refine gv_cond (b := j62) (by kernel_rfl) (fun hc102 => ?_) (fun hc102 => ?_)
   ·replace h0 := ite_t hc102 h0
    refine gv_seq <| gv_region <| bindE h0 ?_; clear h0; intro j103 h1 h0
    refine gv_cut_ops (J := fun a w104 => Below w0.heap.size w0 w104 ∧ w63.heap.size ≤ w104.heap.size ∧ a.defers = [] ∧ a.tmps.size = 144 ∧ Ok [(6, (.bool j103))] a.tmps) ?_ ?_
    ·skip
     refine gv_loadBox (t := 24) (b := b13) (t' := 24) (fr := (0, 0)) #[(.int .i64 r1.2.1), (.int .i64 r1.2.2)] [] (fun e => by cases e) rfl rfl rfl (by kernel_rfl) (by kernel_rfl) (by kernel_rfl) (by kernel_rfl) (inw0 hb98) rfl ?_
     refine gv_loadBox (t := 24) (b := b40) (t' := 24) (fr := (0, 0)) #[(.int .i64 r23.2.1), (.int .i64 r23.2.2)] [] (fun e => by cases e) rfl rfl rfl (by kernel_rfl) (by kernel_rfl) (by kernel_rfl) (by kernel_rfl) (inw0 hb99) rfl ?_
     refine gv_eqs (t := 24) (op := .eql) (x := (.tmp 44)) (y := (.tmp 45)) (xs := #[(.int .i64 r1.2.1), (.int .i64 r1.2.2)]) (ys := #[(.int .i64 r23.2.1), (.int .i64 r23.2.2)]) ((r1.2.1 == r23.2.1) && (r1.2.2 == r23.2.2)) [] (fun e => by cases e) rfl rfl rfl (by kernel_rfl) (by kernel_rfl) (fun w' => eqs24eql r1.2.1 r1.2.2 r23.2.1 r23.2.2 _ _ w') rfl ?_
     refine gv_pureN 1 [47] [(47, (.bool ((r1.2.1 == r23.2.1) && (r1.2.2 == r23.2.2))))] (by kernel_rfl) ?_
     refine gv_split (s := 47) (g := ((r1.2.1 == r23.2.1) && (r1.2.2 == r23.2.2))) (by kernel_rfl) (fun hc105 => ?_) (fun hc105 => ?_)
     ·skip
      replace h1 := ite_t hc105 h1
      refine gv_pureN 8 [6, 48, 49, 50, 51, 52, 53, 54] [(6, (.bool ((IntKind.i64.wrap (((List.length r1.1 : Nat) : Int) + ((List.length r23.1 : Nat) : Int))) == 0)))] (by kernel_rfl) ?_
      refine bindE h1 ?_; clear h1; intro n106 hn107 h1
      refine gv_name (s := 6) (v := (.bool ((IntKind.i64.wrap (((List.length r1.1 : Nat) : Int) + ((List.length r23.1 : Nat) : Int))) == 0))) (v' := (.bool n106)) (by kernel_rfl) (congrArg (Value.bool) (sj hn107)) ?_
      refine gv_nil ?_
      have e := sj h1; subst e
      refine gv_goal fun a hd hs hok => ?_
      exact ⟨hB96, (Nat.le_refl _), hd, hs, ok_pick [6] hok (by kernel_rfl)⟩
     ·skip
      replace h1 := ite_f hc105 h1
      refine gv_pureN 8 [6, 48, 49, 50, 51, 52, 53, 54] [(6, (.bool false))] (by kernel_rfl) ?_
      refine gv_nil ?_
      have e := sj h1; subst e
      refine gv_goal fun a hd hs hok => ?_
      exact ⟨hB96, (Nat.le_refl _), hd, hs, ok_pick [6] hok (by kernel_rfl)⟩
    ·rintro a w104 ⟨hB108, hz109, hd, hs, hok⟩
     refine gv_in ?_ hd hs hok
     clear hd hs hok
     clear hz109 hc102 hk101 hk100 hb99 hb98 hz97 hB96 hg58 hlo55 hg47 hbe44 hg42 hx39 hx38 hx37 hg31 hlo28 hb21 hg20 hbe17 hg15 hx12 hx11
     refine gv_cret ?_
     have e := sj h0; subst e
     refine gv_ret (gv_done [(.bool j103)] rfl ⟨(by kernel_rfl), trivial⟩ ?_)
     exact ⟨grown_of_below hB108, rfl⟩
   ·replace h0 := ite_f hc102 h0
    refine gv_skip <| gv_seq <| gv_region <| gv_pureN 2 [56, 57] [(56, (.slice a6 (List.length r1.1) c7)), (57, (.string sep_1))] (by kernel_rfl) ?_
    refine bindE h0 ?_; clear h0; intro r110 hr111 h0
    have hg112 := (grown_trans hg31 hg42)
    have hx113 := ltx (ltx (ltx (ltx (ltx hx11 hg15.size) hg20.size) hg112.size) hg47.size) hg58.size
    refine gv_call0 (by kernel_rfl) rfl (by kernel_rfl) enters41 (textstr_Join_ok fuel a6 c7 r1.1 sep_1 w63 (fun k => X9 k ∨ X0 k ∨ X0 k) (fun k hk => (hk).elim (fun h => (fun k hk => ltl (hx113 k hk) hz97) k h) (fun h => (h).elim (fun h => (fun k (hk : X0 k) => ltl (hX0 k hk) hB96.size) k h) (fun h => (fun k (hk : X0 k) => ltl (hX0 k hk) hB96.size) k h))) (hk100.wide (fun k hk => (.inl hk))) ((hG1.below hB96 hX0).wide (fun k hk => (.inr (.inl hk)))) ((hG2.below hB96 hX0).wide (fun k hk => (.inr (.inr hk)))) r110 hr111) ?_
    rintro v116 w114 ⟨hg115, rfl⟩
    clear hg112 hr111 hc102 hb99 hb98 hlo55 hbe44 hx37 hg31 hlo28 hb21 hg20 hbe17 hg15 hx11
    refine gv_pureN 3 [55, 59, 60] [(59, (.string r110.1)), (60, (.agg #[(.int .i64 r110.2.1), (.int .i64 r110.2.2)]))] (by kernel_rfl) ?_
    refine gv_new0 (fun b => .pointer (some ⟨b, 0, none⟩)) #[(.int .i64 0), (.int .i64 0)] 24 (by kernel_rfl) (by kernel_rfl) ?_
    intro b117 w118 hg119 hb120 hbe121 hz122
    refine gv_pureN 1 [11] [(11, (.string r110.1))] (by kernel_rfl) ?_
    refine gv_store0 24 0 (.agg #[(.int .i64 r110.2.1), (.int .i64 r110.2.2)]) #[(.int .i64 r110.2.1), (.int .i64 r110.2.2)] hb120 (by kernel_rfl) (by kernel_rfl) (by kernel_rfl) ?_
    intro w123 hg124 hb125 hz126
    refine gv_nil <| gv_seq <| gv_region <| gv_pureN 2 [62, 63] [(62, (.slice a33 (List.length r23.1) c34)), (63, (.string sep_1))] (by kernel_rfl) ?_
    refine bindE h0 ?_; clear h0; intro r127 hr128 h0
    have hx129 := ltx (ltx (ltx hx38 hg42.size) hg47.size) hg58.size
    have hg130 := (grown_trans hg115 hg119)
    have hx131 := ltx (ltx (fun k hk => ltl (hx129 k hk) hz97) hg130.size) hg124.size
    have hB132 := bg hB96 hg130 nb
    have hB133 := bg hB96 hg115 nb
    have hlo134 : w0.heap.size ≤ b117 := lob hbe121 hB133.size
    have hB135 := bg hB132 hg124 (rowlo hlo134)
    have hx136 := ltx (fun k hk => ltl (hx129 k hk) hz97) hg115.size
    have ap137 : ¬ X36 b117 := fun hx => nl ((lowb hbe121) _ rfl) (hx136 _ hx)
    have hx138 := ltx hx136 hg119.size
    have hk139 := (hk101.grown hg130 (fun k hk => ltl (hx129 k hk) hz97) nb).grown hg124 hx138 (rowne ap137)
    refine gv_call0 (by kernel_rfl) rfl (by kernel_rfl) enters41 (textstr_Join_ok fuel a33 c34 r23.1 sep_1 w123 (fun k => X36 k ∨ X0 k ∨ X0 k) (fun k hk => (hk).elim (fun h => hx131 k h) (fun h => (h).elim (fun h => (fun k (hk : X0 k) => ltl (hX0 k hk) hB135.size) k h) (fun h => (fun k (hk : X0 k) => ltl (hX0 k hk) hB135.size) k h))) (hk139.wide (fun k hk => (.inl hk))) ((hG1.below hB135 hX0).wide (fun k hk => (.inr (.inl hk)))) ((hG2.below hB135 hX0).wide (fun k hk => (.inr (.inr hk)))) r127 hr128) ?_
    rintro v142 w140 ⟨hg141, rfl⟩
    refine gv_pureN 3 [61, 65, 66] [(65, (.string r127.1)), (66, (.agg #[(.int .i64 r127.2.1), (.int .i64 r127.2.2)]))] (by kernel_rfl) ?_
    refine gv_new0 (fun b => .pointer (some ⟨b, 0, none⟩)) #[(.int .i64 0), (.int .i64 0)] 24 (by kernel_rfl) (by kernel_rfl) ?_
    intro b143 w144 hg145 hb146 hbe147 hz148
    refine gv_pureN 1 [13] [(13, (.string r127.1))] (by kernel_rfl) ?_
    refine gv_store0 24 0 (.agg #[(.int .i64 r127.2.1), (.int .i64 r127.2.2)]) #[(.int .i64 r127.2.1), (.int .i64 r127.2.2)] hb146 (by kernel_rfl) (by kernel_rfl) (by kernel_rfl) ?_
    intro w149 hg150 hb151 hz152
    refine gv_nil <| gv_seq <| gv_seq <| gv_region <| bindE h0 ?_; clear h0; intro j153 h1 h0
    refine gv_cut_ops (J := fun a w154 => Below w0.heap.size w0 w154 ∧ w149.heap.size ≤ w154.heap.size ∧ Rd sE w154 X9 a6 c7 r1.1 ∧ Rd sE w154 X36 a33 c34 r23.1 ∧ a.defers = [] ∧ a.tmps.size = 144 ∧ Ok [(1, (.string sep_1)), (2, (.int .i64 most_2)), (7, (.slice a6 (List.length r1.1) c7)), (9, (.slice a33 (List.length r23.1) c34)), (91, (.bool j153))] a.tmps) ?_ ?_
    ·skip
     refine gv_pureN 1 [67] [(67, (bp b117))] (by kernel_rfl) ?_
     have hg155 := (grown_trans hg141 hg145)
     have hk156 := hb125.grown hg141 nb
     have lt157 := ltl ((ltb hk156) _ rfl) ((lowb hbe147) _ rfl)
     have hk158 := (hb125.grown hg155 nb).grown hg150 (rowne (ng lt157))
     refine gv_load (t := 3) (A := ⟨b117, 0, none⟩) (.int .i64 r110.2.1) [] (fun e => by cases e) rfl rfl rfl (by kernel_rfl) (by kernel_rfl) (by kernel_rfl) (inw0 (hk158.cell 0 rfl)) rfl ?_
     refine gv_pureN 2 [69, 70] [(70, (.bool (r110.2.1 != 0)))] (by kernel_rfl) ?_
     refine gv_sub [0, 1, 2, 7, 9, 11, 13, 14, 70] (σ' := [(0, (.string s_0)), (1, (.string sep_1)), (2, (.int .i64 most_2)), (7, (.slice a6 (List.length r1.1) c7)), (9, (.slice a33 (List.length r23.1) c34)), (11, (.string r110.1)), (13, (.string r127.1)), (14, (bp b143)), (70, (.bool (r110.2.1 != 0)))]) (by kernel_rfl) ?_
     refine gv_split (s := 70) (g := (r110.2.1 != 0)) (by kernel_rfl) (fun hc159 => ?_) (fun hc159 => ?_)
     ·skip
      replace h1 := ite_t hc159 h1
      refine gv_pureN 21 [71, 72, 73, 74, 75, 76, 77, 78, 79, 80, 81, 82, 83, 84, 85, 86, 87, 88, 89, 90, 91] [(91, (.bool true))] (by kernel_rfl) ?_
      refine gv_nil ?_
      have e := sj h1; subst e
      refine gv_goal fun a hd hs hok => ?_
      have hB160 := bg hB135 hg155 nb
      have hB161 := bg hB135 hg141 nb
      have hlo162 : w0.heap.size ≤ b143 := lob hbe147 hB161.size
      have hB163 := bg hB160 hg150 (rowlo hlo162)
      have hx164 := ltx (fun k hk => ltl (hx113 k hk) hz97) hg115.size
      have ap165 : ¬ X9 b117 := fun hx => nl ((lowb hbe121) _ rfl) (hx164 _ hx)
      have hx166 := ltx hx164 hg119.size
      have hx167 := ltx hx166 hg124.size
      have hx168 := ltx hx167 hg141.size
      have ap169 : ¬ X9 b143 := fun hx => nl ((lowb hbe147) _ rfl) (hx168 _ hx)
      have hx170 := ltx hx168 hg145.size
      have hk171 := (((hk100.grown hg130 (fun k hk => ltl (hx113 k hk) hz97) nb).grown hg124 hx166 (rowne ap165)).grown hg155 hx167 nb).grown hg150 hx170 (rowne ap169)
      have hx172 := ltx hx131 hg141.size
      have ap173 : ¬ X36 b143 := fun hx => nl ((lowb hbe147) _ rfl) (hx172 _ hx)
      have hx174 := ltx hx172 hg145.size
      have hk175 := (hk139.grown hg155 hx131 nb).grown hg150 hx174 (rowne ap173)
      exact ⟨hB163, (Nat.le_refl _), hk171, hk175, hd, hs, ok_pick [1, 2, 7, 9, 91] hok (by kernel_rfl)⟩
     ·skip
      replace h1 := ite_f hc159 h1
      refine gv_pureN 1 [71] [(71, (bp b143))] (by kernel_rfl) ?_
      refine gv_load (t := 3) (A := ⟨b143, 0, none⟩) (.int .i64 r127.2.1) [] (fun e => by cases e) rfl rfl rfl (by kernel_rfl) (by kernel_rfl) (by kernel_rfl) (inw0 (hb151.cell 0 rfl)) rfl ?_
      refine gv_pureN 3 [73, 74, 75] [(75, (.bool (r127.2.1 != 0)))] (by kernel_rfl) ?_
      refine gv_split (s := 75) (g := (r127.2.1 != 0)) (by kernel_rfl) (fun hc176 => ?_) (fun hc176 => ?_)
      ·skip
       replace h1 := ite_t hc176 h1
       refine gv_pureN 16 [76, 77, 78, 79, 80, 81, 82, 83, 84, 85, 86, 87, 88, 89, 90, 91] [(91, (.bool true))] (by kernel_rfl) ?_
       refine gv_nil ?_
       have e := sj h1; subst e
       refine gv_goal fun a hd hs hok => ?_
       have hB177 := bg hB135 hg155 nb
       have hB178 := bg hB135 hg141 nb
       have hlo179 : w0.heap.size ≤ b143 := lob hbe147 hB178.size
       have hB180 := bg hB177 hg150 (rowlo hlo179)
       have hx181 := ltx (fun k hk => ltl (hx113 k hk) hz97) hg115.size
       have ap182 : ¬ X9 b117 := fun hx => nl ((lowb hbe121) _ rfl) (hx181 _ hx)
       have hx183 := ltx hx181 hg119.size
       have hx184 := ltx hx183 hg124.size
       have hx185 := ltx hx184 hg141.size
       have ap186 : ¬ X9 b143 := fun hx => nl ((lowb hbe147) _ rfl) (hx185 _ hx)
       have hx187 := ltx hx185 hg145.size
       have hk188 := (((hk100.grown hg130 (fun k hk => ltl (hx113 k hk) hz97) nb).grown hg124 hx183 (rowne ap182)).grown hg155 hx184 nb).grown hg150 hx187 (rowne ap186)
       have hx189 := ltx hx131 hg141.size
       have ap190 : ¬ X36 b143 := fun hx => nl ((lowb hbe147) _ rfl) (hx189 _ hx)
       have hx191 := ltx hx189 hg145.size
       have hk192 := (hk139.grown hg155 hx131 nb).grown hg150 hx191 (rowne ap190)
       exact ⟨hB180, (Nat.le_refl _), hk188, hk192, hd, hs, ok_pick [1, 2, 7, 9, 91] hok (by kernel_rfl)⟩
      ·skip
       replace h1 := ite_f hc176 h1
       refine gv_pureN 5 [76, 77, 78, 79, 80] [(80, (.bool (!(r110.1.toList == s_0.toList))))] (by kernel_rfl) ?_
       refine gv_split (s := 80) (g := (!(r110.1.toList == s_0.toList))) (by kernel_rfl) (fun hc193 => ?_) (fun hc193 => ?_)
       ·skip
        replace h1 := ite_t hc193 h1
        refine gv_pureN 11 [81, 82, 83, 84, 85, 86, 87, 88, 89, 90, 91] [(91, (.bool true))] (by kernel_rfl) ?_
        refine gv_nil ?_
        have e := sj h1; subst e
        refine gv_goal fun a hd hs hok => ?_
        have hB194 := bg hB135 hg155 nb
        have hB195 := bg hB135 hg141 nb
        have hlo196 : w0.heap.size ≤ b143 := lob hbe147 hB195.size
        have hB197 := bg hB194 hg150 (rowlo hlo196)
        have hx198 := ltx (fun k hk => ltl (hx113 k hk) hz97) hg115.size
        have ap199 : ¬ X9 b117 := fun hx => nl ((lowb hbe121) _ rfl) (hx198 _ hx)
        have hx200 := ltx hx198 hg119.size
        have hx201 := ltx hx200 hg124.size
        have hx202 := ltx hx201 hg141.size
        have ap203 : ¬ X9 b143 := fun hx => nl ((lowb hbe147) _ rfl) (hx202 _ hx)
        have hx204 := ltx hx202 hg145.size
        have hk205 := (((hk100.grown hg130 (fun k hk => ltl (hx113 k hk) hz97) nb).grown hg124 hx200 (rowne ap199)).grown hg155 hx201 nb).grown hg150 hx204 (rowne ap203)
        have hx206 := ltx hx131 hg141.size
        have ap207 : ¬ X36 b143 := fun hx => nl ((lowb hbe147) _ rfl) (hx206 _ hx)
        have hx208 := ltx hx206 hg145.size
        have hk209 := (hk139.grown hg155 hx131 nb).grown hg150 hx208 (rowne ap207)
        exact ⟨hB197, (Nat.le_refl _), hk205, hk209, hd, hs, ok_pick [1, 2, 7, 9, 91] hok (by kernel_rfl)⟩
       ·skip
        replace h1 := ite_f hc193 h1
        refine gv_pureN 5 [81, 82, 83, 84, 85] [(85, (.bool (!(r127.1.toList == s_0.toList))))] (by kernel_rfl) ?_
        refine gv_split (s := 85) (g := (!(r127.1.toList == s_0.toList))) (by kernel_rfl) (fun hc210 => ?_) (fun hc210 => ?_)
        ·skip
         replace h1 := ite_t hc210 h1
         refine gv_pureN 6 [86, 87, 88, 89, 90, 91] [(91, (.bool true))] (by kernel_rfl) ?_
         refine gv_nil ?_
         have e := sj h1; subst e
         refine gv_goal fun a hd hs hok => ?_
         have hB211 := bg hB135 hg155 nb
         have hB212 := bg hB135 hg141 nb
         have hlo213 : w0.heap.size ≤ b143 := lob hbe147 hB212.size
         have hB214 := bg hB211 hg150 (rowlo hlo213)
         have hx215 := ltx (fun k hk => ltl (hx113 k hk) hz97) hg115.size
         have ap216 : ¬ X9 b117 := fun hx => nl ((lowb hbe121) _ rfl) (hx215 _ hx)
         have hx217 := ltx hx215 hg119.size
         have hx218 := ltx hx217 hg124.size
         have hx219 := ltx hx218 hg141.size
         have ap220 : ¬ X9 b143 := fun hx => nl ((lowb hbe147) _ rfl) (hx219 _ hx)
         have hx221 := ltx hx219 hg145.size
         have hk222 := (((hk100.grown hg130 (fun k hk => ltl (hx113 k hk) hz97) nb).grown hg124 hx217 (rowne ap216)).grown hg155 hx218 nb).grown hg150 hx221 (rowne ap220)
         have hx223 := ltx hx131 hg141.size
         have ap224 : ¬ X36 b143 := fun hx => nl ((lowb hbe147) _ rfl) (hx223 _ hx)
         have hx225 := ltx hx223 hg145.size
         have hk226 := (hk139.grown hg155 hx131 nb).grown hg150 hx225 (rowne ap224)
         exact ⟨hB214, (Nat.le_refl _), hk222, hk226, hd, hs, ok_pick [1, 2, 7, 9, 91] hok (by kernel_rfl)⟩
        ·skip
         replace h1 := ite_f hc210 h1
         refine gv_pureN 6 [86, 87, 88, 89, 90, 91] [(91, (.bool (((List.length r1.1 : Nat) : Int) != ((List.length r23.1 : Nat) : Int))))] (by kernel_rfl) ?_
         refine gv_nil ?_
         have e := sj h1; subst e
         refine gv_goal fun a hd hs hok => ?_
         have hB227 := bg hB135 hg155 nb
         have hB228 := bg hB135 hg141 nb
         have hlo229 : w0.heap.size ≤ b143 := lob hbe147 hB228.size
         have hB230 := bg hB227 hg150 (rowlo hlo229)
         have hx231 := ltx (fun k hk => ltl (hx113 k hk) hz97) hg115.size
         have ap232 : ¬ X9 b117 := fun hx => nl ((lowb hbe121) _ rfl) (hx231 _ hx)
         have hx233 := ltx hx231 hg119.size
         have hx234 := ltx hx233 hg124.size
         have hx235 := ltx hx234 hg141.size
         have ap236 : ¬ X9 b143 := fun hx => nl ((lowb hbe147) _ rfl) (hx235 _ hx)
         have hx237 := ltx hx235 hg145.size
         have hk238 := (((hk100.grown hg130 (fun k hk => ltl (hx113 k hk) hz97) nb).grown hg124 hx233 (rowne ap232)).grown hg155 hx234 nb).grown hg150 hx237 (rowne ap236)
         have hx239 := ltx hx131 hg141.size
         have ap240 : ¬ X36 b143 := fun hx => nl ((lowb hbe147) _ rfl) (hx239 _ hx)
         have hx241 := ltx hx239 hg145.size
         have hk242 := (hk139.grown hg155 hx131 nb).grown hg150 hx241 (rowne ap240)
         exact ⟨hB230, (Nat.le_refl _), hk238, hk242, hd, hs, ok_pick [1, 2, 7, 9, 91] hok (by kernel_rfl)⟩
    ·rintro a w154 ⟨hB243, hz244, hk245, hk246, hd, hs, hok⟩
     refine gv_in ?_ hd hs hok
     clear hd hs hok
     clear hz152 hb151 hz148 hbe147 hb146 hk139 hx138 ap137 hx136 hB135 hlo134 hB133 hB132 hg130 hx129 hr128 hz126 hb125 hz122 hbe121 hb120 hk101 hk100 hB96 hg58 hg47 hg42 hx38
     refine gv_cond (b := j153) (by kernel_rfl) (fun hc247 => ?_) (fun hc247 => ?_)
     ·replace h0 := ite_t hc247 h0
      refine gv_seq <| gv_region <| gv_pureN 1 [6] [(6, (.bool false))] (by kernel_rfl) ?_
      refine gv_nil <| gv_cret ?_
      have e := sj h0; subst e
      refine gv_ret (gv_done [(.bool false)] rfl ⟨(by kernel_rfl), trivial⟩ ?_)
      exact ⟨grown_of_below hB243, rfl⟩
     ·replace h0 := ite_f hc247 h0
      refine gv_skip <| gv_seq <| gv_seq <| gv_region <| gv_pureN 1 [15] [(15, (.int .i64 0))] (by kernel_rfl) ?_
      refine gv_nil <| bindE h0 ?_; clear h0; intro j248 h1 h0
      refine gv_cut_code (J := fun a w250 => ∃ s249 : Unit, j248 = .inl s249 ∧ Below w0.heap.size w0 w250 ∧ w154.heap.size ≤ w250.heap.size ∧ Rd sE w250 X9 a6 c7 r1.1 ∧ a.defers = [] ∧ a.tmps.size = 144 ∧ Ok [(2, (.int .i64 most_2)), (7, (.slice a6 (List.length r1.1) c7))] a.tmps) ?_ ?_
      ·skip
       refine gv_block <| gv_loop (A := fun (s251 : Int) a w252 => Below w0.heap.size w0 w252 ∧ w154.heap.size ≤ w252.heap.size ∧ Rd sE w252 X9 a6 c7 r1.1 ∧ Rd sE w252 X36 a33 c34 r23.1 ∧ a.defers = [] ∧ a.tmps.size = 144 ∧ Ok [(1, (.string sep_1)), (2, (.int .i64 most_2)), (7, (.slice a6 (List.length r1.1) c7)), (9, (.slice a33 (List.length r23.1) c34)), (15, (.int .i64 s251))] a.tmps) h1 ?_ ?_
       ·intro a hd hs hok
        exact ⟨hB243, (Nat.le_refl _), hk245, hk246, hd, hs, ok_pick [1, 2, 7, 9, 15] hok (by kernel_rfl)⟩
       ·rintro s251 r2 h2 hR2 a w252 ⟨hB253, hz254, hk255, hk256, hd, hs, hok⟩
        refine gv_in ?_ hd hs hok
        clear hd hs hok
        clear hc247 hk246 hk245 hB243
        refine gv_seq <| gv_seq <| gv_region <| gv_pureN 5 [92, 93, 94, 95, 96] [(96, (.bool (decide (s251 < (IntKind.i64.wrap (((List.length r1.1 : Nat) : Int) - 1))))))] (by kernel_rfl) ?_
        refine gv_nil <| gv_cond (b := (decide (s251 < (IntKind.i64.wrap (((List.length r1.1 : Nat) : Int) - 1))))) (by kernel_rfl) (fun hc257 => ?_) (fun hc257 => ?_)
        ·replace h2 := ite_t hc257 h2
         refine gv_skip <| gv_seq <| gv_block <| gv_seq <| gv_region <| gv_pureN 2 [100, 101] [(100, (.slice a6 (List.length r1.1) c7)), (101, (.int .i64 s251))] (by kernel_rfl) ?_
         refine bindE h2 ?_; clear h2; intro x258 hx259 h2
         refine gv_idxaddr (t := 22) (e := 9) (a := a6) (len := List.length r1.1) (cap := c7) (kk := .i64) (i := s251) (sz := 1) [] (fun e => by cases e) rfl rfl rfl (by kernel_rfl) (by kernel_rfl) Tryd.underlying22 (by kernel_rfl) (hk255.has hx259) (idx_spec hx259).1 (idx_spec hx259).2.1 rfl ?_
         refine gv_load (t := 9) (A := (elemAddr a6 ((s251 : Int).toNat * 1))) (.string x258) [] (fun e => by cases e) rfl rfl rfl (by kernel_rfl) (by kernel_rfl) (by kernel_rfl) (inw0 (hk255.cell hx259)) rfl ?_
         refine gv_pureN 1 [104] [(104, (.string sep_1))] (by kernel_rfl) ?_
         refine bindE h2 ?_; clear h2; intro r260 hr261 h2
         refine gv_call0 (by kernel_rfl) rfl (by kernel_rfl) enters38 (textstr_Count_ok fuel x258 sep_1 w252 (fun k => X0 k ∨ X0 k ∨ X0 k) (fun k hk => (hk).elim (fun h => (fun k (hk : X0 k) => ltl (hX0 k hk) hB253.size) k h) (fun h => (h).elim (fun h => (fun k (hk : X0 k) => ltl (hX0 k hk) hB253.size) k h) (fun h => (fun k (hk : X0 k) => ltl (hX0 k hk) hB253.size) k h))) ((hG0.below hB253 hX0).wide (fun k hk => (.inl hk))) ((hG1.below hB253 hX0).wide (fun k hk => (.inr (.inl hk)))) ((hG2.below hB253 hX0).wide (fun k hk => (.inr (.inr hk)))) r260 hr261) ?_
         rintro v264 w262 ⟨hg263, rfl⟩
         refine gv_pureN 3 [99, 106, 107] [(106, (.int .i64 r260.1)), (107, (.agg #[(.int .i64 r260.2.1), (.int .i64 r260.2.2)]))] (by kernel_rfl) ?_
         refine gv_new0 (fun b => .pointer (some ⟨b, 0, none⟩)) #[(.int .i64 0), (.int .i64 0)] 24 (by kernel_rfl) (by kernel_rfl) ?_
         intro b265 w266 hg267 hb268 hbe269 hz270
         refine gv_pureN 1 [16] [(16, (.int .i64 r260.1))] (by kernel_rfl) ?_
         refine gv_store0 24 0 (.agg #[(.int .i64 r260.2.1), (.int .i64 r260.2.2)]) #[(.int .i64 r260.2.1), (.int .i64 r260.2.2)] hb268 (by kernel_rfl) (by kernel_rfl) (by kernel_rfl) ?_
         intro w271 hg272 hb273 hz274
         have hz275 := (nt (nt (nt hz254 hg263.size) hg267.size) hg272.size)
         clear hz274 hz270 hb268 hr261 hx259 hc257
         refine gv_nil <| gv_seq <| gv_region <| gv_pureN 6 [109, 110, 111, 112, 113, 114] [(109, (.slice a33 (List.length r23.1) c34)), (114, (.int .i64 (IntKind.i64.wrap ((IntKind.i64.wrap (((List.length r23.1 : Nat) : Int) - 1)) - s251))))] (by kernel_rfl) ?_
         refine bindE h2 ?_; clear h2; intro x276 hx277 h2
         have hg278 := (grown_trans hg263 hg267)
         have hg279 := (grown_trans hg141 hg145)
         have hx280 := ltx (ltx hx131 hg279.size) hg150.size
         have hx281 := ltx (fun k hk => ltl ((fun k hk => ltl (hx280 k hk) hz244) k hk) hz254) hg263.size
         have ap282 : ¬ X36 b265 := fun hx => nl ((lowb hbe269) _ rfl) (hx281 _ hx)
         have hx283 := ltx hx281 hg267.size
         have hk284 := (hk256.grown hg278 (fun k hk => ltl ((fun k hk => ltl (hx280 k hk) hz244) k hk) hz254) nb).grown hg272 hx283 (rowne ap282)
         refine gv_idxaddr (t := 22) (e := 9) (a := a33) (len := List.length r23.1) (cap := c34) (kk := .i64) (i := (IntKind.i64.wrap ((IntKind.i64.wrap (((List.length r23.1 : Nat) : Int) - 1)) - s251))) (sz := 1) [] (fun e => by cases e) rfl rfl rfl (by kernel_rfl) (by kernel_rfl) Tryd.underlying22 (by kernel_rfl) (hk284.has hx277) (idx_spec hx277).1 (idx_spec hx277).2.1 rfl ?_
         refine gv_load (t := 9) (A := (elemAddr a33 (((IntKind.i64.wrap ((IntKind.i64.wrap (((List.length r23.1 : Nat) : Int) - 1)) - s251)) : Int).toNat * 1))) (.string x276) [] (fun e => by cases e) rfl rfl rfl (by kernel_rfl) (by kernel_rfl) (by kernel_rfl) (inw0 (hk284.cell hx277)) rfl ?_
         refine gv_pureN 1 [117] [(117, (.string sep_1))] (by kernel_rfl) ?_
         refine gv_sub [1, 2, 7, 9, 15, 16, 17, 116, 117] (σ' := [(1, (.string sep_1)), (2, (.int .i64 most_2)), (7, (.slice a6 (List.length r1.1) c7)), (9, (.slice a33 (List.length r23.1) c34)), (15, (.int .i64 s251)), (16, (.int .i64 r260.1)), (17, (bp b265)), (116, (.string x276)), (117, (.string sep_1))]) (by kernel_rfl) ?_
         refine bindE h2 ?_; clear h2; intro r285 hr286 h2
         have hB287 := bg hB253 hg278 nb
         have hB288 := bg hB253 hg263 nb
         have hlo289 : w0.heap.size ≤ b265 := lob hbe269 hB288.size
         have hB290 := bg hB287 hg272 (rowlo hlo289)
         refine gv_call0 (by kernel_rfl) rfl (by kernel_rfl) enters38 (textstr_Count_ok fuel x276 sep_1 w271 (fun k => X0 k ∨ X0 k ∨ X0 k) (fun k hk => (hk).elim (fun h => (fun k (hk : X0 k) => ltl (hX0 k hk) hB290.size) k h) (fun h => (h).elim (fun h => (fun k (hk : X0 k) => ltl (hX0 k hk) hB290.size) k h) (fun h => (fun k (hk : X0 k) => ltl (hX0 k hk) hB290.size) k h))) ((hG0.below hB290 hX0).wide (fun k hk => (.inl hk))) ((hG1.below hB290 hX0).wide (fun k hk => (.inr (.inl hk)))) ((hG2.below hB290 hX0).wide (fun k hk => (.inr (.inr hk)))) r285 hr286) ?_
         rintro v293 w291 ⟨hg292, rfl⟩
         refine gv_pureN 3 [108, 119, 120] [(119, (.int .i64 r285.1)), (120, (.agg #[(.int .i64 r285.2.1), (.int .i64 r285.2.2)]))] (by kernel_rfl) ?_
         refine gv_new0 (fun b => .pointer (some ⟨b, 0, none⟩)) #[(.int .i64 0), (.int .i64 0)] 24 (by kernel_rfl) (by kernel_rfl) ?_
         intro b294 w295 hg296 hb297 hbe298 hz299
         refine gv_pureN 1 [18] [(18, (.int .i64 r285.1))] (by kernel_rfl) ?_
         refine gv_store0 24 0 (.agg #[(.int .i64 r285.2.1), (.int .i64 r285.2.2)]) #[(.int .i64 r285.2.1), (.int .i64 r285.2.2)] hb297 (by kernel_rfl) (by kernel_rfl) (by kernel_rfl) ?_
         intro w300 hg301 hb302 hz303
         refine gv_nil <| gv_seq <| gv_region <| bindE h2 ?_; clear h2; intro j304 h3 h2
         refine gv_cut_ops (J := fun a w305 => Below w0.heap.size w0 w305 ∧ w300.heap.size ≤ w305.heap.size ∧ Rd sE w305 X9 a6 c7 r1.1 ∧ Rd sE w305 X36 a33 c34 r23.1 ∧ a.defers = [] ∧ a.tmps.size = 144 ∧ Ok [(1, (.string sep_1)), (2, (.int .i64 most_2)), (7, (.slice a6 (List.length r1.1) c7)), (9, (.slice a33 (List.length r23.1) c34)), (15, (.int .i64 s251)), (134, (.bool j304))] a.tmps) ?_ ?_
         ·skip
          refine gv_pureN 1 [121] [(121, (bp b265))] (by kernel_rfl) ?_
          have hg306 := (grown_trans hg292 hg296)
          have hk307 := hb273.grown hg292 nb
          have lt308 := ltl ((ltb hk307) _ rfl) ((lowb hbe298) _ rfl)
          have hk309 := (hb273.grown hg306 nb).grown hg301 (rowne (ng lt308))
          refine gv_load (t := 3) (A := ⟨b265, 0, none⟩) (.int .i64 r260.2.1) [] (fun e => by cases e) rfl rfl rfl (by kernel_rfl) (by kernel_rfl) (by kernel_rfl) (inw0 (hk309.cell 0 rfl)) rfl ?_
          refine gv_pureN 2 [123, 124] [(124, (.bool (r260.2.1 != 0)))] (by kernel_rfl) ?_
          refine gv_split (s := 124) (g := (r260.2.1 != 0)) (by kernel_rfl) (fun hc310 => ?_) (fun hc310 => ?_)
          ·skip
           replace h3 := ite_t hc310 h3
           refine gv_pureN 10 [125, 126, 127, 128, 129, 130, 131, 132, 133, 134] [(134, (.bool true))] (by kernel_rfl) ?_
           refine gv_nil ?_
           have e := sj h3; subst e
           refine gv_goal fun a hd hs hok => ?_
           have hB311 := bg hB290 hg306 nb
           have hB312 := bg hB290 hg292 nb
           have hlo313 : w0.heap.size ≤ b294 := lob hbe298 hB312.size
           have hB314 := bg hB311 hg301 (rowlo hlo313)
           have hg315 := (grown_trans hg115 hg119)
           have hx316 := ltx (ltx (ltx (ltx (fun k hk => ltl (hx113 k hk) hz97) hg315.size) hg124.size) hg279.size) hg150.size
           have hx317 := ltx (fun k hk => ltl ((fun k hk => ltl (hx316 k hk) hz244) k hk) hz254) hg263.size
           have ap318 : ¬ X9 b265 := fun hx => nl ((lowb hbe269) _ rfl) (hx317 _ hx)
           have hx319 := ltx hx317 hg267.size
           have hx320 := ltx hx319 hg272.size
           have hx321 := ltx hx320 hg292.size
           have ap322 : ¬ X9 b294 := fun hx => nl ((lowb hbe298) _ rfl) (hx321 _ hx)
           have hx323 := ltx hx321 hg296.size
           have hk324 := (((hk255.grown hg278 (fun k hk => ltl ((fun k hk => ltl (hx316 k hk) hz244) k hk) hz254) nb).grown hg272 hx319 (rowne ap318)).grown hg306 hx320 nb).grown hg301 hx323 (rowne ap322)
           have hx325 := ltx hx283 hg272.size
           have hx326 := ltx hx325 hg292.size
           have ap327 : ¬ X36 b294 := fun hx => nl ((lowb hbe298) _ rfl) (hx326 _ hx)
           have hx328 := ltx hx326 hg296.size
           have hk329 := (hk284.grown hg306 hx325 nb).grown hg301 hx328 (rowne ap327)
           exact ⟨hB314, (Nat.le_refl _), hk324, hk329, hd, hs, ok_pick [1, 2, 7, 9, 15, 134] hok (by kernel_rfl)⟩
          ·skip
           replace h3 := ite_f hc310 h3
           refine gv_pureN 1 [125] [(125, (bp b294))] (by kernel_rfl) ?_
           refine gv_load (t := 3) (A := ⟨b294, 0, none⟩) (.int .i64 r285.2.1) [] (fun e => by cases e) rfl rfl rfl (by kernel_rfl) (by kernel_rfl) (by kernel_rfl) (inw0 (hb302.cell 0 rfl)) rfl ?_
           refine gv_pureN 3 [127, 128, 129] [(129, (.bool (r285.2.1 != 0)))] (by kernel_rfl) ?_
           refine gv_split (s := 129) (g := (r285.2.1 != 0)) (by kernel_rfl) (fun hc330 => ?_) (fun hc330 => ?_)
           ·skip
            replace h3 := ite_t hc330 h3
            refine gv_pureN 5 [130, 131, 132, 133, 134] [(134, (.bool true))] (by kernel_rfl) ?_
            refine gv_nil ?_
            have e := sj h3; subst e
            refine gv_goal fun a hd hs hok => ?_
            have hB331 := bg hB290 hg306 nb
            have hB332 := bg hB290 hg292 nb
            have hlo333 : w0.heap.size ≤ b294 := lob hbe298 hB332.size
            have hB334 := bg hB331 hg301 (rowlo hlo333)
            have hg335 := (grown_trans hg115 hg119)
            have hx336 := ltx (ltx (ltx (ltx (fun k hk => ltl (hx113 k hk) hz97) hg335.size) hg124.size) hg279.size) hg150.size
            have hx337 := ltx (fun k hk => ltl ((fun k hk => ltl (hx336 k hk) hz244) k hk) hz254) hg263.size
            have ap338 : ¬ X9 b265 := fun hx => nl ((lowb hbe269) _ rfl) (hx337 _ hx)
            have hx339 := ltx hx337 hg267.size
            have hx340 := ltx hx339 hg272.size
            have hx341 := ltx hx340 hg292.size
            have ap342 : ¬ X9 b294 := fun hx => nl ((lowb hbe298) _ rfl) (hx341 _ hx)
            have hx343 := ltx hx341 hg296.size
            have hk344 := (((hk255.grown hg278 (fun k hk => ltl ((fun k hk => ltl (hx336 k hk) hz244) k hk) hz254) nb).grown hg272 hx339 (rowne ap338)).grown hg306 hx340 nb).grown hg301 hx343 (rowne ap342)
            have hx345 := ltx hx283 hg272.size
            have hx346 := ltx hx345 hg292.size
            have ap347 : ¬ X36 b294 := fun hx => nl ((lowb hbe298) _ rfl) (hx346 _ hx)
            have hx348 := ltx hx346 hg296.size
            have hk349 := (hk284.grown hg306 hx345 nb).grown hg301 hx348 (rowne ap347)
            exact ⟨hB334, (Nat.le_refl _), hk344, hk349, hd, hs, ok_pick [1, 2, 7, 9, 15, 134] hok (by kernel_rfl)⟩
           ·skip
            replace h3 := ite_f hc330 h3
            refine gv_pureN 5 [130, 131, 132, 133, 134] [(134, (.bool (decide ((IntKind.i64.wrap (r260.1 + r285.1)) > 0))))] (by kernel_rfl) ?_
            refine gv_nil ?_
            have e := sj h3; subst e
            refine gv_goal fun a hd hs hok => ?_
            have hB350 := bg hB290 hg306 nb
            have hB351 := bg hB290 hg292 nb
            have hlo352 : w0.heap.size ≤ b294 := lob hbe298 hB351.size
            have hB353 := bg hB350 hg301 (rowlo hlo352)
            have hg354 := (grown_trans hg115 hg119)
            have hx355 := ltx (ltx (ltx (ltx (fun k hk => ltl (hx113 k hk) hz97) hg354.size) hg124.size) hg279.size) hg150.size
            have hx356 := ltx (fun k hk => ltl ((fun k hk => ltl (hx355 k hk) hz244) k hk) hz254) hg263.size
            have ap357 : ¬ X9 b265 := fun hx => nl ((lowb hbe269) _ rfl) (hx356 _ hx)
            have hx358 := ltx hx356 hg267.size
            have hx359 := ltx hx358 hg272.size
            have hx360 := ltx hx359 hg292.size
            have ap361 : ¬ X9 b294 := fun hx => nl ((lowb hbe298) _ rfl) (hx360 _ hx)
            have hx362 := ltx hx360 hg296.size
            have hk363 := (((hk255.grown hg278 (fun k hk => ltl ((fun k hk => ltl (hx355 k hk) hz244) k hk) hz254) nb).grown hg272 hx358 (rowne ap357)).grown hg306 hx359 nb).grown hg301 hx362 (rowne ap361)
            have hx364 := ltx hx283 hg272.size
            have hx365 := ltx hx364 hg292.size
            have ap366 : ¬ X36 b294 := fun hx => nl ((lowb hbe298) _ rfl) (hx365 _ hx)
            have hx367 := ltx hx365 hg296.size
            have hk368 := (hk284.grown hg306 hx364 nb).grown hg301 hx367 (rowne ap366)
            exact ⟨hB353, (Nat.le_refl _), hk363, hk368, hd, hs, ok_pick [1, 2, 7, 9, 15, 134] hok (by kernel_rfl)⟩
         ·rintro a w305 ⟨hB369, hz370, hk371, hk372, hd, hs, hok⟩
          refine gv_in ?_ hd hs hok
          clear hd hs hok
          have hz373 := (nt (nt (nt (nt hz275 hg292.size) hg296.size) hg301.size) hz370)
          clear hz303 hb302 hz299 hbe298 hb297 hB290 hlo289 hB288 hB287 hr286 hk284 ap282 hx281 hx280 hg279 hg278 hx277 hz275 hb273 hbe269 hk256 hk255 hB253 hx131
          refine gv_cond (b := j304) (by kernel_rfl) (fun hc374 => ?_) (fun hc374 => ?_)
          ·replace h2 := ite_t hc374 h2
           refine gv_seq <| gv_region <| gv_pureN 1 [6] [(6, (.bool false))] (by kernel_rfl) ?_
           refine gv_nil <| gv_cret ?_
           have e := sj h2; subst e
           replace h1 := congrArg some (hR2 _ rfl)
           have e := sj h1; subst e
           replace h0 := cont_inr h0
           have e := sj h0; subst e
           refine gv_ret (gv_done [(.bool false)] rfl ⟨(by kernel_rfl), trivial⟩ ?_)
           exact ⟨grown_of_below hB369, rfl⟩
          ·replace h2 := ite_f hc374 h2
           refine gv_skip <| gv_blk <| gv_region <| gv_pureN 3 [15, 97, 98] [(15, (.int .i64 (IntKind.i64.wrap (s251 + 1))))] (by kernel_rfl) ?_
           refine gv_nil ?_
           have e := sj h2; subst e
           refine gv_goal fun a hd hs hok => ?_
           have hz375 := hz373
           exact ⟨(IntKind.i64.wrap (s251 + 1)), rfl, hB369, hz375, hk371, hk372, hd, hs, ok_pick [1, 2, 7, 9, 15] hok (by kernel_rfl)⟩
        ·replace h2 := ite_f hc257 h2
         refine gv_cexit <| gv_exit rfl ?_
         have e := sj h2; subst e
         replace h1 := congrArg some (hR2 _ rfl)
         have e := sj h1; subst e
         refine gv_goal fun a hd hs hok => ?_
         have hz376 := hz254
         exact ⟨(), rfl, hB253, hz376, hk255, hd, hs, ok_pick [2, 7] hok (by kernel_rfl)⟩
      ·rintro a w250 ⟨s249, e, hB377, hz378, hk379, hd, hs, hok⟩
       subst e
       refine gv_in ?_ hd hs hok
       clear hd hs hok
       replace h0 := cont_inl h0
       clear hc247 hk246 hk245 hB243 hx131 hx39
       refine gv_seq <| gv_region <| gv_cut_ops (J := fun a w380 => w250 = w380 ∧ a.defers = [] ∧ a.tmps.size = 144 ∧ Ok [(6, (.bool ((decide (most_2 < 0)) || (decide ((IntKind.i64.wrap (((List.length r1.1 : Nat) : Int) - 1)) ≤ most_2)))))] a.tmps) ?_ ?_
       ·skip
        refine gv_pureN 3 [135, 136, 137] [(137, (.bool (decide (most_2 < 0))))] (by kernel_rfl) ?_
        refine gv_split (s := 137) (g := (decide (most_2 < 0))) (by kernel_rfl) (fun hc381 => ?_) (fun hc381 => ?_)
        ·skip
         refine gv_pureN 7 [6, 138, 139, 140, 141, 142, 143] [(6, (.bool true))] (by kernel_rfl) ?_
         refine gv_nil <| gv_sub [6] (σ' := [(6, (.bool true))]) (by kernel_rfl) ?_
         refine gv_goal fun a hd hs hok => ⟨rfl, hd, hs, ?_⟩
         obtain ⟨q6, _⟩ := hok
         exact ⟨(by rw [hc381]; exact q6), trivial⟩
        ·skip
         refine gv_pureN 7 [6, 138, 139, 140, 141, 142, 143] [(6, (.bool (decide ((IntKind.i64.wrap (((List.length r1.1 : Nat) : Int) - 1)) ≤ most_2))))] (by kernel_rfl) ?_
         refine gv_nil <| gv_sub [6] (σ' := [(6, (.bool (decide ((IntKind.i64.wrap (((List.length r1.1 : Nat) : Int) - 1)) ≤ most_2))))]) (by kernel_rfl) ?_
         refine gv_goal fun a hd hs hok => ⟨rfl, hd, hs, ?_⟩
         obtain ⟨q6, _⟩ := hok
         exact ⟨(by rw [hc381]; exact q6), trivial⟩
       ·rintro a w380 ⟨e, hd, hs, hok⟩; subst e
        refine gv_in ?_ hd hs hok
        clear hd hs hok
        refine gv_cret ?_
        have e := sj h0; subst e
        refine gv_ret (gv_done [(.bool ((decide (most_2 < 0)) || (decide ((IntKind.i64.wrap (((List.length r1.1 : Nat) : Int) - 1)) ≤ most_2))))] rfl ⟨(by kernel_rfl), trivial⟩ ?_)
        exact ⟨grown_of_below hB377, rfl⟩

end Go.Proofs.YtkmcegicngjhbaaDoor
