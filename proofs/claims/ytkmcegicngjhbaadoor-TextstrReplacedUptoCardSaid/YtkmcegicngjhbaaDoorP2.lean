import Derived.Test.YtkmcegicngjhbaaDoorP1
set_option linter.all false
set_option maxHeartbeats 4000000
set_option maxRecDepth 100000
/- Own work, printed by a program of mine: the walk of each function: a call returns what the plain function says. -/
namespace Go.Proofs.YtkmcegicngjhbaaDoor
open Go.Gv Go.Gv.D Go.RowKit
theorem enters15 : Go.Gv.Enters Tryd.prog 15 := ⟨Tryd.f15, Tryd.func15, by kernel_rfl, by kernel_rfl⟩
theorem enters17 : Go.Gv.Enters Tryd.prog 17 := ⟨Tryd.f17, Tryd.func17, by kernel_rfl, by kernel_rfl⟩
theorem enters29 : Go.Gv.Enters Tryd.prog 29 := ⟨Tryd.f29, Tryd.func29, by kernel_rfl, by kernel_rfl⟩
theorem enters41 : Go.Gv.Enters Tryd.prog 41 := ⟨Tryd.f41, Tryd.func41, by kernel_rfl, by kernel_rfl⟩
theorem enters42 : Go.Gv.Enters Tryd.prog 42 := ⟨Tryd.f42, Tryd.func42, by kernel_rfl, by kernel_rfl⟩
theorem enters61 : Go.Gv.Enters Tryd.prog 61 := ⟨Tryd.f61, Tryd.func61, by kernel_rfl, by kernel_rfl⟩
theorem enters74 : Go.Gv.Enters Tryd.prog 74 := ⟨Tryd.f74, Tryd.func74, by kernel_rfl, by kernel_rfl⟩
theorem enters77 : Go.Gv.Enters Tryd.prog 77 := ⟨Tryd.f77, Tryd.func77, by kernel_rfl, by kernel_rfl⟩
theorem enters78 : Go.Gv.Enters Tryd.prog 78 := ⟨Tryd.f78, Tryd.func78, by kernel_rfl, by kernel_rfl⟩
theorem info3 : InfoOk Tryd.prog 3 1 := infoOk (z := (.int .i64 0)) (bytes := 8) (by kernel_rfl) (by kernel_rfl) (by kernel_rfl) (by kernel_rfl)
theorem eqs24eql (a0 : Int) (a1 : Int) (b0 : Int) (b1 : Int) (x y : Operand) (w : World) : (do eqGuard .eql 24 x y (.agg #[.int .i64 a0, .int .i64 a1]) (.agg #[.int .i64 b0, .int .i64 b1]); binOp .eql 24 (.agg #[.int .i64 a0, .int .i64 a1]) (.agg #[.int .i64 b0, .int .i64 b1]) : Sem Value).run Tryd.prog w = .ok (.bool ((a0 == b0) && (a1 == b1))) w := by
  have h1 : Tryd.prog.eqGuardType Tryd.prog.depth 24 = false := by kernel_rfl
  have h2 : Tryd.prog.stoodInHeld 24 = false := by kernel_rfl
  have h3 : Tryd.prog.underlying 24 = some (.struct (Tryd.prog.fieldsOf 24)) := by kernel_rfl
  have h4 := Tryd.underlying24
  rw [Sem.run_bind, run_eqGuard_agg w .eql 24 x y _ _ h1, Result.andThen_ok, run_eql_struct, run_equalIn_struct w 9999 24 _ _ h3 h2]
  by_cases g0 : a0 = b0 <;> by_cases g1 : a1 = b1 <;> simp [Program.fieldsOf, h4, Op.eqFields, part, isAgg, run_underlying Tryd.underlying3, run_equalIn_int _ _ _ _ _ _ _ Tryd.underlying3, g0, g1]

theorem strings_CountA_ok (fuel : Nat) (s_0 : ByteArray) (substr_1 : ByteArray) (w0 : World) (X0 : Nat → Prop) (hX0 : ∀ k, X0 k → k < w0.heap.size) {gmx : Int} (hG0 : Rd (iE .i64) w0 X0 (some ⟨0, 0, none⟩) 1 [gmx]) (r0 : Int) (h0 : strings_CountA fuel s_0 substr_1 = some r0) :
    Calls Tryd.prog 74 ([(.string s_0), (.string substr_1)] : List Value).toArray w0 (Ret fun v w' => w0.grownBy w' none ∧ v = tup [(.int .i64 r0)]) := by
  have hB0 : Below w0.heap.size w0 w0 := Below.refl _ _
  unfold strings_CountA at h0
  by_cases hz : (((ByteArray.size substr_1 : Nat) : Int) == 0) = true
  · replace h0 := ite_t hz h0
    refine calls_run Tryd.func74 rfl Tryd.ntmps74 (by kernel_rfl) ?_
    refine gv_sub [0, 1] (σ' := [(0, (.string s_0)), (1, (.string substr_1))]) (by kernel_rfl) ?_
    refine gv_seq <| gv_region <| gv_pureN 1 [4] [] (by kernel_rfl) ?_
    refine gv_nil <| gv_seq <| gv_seq <| gv_region <| gv_pureN 3 [7, 8, 9] [(9, (.bool (((ByteArray.size substr_1 : Nat) : Int) == 0)))] (by kernel_rfl) ?_
    refine gv_nil <| gv_cond (b := (((ByteArray.size substr_1 : Nat) : Int) == 0)) (by kernel_rfl) (fun hc1 => ?_) (fun hc1 => ?_)
    · refine gv_seq <| gv_region <| gv_pureN 1 [10] [(10, (.string s_0))] (by kernel_rfl) ?_
      refine bindE h0 ?_; clear h0; intro r2 hr3 h0
      refine gv_call0 (by kernel_rfl) rfl (by kernel_rfl) enters73 (utf8_RuneCountInString_ok fuel s_0 w0  r2 hr3) ?_
      rintro v6 w4 ⟨hg5, rfl⟩
      refine gv_pureN 2 [4, 12] [(4, (.int .i64 (IntKind.i64.wrap (r2 + 1))))] (by kernel_rfl) ?_
      refine gv_nil <| gv_cret ?_
      have e := sj h0; subst e
      refine gv_ret (gv_done [(.int .i64 (IntKind.i64.wrap (r2 + 1)))] rfl ⟨(by kernel_rfl), trivial⟩ ?_)
      have hB7 := bg hB0 hg5 nb
      exact ⟨grown_of_below hB7, rfl⟩
    · rw [hz] at hc1; cases hc1
  · have hz : (((ByteArray.size substr_1 : Nat) : Int) == 0) = false := by cases h : (((ByteArray.size substr_1 : Nat) : Int) == 0) <;> first | rfl | exact absurd h hz
    exact strings_Count_ok fuel s_0 substr_1 w0 X0 hX0 hG0 r0 (ite_f hz h0)

theorem textstr_Points_ok (fuel : Nat) (s_0 : ByteArray) (w0 : World) (X0 : Nat → Prop) (hX0 : ∀ k, X0 k → k < w0.heap.size) (hG1 : Rd bE w0 X0 (some ⟨1, 0, none⟩) 256 utf8First) (hG2 : Rd (prE (iE .u8) (iE .u8)) w0 X0 (some ⟨2, 0, none⟩) 16 utf8Acc) (r0 : ((List Int) × (Int × Int))) (h0 : textstr_Points fuel s_0 = some r0) :
    Calls Tryd.prog 61 ([(.string s_0)] : List Value).toArray w0 (Ret fun v w' => w0.grownBy w' none ∧ ∃ (a0_0r : Option Addr) (c0_0r : Nat), v = tup [(.slice a0_0r (List.length r0.1) c0_0r), (.agg #[(.int .i64 r0.2.1), (.int .i64 r0.2.2)])] ∧ Gv.Own (iE .i64) 3 w' (fun _ => False) a0_0r c0_0r r0.1 ∧ (∀ g, blk a0_0r = some g → w0.heap.size ≤ g)) := by
 have hB0 : Below w0.heap.size w0 w0 := Below.refl _ _
 unfold textstr_Points at h0
 refine calls_run Tryd.func61 rfl Tryd.ntmps61 (by kernel_rfl) ?_
 refine gv_sub [0] (σ' := [(0, (.string s_0))]) (by kernel_rfl) ?_
 refine gv_seq <| gv_region <| gv_pureN 1 [2] [] (by kernel_rfl) ?_
 refine gv_new0 (fun b => .pointer (some ⟨b, 0, none⟩)) #[(.int .i64 0), (.int .i64 0)] 24 (by kernel_rfl) (by kernel_rfl) ?_
 intro b1 w2 hg3 hb4 hbe5 hz6
 refine gv_nil <| gv_seq <| gv_seq <| gv_region <| gv_pureN 1 [8] [(8, (.string s_0))] (by kernel_rfl) ?_
 refine gv_new0 (fun b => .slice (some ⟨b, 0, none⟩) 1 1) #[(.string s_0)] 9 (by kernel_rfl) (by kernel_rfl) ?_
 intro b7 w8 hg9 hb10 hbe11 hz12
 have ho13 : Gv.Own sE 9 w8 (fun _ => False) (some ⟨b7, 0, none⟩) 1 ([s_0] : List ByteArray) := Box.ownE hb10 ⟨[(.string s_0)], [], rfl, rfl, rfl⟩ (show 1 ≤ maxLen by decide) (fun h => h)
 have hB18 := bg hB0 hg3 nb
 have hl14 : ∀ g, blk (some ⟨b7, 0, none⟩) = some g → w0.heap.size ≤ g := loo hbe11 hB18.size
 refine bindE h0 ?_; clear h0; intro r19 hr20 h0
 have hB21 := bg hB18 hg9 nb
 refine gv_call0 (by kernel_rfl) rfl (by kernel_rfl) enters58 (textstr_check_ok fuel (some ⟨b7, 0, none⟩) 1 ([s_0] : List ByteArray) w8 (fun k => (fun k => blk (some ⟨b7, 0, none⟩) = some k) k ∨ X0 k ∨ X0 k) (fun k hk => (hk).elim (fun h => (fun k (hk : blk (some ⟨b7, 0, none⟩) = some k) => ho13.lt k hk) k h) (fun h => (h).elim (fun h => (fun k (hk : X0 k) => ltl (hX0 k hk) hB21.size) k h) (fun h => (fun k (hk : X0 k) => ltl (hX0 k hk) hB21.size) k h))) ((ho13.rd (Y := fun k => blk (some ⟨b7, 0, none⟩) = some k) (fun _ h => h.elim) (fun g e => e)).wide (fun k hk => (.inl hk))) ((hG1.below hB21 hX0).wide (fun k hk => (.inr (.inl hk)))) ((hG2.below hB21 hX0).wide (fun k hk => (.inr (.inr hk)))) r19 hr20) ?_
 rintro v24 w22 ⟨hg23, rfl⟩
 refine gv_new0 (fun b => .pointer (some ⟨b, 0, none⟩)) #[(.int .i64 0), (.int .i64 0)] 24 (by kernel_rfl) (by kernel_rfl) ?_
 intro b25 w26 hg27 hb28 hbe29 hz30
 refine gv_store0 24 0 (.agg #[(.int .i64 r19.1), (.int .i64 r19.2)]) #[(.int .i64 r19.1), (.int .i64 r19.2)] hb28 (by kernel_rfl) (by kernel_rfl) (by kernel_rfl) ?_
 intro w31 hg32 hb33 hz34
 refine gv_nil <| gv_seq <| gv_region <| gv_pureN 1 [11] [(11, (bp b25))] (by kernel_rfl) ?_
 refine gv_load (t := 3) (A := ⟨b25, 0, none⟩) (.int .i64 r19.1) [] (fun e => by cases e) rfl rfl rfl (by kernel_rfl) (by kernel_rfl) (by kernel_rfl) (inw0 (hb33.cell 0 rfl)) rfl ?_
 refine gv_pureN 1 [13] [(13, (.bool (r19.1 != 0)))] (by kernel_rfl) ?_
 refine gv_nil <| gv_cond (b := (r19.1 != 0)) (by kernel_rfl) (fun hc35 => ?_) (fun hc35 => ?_)
 ·replace h0 := ite_t hc35 h0
  refine gv_seq <| gv_drawA (by kernel_rfl) ?_
  intro w36 hg37
  refine gv_pre [1] (bA 3 [1]) 2 (by kernel_rfl) (by kernel_rfl) ?_
  refine gv_pureN 1 [2] [(2, (.slice none (List.length ([] : List Int)) 0))] (by kernel_rfl) ?_
  refine gv_nil <| gv_goA ?_
  refine gv_stage (Cls w36 []) [0, 1] [(0, some true)] (bA 3 [0, 1]) 1 (by kernel_rfl) (by kernel_rfl) (Cls.refl _ _) ?_
  have hC38 := Cls.refl w36 []
  have hk39 := hb33.grown hg37 nb
  refine gv_loadBox (t := 24) (b := b25) (t' := 24) (fr := (0, 0)) #[(.int .i64 r19.1), (.int .i64 r19.2)] [] (fun e => by cases e) rfl rfl rfl (by kernel_rfl) (by kernel_rfl) (by kernel_rfl) (by kernel_rfl) (inw1 fun w' hC' => (hC'.box hk39 nm_nil)) rfl ?_
  refine gv_nil <| gv_goA ?_
  refine gv_stage (fun _ => True) [0, 1, 2] [(2, some false)] (bA 3 [0, 1, 2]) 0 (by kernel_rfl) (by kernel_rfl) trivial ?_
  have hg44 := (grown_trans (grown_trans hg9 hg23) hg27)
  have hg45 := (grown_trans hg9 hg23)
  have hk46 := hb4.grown hg45 nb
  have lt47 := ltl ((ltb hk46) _ rfl) ((lowb hbe29) _ rfl)
  have hk48 := ((hb4.grown hg44 nb).grown hg32 (rowne (ng lt47))).grown hg37 nb
  refine gv_store (t := 24) (b := b1) (off := 0) (v := (.agg #[(.int .i64 r19.1), (.int .i64 r19.2)])) (t' := 24) (cs := #[(.int .i64 0), (.int .i64 0)]) #[(.int .i64 r19.1), (.int .i64 r19.2)] (by decide) rfl rfl (by kernel_rfl) (by kernel_rfl) (by kernel_rfl) (by intro u hu; simp [Value.cells] at hu; rcases hu with rfl | rfl <;> rfl) (show 0 + 2 ≤ 2 by decide) (by rfl) hk48 ?_
  intro w40 hg41 hb42 hz43
  refine ⟨(fun _ => trivial), ?_⟩
  refine gv_nil <| gv_goA ?_
  refine gv_stageE (by kernel_rfl) ?_
  refine gv_cret ?_
  have e := sj h0; subst e
  refine gv_ret (gv_done [(.slice none (List.length ([] : List Int)) 0), (.agg #[(.int .i64 r19.1), (.int .i64 r19.2)])] rfl ⟨(by kernel_rfl), ⟨⟨b1, 0, none⟩, (by kernel_rfl), run_loadVar_row w40 b1 _ 24 _ _ _ hb42 Tryd.underlying24 rfl (by kernel_rfl)⟩, trivial⟩ ?_)
  have hg49 := (grown_trans hg23 hg27)
  have hB50 := bg hB21 hg49 nb
  have hB51 := bg hB21 hg23 nb
  have hlo52 : w0.heap.size ≤ b25 := lob hbe29 hB51.size
  have hB53 := bg hB50 hg32 (rowlo hlo52)
  have hB54 := bg hB53 hg37 nb
  have hlo55 : w0.heap.size ≤ b1 := lob hbe5 hB0.size
  have hB56 := bg hB54 hg41 (rowlo hlo55)
  exact ⟨grown_of_below hB56, none, 0, rfl, (Gv.Own.nil (iE .i64) 3 w40 (fun _ => False)), (fun _ h => by cases h)⟩
 ·replace h0 := ite_f hc35 h0
  refine gv_skip <| gv_seq <| gv_region <| gv_pureN 1 [5] [(5, (.slice none (List.length ([] : List Int)) 0))] (by kernel_rfl) ?_
  refine gv_nil <| gv_seq <| gv_seq <| gv_region <| gv_pureN 1 [15] [(15, (.string s_0))] (by kernel_rfl) ?_
  refine gv_range (t := 9) (s := s_0) (by kernel_rfl) (by kernel_rfl) Tryd.underlying9 ?_
  intro b57 w58 hg59 hb60 hbe61 hz62
  clear hz62 hc35 hz34 hz30 hb28 hr20 hB18 hz12 hb10 hz6 hg3
  refine gv_nil <| bindE h0 ?_; clear h0; intro j63 h1 h0
  refine gv_cut_code (J := fun a w64 => ∃ (a5_0j : Option Addr) (c5_0j : Nat), Below w0.heap.size w0 w64 ∧ w58.heap.size ≤ w64.heap.size ∧ Gv.Own (iE .i64) 3 w64 (fun _ => False) a5_0j c5_0j j63 ∧ (∀ g, blk a5_0j = some g → w0.heap.size ≤ g) ∧ (∀ g, blk a5_0j = some g → ¬ (· = b1) g) ∧ ¬ (fun k => blk a5_0j = some k) b1 ∧ Box w64 b1 24 #[(.int .i64 0), (.int .i64 0)] ∧ a.defers = [] ∧ a.tmps.size = 27 ∧ Ok [(3, (bp b1)), (5, (.slice a5_0j (List.length j63) c5_0j))] a.tmps) ?_ ?_
  ·skip
   refine gv_block <| gv_loop (A := fun (s65 : ((List Int) × Nat)) a w66 => ∃ (a5_0j : Option Addr) (c5_0j : Nat), Below w0.heap.size w0 w66 ∧ w58.heap.size ≤ w66.heap.size ∧ Gv.Own (iE .i64) 3 w66 (fun _ => False) a5_0j c5_0j s65.1 ∧ (∀ g, blk a5_0j = some g → w0.heap.size ≤ g) ∧ (∀ g, blk a5_0j = some g → ¬ (· = b1) g) ∧ (∀ g, blk a5_0j = some g → ¬ (· = b57) g) ∧ ¬ (fun k => blk a5_0j = some k) b1 ∧ ¬ (fun k => blk a5_0j = some k) b57 ∧ Box w66 b1 24 #[(.int .i64 0), (.int .i64 0)] ∧ At w66 b57 (.stringIter s_0 s65.2) ∧ a.defers = [] ∧ a.tmps.size = 27 ∧ Ok [(3, (bp b1)), (5, (.slice a5_0j (List.length s65.1) c5_0j)), (16, (bp b57))] a.tmps) h1 ?_ ?_
   ·intro a hd hs hok
    have hg67 := (grown_trans hg23 hg27)
    have hB68 := bg hB21 hg67 nb
    have hB69 := bg hB21 hg23 nb
    have hlo70 : w0.heap.size ≤ b25 := lob hbe29 hB69.size
    have hB71 := bg hB68 hg32 (rowlo hlo70)
    have hB72 := bg hB71 hg59 nb
    have hg73 := (grown_trans hg9 hg67)
    have hg74 := (grown_trans hg9 hg23)
    have hk75 := hb4.grown hg74 nb
    have lt76 := ltl ((ltb hk75) _ rfl) ((lowb hbe29) _ rfl)
    have hk77 := ((hb4.grown hg73 nb).grown hg32 (rowne (ng lt76))).grown hg59 nb
    exact ⟨none, 0, hB72, (Nat.le_refl _), (Gv.Own.nil (iE .i64) 3 w58 (fun _ => False)), (fun _ h => by cases h), (fun _ h => by cases h), (fun _ h => by cases h), (fun h => by cases h), (fun h => by cases h), hk77, hb60, hd, hs, ok_pick [3, 5, 16] hok (by kernel_rfl)⟩
   ·rintro s65 r2 h2 hR2 a w66 ⟨a80, c81, hB78, hz79, ho82, hl83, ap84, ap85, ap86, ap87, hb88, hb89, hd, hs, hok⟩
    refine gv_in ?_ hd hs hok
    clear hd hs hok
    clear hb60 hg59 hl14 ho13 hbe11
    refine gv_seq <| gv_region <| gv_next (b := b57) (s := s_0) (pos := s65.2) (ty := 0) (by kernel_rfl) (by kernel_rfl) hb89 (fun hc90 => ?_) (fun hc90 => ?_)
    ·skip
     replace h2 := ite_t hc90 h2
     intro w91 hg92 hb93 hz94
     refine gv_pureN 1 [18] [(18, (.bool true))] (by kernel_rfl) ?_
     refine gv_nil <| gv_seq <| gv_cond (b := true) (by kernel_rfl) (fun hc => ?_) (fun hc => ?_)
     rotate_left; · cases hc
     clear hc
     refine gv_skip <| gv_block <| gv_seq <| gv_region <| gv_pureN 2 [7, 19] [(7, (.int .i32 (runeI s_0 s65.2)))] (by kernel_rfl) ?_
     refine gv_nil <| gv_region <| gv_pureN 3 [20, 21, 22] [(20, (.slice a80 (List.length s65.1) c81)), (22, (.int .i64 (IntKind.i64.wrap ((runeI s_0 s65.2)))))] (by kernel_rfl) ?_
     refine gv_new0 (fun b => .slice (some ⟨b, 0, none⟩) 1 1) #[(.int .i64 (IntKind.i64.wrap ((runeI s_0 s65.2))))] 3 (by kernel_rfl) (by kernel_rfl) ?_
     intro b95 w96 hg97 hb98 hbe99 hz100
     have ho101 : Gv.Own (iE .i64) 3 w96 (fun _ => False) (some ⟨b95, 0, none⟩) 1 ([(IntKind.i64.wrap ((runeI s_0 s65.2)))] : List Int) := Box.ownE hb98 ⟨[(.int .i64 (IntKind.i64.wrap ((runeI s_0 s65.2))))], [], rfl, rfl, rfl⟩ (show 1 ≤ maxLen by decide) (fun h => h)
     have hg106 := (grown_trans hg23 hg27)
     have hB107 := bg hB21 hg106 nb
     have hB108 := bg hB21 hg23 nb
     have hlo109 : w0.heap.size ≤ b25 := lob hbe29 hB108.size
     have hB110 := bg hB107 hg32 (rowlo hlo109)
     have hlo111 : w0.heap.size ≤ b57 := lob hbe61 hB110.size
     have hB112 := bg hB78 hg92 (rowlo hlo111)
     have hl102 : ∀ g, blk (some ⟨b95, 0, none⟩) = some g → w0.heap.size ≤ g := loo hbe99 hB112.size
     refine bindE h2 ?_; clear h2; intro l113 hx114 h2
     have hk121 := (ho82.grown hg92 (fun _ h => h.elim) (rdnn (rowne ap87))).grown hg97 (fun _ h => h.elim) nb
     refine gv_append (iE .i64) (t := 38) (ty := 38) (e := 3) (a := a80) (ax := (some ⟨b95, 0, none⟩)) (cap := c81) (cx := 1) (xs := s65.1) (ys := ([(IntKind.i64.wrap ((runeI s_0 s65.2)))] : List Int)) l113 (X := (fun _ => False)) (Y := (fun k => blk (some ⟨b95, 0, none⟩) = some k)) (by decide) rfl rfl (by kernel_rfl) (by kernel_rfl) Tryd.underlying38 info3 hk121 (ho101.rd (Y := fun k => blk (some ⟨b95, 0, none⟩) = some k) (fun _ h => h.elim) (fun g e => e)) hx114 (.inr fun _ _ _ _ _ h => h) (fun _ h => h.elim) ?_
     intro a115 c116 w117 hg118 ho119 hk120
     refine ⟨(fun e => by cases e), ?_⟩
     have hB123 := bg hB112 hg97 nb
     have hl122 : ∀ g, blk a115 = some g → w0.heap.size ≤ g := blk_step hk120 hl83 hB123.size
     have hg125 := (grown_trans hg9 hg23)
     have hk126 := hb4.grown hg125 nb
     have lt127 := ltl ((ltb hk126) _ rfl) ((lowb hbe29) _ rfl)
     have lt128 := ltl ((ltb hb33) _ rfl) ((lowb hbe61) _ rfl)
     have lt129 := ltt lt127 lt128
     have hk130 := (hb88.grown hg92 (rowne (ng lt129))).grown hg97 nb
     have ap124 : ∀ g, blk a115 = some g → ¬ (· = b1) g := blk_neX hk120 ap84 (ltb hk130)
     have ap131 : ¬ (fun k => blk a115 = some k) b1 := fun h => blk_rev hk120 (fun h => (ap86) h) (hk130.lt) h
     have hk133 := hb93.grown hg97 nb
     have ap132 : ∀ g, blk a115 = some g → ¬ (· = b57) g := blk_neX hk120 ap85 (ltA hk133)
     have ap134 : ¬ (fun k => blk a115 = some k) b57 := fun h => blk_rev hk120 (fun h => (ap87) h) (hk133.lt) h
     have hk136 := ho82.grown hg92 (fun _ h => h.elim) (rdnn (rowne ap87))
     have ap137 : ∀ g, blk a80 = some g → ¬ (fun k => blk (some ⟨b95, 0, none⟩) = some k) g := fun g e hx => nl ((lowo hbe99) _ hx) ((fun k (hk : blk a80 = some k) => hk136.lt k hk) g e)
     have ap135 : ∀ g, blk a115 = some g → ¬ (fun k => blk (some ⟨b95, 0, none⟩) = some k) g := blk_neX hk120 ap137 (fun k (hk : blk (some ⟨b95, 0, none⟩) = some k) => ho101.lt k hk)
     have ap139 : ∀ g, blk (some ⟨b95, 0, none⟩) = some g → ¬ (fun k => blk a80 = some k) g := fun g e hx => nl ((lowo hbe99) g e) ((fun k (hk : blk a80 = some k) => hk136.lt k hk) _ hx)
     have ap138 : ∀ g, blk (some ⟨b95, 0, none⟩) = some g → ¬ (fun k => blk a115 = some k) g := fun g e h => blk_rev hk120 (fun h => ((ap139) g e) h) (ho101.lt g e) h
     refine gv_pureN 1 [5] [(5, (.slice a115 (List.length l113) c116))] (by kernel_rfl) ?_
     refine gv_nil <| gv_blk ?_
     have e := sj h2; subst e
     refine gv_goal fun a hd hs hok => ?_
     have hB140 := bg hB123 hg118 hl83
     have hz141 := (nt (nt (nt hz79 hg92.size) hg97.size) hg118.size)
     have hk142 := hk130.grown hg118 ap84
     have hk143 := hk133.grown hg118 ap85
     exact ⟨(l113, (s65.2 + runeN s_0 s65.2)), rfl, a115, c116, hB140, hz141, ho119, hl122, ap124, ap132, ap131, ap134, hk142, hk143, hd, hs, ok_pick [3, 5, 16] hok (by kernel_rfl)⟩
    ·skip
     replace h2 := ite_f hc90 h2
     refine gv_pureN 1 [18] [(18, (.bool false))] (by kernel_rfl) ?_
     refine gv_nil <| gv_seq <| gv_cond (b := false) (by kernel_rfl) (fun hc => ?_) (fun hc => ?_)
     ·cases hc
     clear hc
     refine gv_cexit <| gv_exit rfl ?_
     have e := sj h2; subst e
     replace h1 := congrArg some (hR2 _ rfl)
     have e := sj h1; subst e
     refine gv_goal fun a hd hs hok => ?_
     have hz144 := hz79
     exact ⟨a80, c81, hB78, hz144, ho82, hl83, ap84, ap86, hb88, hd, hs, ok_pick [3, 5] hok (by kernel_rfl)⟩
  ·rintro a w64 ⟨a147, c148, hB145, hz146, ho149, hl150, ap151, ap152, hb153, hd, hs, hok⟩
   refine gv_in ?_ hd hs hok
   clear hd hs hok
   clear hz146 hbe61 hb60 hg59 hb33 hg32 hbe29 hg27 hg23 hB21 hl14 ho13 hbe11 hg9 hb4
   refine gv_seq <| gv_region <| gv_pureN 3 [2, 25, 26] [(2, (.slice a147 (List.length j63) c148)), (26, (.agg #[(.int .i64 0), (.int .i64 0)]))] (by kernel_rfl) ?_
   refine gv_store0 24 0 (.agg #[(.int .i64 0), (.int .i64 0)]) #[(.int .i64 0), (.int .i64 0)] hb153 (by kernel_rfl) (by kernel_rfl) (by kernel_rfl) ?_
   intro w154 hg155 hb156 hz157
   refine gv_nil <| gv_cret ?_
   have e := sj h0; subst e
   refine gv_ret (gv_done [(.slice a147 (List.length j63) c148), (.agg #[(.int .i64 0), (.int .i64 0)])] rfl ⟨(by kernel_rfl), ⟨⟨b1, 0, none⟩, (by kernel_rfl), run_loadVar_row w154 b1 _ 24 _ _ _ hb156 Tryd.underlying24 rfl (by kernel_rfl)⟩, trivial⟩ ?_)
   have hlo158 : w0.heap.size ≤ b1 := lob hbe5 hB0.size
   have hB159 := bg hB145 hg155 (rowlo hlo158)
   have hk160 := ho149.grown hg155 (fun _ h => h.elim) (rdnn (rowne ap152))
   exact ⟨grown_of_below hB159, a147, c148, rfl, hk160, hl150⟩

theorem textstr_Length_ok (fuel : Nat) (s_0 : ByteArray) (w0 : World) (X0 : Nat → Prop) (hX0 : ∀ k, X0 k → k < w0.heap.size) (hG1 : Rd bE w0 X0 (some ⟨1, 0, none⟩) 256 utf8First) (hG2 : Rd (prE (iE .u8) (iE .u8)) w0 X0 (some ⟨2, 0, none⟩) 16 utf8Acc) (r0 : (Int × (Int × Int))) (h0 : textstr_Length fuel s_0 = some r0) :
    Calls Tryd.prog 17 ([(.string s_0)] : List Value).toArray w0 (Ret fun v w' => w0.grownBy w' none ∧ v = tup [(.int .i64 r0.1), (.agg #[(.int .i64 r0.2.1), (.int .i64 r0.2.2)])]) := by
 have hB0 : Below w0.heap.size w0 w0 := Below.refl _ _
 unfold textstr_Length at h0
 refine calls_run Tryd.func17 rfl Tryd.ntmps17 (by kernel_rfl) ?_
 refine gv_sub [0] (σ' := [(0, (.string s_0))]) (by kernel_rfl) ?_
 refine gv_seq <| gv_region <| gv_pureN 1 [2] [] (by kernel_rfl) ?_
 refine gv_new0 (fun b => .pointer (some ⟨b, 0, none⟩)) #[(.int .i64 0), (.int .i64 0)] 24 (by kernel_rfl) (by kernel_rfl) ?_
 intro b1 w2 hg3 hb4 hbe5 hz6
 refine gv_nil <| gv_seq <| gv_region <| gv_pureN 1 [7] [(7, (.string s_0))] (by kernel_rfl) ?_
 refine bindE h0 ?_; clear h0; intro r7 hr8 h0
 have hB9 := bg hB0 hg3 nb
 refine gv_call0 (by kernel_rfl) rfl (by kernel_rfl) enters61 (textstr_Points_ok fuel s_0 w2 (fun k => X0 k ∨ X0 k) (fun k hk => (hk).elim (fun h => (fun k (hk : X0 k) => ltl (hX0 k hk) hB9.size) k h) (fun h => (fun k (hk : X0 k) => ltl (hX0 k hk) hB9.size) k h)) ((hG1.below hB9 hX0).wide (fun k hk => (.inl hk))) ((hG2.below hB9 hX0).wide (fun k hk => (.inr hk))) r7 hr8) ?_
 rintro v12 w10 ⟨hg11, a13, c14, rfl, ho15, hl16⟩
 have hl17 : ∀ g, blk a13 = some g → w0.heap.size ≤ g := fun g e => Nat.le_trans hB9.size (hl16 g e)
 refine gv_pureN 3 [6, 9, 10] [(9, (.slice a13 (List.length r7.1) c14)), (10, (.agg #[(.int .i64 r7.2.1), (.int .i64 r7.2.2)]))] (by kernel_rfl) ?_
 refine gv_new0 (fun b => .pointer (some ⟨b, 0, none⟩)) #[(.int .i64 0), (.int .i64 0)] 24 (by kernel_rfl) (by kernel_rfl) ?_
 intro b18 w19 hg20 hb21 hbe22 hz23
 refine gv_pureN 1 [4] [(4, (.slice a13 (List.length r7.1) c14))] (by kernel_rfl) ?_
 refine gv_store0 24 0 (.agg #[(.int .i64 r7.2.1), (.int .i64 r7.2.2)]) #[(.int .i64 r7.2.1), (.int .i64 r7.2.2)] hb21 (by kernel_rfl) (by kernel_rfl) (by kernel_rfl) ?_
 intro w24 hg25 hb26 hz27
 refine gv_nil <| gv_seq <| gv_drawA (by kernel_rfl) ?_
 intro w28 hg29
 refine gv_pre [0, 1, 3] (bA 5 [0, 1, 3]) 2 (by kernel_rfl) (by kernel_rfl) ?_
 refine gv_pureN 3 [2, 11, 12] [(2, (.int .i64 ((List.length r7.1 : Nat) : Int)))] (by kernel_rfl) ?_
 refine gv_nil <| gv_goA ?_
 refine gv_stage (Cls w28 []) [0, 1, 2, 3] [(2, some true)] (bA 5 [0, 1, 2, 3]) 1 (by kernel_rfl) (by kernel_rfl) (Cls.refl _ _) ?_
 have hC30 := Cls.refl w28 []
 have hk31 := hb26.grown hg29 nb
 refine gv_loadBox (t := 24) (b := b18) (t' := 24) (fr := (0, 0)) #[(.int .i64 r7.2.1), (.int .i64 r7.2.2)] [] (fun e => by cases e) rfl rfl rfl (by kernel_rfl) (by kernel_rfl) (by kernel_rfl) (by kernel_rfl) (inw1 fun w' hC' => (hC'.box hk31 nm_nil)) rfl ?_
 refine gv_nil <| gv_goA ?_
 refine gv_stage (fun _ => True) [0, 1, 2, 3, 4] [(4, some false)] (bA 5 [0, 1, 2, 3, 4]) 0 (by kernel_rfl) (by kernel_rfl) trivial ?_
 have hg36 := (grown_trans hg11 hg20)
 have hk37 := hb4.grown hg11 nb
 have lt38 := ltl ((ltb hk37) _ rfl) ((lowb hbe22) _ rfl)
 have hk39 := ((hb4.grown hg36 nb).grown hg25 (rowne (ng lt38))).grown hg29 nb
 refine gv_store (t := 24) (b := b1) (off := 0) (v := (.agg #[(.int .i64 r7.2.1), (.int .i64 r7.2.2)])) (t' := 24) (cs := #[(.int .i64 0), (.int .i64 0)]) #[(.int .i64 r7.2.1), (.int .i64 r7.2.2)] (by decide) rfl rfl (by kernel_rfl) (by kernel_rfl) (by kernel_rfl) (by intro u hu; simp [Value.cells] at hu; rcases hu with rfl | rfl <;> rfl) (show 0 + 2 ≤ 2 by decide) (by rfl) hk39 ?_
 intro w32 hg33 hb34 hz35
 refine ⟨(fun _ => trivial), ?_⟩
 refine gv_nil <| gv_goA ?_
 refine gv_stageE (by kernel_rfl) ?_
 refine gv_cret ?_
 have e := sj h0; subst e
 refine gv_ret (gv_done [(.int .i64 ((List.length r7.1 : Nat) : Int)), (.agg #[(.int .i64 r7.2.1), (.int .i64 r7.2.2)])] rfl ⟨(by kernel_rfl), ⟨⟨b1, 0, none⟩, (by kernel_rfl), run_loadVar_row w32 b1 _ 24 _ _ _ hb34 Tryd.underlying24 rfl (by kernel_rfl)⟩, trivial⟩ ?_)
 have hB40 := bg hB9 hg36 nb
 have hB41 := bg hB9 hg11 nb
 have hlo42 : w0.heap.size ≤ b18 := lob hbe22 hB41.size
 have hB43 := bg hB40 hg25 (rowlo hlo42)
 have hB44 := bg hB43 hg29 nb
 have hlo45 : w0.heap.size ≤ b1 := lob hbe5 hB0.size
 have hB46 := bg hB44 hg33 (rowlo hlo45)
 exact ⟨grown_of_below hB46, rfl⟩

theorem ref4_At_ok (fuel : Nat) (code_0 : Int) (index_1 : Int) (w0 : World)  (r0 : (Int × Int)) (h0 : ref4_At fuel code_0 index_1 = some r0) :
    Calls Tryd.prog 29 ([(.int .i64 code_0), (.int .i64 index_1)] : List Value).toArray w0 (Ret fun v w' => w0.grownBy w' none ∧ v = tup [(.agg #[(.int .i64 r0.1), (.int .i64 r0.2)])]) := by
 have hB0 : Below w0.heap.size w0 w0 := Below.refl _ _
 unfold ref4_At at h0
 refine calls_run Tryd.func29 rfl Tryd.ntmps29 (by kernel_rfl) ?_
 refine gv_sub [0, 1] (σ' := [(0, (.int .i64 code_0)), (1, (.int .i64 index_1))]) (by kernel_rfl) ?_
 refine gv_seq <| gv_region <| gv_new0 (fun b => .pointer (some ⟨b, 0, none⟩)) #[(.int .i64 0), (.int .i64 0)] 24 (by kernel_rfl) (by kernel_rfl) ?_
 intro b1 w2 hg3 hb4 hbe5 hz6
 refine gv_nil <| gv_seq <| gv_region <| gv_pureN 3 [5, 6, 7] [(7, (.agg #[(.int .i64 code_0), (.int .i64 index_1)]))] (by kernel_rfl) ?_
 refine gv_store0 24 0 (.agg #[(.int .i64 code_0), (.int .i64 index_1)]) #[(.int .i64 code_0), (.int .i64 index_1)] hb4 (by kernel_rfl) (by kernel_rfl) (by kernel_rfl) ?_
 intro w7 hg8 hb9 hz10
 refine gv_nil <| gv_cret ?_
 have e := sj h0; subst e
 refine gv_ret (gv_done [(.agg #[(.int .i64 code_0), (.int .i64 index_1)])] rfl ⟨⟨⟨b1, 0, none⟩, (by kernel_rfl), run_loadVar_row w7 b1 _ 24 _ _ _ hb9 Tryd.underlying24 rfl (by kernel_rfl)⟩, trivial⟩ ?_)
 have hB11 := bg hB0 hg3 nb
 have hlo12 : w0.heap.size ≤ b1 := lob hbe5 hB0.size
 have hB13 := bg hB11 hg8 (rowlo hlo12)
 exact ⟨grown_of_below hB13, rfl⟩

theorem textstr_Join_ok (fuel : Nat) (pa0_0 : Option Addr) (pc0_0 : Nat) (l_0 : (List ByteArray)) (sep_1 : ByteArray) (w0 : World) (X0 : Nat → Prop) (hX0 : ∀ k, X0 k → k < w0.heap.size) (hpa0_0 : Rd sE w0 X0 pa0_0 pc0_0 l_0) (hG1 : Rd bE w0 X0 (some ⟨1, 0, none⟩) 256 utf8First) (hG2 : Rd (prE (iE .u8) (iE .u8)) w0 X0 (some ⟨2, 0, none⟩) 16 utf8Acc) (r0 : (ByteArray × (Int × Int))) (h0 : textstr_Join fuel l_0 sep_1 = some r0) :
    Calls Tryd.prog 41 ([(.slice pa0_0 (List.length l_0) pc0_0), (.string sep_1)] : List Value).toArray w0 (Ret fun v w' => w0.grownBy w' none ∧ v = tup [(.string r0.1), (.agg #[(.int .i64 r0.2.1), (.int .i64 r0.2.2)])]) := by
 have hB0 : Below w0.heap.size w0 w0 := Below.refl _ _
 unfold textstr_Join at h0
 refine calls_run Tryd.func41 rfl Tryd.ntmps41 (by kernel_rfl) ?_
 refine gv_sub [0, 1] (σ' := [(0, (.slice pa0_0 (List.length l_0) pc0_0)), (1, (.string sep_1))]) (by kernel_rfl) ?_
 refine gv_seq <| gv_region <| gv_pureN 1 [4] [] (by kernel_rfl) ?_
 refine gv_new0 (fun b => .pointer (some ⟨b, 0, none⟩)) #[(.int .i64 0), (.int .i64 0)] 24 (by kernel_rfl) (by kernel_rfl) ?_
 intro b1 w2 hg3 hb4 hbe5 hz6
 refine gv_nil <| gv_seq <| gv_region <| gv_pureN 1 [6] [(6, (.int .i64 0))] (by kernel_rfl) ?_
 refine gv_nil <| gv_seq <| gv_seq <| gv_region <| gv_pureN 3 [9, 10, 11] [(9, (.slice pa0_0 (List.length l_0) pc0_0)), (10, (.int .i64 ((List.length l_0 : Nat) : Int))), (11, (.int .i64 0))] (by kernel_rfl) ?_
 refine gv_nil <| bindE h0 ?_; clear h0; intro j7 h1 h0
 refine gv_cut_code (J := fun a w9 => ∃ s8 : (Int × (Int × Int)), j7 = .inl s8 ∧ Below w0.heap.size w0 w9 ∧ w2.heap.size ≤ w9.heap.size ∧ Box w9 b1 24 #[(.int .i64 s8.2.1), (.int .i64 s8.2.2)] ∧ a.defers = [] ∧ a.tmps.size = 45 ∧ Ok [(0, (.slice pa0_0 (List.length l_0) pc0_0)), (1, (.string sep_1)), (5, (bp b1)), (6, (.int .i64 s8.1))] a.tmps) ?_ ?_
 ·skip
  refine gv_block <| gv_loop (A := fun (s10 : (Int × Int × (Int × Int))) a w11 => Below w0.heap.size w0 w11 ∧ w2.heap.size ≤ w11.heap.size ∧ Box w11 b1 24 #[(.int .i64 s10.2.2.1), (.int .i64 s10.2.2.2)] ∧ a.defers = [] ∧ a.tmps.size = 45 ∧ Ok [(0, (.slice pa0_0 (List.length l_0) pc0_0)), (1, (.string sep_1)), (5, (bp b1)), (6, (.int .i64 s10.1)), (9, (.slice pa0_0 (List.length l_0) pc0_0)), (10, (.int .i64 ((List.length l_0 : Nat) : Int))), (11, (.int .i64 s10.2.1))] a.tmps) h1 ?_ ?_
  ·intro a hd hs hok
   have hB12 := bg hB0 hg3 nb
   exact ⟨hB12, (Nat.le_refl _), hb4, hd, hs, ok_pick [0, 1, 5, 6, 9, 10, 11] hok (by kernel_rfl)⟩
  ·rintro s10 r2 h2 hR2 a w11 ⟨hB13, hz14, hb15, hd, hs, hok⟩
   refine gv_in ?_ hd hs hok
   clear hd hs hok
   refine gv_seq <| gv_region <| gv_pureN 1 [12] [(12, (.bool (decide (s10.2.1 < ((List.length l_0 : Nat) : Int)))))] (by kernel_rfl) ?_
   refine gv_nil <| gv_seq <| gv_cond (b := (decide (s10.2.1 < ((List.length l_0 : Nat) : Int)))) (by kernel_rfl) (fun hc16 => ?_) (fun hc16 => ?_)
   ·replace h2 := ite_t hc16 h2
    refine gv_skip <| gv_seq <| gv_block <| gv_seq <| gv_region <| gv_pureN 1 [13] [(13, (.int .i64 s10.2.1))] (by kernel_rfl) ?_
    refine bindE h2 ?_; clear h2; intro x17 hx18 h2
    refine gv_idxaddr (t := 22) (e := 9) (a := pa0_0) (len := List.length l_0) (cap := pc0_0) (kk := .i64) (i := s10.2.1) (sz := 1) [] (fun e => by cases e) rfl rfl rfl (by kernel_rfl) (by kernel_rfl) Tryd.underlying22 (by kernel_rfl) ((hpa0_0.below hB13 hX0).has hx18) (idx_spec hx18).1 (idx_spec hx18).2.1 rfl ?_
    refine gv_load (t := 9) (A := (elemAddr pa0_0 ((s10.2.1 : Int).toNat * 1))) (.string x17) [] (fun e => by cases e) rfl rfl rfl (by kernel_rfl) (by kernel_rfl) (by kernel_rfl) (inw0 ((hpa0_0.below hB13 hX0).cell hx18)) rfl ?_
    refine gv_pureN 2 [7, 8] [(7, (.int .i64 s10.2.1)), (8, (.string x17))] (by kernel_rfl) ?_
    refine gv_nil <| gv_seq <| gv_seq <| gv_region <| gv_pureN 1 [16] [(16, (.string x17))] (by kernel_rfl) ?_
    refine bindE h2 ?_; clear h2; intro r19 hr20 h2
    refine gv_call0 (by kernel_rfl) rfl (by kernel_rfl) enters76 (textstr_Valid_ok fuel x17 w11 (fun k => X0 k ∨ X0 k) (fun k hk => (hk).elim (fun h => (fun k (hk : X0 k) => ltl (hX0 k hk) hB13.size) k h) (fun h => (fun k (hk : X0 k) => ltl (hX0 k hk) hB13.size) k h)) ((hG1.below hB13 hX0).wide (fun k hk => (.inl hk))) ((hG2.below hB13 hX0).wide (fun k hk => (.inr hk))) r19 hr20) ?_
    rintro v23 w21 ⟨hg22, rfl⟩
    refine gv_pureN 1 [18] [(18, (.bool (!r19)))] (by kernel_rfl) ?_
    refine gv_nil <| gv_cond (b := (!r19)) (by kernel_rfl) (fun hc24 => ?_) (fun hc24 => ?_)
    ·replace h2 := ite_t hc24 h2
     refine gv_seq <| gv_region <| gv_pureN 1 [19] [(19, (.int .i64 s10.2.1))] (by kernel_rfl) ?_
     refine bindE h2 ?_; clear h2; intro r25 hr26 h2
     refine gv_call0 (by kernel_rfl) rfl (by kernel_rfl) enters56 (textstr_at_ok fuel 6 s10.2.1 w21  r25 hr26) ?_
     rintro v29 w27 ⟨hg28, rfl⟩
     refine gv_pureN 1 [4] [(4, (.string (strOf [])))] (by kernel_rfl) ?_
     have hg34 := (grown_trans hg22 hg28)
     have hk35 := hb15.grown hg34 nb
     refine gv_store0 24 0 (.agg #[(.int .i64 r25.1), (.int .i64 r25.2)]) #[(.int .i64 r25.1), (.int .i64 r25.2)] hk35 (by kernel_rfl) (by kernel_rfl) (by kernel_rfl) ?_
     intro w30 hg31 hb32 hz33
     refine gv_nil <| gv_cret ?_
     have e := sj h2; subst e
     replace h1 := congrArg some (hR2 _ rfl)
     have e := sj h1; subst e
     replace h0 := cont_inr h0
     have e := sj h0; subst e
     refine gv_ret (gv_done [(.string (strOf [])), (.agg #[(.int .i64 r25.1), (.int .i64 r25.2)])] rfl ⟨(by kernel_rfl), ⟨⟨b1, 0, none⟩, (by kernel_rfl), run_loadVar_row w30 b1 _ 24 _ _ _ hb32 Tryd.underlying24 rfl (by kernel_rfl)⟩, trivial⟩ ?_)
     have hB36 := bg hB13 hg34 nb
     have hlo37 : w0.heap.size ≤ b1 := lob hbe5 hB0.size
     have hB38 := bg hB36 hg31 (rowlo hlo37)
     exact ⟨grown_of_below hB38, rfl⟩
    ·replace h2 := ite_f hc24 h2
     refine gv_skip <| gv_region <| gv_pureN 5 [6, 21, 22, 23, 24] [(6, (.int .i64 (IntKind.i64.wrap (s10.1 + ((ByteArray.size x17 : Nat) : Int)))))] (by kernel_rfl) ?_
     refine bindE h2 ?_; clear h2; intro n39 hn40 h2
     refine gv_name (s := 6) (v := (.int .i64 (IntKind.i64.wrap (s10.1 + ((ByteArray.size x17 : Nat) : Int))))) (v' := (.int .i64 n39)) (by kernel_rfl) (congrArg (Value.int .i64) (sj hn40)) ?_
     refine gv_nil <| gv_blk <| gv_region <| gv_pureN 2 [11, 25] [(11, (.int .i64 (IntKind.i64.wrap (s10.2.1 + 1))))] (by kernel_rfl) ?_
     refine gv_nil ?_
     have e := sj h2; subst e
     refine gv_goal fun a hd hs hok => ?_
     have hB41 := bg hB13 hg22 nb
     have hz42 := (nt hz14 hg22.size)
     have hk43 := hb15.grown hg22 nb
     exact ⟨(n39, (IntKind.i64.wrap (s10.2.1 + 1)), (s10.2.2.1, s10.2.2.2)), rfl, hB41, hz42, hk43, hd, hs, ok_pick [0, 1, 5, 6, 9, 10, 11] hok (by kernel_rfl)⟩
   ·replace h2 := ite_f hc16 h2
    refine gv_cexit <| gv_exit rfl ?_
    have e := sj h2; subst e
    replace h1 := congrArg some (hR2 _ rfl)
    have e := sj h1; subst e
    refine gv_goal fun a hd hs hok => ?_
    have hz44 := hz14
    exact ⟨(s10.1, (s10.2.2.1, s10.2.2.2)), rfl, hB13, hz44, hb15, hd, hs, ok_pick [0, 1, 5, 6] hok (by kernel_rfl)⟩
 ·rintro a w9 ⟨s8, e, hB45, hz46, hb47, hd, hs, hok⟩
  subst e
  refine gv_in ?_ hd hs hok
  clear hd hs hok
  replace h0 := cont_inl h0
  clear hz46 hz6 hb4 hg3
  refine gv_seq <| gv_seq <| gv_region <| gv_pureN 1 [26] [(26, (.string sep_1))] (by kernel_rfl) ?_
  refine bindE h0 ?_; clear h0; intro r48 hr49 h0
  refine gv_call0 (by kernel_rfl) rfl (by kernel_rfl) enters76 (textstr_Valid_ok fuel sep_1 w9 (fun k => X0 k ∨ X0 k) (fun k hk => (hk).elim (fun h => (fun k (hk : X0 k) => ltl (hX0 k hk) hB45.size) k h) (fun h => (fun k (hk : X0 k) => ltl (hX0 k hk) hB45.size) k h)) ((hG1.below hB45 hX0).wide (fun k hk => (.inl hk))) ((hG2.below hB45 hX0).wide (fun k hk => (.inr hk))) r48 hr49) ?_
  rintro v52 w50 ⟨hg51, rfl⟩
  refine gv_pureN 1 [28] [(28, (.bool (!r48)))] (by kernel_rfl) ?_
  refine gv_nil <| gv_cond (b := (!r48)) (by kernel_rfl) (fun hc53 => ?_) (fun hc53 => ?_)
  ·replace h0 := ite_t hc53 h0
   refine gv_seq <| gv_region <| bindE h0 ?_; clear h0; intro r54 hr55 h0
   refine gv_call0 (by kernel_rfl) rfl (by kernel_rfl) enters56 (textstr_at_ok fuel 6 (-2) w50  r54 hr55) ?_
   rintro v58 w56 ⟨hg57, rfl⟩
   refine gv_pureN 1 [4] [(4, (.string (strOf [])))] (by kernel_rfl) ?_
   have hg63 := (grown_trans hg51 hg57)
   have hk64 := hb47.grown hg63 nb
   refine gv_store0 24 0 (.agg #[(.int .i64 r54.1), (.int .i64 r54.2)]) #[(.int .i64 r54.1), (.int .i64 r54.2)] hk64 (by kernel_rfl) (by kernel_rfl) (by kernel_rfl) ?_
   intro w59 hg60 hb61 hz62
   refine gv_nil <| gv_cret ?_
   have e := sj h0; subst e
   refine gv_ret (gv_done [(.string (strOf [])), (.agg #[(.int .i64 r54.1), (.int .i64 r54.2)])] rfl ⟨(by kernel_rfl), ⟨⟨b1, 0, none⟩, (by kernel_rfl), run_loadVar_row w59 b1 _ 24 _ _ _ hb61 Tryd.underlying24 rfl (by kernel_rfl)⟩, trivial⟩ ?_)
   have hB65 := bg hB45 hg63 nb
   have hlo66 : w0.heap.size ≤ b1 := lob hbe5 hB0.size
   have hB67 := bg hB65 hg60 (rowlo hlo66)
   exact ⟨grown_of_below hB67, rfl⟩
  ·replace h0 := ite_f hc53 h0
   refine gv_skip <| gv_seq <| gv_seq <| gv_region <| gv_pureN 10 [30, 31, 32, 33, 34, 35, 36, 37, 38, 39] [(39, (.bool (decide ((IntKind.i64.wrap (s8.1 + (IntKind.i64.wrap ((if 0 < (IntKind.i64.wrap (((List.length l_0 : Nat) : Int) - 1)) then (IntKind.i64.wrap (((List.length l_0 : Nat) : Int) - 1)) else 0) * ((ByteArray.size sep_1 : Nat) : Int))))) > 4000))))] (by kernel_rfl) ?_
   refine gv_nil <| gv_cond (b := (decide ((IntKind.i64.wrap (s8.1 + (IntKind.i64.wrap ((if 0 < (IntKind.i64.wrap (((List.length l_0 : Nat) : Int) - 1)) then (IntKind.i64.wrap (((List.length l_0 : Nat) : Int) - 1)) else 0) * ((ByteArray.size sep_1 : Nat) : Int))))) > 4000))) (by kernel_rfl) (fun hc68 => ?_) (fun hc68 => ?_)
   ·replace h0 := ite_t hc68 h0
    refine gv_seq <| gv_region <| bindE h0 ?_; clear h0; intro r69 hr70 h0
    refine gv_call0 (by kernel_rfl) rfl (by kernel_rfl) enters56 (textstr_at_ok fuel 3 (-1) w50  r69 hr70) ?_
    rintro v73 w71 ⟨hg72, rfl⟩
    clear hr70 hc68 hc53 hr49
    refine gv_pureN 1 [4] [(4, (.string (strOf [])))] (by kernel_rfl) ?_
    have hg78 := (grown_trans hg51 hg72)
    have hk79 := hb47.grown hg78 nb
    refine gv_store0 24 0 (.agg #[(.int .i64 r69.1), (.int .i64 r69.2)]) #[(.int .i64 r69.1), (.int .i64 r69.2)] hk79 (by kernel_rfl) (by kernel_rfl) (by kernel_rfl) ?_
    intro w74 hg75 hb76 hz77
    refine gv_nil <| gv_cret ?_
    have e := sj h0; subst e
    refine gv_ret (gv_done [(.string (strOf [])), (.agg #[(.int .i64 r69.1), (.int .i64 r69.2)])] rfl ⟨(by kernel_rfl), ⟨⟨b1, 0, none⟩, (by kernel_rfl), run_loadVar_row w74 b1 _ 24 _ _ _ hb76 Tryd.underlying24 rfl (by kernel_rfl)⟩, trivial⟩ ?_)
    have hB80 := bg hB45 hg78 nb
    have hlo81 : w0.heap.size ≤ b1 := lob hbe5 hB0.size
    have hB82 := bg hB80 hg75 (rowlo hlo81)
    exact ⟨grown_of_below hB82, rfl⟩
   ·replace h0 := ite_f hc68 h0
    refine gv_skip <| gv_seq <| gv_region <| gv_pureN 2 [41, 42] [(41, (.slice pa0_0 (List.length l_0) pc0_0)), (42, (.string sep_1))] (by kernel_rfl) ?_
    refine bindE h0 ?_; clear h0; intro r83 hr84 h0
    have hB85 := bg hB45 hg51 nb
    refine gv_call0 (by kernel_rfl) rfl (by kernel_rfl) enters77 (strings_Join_ok fuel pa0_0 pc0_0 l_0 sep_1 w50 (fun k => X0 k) (fun k hk => (fun k (hk : X0 k) => ltl (hX0 k hk) hB85.size) k hk) ((hpa0_0.below hB85 hX0).wide (fun k hk => hk)) r83 hr84) ?_
    rintro v88 w86 ⟨hg87, rfl⟩
    refine gv_pureN 2 [4, 44] [(4, (.string r83)), (44, (.agg #[(.int .i64 0), (.int .i64 0)]))] (by kernel_rfl) ?_
    have hg93 := (grown_trans hg51 hg87)
    have hk94 := hb47.grown hg93 nb
    refine gv_store0 24 0 (.agg #[(.int .i64 0), (.int .i64 0)]) #[(.int .i64 0), (.int .i64 0)] hk94 (by kernel_rfl) (by kernel_rfl) (by kernel_rfl) ?_
    intro w89 hg90 hb91 hz92
    refine gv_nil <| gv_cret ?_
    have e := sj h0; subst e
    refine gv_ret (gv_done [(.string r83), (.agg #[(.int .i64 0), (.int .i64 0)])] rfl ⟨(by kernel_rfl), ⟨⟨b1, 0, none⟩, (by kernel_rfl), run_loadVar_row w89 b1 _ 24 _ _ _ hb91 Tryd.underlying24 rfl (by kernel_rfl)⟩, trivial⟩ ?_)
    have hB95 := bg hB85 hg87 nb
    have hlo96 : w0.heap.size ≤ b1 := lob hbe5 hB0.size
    have hB97 := bg hB95 hg90 (rowlo hlo96)
    exact ⟨grown_of_below hB97, rfl⟩

theorem textstr_Replace_ok (fuel : Nat) (s_0 : ByteArray) (old_1 : ByteArray) (with_2 : ByteArray) (most_3 : Int) (w0 : World) (X0 : Nat → Prop) (hX0 : ∀ k, X0 k → k < w0.heap.size) {gmx : Int} (hG0 : Rd (iE .i64) w0 X0 (some ⟨0, 0, none⟩) 1 [gmx]) (hG1 : Rd bE w0 X0 (some ⟨1, 0, none⟩) 256 utf8First) (hG2 : Rd (prE (iE .u8) (iE .u8)) w0 X0 (some ⟨2, 0, none⟩) 16 utf8Acc) (r0 : (ByteArray × (Int × Int))) (h0 : textstr_Replace fuel s_0 old_1 with_2 most_3 = some r0) :
    Calls Tryd.prog 42 ([(.string s_0), (.string old_1), (.string with_2), (.int .i64 most_3)] : List Value).toArray w0 (Ret fun v w' => w0.grownBy w' none ∧ v = tup [(.string r0.1), (.agg #[(.int .i64 r0.2.1), (.int .i64 r0.2.2)])]) := by
 have hB0 : Below w0.heap.size w0 w0 := Below.refl _ _
 unfold textstr_Replace at h0
 refine calls_run Tryd.func42 rfl Tryd.ntmps42 (by kernel_rfl) ?_
 refine gv_sub [0, 1, 2, 3] (σ' := [(0, (.string s_0)), (1, (.string old_1)), (2, (.string with_2)), (3, (.int .i64 most_3))]) (by kernel_rfl) ?_
 refine gv_seq <| gv_region <| gv_pureN 1 [8] [] (by kernel_rfl) ?_
 refine gv_new0 (fun b => .pointer (some ⟨b, 0, none⟩)) #[(.int .i64 0), (.int .i64 0)] 24 (by kernel_rfl) (by kernel_rfl) ?_
 intro b1 w2 hg3 hb4 hbe5 hz6
 refine gv_nil <| gv_seq <| gv_seq <| gv_region <| gv_pureN 3 [12, 13, 14] [(12, (.string s_0)), (13, (.string old_1)), (14, (.string with_2))] (by kernel_rfl) ?_
 refine gv_new0 (fun b => .slice (some ⟨b, 0, none⟩) 3 3) #[(.string s_0), (.string old_1), (.string with_2)] 9 (by kernel_rfl) (by kernel_rfl) ?_
 intro b7 w8 hg9 hb10 hbe11 hz12
 have ho13 : Gv.Own sE 9 w8 (fun _ => False) (some ⟨b7, 0, none⟩) 3 ([s_0, old_1, with_2] : List ByteArray) := Box.ownE hb10 ⟨[(.string s_0)], [(.string old_1), (.string with_2)], rfl, rfl, ⟨[(.string old_1)], [(.string with_2)], rfl, rfl, ⟨[(.string with_2)], [], rfl, rfl, rfl⟩⟩⟩ (show 3 ≤ maxLen by decide) (fun h => h)
 have hB18 := bg hB0 hg3 nb
 have hl14 : ∀ g, blk (some ⟨b7, 0, none⟩) = some g → w0.heap.size ≤ g := loo hbe11 hB18.size
 refine bindE h0 ?_; clear h0; intro r19 hr20 h0
 have hB21 := bg hB18 hg9 nb
 refine gv_call0 (by kernel_rfl) rfl (by kernel_rfl) enters58 (textstr_check_ok fuel (some ⟨b7, 0, none⟩) 3 ([s_0, old_1, with_2] : List ByteArray) w8 (fun k => (fun k => blk (some ⟨b7, 0, none⟩) = some k) k ∨ X0 k ∨ X0 k) (fun k hk => (hk).elim (fun h => (fun k (hk : blk (some ⟨b7, 0, none⟩) = some k) => ho13.lt k hk) k h) (fun h => (h).elim (fun h => (fun k (hk : X0 k) => ltl (hX0 k hk) hB21.size) k h) (fun h => (fun k (hk : X0 k) => ltl (hX0 k hk) hB21.size) k h))) ((ho13.rd (Y := fun k => blk (some ⟨b7, 0, none⟩) = some k) (fun _ h => h.elim) (fun g e => e)).wide (fun k hk => (.inl hk))) ((hG1.below hB21 hX0).wide (fun k hk => (.inr (.inl hk)))) ((hG2.below hB21 hX0).wide (fun k hk => (.inr (.inr hk)))) r19 hr20) ?_
 rintro v24 w22 ⟨hg23, rfl⟩
 refine gv_new0 (fun b => .pointer (some ⟨b, 0, none⟩)) #[(.int .i64 0), (.int .i64 0)] 24 (by kernel_rfl) (by kernel_rfl) ?_
 intro b25 w26 hg27 hb28 hbe29 hz30
 refine gv_store0 24 0 (.agg #[(.int .i64 r19.1), (.int .i64 r19.2)]) #[(.int .i64 r19.1), (.int .i64 r19.2)] hb28 (by kernel_rfl) (by kernel_rfl) (by kernel_rfl) ?_
 intro w31 hg32 hb33 hz34
 refine gv_nil <| gv_seq <| gv_region <| gv_pureN 1 [17] [(17, (bp b25))] (by kernel_rfl) ?_
 refine gv_load (t := 3) (A := ⟨b25, 0, none⟩) (.int .i64 r19.1) [] (fun e => by cases e) rfl rfl rfl (by kernel_rfl) (by kernel_rfl) (by kernel_rfl) (inw0 (hb33.cell 0 rfl)) rfl ?_
 refine gv_pureN 1 [19] [(19, (.bool (r19.1 != 0)))] (by kernel_rfl) ?_
 refine gv_nil <| gv_cond (b := (r19.1 != 0)) (by kernel_rfl) (fun hc35 => ?_) (fun hc35 => ?_)
 ·replace h0 := ite_t hc35 h0
  refine gv_seq <| gv_drawA (by kernel_rfl) ?_
  intro w36 hg37
  refine gv_pre [1] (bA 3 [1]) 2 (by kernel_rfl) (by kernel_rfl) ?_
  refine gv_pureN 1 [8] [(8, (.string (strOf [])))] (by kernel_rfl) ?_
  refine gv_nil <| gv_goA ?_
  refine gv_stage (Cls w36 []) [0, 1] [(0, some true)] (bA 3 [0, 1]) 1 (by kernel_rfl) (by kernel_rfl) (Cls.refl _ _) ?_
  have hC38 := Cls.refl w36 []
  have hk39 := hb33.grown hg37 nb
  refine gv_loadBox (t := 24) (b := b25) (t' := 24) (fr := (0, 0)) #[(.int .i64 r19.1), (.int .i64 r19.2)] [] (fun e => by cases e) rfl rfl rfl (by kernel_rfl) (by kernel_rfl) (by kernel_rfl) (by kernel_rfl) (inw1 fun w' hC' => (hC'.box hk39 nm_nil)) rfl ?_
  refine gv_nil <| gv_goA ?_
  refine gv_stage (fun _ => True) [0, 1, 2] [(2, some false)] (bA 3 [0, 1, 2]) 0 (by kernel_rfl) (by kernel_rfl) trivial ?_
  have hg44 := (grown_trans (grown_trans hg9 hg23) hg27)
  have hg45 := (grown_trans hg9 hg23)
  have hk46 := hb4.grown hg45 nb
  have lt47 := ltl ((ltb hk46) _ rfl) ((lowb hbe29) _ rfl)
  have hk48 := ((hb4.grown hg44 nb).grown hg32 (rowne (ng lt47))).grown hg37 nb
  refine gv_store (t := 24) (b := b1) (off := 0) (v := (.agg #[(.int .i64 r19.1), (.int .i64 r19.2)])) (t' := 24) (cs := #[(.int .i64 0), (.int .i64 0)]) #[(.int .i64 r19.1), (.int .i64 r19.2)] (by decide) rfl rfl (by kernel_rfl) (by kernel_rfl) (by kernel_rfl) (by intro u hu; simp [Value.cells] at hu; rcases hu with rfl | rfl <;> rfl) (show 0 + 2 ≤ 2 by decide) (by rfl) hk48 ?_
  intro w40 hg41 hb42 hz43
  refine ⟨(fun _ => trivial), ?_⟩
  refine gv_nil <| gv_goA ?_
  refine gv_stageE (by kernel_rfl) ?_
  refine gv_cret ?_
  have e := sj h0; subst e
  refine gv_ret (gv_done [(.string (strOf [])), (.agg #[(.int .i64 r19.1), (.int .i64 r19.2)])] rfl ⟨(by kernel_rfl), ⟨⟨b1, 0, none⟩, (by kernel_rfl), run_loadVar_row w40 b1 _ 24 _ _ _ hb42 Tryd.underlying24 rfl (by kernel_rfl)⟩, trivial⟩ ?_)
  have hg49 := (grown_trans hg23 hg27)
  have hB50 := bg hB21 hg49 nb
  have hB51 := bg hB21 hg23 nb
  have hlo52 : w0.heap.size ≤ b25 := lob hbe29 hB51.size
  have hB53 := bg hB50 hg32 (rowlo hlo52)
  have hB54 := bg hB53 hg37 nb
  have hlo55 : w0.heap.size ≤ b1 := lob hbe5 hB0.size
  have hB56 := bg hB54 hg41 (rowlo hlo55)
  exact ⟨grown_of_below hB56, rfl⟩
 ·replace h0 := ite_f hc35 h0
  refine gv_skip <| gv_seq <| gv_seq <| gv_region <| gv_pureN 2 [21, 22] [(22, (.bool (old_1.toList == (strOf []).toList)))] (by kernel_rfl) ?_
  refine gv_nil <| gv_cond (b := (old_1.toList == (strOf []).toList)) (by kernel_rfl) (fun hc57 => ?_) (fun hc57 => ?_)
  ·replace h0 := ite_t hc57 h0
   refine gv_seq <| gv_region <| bindE h0 ?_; clear h0; intro r58 hr59 h0
   refine gv_call0 (by kernel_rfl) rfl (by kernel_rfl) enters56 (textstr_at_ok fuel 10 (-2) w31  r58 hr59) ?_
   rintro v62 w60 ⟨hg61, rfl⟩
   clear hr59 hc57 hc35 hz34 hb33 hz30 hb28 hr20 hl14 hB18 ho13 hz12 hbe11 hb10 hz6 hg3
   refine gv_pureN 1 [8] [(8, (.string (strOf [])))] (by kernel_rfl) ?_
   have hg67 := (grown_trans (grown_trans hg9 hg23) hg27)
   have hg68 := (grown_trans hg9 hg23)
   have hk69 := hb4.grown hg68 nb
   have lt70 := ltl ((ltb hk69) _ rfl) ((lowb hbe29) _ rfl)
   have hk71 := ((hb4.grown hg67 nb).grown hg32 (rowne (ng lt70))).grown hg61 nb
   refine gv_store0 24 0 (.agg #[(.int .i64 r58.1), (.int .i64 r58.2)]) #[(.int .i64 r58.1), (.int .i64 r58.2)] hk71 (by kernel_rfl) (by kernel_rfl) (by kernel_rfl) ?_
   intro w63 hg64 hb65 hz66
   refine gv_nil <| gv_cret ?_
   have e := sj h0; subst e
   refine gv_ret (gv_done [(.string (strOf [])), (.agg #[(.int .i64 r58.1), (.int .i64 r58.2)])] rfl ⟨(by kernel_rfl), ⟨⟨b1, 0, none⟩, (by kernel_rfl), run_loadVar_row w63 b1 _ 24 _ _ _ hb65 Tryd.underlying24 rfl (by kernel_rfl)⟩, trivial⟩ ?_)
   have hg72 := (grown_trans hg23 hg27)
   have hB73 := bg hB21 hg72 nb
   have hB74 := bg hB21 hg23 nb
   have hlo75 : w0.heap.size ≤ b25 := lob hbe29 hB74.size
   have hB76 := bg hB73 hg32 (rowlo hlo75)
   have hB77 := bg hB76 hg61 nb
   have hlo78 : w0.heap.size ≤ b1 := lob hbe5 hB0.size
   have hB79 := bg hB77 hg64 (rowlo hlo78)
   exact ⟨grown_of_below hB79, rfl⟩
  ·replace h0 := ite_f hc57 h0
   refine gv_skip <| gv_seq <| gv_region <| gv_pureN 2 [24, 25] [(24, (.string s_0)), (25, (.string old_1))] (by kernel_rfl) ?_
   refine bindE h0 ?_; clear h0; intro r80 hr81 h0
   have hg82 := (grown_trans hg23 hg27)
   have hB83 := bg hB21 hg82 nb
   have hB84 := bg hB21 hg23 nb
   have hlo85 : w0.heap.size ≤ b25 := lob hbe29 hB84.size
   have hB86 := bg hB83 hg32 (rowlo hlo85)
   refine gv_call0 (by kernel_rfl) rfl (by kernel_rfl) enters74 (strings_CountA_ok fuel s_0 old_1 w31 (fun k => X0 k) (fun k hk => (fun k (hk : X0 k) => ltl (hX0 k hk) hB86.size) k hk) ((hG0.below hB86 hX0).wide (fun k hk => hk)) r80 hr81) ?_
   rintro v89 w87 ⟨hg88, rfl⟩
   refine gv_pureN 1 [11] [(11, (.int .i64 r80))] (by kernel_rfl) ?_
   refine gv_sub [0, 1, 2, 3, 9, 11] (σ' := [(0, (.string s_0)), (1, (.string old_1)), (2, (.string with_2)), (3, (.int .i64 most_3)), (9, (bp b1)), (11, (.int .i64 r80))]) (by kernel_rfl) ?_
   refine gv_nil <| gv_seq <| gv_seq <| gv_region <| gv_pureN 2 [27, 28] [(28, (.bool (decide (most_3 ≥ 0))))] (by kernel_rfl) ?_
   refine gv_nil <| bindE h0 ?_; clear h0; intro j90 h1 h0
   refine gv_cut_code (J := fun a w91 => Below w0.heap.size w0 w91 ∧ w87.heap.size ≤ w91.heap.size ∧ Box w91 b1 24 #[(.int .i64 0), (.int .i64 0)] ∧ a.defers = [] ∧ a.tmps.size = 50 ∧ Ok [(0, (.string s_0)), (1, (.string old_1)), (2, (.string with_2)), (9, (bp b1)), (11, (.int .i64 j90))] a.tmps) ?_ ?_
   ·skip
    refine gv_cond (b := (decide (most_3 ≥ 0))) (by kernel_rfl) (fun hc92 => ?_) (fun hc92 => ?_)
    ·replace h1 := ite_t hc92 h1
     refine gv_region <| gv_pureN 4 [11, 29, 30, 31] [(11, (.int .i64 (if most_3 < r80 then most_3 else r80)))] (by kernel_rfl) ?_
     refine gv_nil ?_
     have e := sj h1; subst e
     refine gv_goal fun a hd hs hok => ?_
     have hB93 := bg hB86 hg88 nb
     have hg94 := (grown_trans hg9 hg82)
     have hg95 := (grown_trans hg9 hg23)
     have hk96 := hb4.grown hg95 nb
     have lt97 := ltl ((ltb hk96) _ rfl) ((lowb hbe29) _ rfl)
     have hk98 := ((hb4.grown hg94 nb).grown hg32 (rowne (ng lt97))).grown hg88 nb
     exact ⟨hB93, (Nat.le_refl _), hk98, hd, hs, ok_pick [0, 1, 2, 9, 11] hok (by kernel_rfl)⟩
    ·replace h1 := ite_f hc92 h1
     refine gv_skip ?_
     have e := sj h1; subst e
     refine gv_goal fun a hd hs hok => ?_
     have hB99 := bg hB86 hg88 nb
     have hg100 := (grown_trans hg9 hg82)
     have hg101 := (grown_trans hg9 hg23)
     have hk102 := hb4.grown hg101 nb
     have lt103 := ltl ((ltb hk102) _ rfl) ((lowb hbe29) _ rfl)
     have hk104 := ((hb4.grown hg100 nb).grown hg32 (rowne (ng lt103))).grown hg88 nb
     exact ⟨hB99, (Nat.le_refl _), hk104, hd, hs, ok_pick [0, 1, 2, 9, 11] hok (by kernel_rfl)⟩
   ·rintro a w91 ⟨hB105, hz106, hb107, hd, hs, hok⟩
    refine gv_in ?_ hd hs hok
    clear hd hs hok
    clear hz106 hg88 hB86 hlo85 hB84 hB83 hg82 hr81 hc57 hc35 hz34 hb33 hg32 hz30 hbe29 hb28 hg27 hg23 hB21 hr20 hl14 hB18 ho13 hz12 hbe11 hb10 hg9 hz6 hb4 hg3
    refine gv_seq <| gv_seq <| gv_region <| gv_pureN 11 [32, 33, 34, 35, 36, 37, 38, 39, 40, 41, 42] [(42, (.bool (decide ((IntKind.i64.wrap (((ByteArray.size s_0 : Nat) : Int) + (IntKind.i64.wrap (j90 * (IntKind.i64.wrap (((ByteArray.size with_2 : Nat) : Int) - ((ByteArray.size old_1 : Nat) : Int))))))) > 4000))))] (by kernel_rfl) ?_
    refine gv_nil <| gv_cond (b := (decide ((IntKind.i64.wrap (((ByteArray.size s_0 : Nat) : Int) + (IntKind.i64.wrap (j90 * (IntKind.i64.wrap (((ByteArray.size with_2 : Nat) : Int) - ((ByteArray.size old_1 : Nat) : Int))))))) > 4000))) (by kernel_rfl) (fun hc108 => ?_) (fun hc108 => ?_)
    ·replace h0 := ite_t hc108 h0
     refine gv_seq <| gv_region <| bindE h0 ?_; clear h0; intro r109 hr110 h0
     refine gv_call0 (by kernel_rfl) rfl (by kernel_rfl) enters56 (textstr_at_ok fuel 3 (-1) w91  r109 hr110) ?_
     rintro v113 w111 ⟨hg112, rfl⟩
     refine gv_pureN 1 [8] [(8, (.string (strOf [])))] (by kernel_rfl) ?_
     have hk118 := hb107.grown hg112 nb
     refine gv_store0 24 0 (.agg #[(.int .i64 r109.1), (.int .i64 r109.2)]) #[(.int .i64 r109.1), (.int .i64 r109.2)] hk118 (by kernel_rfl) (by kernel_rfl) (by kernel_rfl) ?_
     intro w114 hg115 hb116 hz117
     refine gv_nil <| gv_cret ?_
     have e := sj h0; subst e
     refine gv_ret (gv_done [(.string (strOf [])), (.agg #[(.int .i64 r109.1), (.int .i64 r109.2)])] rfl ⟨(by kernel_rfl), ⟨⟨b1, 0, none⟩, (by kernel_rfl), run_loadVar_row w114 b1 _ 24 _ _ _ hb116 Tryd.underlying24 rfl (by kernel_rfl)⟩, trivial⟩ ?_)
     have hB119 := bg hB105 hg112 nb
     have hlo120 : w0.heap.size ≤ b1 := lob hbe5 hB0.size
     have hB121 := bg hB119 hg115 (rowlo hlo120)
     exact ⟨grown_of_below hB121, rfl⟩
    ·replace h0 := ite_f hc108 h0
     refine gv_skip <| gv_seq <| gv_region <| gv_pureN 4 [44, 45, 46, 47] [(44, (.string s_0)), (45, (.string old_1)), (46, (.string with_2)), (47, (.int .i64 j90))] (by kernel_rfl) ?_
     refine bindE h0 ?_; clear h0; intro r122 hr123 h0
     refine gv_call0 (by kernel_rfl) rfl (by kernel_rfl) enters78 (strings_Replace_ok fuel s_0 old_1 with_2 j90 w91 (fun k => X0 k ∨ X0 k ∨ X0 k) (fun k hk => (hk).elim (fun h => (fun k (hk : X0 k) => ltl (hX0 k hk) hB105.size) k h) (fun h => (h).elim (fun h => (fun k (hk : X0 k) => ltl (hX0 k hk) hB105.size) k h) (fun h => (fun k (hk : X0 k) => ltl (hX0 k hk) hB105.size) k h))) ((hG0.below hB105 hX0).wide (fun k hk => (.inl hk))) ((hG1.below hB105 hX0).wide (fun k hk => (.inr (.inl hk)))) ((hG2.below hB105 hX0).wide (fun k hk => (.inr (.inr hk)))) r122 hr123) ?_
     rintro v126 w124 ⟨hg125, rfl⟩
     refine gv_pureN 2 [8, 49] [(8, (.string r122)), (49, (.agg #[(.int .i64 0), (.int .i64 0)]))] (by kernel_rfl) ?_
     have hk131 := hb107.grown hg125 nb
     refine gv_store0 24 0 (.agg #[(.int .i64 0), (.int .i64 0)]) #[(.int .i64 0), (.int .i64 0)] hk131 (by kernel_rfl) (by kernel_rfl) (by kernel_rfl) ?_
     intro w127 hg128 hb129 hz130
     refine gv_nil <| gv_cret ?_
     have e := sj h0; subst e
     refine gv_ret (gv_done [(.string r122), (.agg #[(.int .i64 0), (.int .i64 0)])] rfl ⟨(by kernel_rfl), ⟨⟨b1, 0, none⟩, (by kernel_rfl), run_loadVar_row w127 b1 _ 24 _ _ _ hb129 Tryd.underlying24 rfl (by kernel_rfl)⟩, trivial⟩ ?_)
     have hB132 := bg hB105 hg125 nb
     have hlo133 : w0.heap.size ≤ b1 := lob hbe5 hB0.size
     have hB134 := bg hB132 hg128 (rowlo hlo133)
     exact ⟨grown_of_below hB134, rfl⟩

theorem law4_TextstrReplaced_ok (fuel : Nat) (s_0 : ByteArray) (old_1 : ByteArray) (with_2 : ByteArray) (most_3 : Int) (w0 : World) (X0 : Nat → Prop) (hX0 : ∀ k, X0 k → k < w0.heap.size) {gmx : Int} (hG0 : Rd (iE .i64) w0 X0 (some ⟨0, 0, none⟩) 1 [gmx]) (hG1 : Rd bE w0 X0 (some ⟨1, 0, none⟩) 256 utf8First) (hG2 : Rd (prE (iE .u8) (iE .u8)) w0 X0 (some ⟨2, 0, none⟩) 16 utf8Acc) (r0 : Bool) (h0 : law4_TextstrReplaced fuel s_0 old_1 with_2 most_3 = some r0) :
    Calls Tryd.prog 10 ([(.string s_0), (.string old_1), (.string with_2), (.int .i64 most_3)] : List Value).toArray w0 (Ret fun v w' => w0.grownBy w' none ∧ v = tup [(.bool r0)]) := by
 have hB0 : Below w0.heap.size w0 w0 := Below.refl _ _
 unfold law4_TextstrReplaced at h0
 refine calls_run Tryd.func10 rfl Tryd.ntmps10 (by kernel_rfl) ?_
 refine gv_sub [0, 1, 2, 3] (σ' := [(0, (.string s_0)), (1, (.string old_1)), (2, (.string with_2)), (3, (.int .i64 most_3))]) (by kernel_rfl) ?_
 refine gv_seq <| gv_region <| gv_pureN 1 [8] [] (by kernel_rfl) ?_
 refine gv_nil <| gv_seq <| gv_region <| gv_pureN 4 [24, 25, 26, 27] [(24, (.string s_0)), (25, (.string old_1)), (26, (.string with_2)), (27, (.int .i64 most_3))] (by kernel_rfl) ?_
 refine bindE h0 ?_; clear h0; intro r1 hr2 h0
 refine gv_call0 (by kernel_rfl) rfl (by kernel_rfl) enters42 (textstr_Replace_ok fuel s_0 old_1 with_2 most_3 w0 (fun k => X0 k ∨ X0 k ∨ X0 k) (fun k hk => (hk).elim (fun h => (fun k (hk : X0 k) => ltl (hX0 k hk) hB0.size) k h) (fun h => (h).elim (fun h => (fun k (hk : X0 k) => ltl (hX0 k hk) hB0.size) k h) (fun h => (fun k (hk : X0 k) => ltl (hX0 k hk) hB0.size) k h))) ((hG0.below hB0 hX0).wide (fun k hk => (.inl hk))) ((hG1.below hB0 hX0).wide (fun k hk => (.inr (.inl hk)))) ((hG2.below hB0 hX0).wide (fun k hk => (.inr (.inr hk)))) r1 hr2) ?_
 rintro v5 w3 ⟨hg4, rfl⟩
 refine gv_pureN 3 [23, 29, 30] [(29, (.string r1.1)), (30, (.agg #[(.int .i64 r1.2.1), (.int .i64 r1.2.2)]))] (by kernel_rfl) ?_
 refine gv_new0 (fun b => .pointer (some ⟨b, 0, none⟩)) #[(.int .i64 0), (.int .i64 0)] 24 (by kernel_rfl) (by kernel_rfl) ?_
 intro b6 w7 hg8 hb9 hbe10 hz11
 refine gv_pureN 1 [9] [(9, (.string r1.1))] (by kernel_rfl) ?_
 refine gv_store0 24 0 (.agg #[(.int .i64 r1.2.1), (.int .i64 r1.2.2)]) #[(.int .i64 r1.2.1), (.int .i64 r1.2.2)] hb9 (by kernel_rfl) (by kernel_rfl) (by kernel_rfl) ?_
 intro w12 hg13 hb14 hz15
 refine gv_nil <| gv_seq <| gv_seq <| gv_region <| bindE h0 ?_; clear h0; intro r16 hr17 h0
 have hg18 := (grown_trans hg4 hg8)
 have hB19 := bg hB0 hg18 nb
 have hB20 := bg hB0 hg4 nb
 have hlo21 : w0.heap.size ≤ b6 := lob hbe10 hB20.size
 have hB22 := bg hB19 hg13 (rowlo hlo21)
 refine gv_call0 (by kernel_rfl) rfl (by kernel_rfl) enters15 (law4_letters_ok fuel  w12 (fun k => X0 k ∨ X0 k ∨ X0 k) (fun k hk => (hk).elim (fun h => (fun k (hk : X0 k) => ltl (hX0 k hk) hB22.size) k h) (fun h => (h).elim (fun h => (fun k (hk : X0 k) => ltl (hX0 k hk) hB22.size) k h) (fun h => (fun k (hk : X0 k) => ltl (hX0 k hk) hB22.size) k h))) ((hG0.below hB22 hX0).wide (fun k hk => (.inl hk))) ((hG1.below hB22 hX0).wide (fun k hk => (.inr (.inl hk)))) ((hG2.below hB22 hX0).wide (fun k hk => (.inr (.inr hk)))) r16 hr17) ?_
 rintro v25 w23 ⟨hg24, rfl⟩
 refine gv_pureN 1 [32] [(32, (.bool (!r16)))] (by kernel_rfl) ?_
 refine gv_nil <| gv_cond (b := (!r16)) (by kernel_rfl) (fun hc26 => ?_) (fun hc26 => ?_)
 ·replace h0 := ite_t hc26 h0
  refine gv_seq <| gv_region <| gv_pureN 1 [8] [(8, (.bool false))] (by kernel_rfl) ?_
  refine gv_nil <| gv_cret ?_
  have e := sj h0; subst e
  refine gv_ret (gv_done [(.bool false)] rfl ⟨(by kernel_rfl), trivial⟩ ?_)
  have hB27 := bg hB22 hg24 nb
  exact ⟨grown_of_below hB27, rfl⟩
 ·replace h0 := ite_f hc26 h0
  refine gv_skip <| gv_seq <| gv_seq <| gv_region <| gv_pureN 1 [33] [(33, (bp b6))] (by kernel_rfl) ?_
  have hk28 := hb14.grown hg24 nb
  refine gv_load (t := 3) (A := ⟨b6, 0, none⟩) (.int .i64 r1.2.1) [] (fun e => by cases e) rfl rfl rfl (by kernel_rfl) (by kernel_rfl) (by kernel_rfl) (inw0 (hk28.cell 0 rfl)) rfl ?_
  refine gv_pureN 1 [35] [(35, (.bool (r1.2.1 != 0)))] (by kernel_rfl) ?_
  refine gv_nil <| gv_cond (b := (r1.2.1 != 0)) (by kernel_rfl) (fun hc29 => ?_) (fun hc29 => ?_)
  ·replace h0 := ite_t hc29 h0
   refine gv_seq <| gv_region <| gv_pureN 3 [8, 36, 37] [(8, (.bool (r1.1.toList == (strOf []).toList)))] (by kernel_rfl) ?_
   refine gv_nil <| gv_cret ?_
   have e := sj h0; subst e
   refine gv_ret (gv_done [(.bool (r1.1.toList == (strOf []).toList))] rfl ⟨(by kernel_rfl), trivial⟩ ?_)
   have hB30 := bg hB22 hg24 nb
   exact ⟨grown_of_below hB30, rfl⟩
  ·replace h0 := ite_f hc29 h0
   refine gv_skip <| gv_seq <| gv_region <| gv_pureN 3 [39, 40, 41] [(39, (.string s_0)), (40, (.string old_1)), (41, (.int .i64 most_3))] (by kernel_rfl) ?_
   refine bindE h0 ?_; clear h0; intro r31 hr32 h0
   have hB33 := bg hB22 hg24 nb
   refine gv_call0 (by kernel_rfl) rfl (by kernel_rfl) enters46 (textstr_Split_ok fuel s_0 old_1 most_3 w23 (fun k => X0 k ∨ X0 k ∨ X0 k) (fun k hk => (hk).elim (fun h => (fun k (hk : X0 k) => ltl (hX0 k hk) hB33.size) k h) (fun h => (h).elim (fun h => (fun k (hk : X0 k) => ltl (hX0 k hk) hB33.size) k h) (fun h => (fun k (hk : X0 k) => ltl (hX0 k hk) hB33.size) k h))) ((hG0.below hB33 hX0).wide (fun k hk => (.inl hk))) ((hG1.below hB33 hX0).wide (fun k hk => (.inr (.inl hk)))) ((hG2.below hB33 hX0).wide (fun k hk => (.inr (.inr hk)))) r31 hr32) ?_
   rintro v36 w34 ⟨hg35, a37, c38, X40, rfl, ho39, hx41⟩
   have hx42 : ∀ k, X40 k → k < w34.heap.size := fun k hk => (hx41 k hk).1
   have hx43 : ∀ k, X40 k → X0 k ∨ w0.heap.size ≤ k := fun k hk => (hx41 k hk).2.elim (fun h => (h).elim (fun h => (fun k (hk : X0 k) => Or.inl hk) k h) (fun h => (h).elim (fun h => (fun k (hk : X0 k) => Or.inl hk) k h) (fun h => (fun k (hk : X0 k) => Or.inl hk) k h))) (fun h => .inr (Nat.le_trans hB33.size h))
   refine gv_pureN 3 [38, 43, 44] [(43, (.slice a37 (List.length r31.1) c38)), (44, (.agg #[(.int .i64 r31.2.1), (.int .i64 r31.2.2)]))] (by kernel_rfl) ?_
   refine gv_sub [0, 1, 2, 9, 43, 44] (σ' := [(0, (.string s_0)), (1, (.string old_1)), (2, (.string with_2)), (9, (.string r1.1)), (43, (.slice a37 (List.length r31.1) c38)), (44, (.agg #[(.int .i64 r31.2.1), (.int .i64 r31.2.2)]))]) (by kernel_rfl) ?_
   refine gv_new0 (fun b => .pointer (some ⟨b, 0, none⟩)) #[(.int .i64 0), (.int .i64 0)] 24 (by kernel_rfl) (by kernel_rfl) ?_
   intro b44 w45 hg46 hb47 hbe48 hz49
   refine gv_pureN 1 [11] [(11, (.slice a37 (List.length r31.1) c38))] (by kernel_rfl) ?_
   refine gv_store0 24 0 (.agg #[(.int .i64 r31.2.1), (.int .i64 r31.2.2)]) #[(.int .i64 r31.2.1), (.int .i64 r31.2.2)] hb47 (by kernel_rfl) (by kernel_rfl) (by kernel_rfl) ?_
   intro w50 hg51 hb52 hz53
   refine gv_nil <| gv_seq <| gv_seq <| gv_drawA (by kernel_rfl) ?_
   intro w54 hg55
   refine gv_stage (Cls w54 []) [0, 1] [(0, some true), (1, some false)] (bA 3 [0, 1]) 1 (by kernel_rfl) (by kernel_rfl) (Cls.refl _ _) ?_
   have hC56 := Cls.refl w54 []
   clear hz53 hz49 hb47 hx41 hr32 hc29 hc26 hg24 hB22 hB20 hB19 hg18 hr17 hz15 hb14 hg13 hz11 hbe10 hb9 hg8 hg4 hr2
   have hk57 := hb52.grown hg55 nb
   refine gv_loadBox (t := 24) (b := b44) (t' := 24) (fr := (0, 0)) #[(.int .i64 r31.2.1), (.int .i64 r31.2.2)] [] (fun e => by cases e) rfl rfl rfl (by kernel_rfl) (by kernel_rfl) (by kernel_rfl) (by kernel_rfl) (inw1 fun w' hC' => (hC'.box hk57 nm_nil)) rfl ?_
   refine bindE h0 ?_; clear h0; intro r58 hr59 h0
   refine gv_call (f := 29) (vs := [(.int .i64 2), (.int .i64 (-1))]) (cap := []) _ (by decide) rfl rfl rfl (by kernel_rfl) (by kernel_rfl) enters29 (ref4_At_ok fuel 2 (-1) w54  r58 hr59) ?_
   rintro v62 w60 ⟨hg61, rfl⟩
   refine ⟨(fun _ => hC56.grown hg61 nb), ?_⟩
   refine gv_nil <| gv_goA ?_
   refine gv_pre [2] (bA 3 [0, 1, 2]) 0 (by kernel_rfl) (by kernel_rfl) ?_
   refine gv_eqs (t := 24) (op := .eql) (x := (.tmp 45)) (y := (.tmp 46)) (xs := #[(.int .i64 r31.2.1), (.int .i64 r31.2.2)]) (ys := #[(.int .i64 r58.1), (.int .i64 r58.2)]) ((r31.2.1 == r58.1) && (r31.2.2 == r58.2)) [] (fun e => by cases e) rfl rfl rfl (by kernel_rfl) (by kernel_rfl) (fun w' => eqs24eql r31.2.1 r31.2.2 r58.1 r58.2 _ _ w') rfl ?_
   refine gv_nil <| gv_goA ?_
   refine gv_stageE (by kernel_rfl) ?_
   refine gv_cond (b := ((r31.2.1 == r58.1) && (r31.2.2 == r58.2))) (by kernel_rfl) (fun hc63 => ?_) (fun hc63 => ?_)
   ·replace h0 := ite_t hc63 h0
    refine gv_seq <| gv_region <| gv_pureN 1 [8] [(8, (.bool true))] (by kernel_rfl) ?_
    refine gv_nil <| gv_cret ?_
    have e := sj h0; subst e
    refine gv_ret (gv_done [(.bool true)] rfl ⟨(by kernel_rfl), trivial⟩ ?_)
    have hg64 := (grown_trans hg35 hg46)
    have hB65 := bg hB33 hg64 nb
    have hB66 := bg hB33 hg35 nb
    have hlo67 : w0.heap.size ≤ b44 := lob hbe48 hB66.size
    have hB68 := bg hB65 hg51 (rowlo hlo67)
    have hg69 := (grown_trans hg55 hg61)
    have hB70 := bg hB68 hg69 nb
    exact ⟨grown_of_below hB70, rfl⟩
   ·replace h0 := ite_f hc63 h0
    refine gv_skip <| gv_seq <| gv_region <| gv_pureN 2 [49, 50] [(49, (.slice a37 (List.length r31.1) c38)), (50, (.string with_2))] (by kernel_rfl) ?_
    refine bindE h0 ?_; clear h0; intro r71 hr72 h0
    have hg73 := (grown_trans hg55 hg61)
    have hx74 := ltx (ltx (ltx hx42 hg46.size) hg51.size) hg73.size
    have hg75 := (grown_trans hg35 hg46)
    have hB76 := bg hB33 hg75 nb
    have hB77 := bg hB33 hg35 nb
    have hlo78 : w0.heap.size ≤ b44 := lob hbe48 hB77.size
    have hB79 := bg hB76 hg51 (rowlo hlo78)
    have hB80 := bg hB79 hg73 nb
    have ap81 : ¬ X40 b44 := fun hx => nl ((lowb hbe48) _ rfl) (hx42 _ hx)
    have hx82 := ltx hx42 hg46.size
    have hx83 := ltx hx82 hg51.size
    have hk84 := ((ho39.grown hg46 hx42 nb).grown hg51 hx82 (rowne ap81)).grown hg73 hx83 nb
    refine gv_call0 (by kernel_rfl) rfl (by kernel_rfl) enters41 (textstr_Join_ok fuel a37 c38 r31.1 with_2 w60 (fun k => X40 k ∨ X0 k ∨ X0 k) (fun k hk => (hk).elim (fun h => hx74 k h) (fun h => (h).elim (fun h => (fun k (hk : X0 k) => ltl (hX0 k hk) hB80.size) k h) (fun h => (fun k (hk : X0 k) => ltl (hX0 k hk) hB80.size) k h))) (hk84.wide (fun k hk => (.inl hk))) ((hG1.below hB80 hX0).wide (fun k hk => (.inr (.inl hk)))) ((hG2.below hB80 hX0).wide (fun k hk => (.inr (.inr hk)))) r71 hr72) ?_
    rintro v87 w85 ⟨hg86, rfl⟩
    refine gv_pureN 3 [48, 52, 53] [(52, (.string r71.1)), (53, (.agg #[(.int .i64 r71.2.1), (.int .i64 r71.2.2)]))] (by kernel_rfl) ?_
    refine gv_new0 (fun b => .pointer (some ⟨b, 0, none⟩)) #[(.int .i64 0), (.int .i64 0)] 24 (by kernel_rfl) (by kernel_rfl) ?_
    intro b88 w89 hg90 hb91 hbe92 hz93
    refine gv_pureN 1 [13] [(13, (.string r71.1))] (by kernel_rfl) ?_
    refine gv_store0 24 0 (.agg #[(.int .i64 r71.2.1), (.int .i64 r71.2.2)]) #[(.int .i64 r71.2.1), (.int .i64 r71.2.2)] hb91 (by kernel_rfl) (by kernel_rfl) (by kernel_rfl) ?_
    intro w94 hg95 hb96 hz97
    refine gv_nil <| gv_seq <| gv_region <| gv_pureN 1 [55] [(55, (.string s_0))] (by kernel_rfl) ?_
    refine bindE h0 ?_; clear h0; intro r98 hr99 h0
    have hg100 := (grown_trans hg86 hg90)
    have hB101 := bg hB80 hg100 nb
    have hB102 := bg hB80 hg86 nb
    have hlo103 : w0.heap.size ≤ b88 := lob hbe92 hB102.size
    have hB104 := bg hB101 hg95 (rowlo hlo103)
    refine gv_call0 (by kernel_rfl) rfl (by kernel_rfl) enters17 (textstr_Length_ok fuel s_0 w94 (fun k => X0 k ∨ X0 k) (fun k hk => (hk).elim (fun h => (fun k (hk : X0 k) => ltl (hX0 k hk) hB104.size) k h) (fun h => (fun k (hk : X0 k) => ltl (hX0 k hk) hB104.size) k h)) ((hG1.below hB104 hX0).wide (fun k hk => (.inl hk))) ((hG2.below hB104 hX0).wide (fun k hk => (.inr hk))) r98 hr99) ?_
    rintro v107 w105 ⟨hg106, rfl⟩
    refine gv_pureN 3 [54, 57, 58] [(57, (.int .i64 r98.1)), (58, (.agg #[(.int .i64 r98.2.1), (.int .i64 r98.2.2)]))] (by kernel_rfl) ?_
    refine gv_sub [1, 2, 9, 11, 12, 13, 14, 57, 58] (σ' := [(1, (.string old_1)), (2, (.string with_2)), (9, (.string r1.1)), (11, (.slice a37 (List.length r31.1) c38)), (12, (bp b44)), (13, (.string r71.1)), (14, (bp b88)), (57, (.int .i64 r98.1)), (58, (.agg #[(.int .i64 r98.2.1), (.int .i64 r98.2.2)]))]) (by kernel_rfl) ?_
    refine gv_new0 (fun b => .pointer (some ⟨b, 0, none⟩)) #[(.int .i64 0), (.int .i64 0)] 24 (by kernel_rfl) (by kernel_rfl) ?_
    intro b108 w109 hg110 hb111 hbe112 hz113
    refine gv_pureN 1 [15] [(15, (.int .i64 r98.1))] (by kernel_rfl) ?_
    refine gv_store0 24 0 (.agg #[(.int .i64 r98.2.1), (.int .i64 r98.2.2)]) #[(.int .i64 r98.2.1), (.int .i64 r98.2.2)] hb111 (by kernel_rfl) (by kernel_rfl) (by kernel_rfl) ?_
    intro w114 hg115 hb116 hz117
    refine gv_nil <| gv_seq <| gv_region <| gv_pureN 1 [60] [(60, (.string r1.1))] (by kernel_rfl) ?_
    refine bindE h0 ?_; clear h0; intro r118 hr119 h0
    have hg120 := (grown_trans hg106 hg110)
    have hB121 := bg hB104 hg120 nb
    have hB122 := bg hB104 hg106 nb
    have hlo123 : w0.heap.size ≤ b108 := lob hbe112 hB122.size
    have hB124 := bg hB121 hg115 (rowlo hlo123)
    refine gv_call0 (by kernel_rfl) rfl (by kernel_rfl) enters17 (textstr_Length_ok fuel r1.1 w114 (fun k => X0 k ∨ X0 k) (fun k hk => (hk).elim (fun h => (fun k (hk : X0 k) => ltl (hX0 k hk) hB124.size) k h) (fun h => (fun k (hk : X0 k) => ltl (hX0 k hk) hB124.size) k h)) ((hG1.below hB124 hX0).wide (fun k hk => (.inl hk))) ((hG2.below hB124 hX0).wide (fun k hk => (.inr hk))) r118 hr119) ?_
    rintro v127 w125 ⟨hg126, rfl⟩
    have hz128 := (nt (nt (nt (nt (nt (nt hg86.size hg90.size) hg95.size) hg106.size) hg110.size) hg115.size) hg126.size)
    clear hB122 hB121 hg120 hr119 hz117 hz113 hb111 hB104 hB102 hB101 hg100 hr99 hz97 hz93 hb91 hx83 hx82 hB80 hB79 hB77 hB76 hg75 hg73 hr72 hc63 hr59 hC56 hg55 hb52 hg51 hbe48 hg46 hx42 ho39 hg35 hB33 hk28 hlo21
    refine gv_pureN 3 [59, 62, 63] [(62, (.int .i64 r118.1)), (63, (.agg #[(.int .i64 r118.2.1), (.int .i64 r118.2.2)]))] (by kernel_rfl) ?_
    refine gv_new0 (fun b => .pointer (some ⟨b, 0, none⟩)) #[(.int .i64 0), (.int .i64 0)] 24 (by kernel_rfl) (by kernel_rfl) ?_
    intro b129 w130 hg131 hb132 hbe133 hz134
    refine gv_pureN 1 [17] [(17, (.int .i64 r118.1))] (by kernel_rfl) ?_
    refine gv_store0 24 0 (.agg #[(.int .i64 r118.2.1), (.int .i64 r118.2.2)]) #[(.int .i64 r118.2.1), (.int .i64 r118.2.2)] hb132 (by kernel_rfl) (by kernel_rfl) (by kernel_rfl) ?_
    intro w135 hg136 hb137 hz138
    refine gv_nil <| gv_seq <| gv_region <| gv_pureN 1 [65] [(65, (.string old_1))] (by kernel_rfl) ?_
    refine bindE h0 ?_; clear h0; intro r139 hr140 h0
    have hg141 := (grown_trans hg126 hg131)
    have hB142 := bg hB124 hg141 nb
    have hB143 := bg hB124 hg126 nb
    have hlo144 : w0.heap.size ≤ b129 := lob hbe133 hB143.size
    have hB145 := bg hB142 hg136 (rowlo hlo144)
    refine gv_call0 (by kernel_rfl) rfl (by kernel_rfl) enters17 (textstr_Length_ok fuel old_1 w135 (fun k => X0 k ∨ X0 k) (fun k hk => (hk).elim (fun h => (fun k (hk : X0 k) => ltl (hX0 k hk) hB145.size) k h) (fun h => (fun k (hk : X0 k) => ltl (hX0 k hk) hB145.size) k h)) ((hG1.below hB145 hX0).wide (fun k hk => (.inl hk))) ((hG2.below hB145 hX0).wide (fun k hk => (.inr hk))) r139 hr140) ?_
    rintro v148 w146 ⟨hg147, rfl⟩
    refine gv_pureN 3 [64, 67, 68] [(67, (.int .i64 r139.1)), (68, (.agg #[(.int .i64 r139.2.1), (.int .i64 r139.2.2)]))] (by kernel_rfl) ?_
    refine gv_new0 (fun b => .pointer (some ⟨b, 0, none⟩)) #[(.int .i64 0), (.int .i64 0)] 24 (by kernel_rfl) (by kernel_rfl) ?_
    intro b149 w150 hg151 hb152 hbe153 hz154
    refine gv_pureN 1 [19] [(19, (.int .i64 r139.1))] (by kernel_rfl) ?_
    refine gv_sub [2, 9, 11, 12, 13, 14, 15, 16, 17, 18, 19, 20, 68] (σ' := [(2, (.string with_2)), (9, (.string r1.1)), (11, (.slice a37 (List.length r31.1) c38)), (12, (bp b44)), (13, (.string r71.1)), (14, (bp b88)), (15, (.int .i64 r98.1)), (16, (bp b108)), (17, (.int .i64 r118.1)), (18, (bp b129)), (19, (.int .i64 r139.1)), (20, (bp b149)), (68, (.agg #[(.int .i64 r139.2.1), (.int .i64 r139.2.2)]))]) (by kernel_rfl) ?_
    refine gv_store0 24 0 (.agg #[(.int .i64 r139.2.1), (.int .i64 r139.2.2)]) #[(.int .i64 r139.2.1), (.int .i64 r139.2.2)] hb152 (by kernel_rfl) (by kernel_rfl) (by kernel_rfl) ?_
    intro w155 hg156 hb157 hz158
    refine gv_nil <| gv_seq <| gv_region <| gv_pureN 1 [70] [(70, (.string with_2))] (by kernel_rfl) ?_
    refine bindE h0 ?_; clear h0; intro r159 hr160 h0
    have hg161 := (grown_trans hg147 hg151)
    have hB162 := bg hB145 hg161 nb
    have hB163 := bg hB145 hg147 nb
    have hlo164 : w0.heap.size ≤ b149 := lob hbe153 hB163.size
    have hB165 := bg hB162 hg156 (rowlo hlo164)
    refine gv_call0 (by kernel_rfl) rfl (by kernel_rfl) enters17 (textstr_Length_ok fuel with_2 w155 (fun k => X0 k ∨ X0 k) (fun k hk => (hk).elim (fun h => (fun k (hk : X0 k) => ltl (hX0 k hk) hB165.size) k h) (fun h => (fun k (hk : X0 k) => ltl (hX0 k hk) hB165.size) k h)) ((hG1.below hB165 hX0).wide (fun k hk => (.inl hk))) ((hG2.below hB165 hX0).wide (fun k hk => (.inr hk))) r159 hr160) ?_
    rintro v168 w166 ⟨hg167, rfl⟩
    refine gv_pureN 3 [69, 72, 73] [(72, (.int .i64 r159.1)), (73, (.agg #[(.int .i64 r159.2.1), (.int .i64 r159.2.2)]))] (by kernel_rfl) ?_
    refine gv_new0 (fun b => .pointer (some ⟨b, 0, none⟩)) #[(.int .i64 0), (.int .i64 0)] 24 (by kernel_rfl) (by kernel_rfl) ?_
    intro b169 w170 hg171 hb172 hbe173 hz174
    refine gv_pureN 1 [21] [(21, (.int .i64 r159.1))] (by kernel_rfl) ?_
    refine gv_store0 24 0 (.agg #[(.int .i64 r159.2.1), (.int .i64 r159.2.2)]) #[(.int .i64 r159.2.1), (.int .i64 r159.2.2)] hb172 (by kernel_rfl) (by kernel_rfl) (by kernel_rfl) ?_
    intro w175 hg176 hb177 hz178
    have hz179 := (nt (nt (nt (nt (nt (nt (nt (nt hz128 hg131.size) hg136.size) hg147.size) hg151.size) hg156.size) hg167.size) hg171.size) hg176.size)
    clear hz178 hz174 hb172 hB163 hB162 hg161 hr160 hz158 hz154 hb152 hB145 hB143 hB142 hg141 hr140 hz138 hz134 hb132 hB124
    refine gv_nil <| gv_seq <| gv_region <| bindE h0 ?_; clear h0; intro j180 h1 h0
    refine gv_cut_ops (J := fun a w181 => Below w0.heap.size w0 w181 ∧ w175.heap.size ≤ w181.heap.size ∧ a.defers = [] ∧ a.tmps.size = 120 ∧ Ok [(8, (.bool j180))] a.tmps) ?_ ?_
    ·skip
     refine gv_pureN 1 [74] [(74, (bp b44))] (by kernel_rfl) ?_
     have hg182 := (grown_trans (grown_trans hg61 hg86) hg90)
     have hg183 := (grown_trans hg61 hg86)
     have hk184 := hk57.grown hg183 nb
     have lt185 := ltl ((ltb hk184) _ rfl) ((lowb hbe92) _ rfl)
     have hg186 := (grown_trans hg106 hg110)
     have hk187 := hb96.grown hg106 nb
     have lt188 := ltl ((ltb hk187) _ rfl) ((lowb hbe112) _ rfl)
     have lt189 := ltt lt185 lt188
     have hg190 := (grown_trans hg126 hg131)
     have hk191 := hb116.grown hg126 nb
     have lt192 := ltl ((ltb hk191) _ rfl) ((lowb hbe133) _ rfl)
     have lt193 := ltt lt189 lt192
     have hg194 := (grown_trans hg147 hg151)
     have hk195 := hb137.grown hg147 nb
     have lt196 := ltl ((ltb hk195) _ rfl) ((lowb hbe153) _ rfl)
     have lt197 := ltt lt193 lt196
     have hg198 := (grown_trans hg167 hg171)
     have hk199 := hb157.grown hg167 nb
     have lt200 := ltl ((ltb hk199) _ rfl) ((lowb hbe173) _ rfl)
     have lt201 := ltt lt197 lt200
     have hk202 := (((((((((hk57.grown hg182 nb).grown hg95 (rowne (ng lt185))).grown hg186 nb).grown hg115 (rowne (ng lt189))).grown hg190 nb).grown hg136 (rowne (ng lt193))).grown hg194 nb).grown hg156 (rowne (ng lt197))).grown hg198 nb).grown hg176 (rowne (ng lt201))
     refine gv_load (t := 3) (A := ⟨b44, 0, none⟩) (.int .i64 r31.2.1) [] (fun e => by cases e) rfl rfl rfl (by kernel_rfl) (by kernel_rfl) (by kernel_rfl) (inw0 (hk202.cell 0 rfl)) rfl ?_
     refine gv_pureN 2 [76, 77] [(77, (.bool (r31.2.1 == 0)))] (by kernel_rfl) ?_
     refine gv_split (s := 77) (g := (r31.2.1 == 0)) (by kernel_rfl) (fun hc203 => ?_) (fun hc203 => ?_)
     ·skip
      replace h1 := ite_t hc203 h1
      refine gv_pureN 1 [78] [(78, (bp b88))] (by kernel_rfl) ?_
      have lt204 := ltt lt188 lt192
      have lt205 := ltt lt204 lt196
      have lt206 := ltt lt205 lt200
      have hk207 := (((((((hk187.grown hg110 nb).grown hg115 (rowne (ng lt188))).grown hg190 nb).grown hg136 (rowne (ng lt204))).grown hg194 nb).grown hg156 (rowne (ng lt205))).grown hg198 nb).grown hg176 (rowne (ng lt206))
      refine gv_load (t := 3) (A := ⟨b88, 0, none⟩) (.int .i64 r71.2.1) [] (fun e => by cases e) rfl rfl rfl (by kernel_rfl) (by kernel_rfl) (by kernel_rfl) (inw0 (hk207.cell 0 rfl)) rfl ?_
      refine gv_pureN 3 [80, 81, 82] [(82, (.bool (r71.2.1 == 0)))] (by kernel_rfl) ?_
      refine gv_split (s := 82) (g := (r71.2.1 == 0)) (by kernel_rfl) (fun hc208 => ?_) (fun hc208 => ?_)
      ·skip
       replace h1 := ite_t hc208 h1
       refine gv_pureN 1 [83] [(83, (bp b108))] (by kernel_rfl) ?_
       refine gv_sub [9, 11, 13, 15, 17, 18, 19, 20, 21, 22, 82, 83] (σ' := [(9, (.string r1.1)), (11, (.slice a37 (List.length r31.1) c38)), (13, (.string r71.1)), (15, (.int .i64 r98.1)), (17, (.int .i64 r118.1)), (18, (bp b129)), (19, (.int .i64 r139.1)), (20, (bp b149)), (21, (.int .i64 r159.1)), (22, (bp b169)), (82, (.bool true)), (83, (bp b108))]) (by kernel_rfl) ?_
       have lt209 := ltt lt192 lt196
       have lt210 := ltt lt209 lt200
       have hk211 := (((((hk191.grown hg131 nb).grown hg136 (rowne (ng lt192))).grown hg194 nb).grown hg156 (rowne (ng lt209))).grown hg198 nb).grown hg176 (rowne (ng lt210))
       refine gv_load (t := 3) (A := ⟨b108, 0, none⟩) (.int .i64 r98.2.1) [] (fun e => by cases e) rfl rfl rfl (by kernel_rfl) (by kernel_rfl) (by kernel_rfl) (inw0 (hk211.cell 0 rfl)) rfl ?_
       refine gv_pureN 3 [85, 86, 87] [(87, (.bool (r98.2.1 == 0)))] (by kernel_rfl) ?_
       refine gv_split (s := 87) (g := (r98.2.1 == 0)) (by kernel_rfl) (fun hc212 => ?_) (fun hc212 => ?_)
       ·skip
        replace h1 := ite_t hc212 h1
        refine gv_pureN 1 [88] [(88, (bp b129))] (by kernel_rfl) ?_
        have lt213 := ltt lt196 lt200
        have hk214 := (((hk195.grown hg151 nb).grown hg156 (rowne (ng lt196))).grown hg198 nb).grown hg176 (rowne (ng lt213))
        refine gv_load (t := 3) (A := ⟨b129, 0, none⟩) (.int .i64 r118.2.1) [] (fun e => by cases e) rfl rfl rfl (by kernel_rfl) (by kernel_rfl) (by kernel_rfl) (inw0 (hk214.cell 0 rfl)) rfl ?_
        refine gv_pureN 3 [90, 91, 92] [(92, (.bool (r118.2.1 == 0)))] (by kernel_rfl) ?_
        refine gv_split (s := 92) (g := (r118.2.1 == 0)) (by kernel_rfl) (fun hc215 => ?_) (fun hc215 => ?_)
        ·skip
         replace h1 := ite_t hc215 h1
         refine gv_pureN 1 [93] [(93, (bp b149))] (by kernel_rfl) ?_
         have hk216 := (hk199.grown hg171 nb).grown hg176 (rowne (ng lt200))
         refine gv_load (t := 3) (A := ⟨b149, 0, none⟩) (.int .i64 r139.2.1) [] (fun e => by cases e) rfl rfl rfl (by kernel_rfl) (by kernel_rfl) (by kernel_rfl) (inw0 (hk216.cell 0 rfl)) rfl ?_
         refine gv_pureN 3 [95, 96, 97] [(97, (.bool (r139.2.1 == 0)))] (by kernel_rfl) ?_
         refine gv_split (s := 97) (g := (r139.2.1 == 0)) (by kernel_rfl) (fun hc217 => ?_) (fun hc217 => ?_)
         ·skip
          replace h1 := ite_t hc217 h1
          refine gv_pureN 1 [98] [(98, (bp b169))] (by kernel_rfl) ?_
          refine gv_load (t := 3) (A := ⟨b169, 0, none⟩) (.int .i64 r159.2.1) [] (fun e => by cases e) rfl rfl rfl (by kernel_rfl) (by kernel_rfl) (by kernel_rfl) (inw0 (hb177.cell 0 rfl)) rfl ?_
          refine gv_pureN 3 [100, 101, 102] [(102, (.bool (r159.2.1 == 0)))] (by kernel_rfl) ?_
          refine gv_split (s := 102) (g := (r159.2.1 == 0)) (by kernel_rfl) (fun hc218 => ?_) (fun hc218 => ?_)
          ·skip
           replace h1 := ite_t hc218 h1
           refine gv_pureN 5 [103, 104, 105, 106, 107] [(107, (.bool (r1.1.toList == r71.1.toList)))] (by kernel_rfl) ?_
           refine gv_split (s := 107) (g := (r1.1.toList == r71.1.toList)) (by kernel_rfl) (fun hc219 => ?_) (fun hc219 => ?_)
           ·skip
            replace h1 := ite_t hc219 h1
            refine gv_pureN 13 [8, 108, 109, 110, 111, 112, 113, 114, 115, 116, 117, 118, 119] [(8, (.bool ((IntKind.i64.wrap (r118.1 - r98.1)) == (IntKind.i64.wrap ((IntKind.i64.wrap (((List.length r31.1 : Nat) : Int) - 1)) * (IntKind.i64.wrap (r159.1 - r139.1)))))))] (by kernel_rfl) ?_
            refine bindE h1 ?_; clear h1; intro n220 hn221 h1
            refine gv_name (s := 8) (v := (.bool ((IntKind.i64.wrap (r118.1 - r98.1)) == (IntKind.i64.wrap ((IntKind.i64.wrap (((List.length r31.1 : Nat) : Int) - 1)) * (IntKind.i64.wrap (r159.1 - r139.1))))))) (v' := (.bool n220)) (by kernel_rfl) (congrArg (Value.bool) (sj hn221)) ?_
            refine gv_nil ?_
            have e := sj h1; subst e
            refine gv_goal fun a hd hs hok => ?_
            have hB222 := bg hB165 hg198 nb
            have hB223 := bg hB165 hg167 nb
            have hlo224 : w0.heap.size ≤ b169 := lob hbe173 hB223.size
            have hB225 := bg hB222 hg176 (rowlo hlo224)
            exact ⟨hB225, (Nat.le_refl _), hd, hs, ok_pick [8] hok (by kernel_rfl)⟩
           ·skip
            replace h1 := ite_f hc219 h1
            refine gv_pureN 13 [8, 108, 109, 110, 111, 112, 113, 114, 115, 116, 117, 118, 119] [(8, (.bool false))] (by kernel_rfl) ?_
            refine gv_nil ?_
            have e := sj h1; subst e
            refine gv_goal fun a hd hs hok => ?_
            have hB226 := bg hB165 hg198 nb
            have hB227 := bg hB165 hg167 nb
            have hlo228 : w0.heap.size ≤ b169 := lob hbe173 hB227.size
            have hB229 := bg hB226 hg176 (rowlo hlo228)
            exact ⟨hB229, (Nat.le_refl _), hd, hs, ok_pick [8] hok (by kernel_rfl)⟩
          ·skip
           replace h1 := ite_f hc218 h1
           refine gv_pureN 18 [8, 103, 104, 105, 106, 107, 108, 109, 110, 111, 112, 113, 114, 115, 116, 117, 118, 119] [(8, (.bool false))] (by kernel_rfl) ?_
           refine gv_nil ?_
           have e := sj h1; subst e
           refine gv_goal fun a hd hs hok => ?_
           have hB230 := bg hB165 hg198 nb
           have hB231 := bg hB165 hg167 nb
           have hlo232 : w0.heap.size ≤ b169 := lob hbe173 hB231.size
           have hB233 := bg hB230 hg176 (rowlo hlo232)
           exact ⟨hB233, (Nat.le_refl _), hd, hs, ok_pick [8] hok (by kernel_rfl)⟩
         ·skip
          replace h1 := ite_f hc217 h1
          refine gv_pureN 23 [8, 98, 99, 100, 101, 102, 103, 104, 105, 106, 107, 108, 109, 110, 111, 112, 113, 114, 115, 116, 117, 118, 119] [(8, (.bool false))] (by kernel_rfl) ?_
          refine gv_nil ?_
          have e := sj h1; subst e
          refine gv_goal fun a hd hs hok => ?_
          have hB234 := bg hB165 hg198 nb
          have hB235 := bg hB165 hg167 nb
          have hlo236 : w0.heap.size ≤ b169 := lob hbe173 hB235.size
          have hB237 := bg hB234 hg176 (rowlo hlo236)
          exact ⟨hB237, (Nat.le_refl _), hd, hs, ok_pick [8] hok (by kernel_rfl)⟩
        ·skip
         replace h1 := ite_f hc215 h1
         refine gv_pureN 28 [8, 93, 94, 95, 96, 97, 98, 99, 100, 101, 102, 103, 104, 105, 106, 107, 108, 109, 110, 111, 112, 113, 114, 115, 116, 117, 118, 119] [(8, (.bool false))] (by kernel_rfl) ?_
         refine gv_nil ?_
         have e := sj h1; subst e
         refine gv_goal fun a hd hs hok => ?_
         have hB238 := bg hB165 hg198 nb
         have hB239 := bg hB165 hg167 nb
         have hlo240 : w0.heap.size ≤ b169 := lob hbe173 hB239.size
         have hB241 := bg hB238 hg176 (rowlo hlo240)
         exact ⟨hB241, (Nat.le_refl _), hd, hs, ok_pick [8] hok (by kernel_rfl)⟩
       ·skip
        replace h1 := ite_f hc212 h1
        refine gv_pureN 33 [8, 88, 89, 90, 91, 92, 93, 94, 95, 96, 97, 98, 99, 100, 101, 102, 103, 104, 105, 106, 107, 108, 109, 110, 111, 112, 113, 114, 115, 116, 117, 118, 119] [(8, (.bool false))] (by kernel_rfl) ?_
        refine gv_nil ?_
        have e := sj h1; subst e
        refine gv_goal fun a hd hs hok => ?_
        have hB242 := bg hB165 hg198 nb
        have hB243 := bg hB165 hg167 nb
        have hlo244 : w0.heap.size ≤ b169 := lob hbe173 hB243.size
        have hB245 := bg hB242 hg176 (rowlo hlo244)
        exact ⟨hB245, (Nat.le_refl _), hd, hs, ok_pick [8] hok (by kernel_rfl)⟩
      ·skip
       replace h1 := ite_f hc208 h1
       refine gv_pureN 38 [8, 83, 84, 85, 86, 87, 88, 89, 90, 91, 92, 93, 94, 95, 96, 97, 98, 99, 100, 101, 102, 103, 104, 105, 106, 107, 108, 109, 110, 111, 112, 113, 114, 115, 116, 117, 118, 119] [(8, (.bool false))] (by kernel_rfl) ?_
       refine gv_sub [8] (σ' := [(8, (.bool false))]) (by kernel_rfl) ?_
       refine gv_nil ?_
       have e := sj h1; subst e
       refine gv_goal fun a hd hs hok => ?_
       have hB246 := bg hB165 hg198 nb
       have hB247 := bg hB165 hg167 nb
       have hlo248 : w0.heap.size ≤ b169 := lob hbe173 hB247.size
       have hB249 := bg hB246 hg176 (rowlo hlo248)
       exact ⟨hB249, (Nat.le_refl _), hd, hs, ok_pick [8] hok (by kernel_rfl)⟩
     ·skip
      replace h1 := ite_f hc203 h1
      refine gv_pureN 43 [8, 78, 79, 80, 81, 82, 83, 84, 85, 86, 87, 88, 89, 90, 91, 92, 93, 94, 95, 96, 97, 98, 99, 100, 101, 102, 103, 104, 105, 106, 107, 108, 109, 110, 111, 112, 113, 114, 115, 116, 117, 118, 119] [(8, (.bool false))] (by kernel_rfl) ?_
      refine gv_nil ?_
      have e := sj h1; subst e
      refine gv_goal fun a hd hs hok => ?_
      have hB250 := bg hB165 hg198 nb
      have hB251 := bg hB165 hg167 nb
      have hlo252 : w0.heap.size ≤ b169 := lob hbe173 hB251.size
      have hB253 := bg hB250 hg176 (rowlo hlo252)
      exact ⟨hB253, (Nat.le_refl _), hd, hs, ok_pick [8] hok (by kernel_rfl)⟩
    ·rintro a w181 ⟨hB254, hz255, hd, hs, hok⟩
     refine gv_in ?_ hd hs hok
     clear hd hs hok
     have hz256 := (nt hz179 hz255)
     clear hz255 hz179 hb177 hg176 hg171 hB165 hlo164 hb157 hlo144 hb137 hg126 hlo123 hb116 hg115 hg110 hlo103 hb96 ap81
     refine gv_cret ?_
     have e := sj h0; subst e
     refine gv_ret (gv_done [(.bool j180)] rfl ⟨(by kernel_rfl), trivial⟩ ?_)
     exact ⟨grown_of_below hB254, rfl⟩

end Go.Proofs.YtkmcegicngjhbaaDoor
