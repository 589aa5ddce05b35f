import Derived.Test.YtkmcegicngjhbaaGreatDoorP0
set_option linter.all false
set_option maxHeartbeats 4000000
set_option maxRecDepth 100000
/- Own work, printed by a program of mine: the walk of each function: a call returns what the plain function says. -/
namespace Go.Proofs.YtkmcegicngjhbaaGreatDoor
open Go.Gv Go.Gv.D Go.RowKit
theorem slicing_Take_rune_ok (fuel : Nat) (pa0_0 : Option Addr) (pc0_0 : Nat) (l_0 : (List Int)) (pa1_0 : Option Addr) (pc1_0 : Nat) (pa1_1 : Option Addr) (pc1_1 : Nat) (pa1_2 : Option Addr) (pc1_2 : Nat) (s_1 : ((Bool × (List Int)) × (Bool × (List Int)) × (Bool × (List Int)) × Bool × Bool × Bool)) (w0 : World) (X0 : Nat → Prop) (hX0 : ∀ k, X0 k → k < w0.heap.size) (hpa0_0 : Rd (iE .i32) w0 X0 pa0_0 pc0_0 l_0) (hpa1_0 : Rd (iE .u32) w0 X0 pa1_0 pc1_0 s_1.1.2) (hpa1_1 : Rd (iE .u32) w0 X0 pa1_1 pc1_1 s_1.2.1.2) (hpa1_2 : Rd (iE .u32) w0 X0 pa1_2 pc1_2 s_1.2.2.1.2) (r0 : ((List Int) × (Int × Int))) (h0 : slicing_Take_rune fuel l_0 s_1 = some r0) :
    Calls Tryz.prog 25 ([(.slice pa0_0 (List.length l_0) pc0_0), (.agg #[(.bool s_1.1.1), (.slice pa1_0 (List.length s_1.1.2) pc1_0), (.bool s_1.2.1.1), (.slice pa1_1 (List.length s_1.2.1.2) pc1_1), (.bool s_1.2.2.1.1), (.slice pa1_2 (List.length s_1.2.2.1.2) pc1_2), (.bool s_1.2.2.2.1), (.bool s_1.2.2.2.2.1), (.bool s_1.2.2.2.2.2)])] : List Value).toArray w0 (Ret fun v w' => w0.grownBy w' none ∧ ∃ (a0_0r : Option Addr) (c0_0r : Nat), v = tup [(.slice a0_0r (List.length r0.1) c0_0r), (.agg #[(.int .i64 r0.2.1), (.int .i64 r0.2.2)])] ∧ Gv.Own (iE .i32) 21 w' (fun _ => False) a0_0r c0_0r r0.1 ∧ (∀ g, blk a0_0r = some g → w0.heap.size ≤ g)) := by
 have hB0 : Below w0.heap.size w0 w0 := Below.refl _ _
 unfold slicing_Take_rune at h0
 refine calls_run Tryz.func25 rfl Tryz.ntmps25 (by kernel_rfl) ?_
 refine gv_sub [0, 1] (σ' := [(0, (.slice pa0_0 (List.length l_0) pc0_0)), (1, (.agg #[(.bool s_1.1.1), (.slice pa1_0 (List.length s_1.1.2) pc1_0), (.bool s_1.2.1.1), (.slice pa1_1 (List.length s_1.2.1.2) pc1_1), (.bool s_1.2.2.1.1), (.slice pa1_2 (List.length s_1.2.2.1.2) pc1_2), (.bool s_1.2.2.2.1), (.bool s_1.2.2.2.2.1), (.bool s_1.2.2.2.2.2)]))]) (by kernel_rfl) ?_
 refine gv_seq <| gv_region <| gv_new0 (fun b => .pointer (some ⟨b, 0, none⟩)) #[(.bool s_1.1.1), (.slice pa1_0 (List.length s_1.1.2) pc1_0), (.bool s_1.2.1.1), (.slice pa1_1 (List.length s_1.2.1.2) pc1_1), (.bool s_1.2.2.1.1), (.slice pa1_2 (List.length s_1.2.2.1.2) pc1_2), (.bool s_1.2.2.2.1), (.bool s_1.2.2.2.2.1), (.bool s_1.2.2.2.2.2)] 27 (by kernel_rfl) (by kernel_rfl) ?_
 intro b1 w2 hg3 hb4 hbe5 hz6
 refine gv_pureN 1 [4] [] (by kernel_rfl) ?_
 refine gv_new0 (fun b => .pointer (some ⟨b, 0, none⟩)) #[(.int .i64 0), (.int .i64 0)] 29 (by kernel_rfl) (by kernel_rfl) ?_
 intro b7 w8 hg9 hb10 hbe11 hz12
 refine gv_nil <| gv_seq <| gv_region ?_
 have hk13 := hb4.grown hg9 nb
 refine gv_loadBox (t := 27) (b := b1) (t' := 27) (fr := (0, 0)) #[(.bool s_1.1.1), (.slice pa1_0 (List.length s_1.1.2) pc1_0), (.bool s_1.2.1.1), (.slice pa1_1 (List.length s_1.2.1.2) pc1_1), (.bool s_1.2.2.1.1), (.slice pa1_2 (List.length s_1.2.2.1.2) pc1_2), (.bool s_1.2.2.2.1), (.bool s_1.2.2.2.2.1), (.bool s_1.2.2.2.2.2)] [] (fun e => by cases e) rfl rfl rfl (by kernel_rfl) (by kernel_rfl) (by kernel_rfl) (by kernel_rfl) (inw0 hk13) rfl ?_
 refine gv_pureN 2 [14, 15] [(15, (.int .i64 ((List.length l_0 : Nat) : Int)))] (by kernel_rfl) ?_
 refine bindE h0 ?_; clear h0; intro r14 hr15 h0
 have hg16 := (grown_trans hg3 hg9)
 have hB17 := bg hB0 hg16 nb
 refine gv_call0 (by kernel_rfl) rfl (by kernel_rfl) enters40 (slicing_Resolve_ok fuel pa1_0 pc1_0 pa1_1 pc1_1 pa1_2 pc1_2 ((s_1.1.1, s_1.1.2), (s_1.2.1.1, s_1.2.1.2), (s_1.2.2.1.1, s_1.2.2.1.2), s_1.2.2.2.1, s_1.2.2.2.2.1, s_1.2.2.2.2.2) ((List.length l_0 : Nat) : Int) w8 (fun k => X0 k ∨ X0 k ∨ X0 k) (fun k hk => (hk).elim (fun h => (fun k (hk : X0 k) => ltl (hX0 k hk) hB17.size) k h) (fun h => (h).elim (fun h => (fun k (hk : X0 k) => ltl (hX0 k hk) hB17.size) k h) (fun h => (fun k (hk : X0 k) => ltl (hX0 k hk) hB17.size) k h))) ((hpa1_0.below hB17 hX0).wide (fun k hk => (.inl hk))) ((hpa1_1.below hB17 hX0).wide (fun k hk => (.inr (.inl hk)))) ((hpa1_2.below hB17 hX0).wide (fun k hk => (.inr (.inr hk)))) r14 hr15) ?_
 rintro v20 w18 ⟨hg19, rfl⟩
 refine gv_pureN 5 [12, 17, 18, 19, 20] [(17, (.int .i64 r14.1)), (18, (.int .i64 r14.2.1)), (19, (.int .i64 r14.2.2.1)), (20, (.agg #[(.int .i64 r14.2.2.2.1), (.int .i64 r14.2.2.2.2)]))] (by kernel_rfl) ?_
 refine gv_new0 (fun b => .pointer (some ⟨b, 0, none⟩)) #[(.int .i64 0), (.int .i64 0)] 29 (by kernel_rfl) (by kernel_rfl) ?_
 intro b21 w22 hg23 hb24 hbe25 hz26
 refine gv_pureN 3 [6, 7, 8] [(6, (.int .i64 r14.1)), (7, (.int .i64 r14.2.1)), (8, (.int .i64 r14.2.2.1))] (by kernel_rfl) ?_
 refine gv_store0 29 0 (.agg #[(.int .i64 r14.2.2.2.1), (.int .i64 r14.2.2.2.2)]) #[(.int .i64 r14.2.2.2.1), (.int .i64 r14.2.2.2.2)] hb24 (by kernel_rfl) (by kernel_rfl) (by kernel_rfl) ?_
 intro w27 hg28 hb29 hz30
 refine gv_nil <| gv_seq <| gv_seq <| gv_region <| gv_pureN 1 [21] [(21, (bp b21))] (by kernel_rfl) ?_
 refine gv_load (t := 3) (A := ⟨b21, 0, none⟩) (.int .i64 r14.2.2.2.1) [] (fun e => by cases e) rfl rfl rfl (by kernel_rfl) (by kernel_rfl) (by kernel_rfl) (inw0 (hb29.cell 0 rfl)) rfl ?_
 refine gv_pureN 1 [23] [(23, (.bool (r14.2.2.2.1 != 0)))] (by kernel_rfl) ?_
 refine gv_nil <| gv_cond (b := (r14.2.2.2.1 != 0)) (by kernel_rfl) (fun hc31 => ?_) (fun hc31 => ?_)
 ·replace h0 := ite_t hc31 h0
  refine gv_seq <| gv_drawA (by kernel_rfl) ?_
  intro w32 hg33
  refine gv_pre [1] (bA 3 [1]) 2 (by kernel_rfl) (by kernel_rfl) ?_
  refine gv_pureN 1 [4] [(4, (.slice none (List.length ([] : List Int)) 0))] (by kernel_rfl) ?_
  refine gv_sub [4, 5, 9] (σ' := [(4, (.slice none (List.length ([] : List Int)) 0)), (5, (bp b7)), (9, (bp b21))]) (by kernel_rfl) ?_
  refine gv_nil <| gv_goA ?_
  refine gv_stage (Cls w32 []) [0, 1] [(0, some true)] (bA 3 [0, 1]) 1 (by kernel_rfl) (by kernel_rfl) (Cls.refl _ _) ?_
  have hC34 := Cls.refl w32 []
  have hk35 := hb29.grown hg33 nb
  refine gv_loadBox (t := 29) (b := b21) (t' := 29) (fr := (0, 0)) #[(.int .i64 r14.2.2.2.1), (.int .i64 r14.2.2.2.2)] [] (fun e => by cases e) rfl rfl rfl (by kernel_rfl) (by kernel_rfl) (by kernel_rfl) (by kernel_rfl) (inw1 fun w' hC' => (hC'.box hk35 nm_nil)) rfl ?_
  refine gv_nil <| gv_goA ?_
  refine gv_stage (fun _ => True) [0, 1, 2] [(2, some false)] (bA 3 [0, 1, 2]) 0 (by kernel_rfl) (by kernel_rfl) trivial ?_
  have hg40 := (grown_trans hg19 hg23)
  have hk41 := hb10.grown hg19 nb
  have lt42 := ltl ((ltb hk41) _ rfl) ((lowb hbe25) _ rfl)
  have hk43 := ((hb10.grown hg40 nb).grown hg28 (rowne (ng lt42))).grown hg33 nb
  refine gv_store (t := 29) (b := b7) (off := 0) (v := (.agg #[(.int .i64 r14.2.2.2.1), (.int .i64 r14.2.2.2.2)])) (t' := 29) (cs := #[(.int .i64 0), (.int .i64 0)]) #[(.int .i64 r14.2.2.2.1), (.int .i64 r14.2.2.2.2)] (by decide) rfl rfl (by kernel_rfl) (by kernel_rfl) (by kernel_rfl) (by intro u hu; simp [Value.cells] at hu; rcases hu with rfl | rfl <;> rfl) (show 0 + 2 ≤ 2 by decide) (by rfl) hk43 ?_
  intro w36 hg37 hb38 hz39
  refine ⟨(fun _ => trivial), ?_⟩
  refine gv_nil <| gv_goA ?_
  refine gv_stageE (by kernel_rfl) ?_
  refine gv_cret ?_
  have e := sj h0; subst e
  refine gv_ret (gv_done [(.slice none (List.length ([] : List Int)) 0), (.agg #[(.int .i64 r14.2.2.2.1), (.int .i64 r14.2.2.2.2)])] rfl ⟨(by kernel_rfl), ⟨⟨b7, 0, none⟩, (by kernel_rfl), run_loadVar_row w36 b7 _ 29 _ _ _ hb38 Tryz.underlying29 rfl (by kernel_rfl)⟩, trivial⟩ ?_)
  have hB44 := bg hB17 hg40 nb
  have hB45 := bg hB17 hg19 nb
  have hlo46 : w0.heap.size ≤ b21 := lob hbe25 hB45.size
  have hB47 := bg hB44 hg28 (rowlo hlo46)
  have hB48 := bg hB47 hg33 nb
  have hB49 := bg hB0 hg3 nb
  have hlo50 : w0.heap.size ≤ b7 := lob hbe11 hB49.size
  have hB51 := bg hB48 hg37 (rowlo hlo50)
  exact ⟨grown_of_below hB51, none, 0, rfl, (Gv.Own.nil (iE .i32) 21 w36 (fun _ => False)), (fun _ h => by cases h)⟩
 ·replace h0 := ite_f hc31 h0
  refine gv_skip <| gv_seq <| gv_region <| gv_pureN 1 [10] [(10, (.slice none (List.length ([] : List Int)) 0))] (by kernel_rfl) ?_
  refine gv_sub [0, 5, 6, 7, 8, 10] (σ' := [(0, (.slice pa0_0 (List.length l_0) pc0_0)), (5, (bp b7)), (6, (.int .i64 r14.1)), (7, (.int .i64 r14.2.1)), (8, (.int .i64 r14.2.2.1)), (10, (.slice none (List.length ([] : List Int)) 0))]) (by kernel_rfl) ?_
  refine gv_nil <| gv_seq <| gv_seq <| gv_region <| gv_pureN 2 [25, 26] [(25, (.int .i64 r14.2.2.1)), (26, (.int .i64 0))] (by kernel_rfl) ?_
  refine gv_nil <| bindE h0 ?_; clear h0; intro j52 h1 h0
  refine gv_cut_code (J := fun a w53 => ∃ (a10_0j : Option Addr) (c10_0j : Nat), Below w0.heap.size w0 w53 ∧ w27.heap.size ≤ w53.heap.size ∧ Gv.Own (iE .i32) 21 w53 (fun _ => False) a10_0j c10_0j j52 ∧ (∀ g, blk a10_0j = some g → w0.heap.size ≤ g) ∧ (∀ g, blk a10_0j = some g → ¬ (· = b7) g) ∧ ¬ (fun k => blk a10_0j = some k) b7 ∧ Box w53 b7 29 #[(.int .i64 0), (.int .i64 0)] ∧ a.defers = [] ∧ a.tmps.size = 43 ∧ Ok [(5, (bp b7)), (10, (.slice a10_0j (List.length j52) c10_0j))] a.tmps) ?_ ?_
  ·skip
   refine gv_block <| gv_loop (A := fun (s54 : ((List Int) × Int)) a w55 => ∃ (a10_0j : Option Addr) (c10_0j : Nat), Below w0.heap.size w0 w55 ∧ w27.heap.size ≤ w55.heap.size ∧ Gv.Own (iE .i32) 21 w55 (fun _ => False) a10_0j c10_0j s54.1 ∧ (∀ g, blk a10_0j = some g → w0.heap.size ≤ g) ∧ (∀ g, blk a10_0j = some g → ¬ (· = b7) g) ∧ ¬ (fun k => blk a10_0j = some k) b7 ∧ Box w55 b7 29 #[(.int .i64 0), (.int .i64 0)] ∧ a.defers = [] ∧ a.tmps.size = 43 ∧ Ok [(0, (.slice pa0_0 (List.length l_0) pc0_0)), (5, (bp b7)), (6, (.int .i64 r14.1)), (7, (.int .i64 r14.2.1)), (10, (.slice a10_0j (List.length s54.1) c10_0j)), (25, (.int .i64 r14.2.2.1)), (26, (.int .i64 s54.2))] a.tmps) h1 ?_ ?_
   ·intro a hd hs hok
    have hg56 := (grown_trans hg19 hg23)
    have hB57 := bg hB17 hg56 nb
    have hB58 := bg hB17 hg19 nb
    have hlo59 : w0.heap.size ≤ b21 := lob hbe25 hB58.size
    have hB60 := bg hB57 hg28 (rowlo hlo59)
    have hk61 := hb10.grown hg19 nb
    have lt62 := ltl ((ltb hk61) _ rfl) ((lowb hbe25) _ rfl)
    have hk63 := (hb10.grown hg56 nb).grown hg28 (rowne (ng lt62))
    exact ⟨none, 0, hB60, (Nat.le_refl _), (Gv.Own.nil (iE .i32) 21 w27 (fun _ => False)), (fun _ h => by cases h), (fun _ h => by cases h), (fun h => by cases h), hk63, hd, hs, ok_pick [0, 5, 6, 7, 10, 25, 26] hok (by kernel_rfl)⟩
   ·rintro s54 r2 h2 hR2 a w55 ⟨a66, c67, hB64, hz65, ho68, hl69, ap70, ap71, hb72, hd, hs, hok⟩
    refine gv_in ?_ hd hs hok
    clear hd hs hok
    clear hc31 hz30 hb29 hg28 hz26 hbe25 hb24 hg23 hg19 hB17 hg16 hr15 hk13 hz12 hb10 hg9 hz6 hbe5 hb4
    refine gv_seq <| gv_region <| gv_pureN 1 [27] [(27, (.bool (decide (s54.2 < r14.2.2.1))))] (by kernel_rfl) ?_
    refine gv_nil <| gv_seq <| gv_cond (b := (decide (s54.2 < r14.2.2.1))) (by kernel_rfl) (fun hc73 => ?_) (fun hc73 => ?_)
    ·replace h2 := ite_t hc73 h2
     refine gv_skip <| gv_seq <| gv_block <| gv_seq <| gv_region <| gv_pureN 2 [11, 28] [(11, (.int .i64 s54.2))] (by kernel_rfl) ?_
     refine gv_nil <| gv_region <| gv_pureN 7 [29, 30, 31, 32, 33, 34, 35] [(29, (.slice a66 (List.length s54.1) c67)), (30, (.slice pa0_0 (List.length l_0) pc0_0)), (35, (.int .i64 (IntKind.i64.wrap (r14.1 + (IntKind.i64.wrap (s54.2 * r14.2.1))))))] (by kernel_rfl) ?_
     refine bindE h2 ?_; clear h2; intro x74 hx75 h2
     refine gv_idxaddr (t := 55) (e := 21) (a := pa0_0) (len := List.length l_0) (cap := pc0_0) (kk := .i64) (i := (IntKind.i64.wrap (r14.1 + (IntKind.i64.wrap (s54.2 * r14.2.1))))) (sz := 1) [] (fun e => by cases e) rfl rfl rfl (by kernel_rfl) (by kernel_rfl) Tryz.underlying55 (by kernel_rfl) ((hpa0_0.below hB64 hX0).has hx75) (idx_spec hx75).1 (idx_spec hx75).2.1 rfl ?_
     refine gv_load (t := 21) (A := (elemAddr pa0_0 (((IntKind.i64.wrap (r14.1 + (IntKind.i64.wrap (s54.2 * r14.2.1)))) : Int).toNat * 1))) (.int .i32 x74) [] (fun e => by cases e) rfl rfl rfl (by kernel_rfl) (by kernel_rfl) (by kernel_rfl) (inw0 ((hpa0_0.below hB64 hX0).cell hx75)) rfl ?_
     refine gv_new0 (fun b => .slice (some ⟨b, 0, none⟩) 1 1) #[(.int .i32 x74)] 21 (by kernel_rfl) (by kernel_rfl) ?_
     intro b76 w77 hg78 hb79 hbe80 hz81
     have ho82 : Gv.Own (iE .i32) 21 w77 (fun _ => False) (some ⟨b76, 0, none⟩) 1 ([x74] : List Int) := Box.ownE hb79 ⟨[(.int .i32 x74)], [], rfl, rfl, rfl⟩ (show 1 ≤ maxLen by decide) (fun h => h)
     have hl83 : ∀ g, blk (some ⟨b76, 0, none⟩) = some g → w0.heap.size ≤ g := loo hbe80 hB64.size
     have hz87 := (nt hz65 hg78.size)
     clear hz81 hb79 hx75 hc73 hz65
     refine bindE h2 ?_; clear h2; intro l88 hx89 h2
     have hk96 := ho68.grown hg78 (fun _ h => h.elim) nb
     refine gv_append (iE .i32) (t := 55) (ty := 55) (e := 21) (a := a66) (ax := (some ⟨b76, 0, none⟩)) (cap := c67) (cx := 1) (xs := s54.1) (ys := ([x74] : List Int)) l88 (X := (fun _ => False)) (Y := (fun k => blk (some ⟨b76, 0, none⟩) = some k)) (by decide) rfl rfl (by kernel_rfl) (by kernel_rfl) Tryz.underlying55 info21 hk96 (ho82.rd (Y := fun k => blk (some ⟨b76, 0, none⟩) = some k) (fun _ h => h.elim) (fun g e => e)) hx89 (.inr fun _ _ _ _ _ h => h) (fun _ h => h.elim) ?_
     intro a90 c91 w92 hg93 ho94 hk95
     refine ⟨(fun e => by cases e), ?_⟩
     have hB98 := bg hB64 hg78 nb
     have hl97 : ∀ g, blk a90 = some g → w0.heap.size ≤ g := blk_step hk95 hl69 hB98.size
     have hk100 := hb72.grown hg78 nb
     have ap99 : ∀ g, blk a90 = some g → ¬ (· = b7) g := blk_neX hk95 ap70 (ltb hk100)
     have ap101 : ¬ (fun k => blk a90 = some k) b7 := fun h => blk_rev hk95 (fun h => (ap71) h) (hk100.lt) h
     have ap103 : ∀ g, blk a66 = some g → ¬ (fun k => blk (some ⟨b76, 0, none⟩) = some k) g := fun g e hx => nl ((lowo hbe80) _ hx) ((fun k (hk : blk a66 = some k) => ho68.lt k hk) g e)
     have ap102 : ∀ g, blk a90 = some g → ¬ (fun k => blk (some ⟨b76, 0, none⟩) = some k) g := blk_neX hk95 ap103 (fun k (hk : blk (some ⟨b76, 0, none⟩) = some k) => ho82.lt k hk)
     have ap105 : ∀ g, blk (some ⟨b76, 0, none⟩) = some g → ¬ (fun k => blk a66 = some k) g := fun g e hx => nl ((lowo hbe80) g e) ((fun k (hk : blk a66 = some k) => ho68.lt k hk) _ hx)
     have ap104 : ∀ g, blk (some ⟨b76, 0, none⟩) = some g → ¬ (fun k => blk a90 = some k) g := fun g e h => blk_rev hk95 (fun h => ((ap105) g e) h) (ho82.lt g e) h
     refine gv_pureN 1 [10] [(10, (.slice a90 (List.length l88) c91))] (by kernel_rfl) ?_
     refine gv_nil <| gv_blk <| gv_region <| gv_pureN 2 [26, 40] [(26, (.int .i64 (IntKind.i64.wrap (s54.2 + 1))))] (by kernel_rfl) ?_
     refine gv_nil ?_
     have e := sj h2; subst e
     refine gv_goal fun a hd hs hok => ?_
     have hB106 := bg hB98 hg93 hl69
     have hz107 := (nt hz87 hg93.size)
     have hk108 := hk100.grown hg93 ap70
     exact ⟨(l88, (IntKind.i64.wrap (s54.2 + 1))), rfl, a90, c91, hB106, hz107, ho94, hl97, ap99, ap101, hk108, hd, hs, ok_pick [0, 5, 6, 7, 10, 25, 26] hok (by kernel_rfl)⟩
    ·replace h2 := ite_f hc73 h2
     refine gv_cexit <| gv_exit rfl ?_
     have e := sj h2; subst e
     replace h1 := congrArg some (hR2 _ rfl)
     have e := sj h1; subst e
     refine gv_goal fun a hd hs hok => ?_
     have hz109 := hz65
     exact ⟨a66, c67, hB64, hz109, ho68, hl69, ap70, ap71, hb72, hd, hs, ok_pick [5, 10] hok (by kernel_rfl)⟩
  ·rintro a w53 ⟨a112, c113, hB110, hz111, ho114, hl115, ap116, ap117, hb118, hd, hs, hok⟩
   refine gv_in ?_ hd hs hok
   clear hd hs hok
   clear hz111 hc31 hz30 hb29 hg28 hz26 hbe25 hb24 hg23 hg19 hB17 hg16 hr15 hk13 hz12 hb10 hg9 hz6 hbe5 hb4
   refine gv_seq <| gv_region <| gv_pureN 3 [4, 41, 42] [(4, (.slice a112 (List.length j52) c113)), (42, (.agg #[(.int .i64 0), (.int .i64 0)]))] (by kernel_rfl) ?_
   refine gv_store0 29 0 (.agg #[(.int .i64 0), (.int .i64 0)]) #[(.int .i64 0), (.int .i64 0)] hb118 (by kernel_rfl) (by kernel_rfl) (by kernel_rfl) ?_
   intro w119 hg120 hb121 hz122
   refine gv_nil <| gv_cret ?_
   have e := sj h0; subst e
   refine gv_ret (gv_done [(.slice a112 (List.length j52) c113), (.agg #[(.int .i64 0), (.int .i64 0)])] rfl ⟨(by kernel_rfl), ⟨⟨b7, 0, none⟩, (by kernel_rfl), run_loadVar_row w119 b7 _ 29 _ _ _ hb121 Tryz.underlying29 rfl (by kernel_rfl)⟩, trivial⟩ ?_)
   have hB123 := bg hB0 hg3 nb
   have hlo124 : w0.heap.size ≤ b7 := lob hbe11 hB123.size
   have hB125 := bg hB110 hg120 (rowlo hlo124)
   have hk126 := ho114.grown hg120 (fun _ h => h.elim) (rdnn (rowne ap117))
   exact ⟨grown_of_below hB125, a112, c113, rfl, hk126, hl115⟩

theorem textstr_Part_ok (fuel : Nat) (s_0 : ByteArray) (pa1_0 : Option Addr) (pc1_0 : Nat) (pa1_1 : Option Addr) (pc1_1 : Nat) (pa1_2 : Option Addr) (pc1_2 : Nat) (p_1 : ((Bool × (List Int)) × (Bool × (List Int)) × (Bool × (List Int)) × Bool × Bool × Bool)) (w0 : World) (X0 : Nat → Prop) (hX0 : ∀ k, X0 k → k < w0.heap.size) (hpa1_0 : Rd (iE .u32) w0 X0 pa1_0 pc1_0 p_1.1.2) (hpa1_1 : Rd (iE .u32) w0 X0 pa1_1 pc1_1 p_1.2.1.2) (hpa1_2 : Rd (iE .u32) w0 X0 pa1_2 pc1_2 p_1.2.2.1.2) (hG0 : Rd bE w0 X0 (some ⟨0, 0, none⟩) 256 utf8First) (hG1 : Rd (prE (iE .u8) (iE .u8)) w0 X0 (some ⟨1, 0, none⟩) 16 utf8Acc) (r0 : (ByteArray × (Int × Int))) (h0 : textstr_Part fuel s_0 p_1 = some r0) :
    Calls Tryz.prog 7 ([(.string s_0), (.agg #[(.bool p_1.1.1), (.slice pa1_0 (List.length p_1.1.2) pc1_0), (.bool p_1.2.1.1), (.slice pa1_1 (List.length p_1.2.1.2) pc1_1), (.bool p_1.2.2.1.1), (.slice pa1_2 (List.length p_1.2.2.1.2) pc1_2), (.bool p_1.2.2.2.1), (.bool p_1.2.2.2.2.1), (.bool p_1.2.2.2.2.2)])] : List Value).toArray w0 (Ret fun v w' => w0.grownBy w' none ∧ v = tup [(.string r0.1), (.agg #[(.int .i64 r0.2.1), (.int .i64 r0.2.2)])]) := by
 have hB0 : Below w0.heap.size w0 w0 := Below.refl _ _
 unfold textstr_Part at h0
 refine calls_run Tryz.func7 rfl Tryz.ntmps7 (by kernel_rfl) ?_
 refine gv_sub [0, 1] (σ' := [(0, (.string s_0)), (1, (.agg #[(.bool p_1.1.1), (.slice pa1_0 (List.length p_1.1.2) pc1_0), (.bool p_1.2.1.1), (.slice pa1_1 (List.length p_1.2.1.2) pc1_1), (.bool p_1.2.2.1.1), (.slice pa1_2 (List.length p_1.2.2.1.2) pc1_2), (.bool p_1.2.2.2.1), (.bool p_1.2.2.2.2.1), (.bool p_1.2.2.2.2.2)]))]) (by kernel_rfl) ?_
 refine gv_seq <| gv_region <| gv_new0 (fun b => .pointer (some ⟨b, 0, none⟩)) #[(.bool p_1.1.1), (.slice pa1_0 (List.length p_1.1.2) pc1_0), (.bool p_1.2.1.1), (.slice pa1_1 (List.length p_1.2.1.2) pc1_1), (.bool p_1.2.2.1.1), (.slice pa1_2 (List.length p_1.2.2.1.2) pc1_2), (.bool p_1.2.2.2.1), (.bool p_1.2.2.2.2.1), (.bool p_1.2.2.2.2.2)] 27 (by kernel_rfl) (by kernel_rfl) ?_
 intro b1 w2 hg3 hb4 hbe5 hz6
 refine gv_pureN 1 [4] [] (by kernel_rfl) ?_
 refine gv_new0 (fun b => .pointer (some ⟨b, 0, none⟩)) #[(.int .i64 0), (.int .i64 0)] 29 (by kernel_rfl) (by kernel_rfl) ?_
 intro b7 w8 hg9 hb10 hbe11 hz12
 refine gv_nil <| gv_seq <| gv_seq <| gv_region <| gv_pureN 1 [9] [(9, (.string s_0))] (by kernel_rfl) ?_
 refine gv_new0 (fun b => .slice (some ⟨b, 0, none⟩) 1 1) #[(.string s_0)] 9 (by kernel_rfl) (by kernel_rfl) ?_
 intro b13 w14 hg15 hb16 hbe17 hz18
 have ho19 : Gv.Own sE 9 w14 (fun _ => False) (some ⟨b13, 0, none⟩) 1 ([s_0] : List ByteArray) := Box.ownE hb16 ⟨[(.string s_0)], [], rfl, rfl, rfl⟩ (show 1 ≤ maxLen by decide) (fun h => h)
 have hg24 := (grown_trans hg3 hg9)
 have hB25 := bg hB0 hg24 nb
 have hl20 : ∀ g, blk (some ⟨b13, 0, none⟩) = some g → w0.heap.size ≤ g := loo hbe17 hB25.size
 refine bindE h0 ?_; clear h0; intro r26 hr27 h0
 have hB28 := bg hB25 hg15 nb
 refine gv_call0 (by kernel_rfl) rfl (by kernel_rfl) enters21 (textstr_check_ok fuel (some ⟨b13, 0, none⟩) 1 ([s_0] : List ByteArray) w14 (fun k => (fun k => blk (some ⟨b13, 0, none⟩) = some k) k ∨ X0 k ∨ X0 k) (fun k hk => (hk).elim (fun h => (fun k (hk : blk (some ⟨b13, 0, none⟩) = some k) => ho19.lt k hk) k h) (fun h => (h).elim (fun h => (fun k (hk : X0 k) => ltl (hX0 k hk) hB28.size) k h) (fun h => (fun k (hk : X0 k) => ltl (hX0 k hk) hB28.size) k h))) ((ho19.rd (Y := fun k => blk (some ⟨b13, 0, none⟩) = some k) (fun _ h => h.elim) (fun g e => e)).wide (fun k hk => (.inl hk))) ((hG0.below hB28 hX0).wide (fun k hk => (.inr (.inl hk)))) ((hG1.below hB28 hX0).wide (fun k hk => (.inr (.inr hk)))) r26 hr27) ?_
 rintro v31 w29 ⟨hg30, rfl⟩
 refine gv_new0 (fun b => .pointer (some ⟨b, 0, none⟩)) #[(.int .i64 0), (.int .i64 0)] 29 (by kernel_rfl) (by kernel_rfl) ?_
 intro b32 w33 hg34 hb35 hbe36 hz37
 refine gv_store0 29 0 (.agg #[(.int .i64 r26.1), (.int .i64 r26.2)]) #[(.int .i64 r26.1), (.int .i64 r26.2)] hb35 (by kernel_rfl) (by kernel_rfl) (by kernel_rfl) ?_
 intro w38 hg39 hb40 hz41
 refine gv_nil <| gv_seq <| gv_region <| gv_pureN 1 [12] [(12, (bp b32))] (by kernel_rfl) ?_
 refine gv_load (t := 3) (A := ⟨b32, 0, none⟩) (.int .i64 r26.1) [] (fun e => by cases e) rfl rfl rfl (by kernel_rfl) (by kernel_rfl) (by kernel_rfl) (inw0 (hb40.cell 0 rfl)) rfl ?_
 refine gv_pureN 1 [14] [(14, (.bool (r26.1 != 0)))] (by kernel_rfl) ?_
 refine gv_nil <| gv_cond (b := (r26.1 != 0)) (by kernel_rfl) (fun hc42 => ?_) (fun hc42 => ?_)
 ·replace h0 := ite_t hc42 h0
  refine gv_seq <| gv_drawA (by kernel_rfl) ?_
  intro w43 hg44
  refine gv_pre [1] (bA 3 [1]) 2 (by kernel_rfl) (by kernel_rfl) ?_
  refine gv_pureN 1 [4] [(4, (.string (strOf [])))] (by kernel_rfl) ?_
  refine gv_nil <| gv_goA ?_
  refine gv_stage (Cls w43 []) [0, 1] [(0, some true)] (bA 3 [0, 1]) 1 (by kernel_rfl) (by kernel_rfl) (Cls.refl _ _) ?_
  have hC45 := Cls.refl w43 []
  have hk46 := hb40.grown hg44 nb
  refine gv_loadBox (t := 29) (b := b32) (t' := 29) (fr := (0, 0)) #[(.int .i64 r26.1), (.int .i64 r26.2)] [] (fun e => by cases e) rfl rfl rfl (by kernel_rfl) (by kernel_rfl) (by kernel_rfl) (by kernel_rfl) (inw1 fun w' hC' => (hC'.box hk46 nm_nil)) rfl ?_
  refine gv_nil <| gv_goA ?_
  refine gv_stage (fun _ => True) [0, 1, 2] [(2, some false)] (bA 3 [0, 1, 2]) 0 (by kernel_rfl) (by kernel_rfl) trivial ?_
  have hg51 := (grown_trans (grown_trans hg15 hg30) hg34)
  have hg52 := (grown_trans hg15 hg30)
  have hk53 := hb10.grown hg52 nb
  have lt54 := ltl ((ltb hk53) _ rfl) ((lowb hbe36) _ rfl)
  have hk55 := ((hb10.grown hg51 nb).grown hg39 (rowne (ng lt54))).grown hg44 nb
  refine gv_store (t := 29) (b := b7) (off := 0) (v := (.agg #[(.int .i64 r26.1), (.int .i64 r26.2)])) (t' := 29) (cs := #[(.int .i64 0), (.int .i64 0)]) #[(.int .i64 r26.1), (.int .i64 r26.2)] (by decide) rfl rfl (by kernel_rfl) (by kernel_rfl) (by kernel_rfl) (by intro u hu; simp [Value.cells] at hu; rcases hu with rfl | rfl <;> rfl) (show 0 + 2 ≤ 2 by decide) (by rfl) hk55 ?_
  intro w47 hg48 hb49 hz50
  refine ⟨(fun _ => trivial), ?_⟩
  clear hz50 hk53 hg52 hg51 hC45 hc42 hz41 hb40 hz37 hb35 hr27 hB25 hg24 hz18 hbe17 hb16 hz12 hb10 hz6
  refine gv_nil <| gv_goA ?_
  refine gv_stageE (by kernel_rfl) ?_
  refine gv_cret ?_
  have e := sj h0; subst e
  refine gv_ret (gv_done [(.string (strOf [])), (.agg #[(.int .i64 r26.1), (.int .i64 r26.2)])] rfl ⟨(by kernel_rfl), ⟨⟨b7, 0, none⟩, (by kernel_rfl), run_loadVar_row w47 b7 _ 29 _ _ _ hb49 Tryz.underlying29 rfl (by kernel_rfl)⟩, trivial⟩ ?_)
  have hg56 := (grown_trans hg30 hg34)
  have hB57 := bg hB28 hg56 nb
  have hB58 := bg hB28 hg30 nb
  have hlo59 : w0.heap.size ≤ b32 := lob hbe36 hB58.size
  have hB60 := bg hB57 hg39 (rowlo hlo59)
  have hB61 := bg hB60 hg44 nb
  have hB62 := bg hB0 hg3 nb
  have hlo63 : w0.heap.size ≤ b7 := lob hbe11 hB62.size
  have hB64 := bg hB61 hg48 (rowlo hlo63)
  exact ⟨grown_of_below hB64, rfl⟩
 ·replace h0 := ite_f hc42 h0
  refine gv_skip <| gv_seq <| gv_region <| gv_pureN 1 [17] [(17, (.string s_0))] (by kernel_rfl) ?_
  refine bindE h0 ?_; clear h0; intro l72 hx73 h0
  refine gv_s2r (src := 9) (dst := 55) (e := 21) (s := s_0) (by decide) rfl rfl (by kernel_rfl) (by kernel_rfl) Tryz.underlying9 Tryz.underlying55 Tryz.underlying21 hx73 ?_
  rintro a65 c66 w67 hg68 hr69 hz71
  refine ⟨(fun e => by cases e), ?_⟩
  have hx74 : ∀ k, k = w38.heap.size → k < w67.heap.size := lts hz71
  have hg76 := (grown_trans hg30 hg34)
  have hB77 := bg hB28 hg76 nb
  have hB78 := bg hB28 hg30 nb
  have hlo79 : w0.heap.size ≤ b32 := lob hbe36 hB78.size
  have hB80 := bg hB77 hg39 (rowlo hlo79)
  have hx75 : ∀ k, k = w38.heap.size → X0 k ∨ w0.heap.size ≤ k := fun k hk => .inr (lowe hB80.size k hk)
  have hg81 := (grown_trans (grown_trans hg9 hg15) hg76)
  have lt82 := ltl ((ltb hb4) _ rfl) ((lowb hbe11) _ rfl)
  have hg83 := (grown_trans hg15 hg30)
  have hk84 := hb10.grown hg83 nb
  have lt85 := ltl ((ltb hk84) _ rfl) ((lowb hbe36) _ rfl)
  have lt86 := ltt lt82 lt85
  have hk87 := ((hb4.grown hg81 nb).grown hg39 (rowne (ng lt86))).grown hg68 nb
  refine gv_loadBox (t := 27) (b := b1) (t' := 27) (fr := (0, 0)) #[(.bool p_1.1.1), (.slice pa1_0 (List.length p_1.1.2) pc1_0), (.bool p_1.2.1.1), (.slice pa1_1 (List.length p_1.2.1.2) pc1_1), (.bool p_1.2.2.1.1), (.slice pa1_2 (List.length p_1.2.2.1.2) pc1_2), (.bool p_1.2.2.2.1), (.bool p_1.2.2.2.2.1), (.bool p_1.2.2.2.2.2)] [] (fun e => by cases e) rfl rfl rfl (by kernel_rfl) (by kernel_rfl) (by kernel_rfl) (by kernel_rfl) (inw0 hk87) rfl ?_
  refine gv_sub [5, 18, 19] (σ' := [(5, (bp b7)), (18, (.slice a65 (List.length l72) c66)), (19, (.agg #[(.bool p_1.1.1), (.slice pa1_0 (List.length p_1.1.2) pc1_0), (.bool p_1.2.1.1), (.slice pa1_1 (List.length p_1.2.1.2) pc1_1), (.bool p_1.2.2.1.1), (.slice pa1_2 (List.length p_1.2.2.1.2) pc1_2), (.bool p_1.2.2.2.1), (.bool p_1.2.2.2.2.1), (.bool p_1.2.2.2.2.2)]))]) (by kernel_rfl) ?_
  refine bindE h0 ?_; clear h0; intro r88 hr89 h0
  have hB90 := bg hB80 hg68 nb
  refine gv_call0 (by kernel_rfl) rfl (by kernel_rfl) enters25 (slicing_Take_rune_ok fuel a65 c66 l72 pa1_0 pc1_0 pa1_1 pc1_1 pa1_2 pc1_2 ((p_1.1.1, p_1.1.2), (p_1.2.1.1, p_1.2.1.2), (p_1.2.2.1.1, p_1.2.2.1.2), p_1.2.2.2.1, p_1.2.2.2.2.1, p_1.2.2.2.2.2) w67 (fun k => (· = w38.heap.size) k ∨ X0 k ∨ X0 k ∨ X0 k) (fun k hk => (hk).elim (fun h => hx74 k h) (fun h => (h).elim (fun h => (fun k (hk : X0 k) => ltl (hX0 k hk) hB90.size) k h) (fun h => (h).elim (fun h => (fun k (hk : X0 k) => ltl (hX0 k hk) hB90.size) k h) (fun h => (fun k (hk : X0 k) => ltl (hX0 k hk) hB90.size) k h)))) (hr69.wide (fun k hk => (.inl hk))) ((hpa1_0.below hB90 hX0).wide (fun k hk => (.inr (.inl hk)))) ((hpa1_1.below hB90 hX0).wide (fun k hk => (.inr (.inr (.inl hk))))) ((hpa1_2.below hB90 hX0).wide (fun k hk => (.inr (.inr (.inr hk))))) r88 hr89) ?_
  rintro v93 w91 ⟨hg92, a94, c95, rfl, ho96, hl97⟩
  have hl98 : ∀ g, blk a94 = some g → w0.heap.size ≤ g := fun g e => Nat.le_trans hB90.size (hl97 g e)
  refine gv_pureN 3 [16, 21, 22] [(21, (.slice a94 (List.length r88.1) c95)), (22, (.agg #[(.int .i64 r88.2.1), (.int .i64 r88.2.2)]))] (by kernel_rfl) ?_
  refine gv_new0 (fun b => .pointer (some ⟨b, 0, none⟩)) #[(.int .i64 0), (.int .i64 0)] 29 (by kernel_rfl) (by kernel_rfl) ?_
  intro b99 w100 hg101 hb102 hbe103 hz104
  refine gv_pureN 1 [7] [(7, (.slice a94 (List.length r88.1) c95))] (by kernel_rfl) ?_
  refine gv_store0 29 0 (.agg #[(.int .i64 r88.2.1), (.int .i64 r88.2.2)]) #[(.int .i64 r88.2.1), (.int .i64 r88.2.2)] hb102 (by kernel_rfl) (by kernel_rfl) (by kernel_rfl) ?_
  intro w105 hg106 hb107 hz108
  refine gv_nil <| gv_seq <| gv_seq <| gv_region <| gv_pureN 1 [23] [(23, (bp b99))] (by kernel_rfl) ?_
  refine gv_load (t := 3) (A := ⟨b99, 0, none⟩) (.int .i64 r88.2.1) [] (fun e => by cases e) rfl rfl rfl (by kernel_rfl) (by kernel_rfl) (by kernel_rfl) (inw0 (hb107.cell 0 rfl)) rfl ?_
  refine gv_pureN 1 [25] [(25, (.bool (r88.2.1 != 0)))] (by kernel_rfl) ?_
  refine gv_nil <| gv_cond (b := (r88.2.1 != 0)) (by kernel_rfl) (fun hc109 => ?_) (fun hc109 => ?_)
  ·replace h0 := ite_t hc109 h0
   refine gv_seq <| gv_region <| gv_pureN 1 [26] [(26, (bp b99))] (by kernel_rfl) ?_
   refine gv_load (t := 3) (A := ⟨b99, 0, none⟩) (.int .i64 r88.2.1) [] (fun e => by cases e) rfl rfl rfl (by kernel_rfl) (by kernel_rfl) (by kernel_rfl) (inw0 (hb107.cell 0 rfl)) rfl ?_
   refine bindE h0 ?_; clear h0; intro r110 hr111 h0
   refine gv_call0 (by kernel_rfl) rfl (by kernel_rfl) enters23 (textstr_at_ok fuel r88.2.1 (-2) w105  r110 hr111) ?_
   rintro v114 w112 ⟨hg113, rfl⟩
   refine gv_pureN 1 [4] [(4, (.string (strOf [])))] (by kernel_rfl) ?_
   have hg119 := (grown_trans (grown_trans hg68 hg92) hg101)
   have hg120 := (grown_trans hg68 hg92)
   have hk121 := hb40.grown hg120 nb
   have lt122 := ltl ((ltb hk121) _ rfl) ((lowb hbe103) _ rfl)
   have lt123 := ltt lt85 lt122
   have hk124 := ((((hk84.grown hg34 nb).grown hg39 (rowne (ng lt85))).grown hg119 nb).grown hg106 (rowne (ng lt123))).grown hg113 nb
   refine gv_store0 29 0 (.agg #[(.int .i64 r110.1), (.int .i64 r110.2)]) #[(.int .i64 r110.1), (.int .i64 r110.2)] hk124 (by kernel_rfl) (by kernel_rfl) (by kernel_rfl) ?_
   intro w115 hg116 hb117 hz118
   refine gv_nil <| gv_cret ?_
   have e := sj h0; subst e
   refine gv_ret (gv_done [(.string (strOf [])), (.agg #[(.int .i64 r110.1), (.int .i64 r110.2)])] rfl ⟨(by kernel_rfl), ⟨⟨b7, 0, none⟩, (by kernel_rfl), run_loadVar_row w115 b7 _ 29 _ _ _ hb117 Tryz.underlying29 rfl (by kernel_rfl)⟩, trivial⟩ ?_)
   have hg125 := (grown_trans hg92 hg101)
   have hB126 := bg hB90 hg125 nb
   have hB127 := bg hB90 hg92 nb
   have hlo128 : w0.heap.size ≤ b99 := lob hbe103 hB127.size
   have hB129 := bg hB126 hg106 (rowlo hlo128)
   have hB130 := bg hB129 hg113 nb
   have hB131 := bg hB0 hg3 nb
   have hlo132 : w0.heap.size ≤ b7 := lob hbe11 hB131.size
   have hB133 := bg hB130 hg116 (rowlo hlo132)
   exact ⟨grown_of_below hB133, rfl⟩
  ·replace h0 := ite_f hc109 h0
   refine gv_skip <| gv_seq <| gv_region <| gv_pureN 1 [29] [(29, (.slice a94 (List.length r88.1) c95))] (by kernel_rfl) ?_
   have ap134 : ¬ (fun k => blk a94 = some k) b99 := fun hx => nl ((lowb hbe103) _ rfl) ((fun k (hk : blk a94 = some k) => ho96.lt k hk) _ hx)
   have hk135 := (ho96.grown hg101 (fun _ h => h.elim) nb).grown hg106 (fun _ h => h.elim) (rdnn (rowne ap134))
   refine gv_r2s (src := 55) (dst := 9) (e := 21) (xs := r88.1) (a := a94) (cap := c95) (X := (fun k => blk a94 = some k)) [] (fun e => by cases e) rfl rfl rfl (by kernel_rfl) (by kernel_rfl) Tryz.underlying55 Tryz.underlying21 Tryz.underlying9 (inw0 (hk135.rd (Y := fun k => blk a94 = some k) (fun _ h => h.elim) (fun g e => e))) rfl ?_
   refine gv_pureN 2 [4, 31] [(4, (.string (strR r88.1))), (31, (.agg #[(.int .i64 0), (.int .i64 0)]))] (by kernel_rfl) ?_
   have hg140 := (grown_trans (grown_trans hg68 hg92) hg101)
   have hg141 := (grown_trans hg68 hg92)
   have hk142 := hb40.grown hg141 nb
   have lt143 := ltl ((ltb hk142) _ rfl) ((lowb hbe103) _ rfl)
   have lt144 := ltt lt85 lt143
   have hk145 := (((hk84.grown hg34 nb).grown hg39 (rowne (ng lt85))).grown hg140 nb).grown hg106 (rowne (ng lt144))
   refine gv_store0 29 0 (.agg #[(.int .i64 0), (.int .i64 0)]) #[(.int .i64 0), (.int .i64 0)] hk145 (by kernel_rfl) (by kernel_rfl) (by kernel_rfl) ?_
   intro w136 hg137 hb138 hz139
   refine gv_nil <| gv_cret ?_
   have e := sj h0; subst e
   refine gv_ret (gv_done [(.string (strR r88.1)), (.agg #[(.int .i64 0), (.int .i64 0)])] rfl ⟨(by kernel_rfl), ⟨⟨b7, 0, none⟩, (by kernel_rfl), run_loadVar_row w136 b7 _ 29 _ _ _ hb138 Tryz.underlying29 rfl (by kernel_rfl)⟩, trivial⟩ ?_)
   have hg146 := (grown_trans hg92 hg101)
   have hB147 := bg hB90 hg146 nb
   have hB148 := bg hB90 hg92 nb
   have hlo149 : w0.heap.size ≤ b99 := lob hbe103 hB148.size
   have hB150 := bg hB147 hg106 (rowlo hlo149)
   have hB151 := bg hB0 hg3 nb
   have hlo152 : w0.heap.size ≤ b7 := lob hbe11 hB151.size
   have hB153 := bg hB150 hg137 (rowlo hlo152)
   exact ⟨grown_of_below hB153, rfl⟩

theorem utf8_RuneCountInString_ok (fuel : Nat) (s_0 : ByteArray) (w0 : World)  (r0 : Int) (h0 : utf8_RuneCountInString fuel s_0 = some r0) :
    Calls Tryz.prog 49 ([(.string s_0)] : List Value).toArray w0 (Ret fun v w' => w0.grownBy w' none ∧ v = tup [(.int .i64 r0)]) := by
 have hB0 : Below w0.heap.size w0 w0 := Below.refl _ _
 unfold utf8_RuneCountInString at h0
 refine calls_run Tryz.func49 rfl Tryz.ntmps49 (by kernel_rfl) ?_
 refine gv_sub [0] (σ' := [(0, (.string s_0))]) (by kernel_rfl) ?_
 refine gv_seq <| gv_region <| gv_pureN 1 [2] [(2, (.int .i64 0))] (by kernel_rfl) ?_
 refine gv_nil <| gv_seq <| gv_seq <| gv_region <| gv_pureN 1 [3] [(3, (.string s_0))] (by kernel_rfl) ?_
 refine gv_range (t := 9) (s := s_0) (by kernel_rfl) (by kernel_rfl) Tryz.underlying9 ?_
 intro b1 w2 hg3 hb4 hbe5 hz6
 refine gv_nil <| bindE h0 ?_; clear h0; intro j7 h1 h0
 refine gv_cut_code (J := fun a w8 => Below w0.heap.size w0 w8 ∧ w2.heap.size ≤ w8.heap.size ∧ a.defers = [] ∧ a.tmps.size = 10 ∧ Ok [(2, (.int .i64 j7))] a.tmps) ?_ ?_
 ·skip
  refine gv_block <| gv_loop (A := fun (s9 : (Int × Nat)) a w10 => Below w0.heap.size w0 w10 ∧ w2.heap.size ≤ w10.heap.size ∧ At w10 b1 (.stringIter s_0 s9.2) ∧ a.defers = [] ∧ a.tmps.size = 10 ∧ Ok [(2, (.int .i64 s9.1)), (4, (bp b1))] a.tmps) h1 ?_ ?_
  ·intro a hd hs hok
   have hB11 := bg hB0 hg3 nb
   exact ⟨hB11, (Nat.le_refl _), hb4, hd, hs, ok_pick [2, 4] hok (by kernel_rfl)⟩
  ·rintro s9 r2 h2 hR2 a w10 ⟨hB12, hz13, hb14, hd, hs, hok⟩
   refine gv_in ?_ hd hs hok
   clear hd hs hok
   refine gv_seq <| gv_region <| gv_next (b := b1) (s := s_0) (pos := s9.2) (ty := 0) (by kernel_rfl) (by kernel_rfl) hb14 (fun hc15 => ?_) (fun hc15 => ?_)
   ·skip
    replace h2 := ite_t hc15 h2
    intro w16 hg17 hb18 hz19
    refine gv_pureN 1 [6] [(6, (.bool true))] (by kernel_rfl) ?_
    refine gv_nil <| gv_seq <| gv_cond (b := true) (by kernel_rfl) (fun hc => ?_) (fun hc => ?_)
    rotate_left; · cases hc
    clear hc
    refine gv_skip <| gv_block <| gv_region <| gv_pureN 3 [2, 7, 8] [(2, (.int .i64 (IntKind.i64.wrap (s9.1 + 1))))] (by kernel_rfl) ?_
    refine gv_nil <| gv_blk ?_
    have e := sj h2; subst e
    refine gv_goal fun a hd hs hok => ?_
    have hlo20 : w0.heap.size ≤ b1 := lob hbe5 hB0.size
    have hB21 := bg hB12 hg17 (rowlo hlo20)
    have hz22 := (nt hz13 hg17.size)
    exact ⟨((IntKind.i64.wrap (s9.1 + 1)), (s9.2 + runeN s_0 s9.2)), rfl, hB21, hz22, hb18, hd, hs, ok_pick [2, 4] hok (by kernel_rfl)⟩
   ·skip
    replace h2 := ite_f hc15 h2
    refine gv_pureN 1 [6] [(6, (.bool false))] (by kernel_rfl) ?_
    refine gv_nil <| gv_seq <| gv_cond (b := false) (by kernel_rfl) (fun hc => ?_) (fun hc => ?_)
    ·cases hc
    clear hc
    refine gv_cexit <| gv_exit rfl ?_
    have e := sj h2; subst e
    replace h1 := congrArg some (hR2 _ rfl)
    have e := sj h1; subst e
    refine gv_goal fun a hd hs hok => ?_
    have hz23 := hz13
    exact ⟨hB12, hz23, hd, hs, ok_pick [2] hok (by kernel_rfl)⟩
 ·rintro a w8 ⟨hB24, hz25, hd, hs, hok⟩
  refine gv_in ?_ hd hs hok
  clear hd hs hok
  clear hz25 hz6 hbe5 hb4 hg3
  refine gv_seq <| gv_region <| gv_pureN 2 [2, 9] [(2, (.int .i64 j7))] (by kernel_rfl) ?_
  refine gv_nil <| gv_cret ?_
  have e := sj h0; subst e
  refine gv_ret (gv_done [(.int .i64 j7)] rfl ⟨(by kernel_rfl), trivial⟩ ?_)
  exact ⟨grown_of_below hB24, rfl⟩

theorem utf8_decodeRuneInStringSlow_ok (fuel : Nat) (s_0 : ByteArray) (w0 : World) (X0 : Nat → Prop) (hX0 : ∀ k, X0 k → k < w0.heap.size) (hG0 : Rd bE w0 X0 (some ⟨0, 0, none⟩) 256 utf8First) (hG1 : Rd (prE (iE .u8) (iE .u8)) w0 X0 (some ⟨1, 0, none⟩) 16 utf8Acc) (r0 : (Int × Int)) (h0 : utf8_decodeRuneInStringSlow fuel s_0 = some r0) :
    Calls Tryz.prog 100 ([(.string s_0)] : List Value).toArray w0 (Ret fun v w' => w0.grownBy w' none ∧ v = tup [(.int .i32 r0.1), (.int .i64 r0.2)]) := by
 have hB0 : Below w0.heap.size w0 w0 := Below.refl _ _
 unfold utf8_decodeRuneInStringSlow at h0
 refine calls_run Tryz.func100 rfl Tryz.ntmps100 (by kernel_rfl) ?_
 refine gv_sub [0] (σ' := [(0, (.string s_0))]) (by kernel_rfl) ?_
 refine gv_seq <| gv_region <| gv_pureN 2 [2, 3] [] (by kernel_rfl) ?_
 refine gv_nil <| gv_seq <| gv_region <| gv_pureN 3 [4, 13, 14] [(4, (.int .i64 ((ByteArray.size s_0 : Nat) : Int)))] (by kernel_rfl) ?_
 refine gv_nil <| gv_seq <| gv_seq <| gv_region <| gv_pureN 2 [15, 16] [(16, (.bool (decide (((ByteArray.size s_0 : Nat) : Int) < 1))))] (by kernel_rfl) ?_
 refine gv_nil <| gv_cond (b := (decide (((ByteArray.size s_0 : Nat) : Int) < 1))) (by kernel_rfl) (fun hc1 => ?_) (fun hc1 => ?_)
 ·replace h0 := ite_t hc1 h0
  refine gv_seq <| gv_region <| gv_pureN 2 [2, 3] [(2, (.int .i32 65533)), (3, (.int .i64 0))] (by kernel_rfl) ?_
  refine gv_nil <| gv_cret ?_
  have e := sj h0; subst e
  refine gv_ret (gv_done [(.int .i32 65533), (.int .i64 0)] rfl ⟨(by kernel_rfl), (by kernel_rfl), trivial⟩ ?_)
  exact ⟨grown_of_below hB0, rfl⟩
 ·replace h0 := ite_f hc1 h0
  refine gv_skip <| gv_seq <| gv_region <| gv_pureN 1 [17] [(17, (.string s_0))] (by kernel_rfl) ?_
  refine bindE h0 ?_; clear h0; intro x2 hx3 h0
  refine gv_sindex (t := 9) (s := s_0) (kk := .i64) (i := 0) x2 [] (fun e => by cases e) rfl rfl rfl (by kernel_rfl) (by kernel_rfl) Tryz.underlying9 hx3 rfl ?_
  refine gv_pureN 1 [5] [(5, (.int .u8 x2))] (by kernel_rfl) ?_
  refine gv_nil <| gv_seq <| gv_region <| gv_pureN 1 [19] [(19, (.int .u8 x2))] (by kernel_rfl) ?_
  refine bindE h0 ?_; clear h0; intro x4 hx5 h0
  refine gv_idxarr (t := 90) (e := 5) (A := ⟨0, 0, none⟩) (len := 256) (kk := .u8) (i := x2) (sz := 1) [] (fun e => by cases e) rfl rfl rfl (by kernel_rfl) (by kernel_rfl) Tryz.underlying90 (by kernel_rfl) (idx_spec hx5).1 (by have e := (idx_spec hx5).2.1; rw [utf8First_len] at e; exact e) rfl ?_
  refine gv_load (t := 5) (A := (elemAddr (some ⟨0, 0, none⟩) ((x2 : Int).toNat * 1))) (.int .u8 ((x4).toNat : Int)) [] (fun e => by cases e) rfl rfl rfl (by kernel_rfl) (by kernel_rfl) (by kernel_rfl) (inw0 ((hG0.below hB0 hX0).cell hx5)) rfl ?_
  refine gv_pureN 1 [6] [(6, (.int .u8 ((x4).toNat : Int)))] (by kernel_rfl) ?_
  refine gv_nil <| gv_seq <| gv_seq <| gv_region <| gv_pureN 2 [22, 23] [(23, (.bool (decide (((x4).toNat : Int) ≥ 240))))] (by kernel_rfl) ?_
  refine gv_nil <| gv_cond (b := (decide (((x4).toNat : Int) ≥ 240))) (by kernel_rfl) (fun hc6 => ?_) (fun hc6 => ?_)
  ·replace h0 := ite_t hc6 h0
   refine gv_seq <| gv_region <| gv_pureN 5 [7, 24, 25, 26, 27] [(7, (.int .i32 (((IntKind.i32.wrap ((IntKind.i32.wrap (((x4).toNat : Int))) * 2 ^ 31))).fdiv (2 ^ 31))))] (by kernel_rfl) ?_
   refine bindE h0 ?_; clear h0; intro n7 hn8 h0
   refine gv_name (s := 7) (v := (.int .i32 (((IntKind.i32.wrap ((IntKind.i32.wrap (((x4).toNat : Int))) * 2 ^ 31))).fdiv (2 ^ 31)))) (v' := (.int .i32 n7)) (by kernel_rfl) (congrArg (Value.int .i32) (sj hn8)) ?_
   refine gv_nil <| gv_seq <| gv_region <| gv_pureN 1 [28] [(28, (.string s_0))] (by kernel_rfl) ?_
   refine bindE h0 ?_; clear h0; intro x9 hx10 h0
   refine gv_sindex (t := 9) (s := s_0) (kk := .i64) (i := 0) x9 [] (fun e => by cases e) rfl rfl rfl (by kernel_rfl) (by kernel_rfl) Tryz.underlying9 hx10 rfl ?_
   refine gv_pureN 8 [2, 3, 30, 31, 32, 33, 34, 35] [(2, (.int .i32 (bwOr .i32 (bwAndNot .i32 (IntKind.i32.wrap (x9)) n7) (bwAnd .i32 65533 n7)))), (3, (.int .i64 1))] (by kernel_rfl) ?_
   refine gv_sub [2, 3] (σ' := [(2, (.int .i32 (bwOr .i32 (bwAndNot .i32 (IntKind.i32.wrap (x9)) n7) (bwAnd .i32 65533 n7)))), (3, (.int .i64 1))]) (by kernel_rfl) ?_
   refine bindE h0 ?_; clear h0; intro n11 hn12 h0
   refine gv_name (s := 2) (v := (.int .i32 (bwOr .i32 (bwAndNot .i32 (IntKind.i32.wrap (x9)) n7) (bwAnd .i32 65533 n7)))) (v' := (.int .i32 n11)) (by kernel_rfl) (congrArg (Value.int .i32) (sj hn12)) ?_
   refine gv_nil <| gv_cret ?_
   have e := sj h0; subst e
   refine gv_ret (gv_done [(.int .i32 n11), (.int .i64 1)] rfl ⟨(by kernel_rfl), (by kernel_rfl), trivial⟩ ?_)
   exact ⟨grown_of_below hB0, rfl⟩
  ·replace h0 := ite_f hc6 h0
   refine gv_skip <| gv_seq <| gv_region <| gv_pureN 4 [8, 36, 37, 38] [(8, (.int .i64 (IntKind.i64.wrap ((bwAnd .u8 ((x4).toNat : Int) 7)))))] (by kernel_rfl) ?_
   refine bindE h0 ?_; clear h0; intro n13 hn14 h0
   refine gv_name (s := 8) (v := (.int .i64 (IntKind.i64.wrap ((bwAnd .u8 ((x4).toNat : Int) 7))))) (v' := (.int .i64 n13)) (by kernel_rfl) (congrArg (Value.int .i64) (sj hn14)) ?_
   refine gv_nil <| gv_seq <| gv_region <| gv_pureN 2 [39, 40] [(40, (.int .u8 ((((x4).toNat : Int)).fdiv (2 ^ 4))))] (by kernel_rfl) ?_
   refine bindE h0 ?_; clear h0; intro x15 hx16 h0
   refine gv_idxarr (t := 93) (e := 92) (A := ⟨1, 0, none⟩) (len := 16) (kk := .u8) (i := ((((x4).toNat : Int)).fdiv (2 ^ 4))) (sz := 2) [] (fun e => by cases e) rfl rfl rfl (by kernel_rfl) (by kernel_rfl) Tryz.underlying93 (by kernel_rfl) (idx_spec hx16).1 (by have e := (idx_spec hx16).2.1; rw [utf8Acc_len] at e; exact e) rfl ?_
   refine gv_sub [0, 4, 5, 8, 41] (σ' := [(0, (.string s_0)), (4, (.int .i64 ((ByteArray.size s_0 : Nat) : Int))), (5, (.int .u8 x2)), (8, (.int .i64 n13)), (41, (.pointer (some (elemAddr (some ⟨1, 0, none⟩) ((((((x4).toNat : Int)).fdiv (2 ^ 4)) : Int).toNat * 2)))))]) (by kernel_rfl) ?_
   obtain ⟨_, ⟨_, _, rfl, rfl, rfl⟩, hc17⟩ := hG1.cellsK hx16
   refine gv_loadAgg (t := 92) (A := (elemAddr (some ⟨1, 0, none⟩) ((((((x4).toNat : Int)).fdiv (2 ^ 4)) : Int).toNat * 2))) #[(.int .u8 x15.1), (.int .u8 x15.2)] [] (fun e => by cases e) rfl rfl rfl (by kernel_rfl) (by kernel_rfl) (by kernel_rfl) (by kernel_rfl) (inw0 (hc17 w0 (fun k hk => hB0.block k (hX0 k hk)))) rfl ?_
   refine gv_new0 (fun b => .pointer (some ⟨b, 0, none⟩)) #[(.int .u8 0), (.int .u8 0)] 92 (by kernel_rfl) (by kernel_rfl) ?_
   intro b18 w19 hg20 hb21 hbe22 hz23
   refine gv_store0 92 0 (.agg #[(.int .u8 x15.1), (.int .u8 x15.2)]) #[(.int .u8 x15.1), (.int .u8 x15.2)] hb21 (by kernel_rfl) (by kernel_rfl) (by kernel_rfl) ?_
   intro w24 hg25 hb26 hz27
   refine gv_nil <| gv_seq <| gv_seq <| gv_region <| gv_pureN 3 [43, 44, 45] [(45, (.bool (decide (((ByteArray.size s_0 : Nat) : Int) < n13))))] (by kernel_rfl) ?_
   refine gv_nil <| gv_cond (b := (decide (((ByteArray.size s_0 : Nat) : Int) < n13))) (by kernel_rfl) (fun hc28 => ?_) (fun hc28 => ?_)
   ·replace h0 := ite_t hc28 h0
    refine gv_seq <| gv_region <| gv_pureN 2 [2, 3] [(2, (.int .i32 65533)), (3, (.int .i64 1))] (by kernel_rfl) ?_
    refine gv_nil <| gv_cret ?_
    have e := sj h0; subst e
    refine gv_ret (gv_done [(.int .i32 65533), (.int .i64 1)] rfl ⟨(by kernel_rfl), (by kernel_rfl), trivial⟩ ?_)
    have hB29 := bg hB0 hg20 nb
    have hlo30 : w0.heap.size ≤ b18 := lob hbe22 hB0.size
    have hB31 := bg hB29 hg25 (rowlo hlo30)
    exact ⟨grown_of_below hB31, rfl⟩
   ·replace h0 := ite_f hc28 h0
    refine gv_skip <| gv_seq <| gv_region <| gv_pureN 1 [46] [(46, (.string s_0))] (by kernel_rfl) ?_
    refine bindE h0 ?_; clear h0; intro x32 hx33 h0
    refine gv_sindex (t := 9) (s := s_0) (kk := .i64) (i := 1) x32 [] (fun e => by cases e) rfl rfl rfl (by kernel_rfl) (by kernel_rfl) Tryz.underlying9 hx33 rfl ?_
    refine gv_pureN 1 [10] [(10, (.int .u8 x32))] (by kernel_rfl) ?_
    refine gv_nil <| gv_seq <| gv_seq <| gv_region <| bindE h0 ?_; clear h0; intro j34 h1 h0
    refine gv_cut_ops (J := fun a w35 => Below w0.heap.size w0 w35 ∧ w24.heap.size ≤ w35.heap.size ∧ a.defers = [] ∧ a.tmps.size = 117 ∧ Ok [(0, (.string s_0)), (5, (.int .u8 x2)), (8, (.int .i64 n13)), (10, (.int .u8 x32)), (57, (.bool j34))] a.tmps) ?_ ?_
    ·skip
     refine gv_pureN 2 [48, 49] [(48, (.int .u8 x32)), (49, (bp b18))] (by kernel_rfl) ?_
     refine gv_load (t := 5) (A := ⟨b18, 0, none⟩) (.int .u8 x15.1) [] (fun e => by cases e) rfl rfl rfl (by kernel_rfl) (by kernel_rfl) (by kernel_rfl) (inw0 (hb26.cell 0 rfl)) rfl ?_
     refine gv_pureN 2 [51, 52] [(52, (.bool (decide (x32 < x15.1))))] (by kernel_rfl) ?_
     refine gv_split (s := 52) (g := (decide (x32 < x15.1))) (by kernel_rfl) (fun hc36 => ?_) (fun hc36 => ?_)
     ·skip
      replace h1 := ite_t hc36 h1
      refine gv_pureN 5 [53, 54, 55, 56, 57] [(57, (.bool true))] (by kernel_rfl) ?_
      refine gv_nil ?_
      have e := sj h1; subst e
      refine gv_goal fun a hd hs hok => ?_
      have hB37 := bg hB0 hg20 nb
      have hlo38 : w0.heap.size ≤ b18 := lob hbe22 hB0.size
      have hB39 := bg hB37 hg25 (rowlo hlo38)
      exact ⟨hB39, (Nat.le_refl _), hd, hs, ok_pick [0, 5, 8, 10, 57] hok (by kernel_rfl)⟩
     ·skip
      replace h1 := ite_f hc36 h1
      refine gv_pureN 1 [53] [(53, (.pointer (some ⟨b18, 1, none⟩)))] (by kernel_rfl) ?_
      refine gv_load (t := 5) (A := ⟨b18, 1, none⟩) (.int .u8 x15.2) [] (fun e => by cases e) rfl rfl rfl (by kernel_rfl) (by kernel_rfl) (by kernel_rfl) (inw0 (hb26.cell 1 rfl)) rfl ?_
      refine gv_pureN 3 [55, 56, 57] [(57, (.bool (decide (x15.2 < x32))))] (by kernel_rfl) ?_
      refine gv_nil ?_
      have e := sj h1; subst e
      refine gv_goal fun a hd hs hok => ?_
      have hB40 := bg hB0 hg20 nb
      have hlo41 : w0.heap.size ≤ b18 := lob hbe22 hB0.size
      have hB42 := bg hB40 hg25 (rowlo hlo41)
      exact ⟨hB42, (Nat.le_refl _), hd, hs, ok_pick [0, 5, 8, 10, 57] hok (by kernel_rfl)⟩
    ·rintro a w35 ⟨hB43, hz44, hd, hs, hok⟩
     refine gv_in ?_ hd hs hok
     clear hd hs hok
     clear hz44 hx33 hc28 hz27 hb26 hg25 hz23 hbe22 hb21 hg20 hc17 hx16 hn14 hc6 hx5 hx3 hc1
     refine gv_cond (b := j34) (by kernel_rfl) (fun hc45 => ?_) (fun hc45 => ?_)
     ·replace h0 := ite_t hc45 h0
      refine gv_seq <| gv_region <| gv_pureN 2 [2, 3] [(2, (.int .i32 65533)), (3, (.int .i64 1))] (by kernel_rfl) ?_
      refine gv_nil <| gv_cret ?_
      have e := sj h0; subst e
      refine gv_ret (gv_done [(.int .i32 65533), (.int .i64 1)] rfl ⟨(by kernel_rfl), (by kernel_rfl), trivial⟩ ?_)
      exact ⟨grown_of_below hB43, rfl⟩
     ·replace h0 := ite_f hc45 h0
      refine gv_skip <| gv_seq <| gv_seq <| gv_region <| gv_pureN 2 [58, 59] [(59, (.bool (decide (n13 ≤ 2))))] (by kernel_rfl) ?_
      refine gv_nil <| gv_cond (b := (decide (n13 ≤ 2))) (by kernel_rfl) (fun hc46 => ?_) (fun hc46 => ?_)
      ·replace h0 := ite_t hc46 h0
       refine gv_seq <| gv_region <| gv_pureN 10 [2, 3, 60, 61, 62, 63, 64, 65, 66, 67] [(2, (.int .i32 (bwOr .i32 (IntKind.i32.wrap ((IntKind.i32.wrap ((bwAnd .u8 x2 31))) * 2 ^ 6)) (IntKind.i32.wrap ((bwAnd .u8 x32 63)))))), (3, (.int .i64 2))] (by kernel_rfl) ?_
       refine bindE h0 ?_; clear h0; intro n47 hn48 h0
       refine gv_name (s := 2) (v := (.int .i32 (bwOr .i32 (IntKind.i32.wrap ((IntKind.i32.wrap ((bwAnd .u8 x2 31))) * 2 ^ 6)) (IntKind.i32.wrap ((bwAnd .u8 x32 63)))))) (v' := (.int .i32 n47)) (by kernel_rfl) (congrArg (Value.int .i32) (sj hn48)) ?_
       refine gv_nil <| gv_cret ?_
       have e := sj h0; subst e
       refine gv_ret (gv_done [(.int .i32 n47), (.int .i64 2)] rfl ⟨(by kernel_rfl), (by kernel_rfl), trivial⟩ ?_)
       exact ⟨grown_of_below hB43, rfl⟩
      ·replace h0 := ite_f hc46 h0
       refine gv_skip <| gv_seq <| gv_region <| gv_pureN 1 [68] [(68, (.string s_0))] (by kernel_rfl) ?_
       refine bindE h0 ?_; clear h0; intro x49 hx50 h0
       refine gv_sindex (t := 9) (s := s_0) (kk := .i64) (i := 2) x49 [] (fun e => by cases e) rfl rfl rfl (by kernel_rfl) (by kernel_rfl) Tryz.underlying9 hx50 rfl ?_
       refine gv_pureN 1 [11] [(11, (.int .u8 x49))] (by kernel_rfl) ?_
       refine gv_nil <| gv_seq <| gv_seq <| gv_region <| gv_cut_ops (J := fun a w51 => w35 = w51 ∧ a.defers = [] ∧ a.tmps.size = 117 ∧ Ok [(0, (.string s_0)), (5, (.int .u8 x2)), (8, (.int .i64 n13)), (10, (.int .u8 x32)), (11, (.int .u8 x49)), (75, (.bool ((decide (x49 < 128)) || (decide (191 < x49)))))] a.tmps) ?_ ?_
       ·skip
        refine gv_pureN 3 [70, 71, 72] [(72, (.bool (decide (x49 < 128))))] (by kernel_rfl) ?_
        refine gv_split (s := 72) (g := (decide (x49 < 128))) (by kernel_rfl) (fun hc52 => ?_) (fun hc52 => ?_)
        ·skip
         refine gv_pureN 3 [73, 74, 75] [(75, (.bool true))] (by kernel_rfl) ?_
         refine gv_nil <| gv_sub [0, 5, 8, 10, 11, 75] (σ' := [(0, (.string s_0)), (5, (.int .u8 x2)), (8, (.int .i64 n13)), (10, (.int .u8 x32)), (11, (.int .u8 x49)), (75, (.bool true))]) (by kernel_rfl) ?_
         refine gv_goal fun a hd hs hok => ⟨rfl, hd, hs, ?_⟩
         obtain ⟨q0, q5, q8, q10, q11, q75, _⟩ := hok
         exact ⟨q0, q5, q8, q10, q11, (by rw [hc52]; exact q75), trivial⟩
        ·skip
         refine gv_pureN 3 [73, 74, 75] [(75, (.bool (decide (191 < x49))))] (by kernel_rfl) ?_
         refine gv_nil <| gv_sub [0, 5, 8, 10, 11, 75] (σ' := [(0, (.string s_0)), (5, (.int .u8 x2)), (8, (.int .i64 n13)), (10, (.int .u8 x32)), (11, (.int .u8 x49)), (75, (.bool (decide (191 < x49))))]) (by kernel_rfl) ?_
         refine gv_goal fun a hd hs hok => ⟨rfl, hd, hs, ?_⟩
         obtain ⟨q0, q5, q8, q10, q11, q75, _⟩ := hok
         exact ⟨q0, q5, q8, q10, q11, (by rw [hc52]; exact q75), trivial⟩
       ·rintro a w51 ⟨e, hd, hs, hok⟩; subst e
        refine gv_in ?_ hd hs hok
        clear hd hs hok
        refine gv_cond (b := ((decide (x49 < 128)) || (decide (191 < x49)))) (by kernel_rfl) (fun hc53 => ?_) (fun hc53 => ?_)
        ·replace h0 := ite_t hc53 h0
         refine gv_seq <| gv_region <| gv_pureN 2 [2, 3] [(2, (.int .i32 65533)), (3, (.int .i64 1))] (by kernel_rfl) ?_
         refine gv_nil <| gv_cret ?_
         have e := sj h0; subst e
         refine gv_ret (gv_done [(.int .i32 65533), (.int .i64 1)] rfl ⟨(by kernel_rfl), (by kernel_rfl), trivial⟩ ?_)
         exact ⟨grown_of_below hB43, rfl⟩
        ·replace h0 := ite_f hc53 h0
         refine gv_skip <| gv_seq <| gv_seq <| gv_region <| gv_pureN 2 [76, 77] [(77, (.bool (decide (n13 ≤ 3))))] (by kernel_rfl) ?_
         refine gv_nil <| gv_cond (b := (decide (n13 ≤ 3))) (by kernel_rfl) (fun hc54 => ?_) (fun hc54 => ?_)
         ·replace h0 := ite_t hc54 h0
          refine gv_seq <| gv_region <| gv_pureN 15 [2, 3, 78, 79, 80, 81, 82, 83, 84, 85, 86, 87, 88, 89, 90] [(2, (.int .i32 (bwOr .i32 (bwOr .i32 (IntKind.i32.wrap ((IntKind.i32.wrap ((bwAnd .u8 x2 15))) * 2 ^ 12)) (IntKind.i32.wrap ((IntKind.i32.wrap ((bwAnd .u8 x32 63))) * 2 ^ 6))) (IntKind.i32.wrap ((bwAnd .u8 x49 63)))))), (3, (.int .i64 3))] (by kernel_rfl) ?_
          refine bindE h0 ?_; clear h0; intro n55 hn56 h0
          refine gv_name (s := 2) (v := (.int .i32 (bwOr .i32 (bwOr .i32 (IntKind.i32.wrap ((IntKind.i32.wrap ((bwAnd .u8 x2 15))) * 2 ^ 12)) (IntKind.i32.wrap ((IntKind.i32.wrap ((bwAnd .u8 x32 63))) * 2 ^ 6))) (IntKind.i32.wrap ((bwAnd .u8 x49 63)))))) (v' := (.int .i32 n55)) (by kernel_rfl) (congrArg (Value.int .i32) (sj hn56)) ?_
          refine gv_nil <| gv_cret ?_
          have e := sj h0; subst e
          refine gv_ret (gv_done [(.int .i32 n55), (.int .i64 3)] rfl ⟨(by kernel_rfl), (by kernel_rfl), trivial⟩ ?_)
          exact ⟨grown_of_below hB43, rfl⟩
         ·replace h0 := ite_f hc54 h0
          refine gv_skip <| gv_seq <| gv_region <| gv_pureN 1 [91] [(91, (.string s_0))] (by kernel_rfl) ?_
          refine bindE h0 ?_; clear h0; intro x57 hx58 h0
          refine gv_sindex (t := 9) (s := s_0) (kk := .i64) (i := 3) x57 [] (fun e => by cases e) rfl rfl rfl (by kernel_rfl) (by kernel_rfl) Tryz.underlying9 hx58 rfl ?_
          refine gv_pureN 1 [12] [(12, (.int .u8 x57))] (by kernel_rfl) ?_
          refine gv_nil <| gv_seq <| gv_seq <| gv_region <| gv_cut_ops (J := fun a w59 => w35 = w59 ∧ a.defers = [] ∧ a.tmps.size = 117 ∧ Ok [(5, (.int .u8 x2)), (10, (.int .u8 x32)), (11, (.int .u8 x49)), (12, (.int .u8 x57)), (98, (.bool ((decide (x57 < 128)) || (decide (191 < x57)))))] a.tmps) ?_ ?_
          ·skip
           refine gv_pureN 3 [93, 94, 95] [(95, (.bool (decide (x57 < 128))))] (by kernel_rfl) ?_
           refine gv_split (s := 95) (g := (decide (x57 < 128))) (by kernel_rfl) (fun hc60 => ?_) (fun hc60 => ?_)
           ·skip
            refine gv_pureN 3 [96, 97, 98] [(98, (.bool true))] (by kernel_rfl) ?_
            refine gv_nil <| gv_sub [5, 10, 11, 12, 98] (σ' := [(5, (.int .u8 x2)), (10, (.int .u8 x32)), (11, (.int .u8 x49)), (12, (.int .u8 x57)), (98, (.bool true))]) (by kernel_rfl) ?_
            refine gv_goal fun a hd hs hok => ⟨rfl, hd, hs, ?_⟩
            obtain ⟨q5, q10, q11, q12, q98, _⟩ := hok
            exact ⟨q5, q10, q11, q12, (by rw [hc60]; exact q98), trivial⟩
           ·skip
            refine gv_pureN 3 [96, 97, 98] [(98, (.bool (decide (191 < x57))))] (by kernel_rfl) ?_
            refine gv_nil <| gv_sub [5, 10, 11, 12, 98] (σ' := [(5, (.int .u8 x2)), (10, (.int .u8 x32)), (11, (.int .u8 x49)), (12, (.int .u8 x57)), (98, (.bool (decide (191 < x57))))]) (by kernel_rfl) ?_
            refine gv_goal fun a hd hs hok => ⟨rfl, hd, hs, ?_⟩
            obtain ⟨q5, q10, q11, q12, q98, _⟩ := hok
            exact ⟨q5, q10, q11, q12, (by rw [hc60]; exact q98), trivial⟩
          ·rintro a w59 ⟨e, hd, hs, hok⟩; subst e
           refine gv_in ?_ hd hs hok
           clear hd hs hok
           refine gv_cond (b := ((decide (x57 < 128)) || (decide (191 < x57)))) (by kernel_rfl) (fun hc61 => ?_) (fun hc61 => ?_)
           ·replace h0 := ite_t hc61 h0
            refine gv_seq <| gv_region <| gv_pureN 2 [2, 3] [(2, (.int .i32 65533)), (3, (.int .i64 1))] (by kernel_rfl) ?_
            refine gv_nil <| gv_cret ?_
            have e := sj h0; subst e
            refine gv_ret (gv_done [(.int .i32 65533), (.int .i64 1)] rfl ⟨(by kernel_rfl), (by kernel_rfl), trivial⟩ ?_)
            exact ⟨grown_of_below hB43, rfl⟩
           ·replace h0 := ite_f hc61 h0
            refine gv_skip <| gv_seq <| gv_region <| gv_pureN 20 [2, 3, 99, 100, 101, 102, 103, 104, 105, 106, 107, 108, 109, 110, 111, 112, 113, 114, 115, 116] [(2, (.int .i32 (bwOr .i32 (bwOr .i32 (bwOr .i32 (IntKind.i32.wrap ((IntKind.i32.wrap ((bwAnd .u8 x2 7))) * 2 ^ 18)) (IntKind.i32.wrap ((IntKind.i32.wrap ((bwAnd .u8 x32 63))) * 2 ^ 12))) (IntKind.i32.wrap ((IntKind.i32.wrap ((bwAnd .u8 x49 63))) * 2 ^ 6))) (IntKind.i32.wrap ((bwAnd .u8 x57 63)))))), (3, (.int .i64 4))] (by kernel_rfl) ?_
            refine bindE h0 ?_; clear h0; intro n62 hn63 h0
            refine gv_name (s := 2) (v := (.int .i32 (bwOr .i32 (bwOr .i32 (bwOr .i32 (IntKind.i32.wrap ((IntKind.i32.wrap ((bwAnd .u8 x2 7))) * 2 ^ 18)) (IntKind.i32.wrap ((IntKind.i32.wrap ((bwAnd .u8 x32 63))) * 2 ^ 12))) (IntKind.i32.wrap ((IntKind.i32.wrap ((bwAnd .u8 x49 63))) * 2 ^ 6))) (IntKind.i32.wrap ((bwAnd .u8 x57 63)))))) (v' := (.int .i32 n62)) (by kernel_rfl) (congrArg (Value.int .i32) (sj hn63)) ?_
            refine gv_nil <| gv_cret ?_
            have e := sj h0; subst e
            refine gv_ret (gv_done [(.int .i32 n62), (.int .i64 4)] rfl ⟨(by kernel_rfl), (by kernel_rfl), trivial⟩ ?_)
            exact ⟨grown_of_below hB43, rfl⟩

theorem utf8_DecodeRuneInString_ok (fuel : Nat) (s_0 : ByteArray) (w0 : World) (X0 : Nat → Prop) (hX0 : ∀ k, X0 k → k < w0.heap.size) (hG0 : Rd bE w0 X0 (some ⟨0, 0, none⟩) 256 utf8First) (hG1 : Rd (prE (iE .u8) (iE .u8)) w0 X0 (some ⟨1, 0, none⟩) 16 utf8Acc) (r0 : (Int × Int)) (h0 : utf8_DecodeRuneInString fuel s_0 = some r0) :
    Calls Tryz.prog 84 ([(.string s_0)] : List Value).toArray w0 (Ret fun v w' => w0.grownBy w' none ∧ v = tup [(.int .i32 r0.1), (.int .i64 r0.2)]) := by
 have hB0 : Below w0.heap.size w0 w0 := Below.refl _ _
 unfold utf8_DecodeRuneInString at h0
 refine calls_run Tryz.func84 rfl Tryz.ntmps84 (by kernel_rfl) ?_
 refine gv_sub [0] (σ' := [(0, (.string s_0))]) (by kernel_rfl) ?_
 refine gv_seq <| gv_region <| gv_pureN 2 [2, 3] [] (by kernel_rfl) ?_
 refine gv_nil <| gv_seq <| gv_seq <| gv_region <| bindE h0 ?_; clear h0; intro j1 h1 h0
 refine gv_cut_ops (J := fun a w2 => Below w0.heap.size w0 w2 ∧ w0.heap.size ≤ w2.heap.size ∧ a.defers = [] ∧ a.tmps.size = 19 ∧ Ok [(0, (.string s_0)), (10, (.bool j1))] a.tmps) ?_ ?_
 ·skip
  refine gv_pureN 3 [4, 5, 6] [(6, (.bool (!(s_0.toList == (strOf []).toList))))] (by kernel_rfl) ?_
  refine gv_split (s := 6) (g := (!(s_0.toList == (strOf []).toList))) (by kernel_rfl) (fun hc3 => ?_) (fun hc3 => ?_)
  ·skip
   replace h1 := ite_t hc3 h1
   refine gv_pureN 1 [7] [(7, (.string s_0))] (by kernel_rfl) ?_
   refine bindE h1 ?_; clear h1; intro x4 hx5 h1
   refine gv_sindex (t := 9) (s := s_0) (kk := .i64) (i := 0) x4 [] (fun e => by cases e) rfl rfl rfl (by kernel_rfl) (by kernel_rfl) Tryz.underlying9 hx5 rfl ?_
   refine gv_pureN 2 [9, 10] [(10, (.bool (decide (x4 < 128))))] (by kernel_rfl) ?_
   refine gv_nil ?_
   have e := sj h1; subst e
   refine gv_goal fun a hd hs hok => ?_
   exact ⟨hB0, (Nat.le_refl _), hd, hs, ok_pick [0, 10] hok (by kernel_rfl)⟩
  ·skip
   replace h1 := ite_f hc3 h1
   refine gv_pureN 4 [7, 8, 9, 10] [(10, (.bool false))] (by kernel_rfl) ?_
   refine gv_nil ?_
   have e := sj h1; subst e
   refine gv_goal fun a hd hs hok => ?_
   exact ⟨hB0, (Nat.le_refl _), hd, hs, ok_pick [0, 10] hok (by kernel_rfl)⟩
 ·rintro a w2 ⟨hB6, hz7, hd, hs, hok⟩
  refine gv_in ?_ hd hs hok
  clear hd hs hok
  refine gv_cond (b := j1) (by kernel_rfl) (fun hc8 => ?_) (fun hc8 => ?_)
  ·replace h0 := ite_t hc8 h0
   refine gv_seq <| gv_region <| gv_pureN 1 [11] [(11, (.string s_0))] (by kernel_rfl) ?_
   refine bindE h0 ?_; clear h0; intro x9 hx10 h0
   refine gv_sindex (t := 9) (s := s_0) (kk := .i64) (i := 0) x9 [] (fun e => by cases e) rfl rfl rfl (by kernel_rfl) (by kernel_rfl) Tryz.underlying9 hx10 rfl ?_
   refine gv_pureN 3 [2, 3, 13] [(2, (.int .i32 (IntKind.i32.wrap (x9)))), (3, (.int .i64 1))] (by kernel_rfl) ?_
   refine gv_nil <| gv_cret ?_
   have e := sj h0; subst e
   refine gv_ret (gv_done [(.int .i32 (IntKind.i32.wrap (x9))), (.int .i64 1)] rfl ⟨(by kernel_rfl), (by kernel_rfl), trivial⟩ ?_)
   exact ⟨grown_of_below hB6, rfl⟩
  ·replace h0 := ite_f hc8 h0
   refine gv_region <| gv_pureN 1 [15] [(15, (.string s_0))] (by kernel_rfl) ?_
   refine bindE h0 ?_; clear h0; intro r11 hr12 h0
   refine gv_call0 (by kernel_rfl) rfl (by kernel_rfl) enters100 (utf8_decodeRuneInStringSlow_ok fuel s_0 w2 (fun k => X0 k ∨ X0 k) (fun k hk => (hk).elim (fun h => (fun k (hk : X0 k) => ltl (hX0 k hk) hB6.size) k h) (fun h => (fun k (hk : X0 k) => ltl (hX0 k hk) hB6.size) k h)) ((hG0.below hB6 hX0).wide (fun k hk => (.inl hk))) ((hG1.below hB6 hX0).wide (fun k hk => (.inr hk))) r11 hr12) ?_
   rintro v15 w13 ⟨hg14, rfl⟩
   refine gv_pureN 5 [2, 3, 14, 17, 18] [(2, (.int .i32 r11.1)), (3, (.int .i64 r11.2))] (by kernel_rfl) ?_
   refine gv_nil <| gv_cret ?_
   have e := sj h0; subst e
   refine gv_ret (gv_done [(.int .i32 r11.1), (.int .i64 r11.2)] rfl ⟨(by kernel_rfl), (by kernel_rfl), trivial⟩ ?_)
   have hB16 := bg hB6 hg14 nb
   exact ⟨grown_of_below hB16, rfl⟩

theorem textstr_pieces_ok (fuel : Nat) (pa0_0 : Option Addr) (pc0_0 : Nat) (l_0 : (List ByteArray)) (w0 : World) (X0 : Nat → Prop) (hX0 : ∀ k, X0 k → k < w0.heap.size) (hpa0_0 : Rd sE w0 X0 pa0_0 pc0_0 l_0) (r0 : ((List ByteArray) × (Int × Int))) (h0 : textstr_pieces fuel l_0 = some r0) :
    Calls Tryz.prog 41 ([(.slice pa0_0 (List.length l_0) pc0_0)] : List Value).toArray w0 (Ret fun v w' => w0.grownBy w' none ∧ ∃ (a0_0r : Option Addr) (c0_0r : Nat), ∃ (X0_0r : Nat → Prop), v = tup [(.slice a0_0r (List.length r0.1) c0_0r), (.agg #[(.int .i64 r0.2.1), (.int .i64 r0.2.2)])] ∧ Rd sE w' X0_0r a0_0r c0_0r r0.1 ∧ (∀ k, X0_0r k → k < w'.heap.size ∧ (X0 k ∨ w0.heap.size ≤ k))) := by
 have hB0 : Below w0.heap.size w0 w0 := Below.refl _ _
 unfold textstr_pieces at h0
 refine calls_run Tryz.func41 rfl Tryz.ntmps41 (by kernel_rfl) ?_
 refine gv_sub [0] (σ' := [(0, (.slice pa0_0 (List.length l_0) pc0_0))]) (by kernel_rfl) ?_
 refine gv_seq <| gv_region <| gv_pureN 1 [2] [] (by kernel_rfl) ?_
 refine gv_new0 (fun b => .pointer (some ⟨b, 0, none⟩)) #[(.int .i64 0), (.int .i64 0)] 29 (by kernel_rfl) (by kernel_rfl) ?_
 intro b1 w2 hg3 hb4 hbe5 hz6
 refine gv_nil <| gv_seq <| gv_seq <| gv_region <| gv_pureN 3 [4, 5, 6] [(6, (.bool (decide (((List.length l_0 : Nat) : Int) > 1000))))] (by kernel_rfl) ?_
 refine gv_nil <| gv_cond (b := (decide (((List.length l_0 : Nat) : Int) > 1000))) (by kernel_rfl) (fun hc7 => ?_) (fun hc7 => ?_)
 ·replace h0 := ite_t hc7 h0
  refine gv_seq <| gv_region <| bindE h0 ?_; clear h0; intro r8 hr9 h0
  refine gv_call0 (by kernel_rfl) rfl (by kernel_rfl) enters23 (textstr_at_ok fuel 2 (-1) w2  r8 hr9) ?_
  rintro v12 w10 ⟨hg11, rfl⟩
  refine gv_pureN 1 [2] [(2, (.slice none (List.length ([] : List ByteArray)) 0))] (by kernel_rfl) ?_
  have hk17 := hb4.grown hg11 nb
  refine gv_store0 29 0 (.agg #[(.int .i64 r8.1), (.int .i64 r8.2)]) #[(.int .i64 r8.1), (.int .i64 r8.2)] hk17 (by kernel_rfl) (by kernel_rfl) (by kernel_rfl) ?_
  intro w13 hg14 hb15 hz16
  refine gv_nil <| gv_cret ?_
  have e := sj h0; subst e
  refine gv_ret (gv_done [(.slice none (List.length ([] : List ByteArray)) 0), (.agg #[(.int .i64 r8.1), (.int .i64 r8.2)])] rfl ⟨(by kernel_rfl), ⟨⟨b1, 0, none⟩, (by kernel_rfl), run_loadVar_row w13 b1 _ 29 _ _ _ hb15 Tryz.underlying29 rfl (by kernel_rfl)⟩, trivial⟩ ?_)
  have hg18 := (grown_trans hg3 hg11)
  have hB19 := bg hB0 hg18 nb
  have hlo20 : w0.heap.size ≤ b1 := lob hbe5 hB0.size
  have hB21 := bg hB19 hg14 (rowlo hlo20)
  exact ⟨grown_of_below hB21, none, 0, (fun _ => False), rfl, (Rd.nil sE w13 (fun _ => False) none 0), (fun k hk => ⟨(fun _ h => h.elim) k hk, (fun _ h => h.elim) k hk⟩)⟩
 ·replace h0 := ite_f hc7 h0
  refine gv_skip <| gv_seq <| gv_region <| gv_pureN 3 [2, 8, 9] [(2, (.slice pa0_0 (List.length l_0) pc0_0)), (9, (.agg #[(.int .i64 0), (.int .i64 0)]))] (by kernel_rfl) ?_
  refine gv_store0 29 0 (.agg #[(.int .i64 0), (.int .i64 0)]) #[(.int .i64 0), (.int .i64 0)] hb4 (by kernel_rfl) (by kernel_rfl) (by kernel_rfl) ?_
  intro w22 hg23 hb24 hz25
  refine gv_nil <| gv_cret ?_
  have e := sj h0; subst e
  refine gv_ret (gv_done [(.slice pa0_0 (List.length l_0) pc0_0), (.agg #[(.int .i64 0), (.int .i64 0)])] rfl ⟨(by kernel_rfl), ⟨⟨b1, 0, none⟩, (by kernel_rfl), run_loadVar_row w22 b1 _ 29 _ _ _ hb24 Tryz.underlying29 rfl (by kernel_rfl)⟩, trivial⟩ ?_)
  have hB26 := bg hB0 hg3 nb
  have hlo27 : w0.heap.size ≤ b1 := lob hbe5 hB0.size
  have hB28 := bg hB26 hg23 (rowlo hlo27)
  exact ⟨grown_of_below hB28, pa0_0, pc0_0, X0, rfl, (hpa0_0.below hB28 hX0), (fun k hk => ⟨(fun k (hk : X0 k) => ltl (hX0 k hk) hB28.size) k hk, (fun k (hk : X0 k) => Or.inl hk) k hk⟩)⟩

theorem textstr_Split_ok (fuel : Nat) (s_0 : ByteArray) (sep_1 : ByteArray) (most_2 : Int) (w0 : World) (X0 : Nat → Prop) (hX0 : ∀ k, X0 k → k < w0.heap.size) (hG0 : Rd bE w0 X0 (some ⟨0, 0, none⟩) 256 utf8First) (hG1 : Rd (prE (iE .u8) (iE .u8)) w0 X0 (some ⟨1, 0, none⟩) 16 utf8Acc) {gmx : Int} (hG2 : Rd (iE .i64) w0 X0 (some ⟨2, 0, none⟩) 1 [gmx]) (r0 : ((List ByteArray) × (Int × Int))) (h0 : textstr_Split fuel s_0 sep_1 most_2 = some r0) :
    Calls Tryz.prog 26 ([(.string s_0), (.string sep_1), (.int .i64 most_2)] : List Value).toArray w0 (Ret fun v w' => w0.grownBy w' none ∧ ∃ (a0_0r : Option Addr) (c0_0r : Nat), ∃ (X0_0r : Nat → Prop), v = tup [(.slice a0_0r (List.length r0.1) c0_0r), (.agg #[(.int .i64 r0.2.1), (.int .i64 r0.2.2)])] ∧ Rd sE w' X0_0r a0_0r c0_0r r0.1 ∧ (∀ k, X0_0r k → k < w'.heap.size ∧ (X0 k ∨ w0.heap.size ≤ k))) := by
 have hB0 : Below w0.heap.size w0 w0 := Below.refl _ _
 unfold textstr_Split at h0
 refine calls_run Tryz.func26 rfl Tryz.ntmps26 (by kernel_rfl) ?_
 refine gv_sub [0, 1, 2] (σ' := [(0, (.string s_0)), (1, (.string sep_1)), (2, (.int .i64 most_2))]) (by kernel_rfl) ?_
 refine gv_seq <| gv_region <| gv_pureN 1 [6] [] (by kernel_rfl) ?_
 refine gv_new0 (fun b => .pointer (some ⟨b, 0, none⟩)) #[(.int .i64 0), (.int .i64 0)] 29 (by kernel_rfl) (by kernel_rfl) ?_
 intro b1 w2 hg3 hb4 hbe5 hz6
 refine gv_nil <| gv_seq <| gv_seq <| gv_region <| gv_pureN 2 [9, 10] [(9, (.string s_0)), (10, (.string sep_1))] (by kernel_rfl) ?_
 refine gv_new0 (fun b => .slice (some ⟨b, 0, none⟩) 2 2) #[(.string s_0), (.string sep_1)] 9 (by kernel_rfl) (by kernel_rfl) ?_
 intro b7 w8 hg9 hb10 hbe11 hz12
 have ho13 : Gv.Own sE 9 w8 (fun _ => False) (some ⟨b7, 0, none⟩) 2 ([s_0, sep_1] : List ByteArray) := Box.ownE hb10 ⟨[(.string s_0)], [(.string sep_1)], rfl, rfl, ⟨[(.string sep_1)], [], rfl, rfl, rfl⟩⟩ (show 2 ≤ maxLen by decide) (fun h => h)
 have hB18 := bg hB0 hg3 nb
 have hl14 : ∀ g, blk (some ⟨b7, 0, none⟩) = some g → w0.heap.size ≤ g := loo hbe11 hB18.size
 refine bindE h0 ?_; clear h0; intro r19 hr20 h0
 have hB21 := bg hB18 hg9 nb
 refine gv_call0 (by kernel_rfl) rfl (by kernel_rfl) enters21 (textstr_check_ok fuel (some ⟨b7, 0, none⟩) 2 ([s_0, sep_1] : List ByteArray) w8 (fun k => (fun k => blk (some ⟨b7, 0, none⟩) = some k) k ∨ X0 k ∨ X0 k) (fun k hk => (hk).elim (fun h => (fun k (hk : blk (some ⟨b7, 0, none⟩) = some k) => ho13.lt k hk) k h) (fun h => (h).elim (fun h => (fun k (hk : X0 k) => ltl (hX0 k hk) hB21.size) k h) (fun h => (fun k (hk : X0 k) => ltl (hX0 k hk) hB21.size) k h))) ((ho13.rd (Y := fun k => blk (some ⟨b7, 0, none⟩) = some k) (fun _ h => h.elim) (fun g e => e)).wide (fun k hk => (.inl hk))) ((hG0.below hB21 hX0).wide (fun k hk => (.inr (.inl hk)))) ((hG1.below hB21 hX0).wide (fun k hk => (.inr (.inr hk)))) r19 hr20) ?_
 rintro v24 w22 ⟨hg23, rfl⟩
 refine gv_new0 (fun b => .pointer (some ⟨b, 0, none⟩)) #[(.int .i64 0), (.int .i64 0)] 29 (by kernel_rfl) (by kernel_rfl) ?_
 intro b25 w26 hg27 hb28 hbe29 hz30
 refine gv_store0 29 0 (.agg #[(.int .i64 r19.1), (.int .i64 r19.2)]) #[(.int .i64 r19.1), (.int .i64 r19.2)] hb28 (by kernel_rfl) (by kernel_rfl) (by kernel_rfl) ?_
 intro w31 hg32 hb33 hz34
 refine gv_nil <| gv_seq <| gv_region <| gv_pureN 1 [13] [(13, (bp b25))] (by kernel_rfl) ?_
 refine gv_load (t := 3) (A := ⟨b25, 0, none⟩) (.int .i64 r19.1) [] (fun e => by cases e) rfl rfl rfl (by kernel_rfl) (by kernel_rfl) (by kernel_rfl) (inw0 (hb33.cell 0 rfl)) rfl ?_
 refine gv_pureN 1 [15] [(15, (.bool (r19.1 != 0)))] (by kernel_rfl) ?_
 refine gv_nil <| gv_cond (b := (r19.1 != 0)) (by kernel_rfl) (fun hc35 => ?_) (fun hc35 => ?_)
 ·replace h0 := ite_t hc35 h0
  refine gv_seq <| gv_drawA (by kernel_rfl) ?_
  intro w36 hg37
  refine gv_pre [1] (bA 3 [1]) 2 (by kernel_rfl) (by kernel_rfl) ?_
  refine gv_pureN 1 [6] [(6, (.slice none (List.length ([] : List ByteArray)) 0))] (by kernel_rfl) ?_
  refine gv_nil <| gv_goA ?_
  refine gv_stage (Cls w36 []) [0, 1] [(0, some true)] (bA 3 [0, 1]) 1 (by kernel_rfl) (by kernel_rfl) (Cls.refl _ _) ?_
  have hC38 := Cls.refl w36 []
  have hk39 := hb33.grown hg37 nb
  refine gv_loadBox (t := 29) (b := b25) (t' := 29) (fr := (0, 0)) #[(.int .i64 r19.1), (.int .i64 r19.2)] [] (fun e => by cases e) rfl rfl rfl (by kernel_rfl) (by kernel_rfl) (by kernel_rfl) (by kernel_rfl) (inw1 fun w' hC' => (hC'.box hk39 nm_nil)) rfl ?_
  refine gv_nil <| gv_goA ?_
  refine gv_stage (fun _ => True) [0, 1, 2] [(2, some false)] (bA 3 [0, 1, 2]) 0 (by kernel_rfl) (by kernel_rfl) trivial ?_
  have hg44 := (grown_trans (grown_trans hg9 hg23) hg27)
  have hg45 := (grown_trans hg9 hg23)
  have hk46 := hb4.grown hg45 nb
  have lt47 := ltl ((ltb hk46) _ rfl) ((lowb hbe29) _ rfl)
  have hk48 := ((hb4.grown hg44 nb).grown hg32 (rowne (ng lt47))).grown hg37 nb
  refine gv_store (t := 29) (b := b1) (off := 0) (v := (.agg #[(.int .i64 r19.1), (.int .i64 r19.2)])) (t' := 29) (cs := #[(.int .i64 0), (.int .i64 0)]) #[(.int .i64 r19.1), (.int .i64 r19.2)] (by decide) rfl rfl (by kernel_rfl) (by kernel_rfl) (by kernel_rfl) (by intro u hu; simp [Value.cells] at hu; rcases hu with rfl | rfl <;> rfl) (show 0 + 2 ≤ 2 by decide) (by rfl) hk48 ?_
  intro w40 hg41 hb42 hz43
  refine ⟨(fun _ => trivial), ?_⟩
  refine gv_nil <| gv_goA ?_
  refine gv_stageE (by kernel_rfl) ?_
  refine gv_cret ?_
  have e := sj h0; subst e
  refine gv_ret (gv_done [(.slice none (List.length ([] : List ByteArray)) 0), (.agg #[(.int .i64 r19.1), (.int .i64 r19.2)])] rfl ⟨(by kernel_rfl), ⟨⟨b1, 0, none⟩, (by kernel_rfl), run_loadVar_row w40 b1 _ 29 _ _ _ hb42 Tryz.underlying29 rfl (by kernel_rfl)⟩, trivial⟩ ?_)
  have hg49 := (grown_trans hg23 hg27)
  have hB50 := bg hB21 hg49 nb
  have hB51 := bg hB21 hg23 nb
  have hlo52 : w0.heap.size ≤ b25 := lob hbe29 hB51.size
  have hB53 := bg hB50 hg32 (rowlo hlo52)
  have hB54 := bg hB53 hg37 nb
  have hlo55 : w0.heap.size ≤ b1 := lob hbe5 hB0.size
  have hB56 := bg hB54 hg41 (rowlo hlo55)
  exact ⟨grown_of_below hB56, none, 0, (fun _ => False), rfl, (Rd.nil sE w40 (fun _ => False) none 0), (fun k hk => ⟨(fun _ h => h.elim) k hk, (fun _ h => h.elim) k hk⟩)⟩
 ·replace h0 := ite_f hc35 h0
  refine gv_skip <| gv_seq <| gv_seq <| gv_region <| gv_pureN 2 [17, 18] [(18, (.bool (sep_1.toList == (strOf []).toList)))] (by kernel_rfl) ?_
  refine gv_nil <| gv_cond (b := (sep_1.toList == (strOf []).toList)) (by kernel_rfl) (fun hc57 => ?_) (fun hc57 => ?_)
  ·replace h0 := ite_t hc57 h0
   refine gv_seq <| gv_region <| bindE h0 ?_; clear h0; intro r58 hr59 h0
   refine gv_call0 (by kernel_rfl) rfl (by kernel_rfl) enters23 (textstr_at_ok fuel 10 (-2) w31  r58 hr59) ?_
   rintro v62 w60 ⟨hg61, rfl⟩
   clear hr59 hc57 hc35 hz34 hb33 hz30 hb28 hr20 hl14 hB18 ho13 hz12 hbe11 hb10 hz6 hg3
   refine gv_pureN 1 [6] [(6, (.slice none (List.length ([] : List ByteArray)) 0))] (by kernel_rfl) ?_
   have hg67 := (grown_trans (grown_trans hg9 hg23) hg27)
   have hg68 := (grown_trans hg9 hg23)
   have hk69 := hb4.grown hg68 nb
   have lt70 := ltl ((ltb hk69) _ rfl) ((lowb hbe29) _ rfl)
   have hk71 := ((hb4.grown hg67 nb).grown hg32 (rowne (ng lt70))).grown hg61 nb
   refine gv_store0 29 0 (.agg #[(.int .i64 r58.1), (.int .i64 r58.2)]) #[(.int .i64 r58.1), (.int .i64 r58.2)] hk71 (by kernel_rfl) (by kernel_rfl) (by kernel_rfl) ?_
   intro w63 hg64 hb65 hz66
   refine gv_nil <| gv_cret ?_
   have e := sj h0; subst e
   refine gv_ret (gv_done [(.slice none (List.length ([] : List ByteArray)) 0), (.agg #[(.int .i64 r58.1), (.int .i64 r58.2)])] rfl ⟨(by kernel_rfl), ⟨⟨b1, 0, none⟩, (by kernel_rfl), run_loadVar_row w63 b1 _ 29 _ _ _ hb65 Tryz.underlying29 rfl (by kernel_rfl)⟩, trivial⟩ ?_)
   have hg72 := (grown_trans hg23 hg27)
   have hB73 := bg hB21 hg72 nb
   have hB74 := bg hB21 hg23 nb
   have hlo75 : w0.heap.size ≤ b25 := lob hbe29 hB74.size
   have hB76 := bg hB73 hg32 (rowlo hlo75)
   have hB77 := bg hB76 hg61 nb
   have hlo78 : w0.heap.size ≤ b1 := lob hbe5 hB0.size
   have hB79 := bg hB77 hg64 (rowlo hlo78)
   exact ⟨grown_of_below hB79, none, 0, (fun _ => False), rfl, (Rd.nil sE w63 (fun _ => False) none 0), (fun k hk => ⟨(fun _ h => h.elim) k hk, (fun _ h => h.elim) k hk⟩)⟩
  ·replace h0 := ite_f hc57 h0
   refine gv_skip <| gv_seq <| gv_seq <| gv_region <| gv_pureN 2 [20, 21] [(21, (.bool (decide (most_2 < 0))))] (by kernel_rfl) ?_
   refine gv_nil <| gv_cond (b := (decide (most_2 < 0))) (by kernel_rfl) (fun hc80 => ?_) (fun hc80 => ?_)
   ·replace h0 := ite_t hc80 h0
    refine gv_seq <| gv_region <| gv_pureN 2 [22, 23] [(22, (.string s_0)), (23, (.string sep_1))] (by kernel_rfl) ?_
    refine bindE h0 ?_; clear h0; intro r81 hr82 h0
    have hg83 := (grown_trans hg23 hg27)
    have hB84 := bg hB21 hg83 nb
    have hB85 := bg hB21 hg23 nb
    have hlo86 : w0.heap.size ≤ b25 := lob hbe29 hB85.size
    have hB87 := bg hB84 hg32 (rowlo hlo86)
    refine gv_call0 (by kernel_rfl) rfl (by kernel_rfl) enters42 (strings_Split_ok fuel s_0 sep_1 w31 (fun k => X0 k ∨ X0 k ∨ X0 k) (fun k hk => (hk).elim (fun h => (fun k (hk : X0 k) => ltl (hX0 k hk) hB87.size) k h) (fun h => (h).elim (fun h => (fun k (hk : X0 k) => ltl (hX0 k hk) hB87.size) k h) (fun h => (fun k (hk : X0 k) => ltl (hX0 k hk) hB87.size) k h))) ((hG0.below hB87 hX0).wide (fun k hk => (.inl hk))) ((hG1.below hB87 hX0).wide (fun k hk => (.inr (.inl hk)))) ((hG2.below hB87 hX0).wide (fun k hk => (.inr (.inr hk)))) r81 hr82) ?_
    rintro v90 w88 ⟨hg89, a91, c92, rfl, ho93, hl94⟩
    have hl95 : ∀ g, blk a91 = some g → w0.heap.size ≤ g := fun g e => Nat.le_trans hB87.size (hl94 g e)
    refine gv_sub [7, 24] (σ' := [(7, (bp b1)), (24, (.slice a91 (List.length r81) c92))]) (by kernel_rfl) ?_
    refine bindE h0 ?_; clear h0; intro r96 hr97 h0
    refine gv_call0 (by kernel_rfl) rfl (by kernel_rfl) enters41 (textstr_pieces_ok fuel a91 c92 r81 w88 (fun k => (fun k => blk a91 = some k) k) (fun k hk => (fun k (hk : blk a91 = some k) => ho93.lt k hk) k hk) ((ho93.rd (Y := fun k => blk a91 = some k) (fun _ h => h.elim) (fun g e => e)).wide (fun k hk => hk)) r96 hr97) ?_
    rintro v100 w98 ⟨hg99, a101, c102, X104, rfl, ho103, hx105⟩
    have hx106 : ∀ k, X104 k → k < w98.heap.size := fun k hk => (hx105 k hk).1
    have hB108 := bg hB87 hg89 nb
    have hx107 : ∀ k, X104 k → X0 k ∨ w0.heap.size ≤ k := fun k hk => (hx105 k hk).2.elim (fun h => (fun k (hk : blk a91 = some k) => Or.inr (hl95 k hk)) k h) (fun h => .inr (Nat.le_trans hB108.size h))
    refine gv_pureN 3 [6, 26, 27] [(6, (.slice a101 (List.length r96.1) c102)), (27, (.agg #[(.int .i64 r96.2.1), (.int .i64 r96.2.2)]))] (by kernel_rfl) ?_
    have hg113 := (grown_trans hg9 hg83)
    have hg114 := (grown_trans hg9 hg23)
    have hk115 := hb4.grown hg114 nb
    have lt116 := ltl ((ltb hk115) _ rfl) ((lowb hbe29) _ rfl)
    have hg117 := (grown_trans hg89 hg99)
    have hk118 := ((hb4.grown hg113 nb).grown hg32 (rowne (ng lt116))).grown hg117 nb
    refine gv_store0 29 0 (.agg #[(.int .i64 r96.2.1), (.int .i64 r96.2.2)]) #[(.int .i64 r96.2.1), (.int .i64 r96.2.2)] hk118 (by kernel_rfl) (by kernel_rfl) (by kernel_rfl) ?_
    intro w109 hg110 hb111 hz112
    refine gv_nil <| gv_cret ?_
    have e := sj h0; subst e
    refine gv_ret (gv_done [(.slice a101 (List.length r96.1) c102), (.agg #[(.int .i64 r96.2.1), (.int .i64 r96.2.2)])] rfl ⟨(by kernel_rfl), ⟨⟨b1, 0, none⟩, (by kernel_rfl), run_loadVar_row w109 b1 _ 29 _ _ _ hb111 Tryz.underlying29 rfl (by kernel_rfl)⟩, trivial⟩ ?_)
    have hB119 := bg hB108 hg99 nb
    have hlo120 : w0.heap.size ≤ b1 := lob hbe5 hB0.size
    have hB121 := bg hB119 hg110 (rowlo hlo120)
    have hk122 := (hk115.grown hg27 nb).grown hg32 (rowne (ng lt116))
    have ap123 : ¬ (fun k => blk a91 = some k) b1 := fun hx => nl ((show ∀ k, blk a91 = some k → w31.heap.size ≤ k from hl94) _ hx) ((ltb hk122) _ rfl)
    have hk124 := hk122.grown hg89 nb
    have ap125 : ¬ X104 b1 := fun h => ((hx105 _ h).2.elim (fun h => (ap123)  h) (fun h => nl h (hk124.lt)))
    have hk126 := ho103.grown hg110 hx106 (rowne ap125)
    have hx127 := ltx hx106 hg110.size
    exact ⟨grown_of_below hB121, a101, c102, X104, rfl, hk126, (fun k hk => ⟨hx127 k hk, hx107 k hk⟩)⟩
   ·replace h0 := ite_f hc80 h0
    refine gv_skip <| gv_seq <| gv_region <| gv_pureN 5 [28, 29, 30, 31, 32] [(28, (.string s_0)), (29, (.string sep_1)), (32, (.int .i64 (IntKind.i64.wrap ((if 4000 < most_2 then 4000 else most_2) + 1))))] (by kernel_rfl) ?_
    refine bindE h0 ?_; clear h0; intro r128 hr129 h0
    have hg130 := (grown_trans hg23 hg27)
    have hB131 := bg hB21 hg130 nb
    have hB132 := bg hB21 hg23 nb
    have hlo133 : w0.heap.size ≤ b25 := lob hbe29 hB132.size
    have hB134 := bg hB131 hg32 (rowlo hlo133)
    refine gv_call0 (by kernel_rfl) rfl (by kernel_rfl) enters43 (strings_SplitN_ok fuel s_0 sep_1 (IntKind.i64.wrap ((if 4000 < most_2 then 4000 else most_2) + 1)) w31 (fun k => X0 k ∨ X0 k ∨ X0 k) (fun k hk => (hk).elim (fun h => (fun k (hk : X0 k) => ltl (hX0 k hk) hB134.size) k h) (fun h => (h).elim (fun h => (fun k (hk : X0 k) => ltl (hX0 k hk) hB134.size) k h) (fun h => (fun k (hk : X0 k) => ltl (hX0 k hk) hB134.size) k h))) ((hG0.below hB134 hX0).wide (fun k hk => (.inl hk))) ((hG1.below hB134 hX0).wide (fun k hk => (.inr (.inl hk)))) ((hG2.below hB134 hX0).wide (fun k hk => (.inr (.inr hk)))) r128 hr129) ?_
    rintro v137 w135 ⟨hg136, a138, c139, rfl, ho140, hl141⟩
    have hl142 : ∀ g, blk a138 = some g → w0.heap.size ≤ g := fun g e => Nat.le_trans hB134.size (hl141 g e)
    refine gv_sub [7, 33] (σ' := [(7, (bp b1)), (33, (.slice a138 (List.length r128) c139))]) (by kernel_rfl) ?_
    refine bindE h0 ?_; clear h0; intro r143 hr144 h0
    refine gv_call0 (by kernel_rfl) rfl (by kernel_rfl) enters41 (textstr_pieces_ok fuel a138 c139 r128 w135 (fun k => (fun k => blk a138 = some k) k) (fun k hk => (fun k (hk : blk a138 = some k) => ho140.lt k hk) k hk) ((ho140.rd (Y := fun k => blk a138 = some k) (fun _ h => h.elim) (fun g e => e)).wide (fun k hk => hk)) r143 hr144) ?_
    rintro v147 w145 ⟨hg146, a148, c149, X151, rfl, ho150, hx152⟩
    have hx153 : ∀ k, X151 k → k < w145.heap.size := fun k hk => (hx152 k hk).1
    have hB155 := bg hB134 hg136 nb
    have hx154 : ∀ k, X151 k → X0 k ∨ w0.heap.size ≤ k := fun k hk => (hx152 k hk).2.elim (fun h => (fun k (hk : blk a138 = some k) => Or.inr (hl142 k hk)) k h) (fun h => .inr (Nat.le_trans hB155.size h))
    refine gv_pureN 3 [6, 35, 36] [(6, (.slice a148 (List.length r143.1) c149)), (36, (.agg #[(.int .i64 r143.2.1), (.int .i64 r143.2.2)]))] (by kernel_rfl) ?_
    have hg160 := (grown_trans hg9 hg130)
    have hg161 := (grown_trans hg9 hg23)
    have hk162 := hb4.grown hg161 nb
    have lt163 := ltl ((ltb hk162) _ rfl) ((lowb hbe29) _ rfl)
    have hg164 := (grown_trans hg136 hg146)
    have hk165 := ((hb4.grown hg160 nb).grown hg32 (rowne (ng lt163))).grown hg164 nb
    refine gv_store0 29 0 (.agg #[(.int .i64 r143.2.1), (.int .i64 r143.2.2)]) #[(.int .i64 r143.2.1), (.int .i64 r143.2.2)] hk165 (by kernel_rfl) (by kernel_rfl) (by kernel_rfl) ?_
    intro w156 hg157 hb158 hz159
    refine gv_nil <| gv_cret ?_
    have e := sj h0; subst e
    refine gv_ret (gv_done [(.slice a148 (List.length r143.1) c149), (.agg #[(.int .i64 r143.2.1), (.int .i64 r143.2.2)])] rfl ⟨(by kernel_rfl), ⟨⟨b1, 0, none⟩, (by kernel_rfl), run_loadVar_row w156 b1 _ 29 _ _ _ hb158 Tryz.underlying29 rfl (by kernel_rfl)⟩, trivial⟩ ?_)
    have hB166 := bg hB155 hg146 nb
    have hlo167 : w0.heap.size ≤ b1 := lob hbe5 hB0.size
    have hB168 := bg hB166 hg157 (rowlo hlo167)
    have hk169 := (hk162.grown hg27 nb).grown hg32 (rowne (ng lt163))
    have ap170 : ¬ (fun k => blk a138 = some k) b1 := fun hx => nl ((show ∀ k, blk a138 = some k → w31.heap.size ≤ k from hl141) _ hx) ((ltb hk169) _ rfl)
    have hk171 := hk169.grown hg136 nb
    have ap172 : ¬ X151 b1 := fun h => ((hx152 _ h).2.elim (fun h => (ap170)  h) (fun h => nl h (hk171.lt)))
    have hk173 := ho150.grown hg157 hx153 (rowne ap172)
    have hx174 := ltx hx153 hg157.size
    exact ⟨grown_of_below hB168, a148, c149, X151, rfl, hk173, (fun k hk => ⟨hx174 k hk, hx154 k hk⟩)⟩

theorem utf8_RuneLen_ok (fuel : Nat) (r_0 : Int) (w0 : World)  (r0 : Int) (h0 : utf8_RuneLen fuel r_0 = some r0) :
    Calls Tryz.prog 85 ([(.int .i32 r_0)] : List Value).toArray w0 (Ret fun v w' => w0.grownBy w' none ∧ v = tup [(.int .i64 r0)]) := by
 have hB0 : Below w0.heap.size w0 w0 := Below.refl _ _
 unfold utf8_RuneLen at h0
 refine calls_run Tryz.func85 rfl Tryz.ntmps85 (by kernel_rfl) ?_
 refine gv_sub [0] (σ' := [(0, (.int .i32 r_0))]) (by kernel_rfl) ?_
 refine gv_seq <| gv_region <| gv_pureN 1 [2] [] (by kernel_rfl) ?_
 refine gv_nil <| gv_seq <| gv_block <| gv_seq <| gv_region <| gv_pureN 3 [3, 4, 5] [(3, (.bool (decide (r_0 < 0))))] (by kernel_rfl) ?_
 refine gv_nil <| gv_cond (b := (decide (r_0 < 0))) (by kernel_rfl) (fun hc1 => ?_) (fun hc1 => ?_)
 ·replace h0 := ite_t hc1 h0
  refine gv_seq <| gv_region <| gv_pureN 1 [2] [(2, (.int .i64 (-1)))] (by kernel_rfl) ?_
  refine gv_nil <| gv_cret ?_
  have e := sj h0; subst e
  refine gv_ret (gv_done [(.int .i64 (-1))] rfl ⟨(by kernel_rfl), trivial⟩ ?_)
  exact ⟨grown_of_below hB0, rfl⟩
 ·replace h0 := ite_f hc1 h0
  refine gv_seq <| gv_region <| gv_pureN 3 [6, 7, 8] [(6, (.bool (decide (r_0 ≤ 127))))] (by kernel_rfl) ?_
  refine gv_nil <| gv_cond (b := (decide (r_0 ≤ 127))) (by kernel_rfl) (fun hc2 => ?_) (fun hc2 => ?_)
  ·replace h0 := ite_t hc2 h0
   refine gv_seq <| gv_region <| gv_pureN 1 [2] [(2, (.int .i64 1))] (by kernel_rfl) ?_
   refine gv_nil <| gv_cret ?_
   have e := sj h0; subst e
   refine gv_ret (gv_done [(.int .i64 1)] rfl ⟨(by kernel_rfl), trivial⟩ ?_)
   exact ⟨grown_of_below hB0, rfl⟩
  ·replace h0 := ite_f hc2 h0
   refine gv_seq <| gv_region <| gv_pureN 3 [9, 10, 11] [(9, (.bool (decide (r_0 ≤ 2047))))] (by kernel_rfl) ?_
   refine gv_nil <| gv_cond (b := (decide (r_0 ≤ 2047))) (by kernel_rfl) (fun hc3 => ?_) (fun hc3 => ?_)
   ·replace h0 := ite_t hc3 h0
    refine gv_seq <| gv_region <| gv_pureN 1 [2] [(2, (.int .i64 2))] (by kernel_rfl) ?_
    refine gv_nil <| gv_cret ?_
    have e := sj h0; subst e
    refine gv_ret (gv_done [(.int .i64 2)] rfl ⟨(by kernel_rfl), trivial⟩ ?_)
    exact ⟨grown_of_below hB0, rfl⟩
   ·replace h0 := ite_f hc3 h0
    refine gv_seq <| gv_region <| gv_cut_ops (J := fun a w4 => w0 = w4 ∧ a.defers = [] ∧ a.tmps.size = 25 ∧ Ok [(0, (.int .i32 r_0)), (12, (.bool ((decide (55296 ≤ r_0)) && (decide (r_0 ≤ 57343)))))] a.tmps) ?_ ?_
    ·skip
     refine gv_pureN 3 [13, 14, 15] [(15, (.bool (decide (55296 ≤ r_0))))] (by kernel_rfl) ?_
     refine gv_split (s := 15) (g := (decide (55296 ≤ r_0))) (by kernel_rfl) (fun hc5 => ?_) (fun hc5 => ?_)
     ·skip
      refine gv_pureN 4 [12, 16, 17, 18] [(12, (.bool (decide (r_0 ≤ 57343))))] (by kernel_rfl) ?_
      refine gv_nil <| gv_sub [0, 12] (σ' := [(0, (.int .i32 r_0)), (12, (.bool (decide (r_0 ≤ 57343))))]) (by kernel_rfl) ?_
      refine gv_goal fun a hd hs hok => ⟨rfl, hd, hs, ?_⟩
      obtain ⟨q0, q12, _⟩ := hok
      exact ⟨q0, (by rw [hc5]; exact q12), trivial⟩
     ·skip
      refine gv_pureN 4 [12, 16, 17, 18] [(12, (.bool false))] (by kernel_rfl) ?_
      refine gv_nil <| gv_sub [0, 12] (σ' := [(0, (.int .i32 r_0)), (12, (.bool false))]) (by kernel_rfl) ?_
      refine gv_goal fun a hd hs hok => ⟨rfl, hd, hs, ?_⟩
      obtain ⟨q0, q12, _⟩ := hok
      exact ⟨q0, (by rw [hc5]; exact q12), trivial⟩
    ·rintro a w4 ⟨e, hd, hs, hok⟩; subst e
     refine gv_in ?_ hd hs hok
     clear hd hs hok
     refine gv_cond (b := ((decide (55296 ≤ r_0)) && (decide (r_0 ≤ 57343)))) (by kernel_rfl) (fun hc6 => ?_) (fun hc6 => ?_)
     ·replace h0 := ite_t hc6 h0
      refine gv_seq <| gv_region <| gv_pureN 1 [2] [(2, (.int .i64 (-1)))] (by kernel_rfl) ?_
      refine gv_nil <| gv_cret ?_
      have e := sj h0; subst e
      refine gv_ret (gv_done [(.int .i64 (-1))] rfl ⟨(by kernel_rfl), trivial⟩ ?_)
      exact ⟨grown_of_below hB0, rfl⟩
     ·replace h0 := ite_f hc6 h0
      refine gv_seq <| gv_region <| gv_pureN 3 [19, 20, 21] [(19, (.bool (decide (r_0 ≤ 65535))))] (by kernel_rfl) ?_
      refine gv_nil <| gv_cond (b := (decide (r_0 ≤ 65535))) (by kernel_rfl) (fun hc7 => ?_) (fun hc7 => ?_)
      ·replace h0 := ite_t hc7 h0
       refine gv_seq <| gv_region <| gv_pureN 1 [2] [(2, (.int .i64 3))] (by kernel_rfl) ?_
       refine gv_nil <| gv_cret ?_
       have e := sj h0; subst e
       refine gv_ret (gv_done [(.int .i64 3)] rfl ⟨(by kernel_rfl), trivial⟩ ?_)
       exact ⟨grown_of_below hB0, rfl⟩
      ·replace h0 := ite_f hc7 h0
       refine gv_seq <| gv_region <| gv_pureN 3 [22, 23, 24] [(22, (.bool (decide (r_0 ≤ 1114111))))] (by kernel_rfl) ?_
       refine gv_nil <| gv_cond (b := (decide (r_0 ≤ 1114111))) (by kernel_rfl) (fun hc8 => ?_) (fun hc8 => ?_)
       ·replace h0 := ite_t hc8 h0
        refine gv_seq <| gv_region <| gv_pureN 1 [2] [(2, (.int .i64 4))] (by kernel_rfl) ?_
        refine gv_nil <| gv_cret ?_
        have e := sj h0; subst e
        refine gv_ret (gv_done [(.int .i64 4)] rfl ⟨(by kernel_rfl), trivial⟩ ?_)
        exact ⟨grown_of_below hB0, rfl⟩
       ·replace h0 := ite_f hc8 h0
        refine gv_skip <| gv_blk <| gv_seq <| gv_region <| gv_pureN 1 [2] [(2, (.int .i64 (-1)))] (by kernel_rfl) ?_
        refine gv_nil <| gv_cret ?_
        have e := sj h0; subst e
        refine gv_ret (gv_done [(.int .i64 (-1))] rfl ⟨(by kernel_rfl), trivial⟩ ?_)
        exact ⟨grown_of_below hB0, rfl⟩

theorem textstr_pairs_ok (fuel : Nat)  (w0 : World)  (r0 : (List (Int × Int × Int))) (h0 : textstr_pairs fuel  = some r0) :
    Calls Tryz.prog 89 ([] : List Value).toArray w0 (Ret fun v w' => w0.grownBy w' none ∧ ∃ (a0_0r : Option Addr) (c0_0r : Nat), v = tup [(.slice a0_0r (List.length r0) c0_0r)] ∧ Gv.Own (prE (iE .i32) (prE (iE .i32) (iE .i32))) 134 w' (fun _ => False) a0_0r c0_0r r0 ∧ (∀ g, blk a0_0r = some g → w0.heap.size ≤ g)) := by
 have hB0 : Below w0.heap.size w0 w0 := Below.refl _ _
 unfold textstr_pairs at h0
 refine calls_run Tryz.func89 rfl Tryz.ntmps89 (by kernel_rfl) ?_
 refine gv_sub [] (σ' := []) (by kernel_rfl) ?_
 refine gv_seq <| gv_region <| gv_pureN 1 [0] [] (by kernel_rfl) ?_
 refine gv_nil <| gv_seq <| gv_region <| gv_pureN 7 [1, 2, 3, 4, 5, 6, 7] [(1, (.agg #[(.int .i32 97), (.int .i32 122), (.int .i32 32)])), (2, (.agg #[(.int .i32 224), (.int .i32 246), (.int .i32 32)])), (3, (.agg #[(.int .i32 248), (.int .i32 254), (.int .i32 32)])), (4, (.agg #[(.int .i32 945), (.int .i32 961), (.int .i32 32)])), (5, (.agg #[(.int .i32 963), (.int .i32 969), (.int .i32 32)])), (6, (.agg #[(.int .i32 1072), (.int .i32 1103), (.int .i32 32)])), (7, (.agg #[(.int .i32 1104), (.int .i32 1119), (.int .i32 80)]))] (by kernel_rfl) ?_
 refine gv_new0 (fun b => .slice (some ⟨b, 0, none⟩) 7 7) #[(.int .i32 97), (.int .i32 122), (.int .i32 32), (.int .i32 224), (.int .i32 246), (.int .i32 32), (.int .i32 248), (.int .i32 254), (.int .i32 32), (.int .i32 945), (.int .i32 961), (.int .i32 32), (.int .i32 963), (.int .i32 969), (.int .i32 32), (.int .i32 1072), (.int .i32 1103), (.int .i32 32), (.int .i32 1104), (.int .i32 1119), (.int .i32 80)] 134 (by kernel_rfl) (by kernel_rfl) ?_
 intro b1 w2 hg3 hb4 hbe5 hz6
 have ho7 : Gv.Own (prE (iE .i32) (prE (iE .i32) (iE .i32))) 134 w2 (fun _ => False) (some ⟨b1, 0, none⟩) 7 ([(97, 122, 32), (224, 246, 32), (248, 254, 32), (945, 961, 32), (963, 969, 32), (1072, 1103, 32), (1104, 1119, 80)] : List (Int × Int × Int)) := Box.ownE hb4 ⟨[(.int .i32 97), (.int .i32 122), (.int .i32 32)], [(.int .i32 224), (.int .i32 246), (.int .i32 32), (.int .i32 248), (.int .i32 254), (.int .i32 32), (.int .i32 945), (.int .i32 961), (.int .i32 32), (.int .i32 963), (.int .i32 969), (.int .i32 32), (.int .i32 1072), (.int .i32 1103), (.int .i32 32), (.int .i32 1104), (.int .i32 1119), (.int .i32 80)], rfl, ⟨[(.int .i32 97)], [(.int .i32 122), (.int .i32 32)], rfl, rfl, ⟨[(.int .i32 122)], [(.int .i32 32)], rfl, rfl, rfl⟩⟩, ⟨[(.int .i32 224), (.int .i32 246), (.int .i32 32)], [(.int .i32 248), (.int .i32 254), (.int .i32 32), (.int .i32 945), (.int .i32 961), (.int .i32 32), (.int .i32 963), (.int .i32 969), (.int .i32 32), (.int .i32 1072), (.int .i32 1103), (.int .i32 32), (.int .i32 1104), (.int .i32 1119), (.int .i32 80)], rfl, ⟨[(.int .i32 224)], [(.int .i32 246), (.int .i32 32)], rfl, rfl, ⟨[(.int .i32 246)], [(.int .i32 32)], rfl, rfl, rfl⟩⟩, ⟨[(.int .i32 248), (.int .i32 254), (.int .i32 32)], [(.int .i32 945), (.int .i32 961), (.int .i32 32), (.int .i32 963), (.int .i32 969), (.int .i32 32), (.int .i32 1072), (.int .i32 1103), (.int .i32 32), (.int .i32 1104), (.int .i32 1119), (.int .i32 80)], rfl, ⟨[(.int .i32 248)], [(.int .i32 254), (.int .i32 32)], rfl, rfl, ⟨[(.int .i32 254)], [(.int .i32 32)], rfl, rfl, rfl⟩⟩, ⟨[(.int .i32 945), (.int .i32 961), (.int .i32 32)], [(.int .i32 963), (.int .i32 969), (.int .i32 32), (.int .i32 1072), (.int .i32 1103), (.int .i32 32), (.int .i32 1104), (.int .i32 1119), (.int .i32 80)], rfl, ⟨[(.int .i32 945)], [(.int .i32 961), (.int .i32 32)], rfl, rfl, ⟨[(.int .i32 961)], [(.int .i32 32)], rfl, rfl, rfl⟩⟩, ⟨[(.int .i32 963), (.int .i32 969), (.int .i32 32)], [(.int .i32 1072), (.int .i32 1103), (.int .i32 32), (.int .i32 1104), (.int .i32 1119), (.int .i32 80)], rfl, ⟨[(.int .i32 963)], [(.int .i32 969), (.int .i32 32)], rfl, rfl, ⟨[(.int .i32 969)], [(.int .i32 32)], rfl, rfl, rfl⟩⟩, ⟨[(.int .i32 1072), (.int .i32 1103), (.int .i32 32)], [(.int .i32 1104), (.int .i32 1119), (.int .i32 80)], rfl, ⟨[(.int .i32 1072)], [(.int .i32 1103), (.int .i32 32)], rfl, rfl, ⟨[(.int .i32 1103)], [(.int .i32 32)], rfl, rfl, rfl⟩⟩, ⟨[(.int .i32 1104), (.int .i32 1119), (.int .i32 80)], [], rfl, ⟨[(.int .i32 1104)], [(.int .i32 1119), (.int .i32 80)], rfl, rfl, ⟨[(.int .i32 1119)], [(.int .i32 80)], rfl, rfl, rfl⟩⟩, rfl⟩⟩⟩⟩⟩⟩⟩ (show 7 ≤ maxLen by decide) (fun h => h)
 have hl8 : ∀ g, blk (some ⟨b1, 0, none⟩) = some g → w0.heap.size ≤ g := loo hbe5 hB0.size
 refine gv_pureN 1 [0] [(0, (.slice (some ⟨b1, 0, none⟩) (List.length ([(97, 122, 32), (224, 246, 32), (248, 254, 32), (945, 961, 32), (963, 969, 32), (1072, 1103, 32), (1104, 1119, 80)] : List (Int × Int × Int))) 7))] (by kernel_rfl) ?_
 refine gv_nil <| gv_cret ?_
 have e := sj h0; subst e
 refine gv_ret (gv_done [(.slice (some ⟨b1, 0, none⟩) (List.length ([(97, 122, 32), (224, 246, 32), (248, 254, 32), (945, 961, 32), (963, 969, 32), (1072, 1103, 32), (1104, 1119, 80)] : List (Int × Int × Int))) 7)] rfl ⟨(by kernel_rfl), trivial⟩ ?_)
 have hB12 := bg hB0 hg3 nb
 exact ⟨grown_of_below hB12, (some ⟨b1, 0, none⟩), 7, rfl, ho7, hl8⟩

theorem textstr_shift_ok (fuel : Nat) (c_0 : Int) (w0 : World)  (r0 : (Int × Int)) (h0 : textstr_shift fuel c_0 = some r0) :
    Calls Tryz.prog 65 ([(.int .i32 c_0)] : List Value).toArray w0 (Ret fun v w' => w0.grownBy w' none ∧ v = tup [(.int .i32 r0.1), (.int .i32 r0.2)]) := by
 have hB0 : Below w0.heap.size w0 w0 := Below.refl _ _
 unfold textstr_shift at h0
 refine calls_run Tryz.func65 rfl Tryz.ntmps65 (by kernel_rfl) ?_
 refine gv_sub [0] (σ' := [(0, (.int .i32 c_0))]) (by kernel_rfl) ?_
 refine gv_seq <| gv_region <| gv_pureN 2 [2, 3] [] (by kernel_rfl) ?_
 refine gv_nil <| gv_seq <| gv_seq <| gv_region <| bindE h0 ?_; clear h0; intro r1 hr2 h0
 refine gv_call0 (by kernel_rfl) rfl (by kernel_rfl) enters89 (textstr_pairs_ok fuel  w0  r1 hr2) ?_
 rintro v5 w3 ⟨hg4, a6, c7, rfl, ho8, hl9⟩
 have hl10 : ∀ g, blk a6 = some g → w0.heap.size ≤ g := fun g e => Nat.le_trans hB0.size (hl9 g e)
 refine gv_pureN 2 [7, 8] [(7, (.int .i64 ((List.length r1 : Nat) : Int))), (8, (.int .i64 0))] (by kernel_rfl) ?_
 refine gv_nil <| bindE h0 ?_; clear h0; intro j11 h1 h0
 refine gv_cut_code (J := fun a w13 => ∃ s12 : Unit, j11 = .inl s12 ∧ Below w0.heap.size w0 w13 ∧ w3.heap.size ≤ w13.heap.size ∧ a.defers = [] ∧ a.tmps.size = 43 ∧ Ok [] a.tmps) ?_ ?_
 ·skip
  refine gv_block <| gv_loop (A := fun (s14 : Int) a w15 => Below w0.heap.size w0 w15 ∧ w3.heap.size ≤ w15.heap.size ∧ Gv.Own (prE (iE .i32) (prE (iE .i32) (iE .i32))) 134 w15 (fun _ => False) a6 c7 r1 ∧ a.defers = [] ∧ a.tmps.size = 43 ∧ Ok [(0, (.int .i32 c_0)), (6, (.slice a6 (List.length r1) c7)), (7, (.int .i64 ((List.length r1 : Nat) : Int))), (8, (.int .i64 s14))] a.tmps) h1 ?_ ?_
  ·intro a hd hs hok
   have hB16 := bg hB0 hg4 nb
   exact ⟨hB16, (Nat.le_refl _), ho8, hd, hs, ok_pick [0, 6, 7, 8] hok (by kernel_rfl)⟩
  ·rintro s14 r2 h2 hR2 a w15 ⟨hB17, hz18, hk19, hd, hs, hok⟩
   refine gv_in ?_ hd hs hok
   clear hd hs hok
   clear hl9 ho8 hg4 hr2
   refine gv_seq <| gv_region <| gv_pureN 1 [9] [(9, (.bool (decide (s14 < ((List.length r1 : Nat) : Int)))))] (by kernel_rfl) ?_
   refine gv_nil <| gv_seq <| gv_cond (b := (decide (s14 < ((List.length r1 : Nat) : Int)))) (by kernel_rfl) (fun hc20 => ?_) (fun hc20 => ?_)
   ·replace h2 := ite_t hc20 h2
    refine gv_skip <| gv_seq <| gv_block <| gv_seq <| gv_region <| bindE h2 ?_; clear h2; intro x21 hx22 h2
    refine gv_idxaddr (t := 132) (e := 134) (a := a6) (len := List.length r1) (cap := c7) (kk := .i64) (i := s14) (sz := 3) [] (fun e => by cases e) rfl rfl rfl (by kernel_rfl) (by kernel_rfl) Tryz.underlying132 (by kernel_rfl) ((hk19.rd (Y := fun k => blk a6 = some k) (fun _ h => h.elim) (fun g e => e)).has hx22) (idx_spec hx22).1 (idx_spec hx22).2.1 rfl ?_
    obtain ⟨_, ⟨_, _, rfl, rfl, ⟨_, _, rfl, rfl, rfl⟩⟩, hc23⟩ := hk19.cellsK hx22
    refine gv_loadAgg (t := 134) (A := (elemAddr a6 ((s14 : Int).toNat * 3))) #[(.int .i32 x21.1), (.int .i32 x21.2.1), (.int .i32 x21.2.2)] [] (fun e => by cases e) rfl rfl rfl (by kernel_rfl) (by kernel_rfl) (by kernel_rfl) (by kernel_rfl) (inw0 (hc23 w15 (fun _ _ => rfl))) rfl ?_
    refine gv_new0 (fun b => .pointer (some ⟨b, 0, none⟩)) #[(.int .i32 0), (.int .i32 0), (.int .i32 0)] 134 (by kernel_rfl) (by kernel_rfl) ?_
    intro b24 w25 hg26 hb27 hbe28 hz29
    refine gv_store0 134 0 (.agg #[(.int .i32 x21.1), (.int .i32 x21.2.1), (.int .i32 x21.2.2)]) #[(.int .i32 x21.1), (.int .i32 x21.2.1), (.int .i32 x21.2.2)] hb27 (by kernel_rfl) (by kernel_rfl) (by kernel_rfl) ?_
    intro w30 hg31 hb32 hz33
    refine gv_nil <| gv_seq <| gv_seq <| gv_region <| bindE h2 ?_; clear h2; intro j34 h3 h2
    refine gv_cut_ops (J := fun a w35 => Below w0.heap.size w0 w35 ∧ w30.heap.size ≤ w35.heap.size ∧ Box w35 b24 134 #[(.int .i32 x21.1), (.int .i32 x21.2.1), (.int .i32 x21.2.2)] ∧ Gv.Own (prE (iE .i32) (prE (iE .i32) (iE .i32))) 134 w35 (fun _ => False) a6 c7 r1 ∧ a.defers = [] ∧ a.tmps.size = 43 ∧ Ok [(0, (.int .i32 c_0)), (5, (bp b24)), (6, (.slice a6 (List.length r1) c7)), (7, (.int .i64 ((List.length r1 : Nat) : Int))), (8, (.int .i64 s14)), (21, (.bool j34))] a.tmps) ?_ ?_
    ·skip
     refine gv_pureN 2 [12, 13] [(12, (.int .i32 c_0)), (13, (bp b24))] (by kernel_rfl) ?_
     refine gv_load (t := 21) (A := ⟨b24, 0, none⟩) (.int .i32 x21.1) [] (fun e => by cases e) rfl rfl rfl (by kernel_rfl) (by kernel_rfl) (by kernel_rfl) (inw0 (hb32.cell 0 rfl)) rfl ?_
     refine gv_pureN 2 [15, 16] [(16, (.bool (decide (c_0 ≥ x21.1))))] (by kernel_rfl) ?_
     refine gv_split (s := 16) (g := (decide (c_0 ≥ x21.1))) (by kernel_rfl) (fun hc36 => ?_) (fun hc36 => ?_)
     ·skip
      replace h3 := ite_t hc36 h3
      refine gv_pureN 2 [17, 18] [(17, (.int .i32 c_0)), (18, (.pointer (some ⟨b24, 1, none⟩)))] (by kernel_rfl) ?_
      refine gv_load (t := 21) (A := ⟨b24, 1, none⟩) (.int .i32 x21.2.1) [] (fun e => by cases e) rfl rfl rfl (by kernel_rfl) (by kernel_rfl) (by kernel_rfl) (inw0 (hb32.cell 1 rfl)) rfl ?_
      refine gv_pureN 2 [20, 21] [(21, (.bool (decide (c_0 ≤ x21.2.1))))] (by kernel_rfl) ?_
      refine gv_nil ?_
      have e := sj h3; subst e
      refine gv_goal fun a hd hs hok => ?_
      have hB37 := bg hB17 hg26 nb
      have hlo38 : w0.heap.size ≤ b24 := lob hbe28 hB17.size
      have hB39 := bg hB37 hg31 (rowlo hlo38)
      have ap40 : ¬ (fun k => blk a6 = some k) b24 := fun hx => nl ((lowb hbe28) _ rfl) ((fun k (hk : blk a6 = some k) => hk19.lt k hk) _ hx)
      have hk41 := (hk19.grown hg26 (fun _ h => h.elim) nb).grown hg31 (fun _ h => h.elim) (rdnn (rowne ap40))
      exact ⟨hB39, (Nat.le_refl _), hb32, hk41, hd, hs, ok_pick [0, 5, 6, 7, 8, 21] hok (by kernel_rfl)⟩
     ·skip
      replace h3 := ite_f hc36 h3
      refine gv_pureN 5 [17, 18, 19, 20, 21] [(21, (.bool false))] (by kernel_rfl) ?_
      refine gv_nil ?_
      have e := sj h3; subst e
      refine gv_goal fun a hd hs hok => ?_
      have hB42 := bg hB17 hg26 nb
      have hlo43 : w0.heap.size ≤ b24 := lob hbe28 hB17.size
      have hB44 := bg hB42 hg31 (rowlo hlo43)
      have ap45 : ¬ (fun k => blk a6 = some k) b24 := fun hx => nl ((lowb hbe28) _ rfl) ((fun k (hk : blk a6 = some k) => hk19.lt k hk) _ hx)
      have hk46 := (hk19.grown hg26 (fun _ h => h.elim) nb).grown hg31 (fun _ h => h.elim) (rdnn (rowne ap45))
      exact ⟨hB44, (Nat.le_refl _), hb32, hk46, hd, hs, ok_pick [0, 5, 6, 7, 8, 21] hok (by kernel_rfl)⟩
    ·rintro a w35 ⟨hB47, hz48, hb49, hk50, hd, hs, hok⟩
     refine gv_in ?_ hd hs hok
     clear hd hs hok
     have hz51 := (nt (nt (nt hz18 hg26.size) hg31.size) hz48)
     clear hz48 hz33 hb32 hg31 hz29 hb27 hg26 hc23 hx22 hc20 hz18
     refine gv_cond (b := j34) (by kernel_rfl) (fun hc52 => ?_) (fun hc52 => ?_)
     ·replace h2 := ite_t hc52 h2
      refine gv_seq <| gv_region <| gv_pureN 1 [22] [(22, (.pointer (some ⟨b24, 2, none⟩)))] (by kernel_rfl) ?_
      refine gv_load (t := 21) (A := ⟨b24, 2, none⟩) (.int .i32 x21.2.2) [] (fun e => by cases e) rfl rfl rfl (by kernel_rfl) (by kernel_rfl) (by kernel_rfl) (inw0 (hb49.cell 2 rfl)) rfl ?_
      refine gv_pureN 2 [2, 3] [(2, (.int .i32 x21.2.2)), (3, (.int .i32 0))] (by kernel_rfl) ?_
      refine gv_nil <| gv_cret ?_
      have e := sj h2; subst e
      replace h1 := congrArg some (hR2 _ rfl)
      have e := sj h1; subst e
      replace h0 := cont_inr h0
      have e := sj h0; subst e
      refine gv_ret (gv_done [(.int .i32 x21.2.2), (.int .i32 0)] rfl ⟨(by kernel_rfl), (by kernel_rfl), trivial⟩ ?_)
      exact ⟨grown_of_below hB47, rfl⟩
     ·replace h2 := ite_f hc52 h2
      refine gv_skip <| gv_seq <| gv_region <| bindE h2 ?_; clear h2; intro j53 h3 h2
      refine gv_cut_ops (J := fun a w54 => Below w0.heap.size w0 w54 ∧ w35.heap.size ≤ w54.heap.size ∧ Box w54 b24 134 #[(.int .i32 x21.1), (.int .i32 x21.2.1), (.int .i32 x21.2.2)] ∧ Gv.Own (prE (iE .i32) (prE (iE .i32) (iE .i32))) 134 w54 (fun _ => False) a6 c7 r1 ∧ a.defers = [] ∧ a.tmps.size = 43 ∧ Ok [(0, (.int .i32 c_0)), (5, (bp b24)), (6, (.slice a6 (List.length r1) c7)), (7, (.int .i64 ((List.length r1 : Nat) : Int))), (8, (.int .i64 s14)), (39, (.bool j53))] a.tmps) ?_ ?_
      ·skip
       refine gv_pureN 2 [24, 25] [(24, (.int .i32 c_0)), (25, (.pointer (some ⟨b24, 2, none⟩)))] (by kernel_rfl) ?_
       refine gv_load (t := 21) (A := ⟨b24, 2, none⟩) (.int .i32 x21.2.2) [] (fun e => by cases e) rfl rfl rfl (by kernel_rfl) (by kernel_rfl) (by kernel_rfl) (inw0 (hb49.cell 2 rfl)) rfl ?_
       refine gv_pureN 2 [27, 28] [(27, (.int .i32 (IntKind.i32.wrap (c_0 + x21.2.2)))), (28, (bp b24))] (by kernel_rfl) ?_
       refine gv_load (t := 21) (A := ⟨b24, 0, none⟩) (.int .i32 x21.1) [] (fun e => by cases e) rfl rfl rfl (by kernel_rfl) (by kernel_rfl) (by kernel_rfl) (inw0 (hb49.cell 0 rfl)) rfl ?_
       refine gv_pureN 2 [30, 31] [(31, (.bool (decide ((IntKind.i32.wrap (c_0 + x21.2.2)) ≥ x21.1))))] (by kernel_rfl) ?_
       refine gv_split (s := 31) (g := (decide ((IntKind.i32.wrap (c_0 + x21.2.2)) ≥ x21.1))) (by kernel_rfl) (fun hc55 => ?_) (fun hc55 => ?_)
       ·skip
        replace h3 := ite_t hc55 h3
        refine gv_pureN 2 [32, 33] [(32, (.int .i32 c_0)), (33, (.pointer (some ⟨b24, 2, none⟩)))] (by kernel_rfl) ?_
        refine gv_load (t := 21) (A := ⟨b24, 2, none⟩) (.int .i32 x21.2.2) [] (fun e => by cases e) rfl rfl rfl (by kernel_rfl) (by kernel_rfl) (by kernel_rfl) (inw0 (hb49.cell 2 rfl)) rfl ?_
        refine gv_pureN 2 [35, 36] [(35, (.int .i32 (IntKind.i32.wrap (c_0 + x21.2.2)))), (36, (.pointer (some ⟨b24, 1, none⟩)))] (by kernel_rfl) ?_
        refine gv_load (t := 21) (A := ⟨b24, 1, none⟩) (.int .i32 x21.2.1) [] (fun e => by cases e) rfl rfl rfl (by kernel_rfl) (by kernel_rfl) (by kernel_rfl) (inw0 (hb49.cell 1 rfl)) rfl ?_
        refine gv_pureN 2 [38, 39] [(39, (.bool (decide ((IntKind.i32.wrap (c_0 + x21.2.2)) ≤ x21.2.1))))] (by kernel_rfl) ?_
        refine gv_nil ?_
        have e := sj h3; subst e
        refine gv_goal fun a hd hs hok => ?_
        exact ⟨hB47, (Nat.le_refl _), hb49, hk50, hd, hs, ok_pick [0, 5, 6, 7, 8, 39] hok (by kernel_rfl)⟩
       ·skip
        replace h3 := ite_f hc55 h3
        refine gv_pureN 8 [32, 33, 34, 35, 36, 37, 38, 39] [(39, (.bool false))] (by kernel_rfl) ?_
        refine gv_nil ?_
        have e := sj h3; subst e
        refine gv_goal fun a hd hs hok => ?_
        exact ⟨hB47, (Nat.le_refl _), hb49, hk50, hd, hs, ok_pick [0, 5, 6, 7, 8, 39] hok (by kernel_rfl)⟩
      ·rintro a w54 ⟨hB56, hz57, hb58, hk59, hd, hs, hok⟩
       refine gv_in ?_ hd hs hok
       clear hd hs hok
       have hz60 := (nt hz51 hz57)
       clear hz57 hc52 hz51 hk50 hb49 hB47
       refine gv_cond (b := j53) (by kernel_rfl) (fun hc61 => ?_) (fun hc61 => ?_)
       ·replace h2 := ite_t hc61 h2
        refine gv_seq <| gv_drawA (by kernel_rfl) ?_
        intro w62 hg63
        refine gv_pre [0, 2] (bA 4 [0, 2]) 2 (by kernel_rfl) (by kernel_rfl) ?_
        refine gv_pureN 2 [2, 40] [(2, (.int .i32 0)), (40, (.pointer (some ⟨b24, 2, none⟩)))] (by kernel_rfl) ?_
        refine gv_nil <| gv_goA ?_
        refine gv_stage (Cls w62 []) [0, 1, 2] [(1, some true)] (bA 4 [0, 1, 2]) 1 (by kernel_rfl) (by kernel_rfl) (Cls.refl _ _) ?_
        have hC64 := Cls.refl w62 []
        have hk65 := hb58.grown hg63 nb
        refine gv_load (t := 21) (A := ⟨b24, 2, none⟩) (.int .i32 x21.2.2) [] (fun e => by cases e) rfl rfl rfl (by kernel_rfl) (by kernel_rfl) (by kernel_rfl) (inw1 fun w' hC' => ((hC'.box hk65 nm_nil).cell 2 rfl)) rfl ?_
        refine gv_nil <| gv_goA ?_
        refine gv_pre [3] (bA 4 [0, 1, 2, 3]) 0 (by kernel_rfl) (by kernel_rfl) ?_
        refine gv_pureN 1 [3] [(3, (.int .i32 x21.2.2))] (by kernel_rfl) ?_
        refine gv_nil <| gv_goA ?_
        refine gv_stageE (by kernel_rfl) ?_
        refine gv_cret ?_
        have e := sj h2; subst e
        replace h1 := congrArg some (hR2 _ rfl)
        have e := sj h1; subst e
        replace h0 := cont_inr h0
        have e := sj h0; subst e
        refine gv_ret (gv_done [(.int .i32 0), (.int .i32 x21.2.2)] rfl ⟨(by kernel_rfl), (by kernel_rfl), trivial⟩ ?_)
        have hB66 := bg hB56 hg63 nb
        exact ⟨grown_of_below hB66, rfl⟩
       ·replace h2 := ite_f hc61 h2
        refine gv_skip <| gv_blk <| gv_region <| gv_pureN 2 [8, 42] [(8, (.int .i64 (IntKind.i64.wrap (s14 + 1))))] (by kernel_rfl) ?_
        refine gv_nil ?_
        have e := sj h2; subst e
        refine gv_goal fun a hd hs hok => ?_
        have hz67 := hz60
        exact ⟨(IntKind.i64.wrap (s14 + 1)), rfl, hB56, hz67, hk59, hd, hs, ok_pick [0, 6, 7, 8] hok (by kernel_rfl)⟩
   ·replace h2 := ite_f hc20 h2
    refine gv_cexit <| gv_exit rfl ?_
    have e := sj h2; subst e
    replace h1 := congrArg some (hR2 _ rfl)
    have e := sj h1; subst e
    refine gv_goal fun a hd hs hok => ?_
    have hz68 := hz18
    exact ⟨(), rfl, hB17, hz68, hd, hs, ok_pick [] hok (by kernel_rfl)⟩
 ·rintro a w13 ⟨s12, e, hB69, hz70, hd, hs, hok⟩
  subst e
  refine gv_in ?_ hd hs hok
  clear hd hs hok
  replace h0 := cont_inl h0
  clear hz70 hl10 hl9 ho8 hg4 hr2
  refine gv_seq <| gv_region <| gv_pureN 2 [2, 3] [(2, (.int .i32 0)), (3, (.int .i32 0))] (by kernel_rfl) ?_
  refine gv_nil <| gv_cret ?_
  have e := sj h0; subst e
  refine gv_ret (gv_done [(.int .i32 0), (.int .i32 0)] rfl ⟨(by kernel_rfl), (by kernel_rfl), trivial⟩ ?_)
  exact ⟨grown_of_below hB69, rfl⟩

theorem textstr_lower_ok (fuel : Nat) (c_0 : Int) (w0 : World)  (r0 : Int) (h0 : textstr_lower fuel c_0 = some r0) :
    Calls Tryz.prog 46 ([(.int .i32 c_0)] : List Value).toArray w0 (Ret fun v w' => w0.grownBy w' none ∧ v = tup [(.int .i32 r0)]) := by
 have hB0 : Below w0.heap.size w0 w0 := Below.refl _ _
 unfold textstr_lower at h0
 refine calls_run Tryz.func46 rfl Tryz.ntmps46 (by kernel_rfl) ?_
 refine gv_sub [0] (σ' := [(0, (.int .i32 c_0))]) (by kernel_rfl) ?_
 refine gv_seq <| gv_region <| gv_pureN 1 [2] [] (by kernel_rfl) ?_
 refine gv_nil <| gv_seq <| gv_region <| gv_pureN 1 [6] [(6, (.int .i32 c_0))] (by kernel_rfl) ?_
 refine bindE h0 ?_; clear h0; intro r1 hr2 h0
 refine gv_call0 (by kernel_rfl) rfl (by kernel_rfl) enters65 (textstr_shift_ok fuel c_0 w0  r1 hr2) ?_
 rintro v5 w3 ⟨hg4, rfl⟩
 refine gv_pureN 5 [3, 4, 5, 8, 9] [(4, (.int .i32 r1.2))] (by kernel_rfl) ?_
 refine gv_nil <| gv_seq <| gv_region <| gv_pureN 4 [2, 10, 11, 12] [(2, (.int .i32 (IntKind.i32.wrap (c_0 + r1.2))))] (by kernel_rfl) ?_
 refine gv_nil <| gv_cret ?_
 have e := sj h0; subst e
 refine gv_ret (gv_done [(.int .i32 (IntKind.i32.wrap (c_0 + r1.2)))] rfl ⟨(by kernel_rfl), trivial⟩ ?_)
 have hB6 := bg hB0 hg4 nb
 exact ⟨grown_of_below hB6, rfl⟩

theorem textstr_upper_ok (fuel : Nat) (c_0 : Int) (w0 : World)  (r0 : Int) (h0 : textstr_upper fuel c_0 = some r0) :
    Calls Tryz.prog 47 ([(.int .i32 c_0)] : List Value).toArray w0 (Ret fun v w' => w0.grownBy w' none ∧ v = tup [(.int .i32 r0)]) := by
 have hB0 : Below w0.heap.size w0 w0 := Below.refl _ _
 unfold textstr_upper at h0
 refine calls_run Tryz.func47 rfl Tryz.ntmps47 (by kernel_rfl) ?_
 refine gv_sub [0] (σ' := [(0, (.int .i32 c_0))]) (by kernel_rfl) ?_
 refine gv_seq <| gv_region <| gv_pureN 1 [2] [] (by kernel_rfl) ?_
 refine gv_nil <| gv_seq <| gv_region <| gv_pureN 1 [6] [(6, (.int .i32 c_0))] (by kernel_rfl) ?_
 refine bindE h0 ?_; clear h0; intro r1 hr2 h0
 refine gv_call0 (by kernel_rfl) rfl (by kernel_rfl) enters65 (textstr_shift_ok fuel c_0 w0  r1 hr2) ?_
 rintro v5 w3 ⟨hg4, rfl⟩
 refine gv_pureN 5 [3, 4, 5, 8, 9] [(3, (.int .i32 r1.1))] (by kernel_rfl) ?_
 refine gv_nil <| gv_seq <| gv_region <| gv_pureN 4 [2, 10, 11, 12] [(2, (.int .i32 (IntKind.i32.wrap (c_0 - r1.1))))] (by kernel_rfl) ?_
 refine gv_nil <| gv_cret ?_
 have e := sj h0; subst e
 refine gv_ret (gv_done [(.int .i32 (IntKind.i32.wrap (c_0 - r1.1)))] rfl ⟨(by kernel_rfl), trivial⟩ ?_)
 have hB6 := bg hB0 hg4 nb
 exact ⟨grown_of_below hB6, rfl⟩

theorem textstr_blank_ok (fuel : Nat) (c_0 : Int) (w0 : World)  (r0 : Bool) (h0 : textstr_blank fuel c_0 = some r0) :
    Calls Tryz.prog 66 ([(.int .i32 c_0)] : List Value).toArray w0 (Ret fun v w' => w0.grownBy w' none ∧ v = tup [(.bool r0)]) := by
 have hB0 : Below w0.heap.size w0 w0 := Below.refl _ _
 unfold textstr_blank at h0
 refine calls_run Tryz.func66 rfl Tryz.ntmps66 (by kernel_rfl) ?_
 refine gv_sub [0] (σ' := [(0, (.int .i32 c_0))]) (by kernel_rfl) ?_
 refine gv_seq <| gv_region <| gv_pureN 1 [2] [] (by kernel_rfl) ?_
 refine gv_nil <| gv_seq <| gv_region <| gv_cut_ops (J := fun a w1 => w0 = w1 ∧ a.defers = [] ∧ a.tmps.size = 13 ∧ Ok [(2, (.bool ((c_0 == 32) || ((c_0 == 9) || (c_0 == 10)))))] a.tmps) ?_ ?_
 ·skip
  refine gv_pureN 3 [3, 4, 5] [(5, (.bool (c_0 == 32)))] (by kernel_rfl) ?_
  refine gv_split (s := 5) (g := (c_0 == 32)) (by kernel_rfl) (fun hc2 => ?_) (fun hc2 => ?_)
  ·skip
   refine gv_pureN 8 [2, 6, 7, 8, 9, 10, 11, 12] [(2, (.bool true))] (by kernel_rfl) ?_
   refine gv_nil <| gv_sub [2] (σ' := [(2, (.bool true))]) (by kernel_rfl) ?_
   refine gv_goal fun a hd hs hok => ⟨rfl, hd, hs, ?_⟩
   obtain ⟨q2, _⟩ := hok
   exact ⟨(by rw [hc2]; exact q2), trivial⟩
  ·skip
   refine gv_pureN 4 [6, 7, 8, 9] [(9, (.bool (c_0 == 9)))] (by kernel_rfl) ?_
   refine gv_split (s := 9) (g := (c_0 == 9)) (by kernel_rfl) (fun hc3 => ?_) (fun hc3 => ?_)
   ·skip
    refine gv_pureN 4 [2, 10, 11, 12] [(2, (.bool true))] (by kernel_rfl) ?_
    refine gv_nil <| gv_sub [2] (σ' := [(2, (.bool true))]) (by kernel_rfl) ?_
    refine gv_goal fun a hd hs hok => ⟨rfl, hd, hs, ?_⟩
    obtain ⟨q2, _⟩ := hok
    exact ⟨(by rw [hc2, hc3]; exact q2), trivial⟩
   ·skip
    refine gv_pureN 4 [2, 10, 11, 12] [(2, (.bool (c_0 == 10)))] (by kernel_rfl) ?_
    refine gv_nil <| gv_sub [2] (σ' := [(2, (.bool (c_0 == 10)))]) (by kernel_rfl) ?_
    refine gv_goal fun a hd hs hok => ⟨rfl, hd, hs, ?_⟩
    obtain ⟨q2, _⟩ := hok
    exact ⟨(by rw [hc2, hc3]; exact q2), trivial⟩
 ·rintro a w1 ⟨e, hd, hs, hok⟩; subst e
  refine gv_in ?_ hd hs hok
  clear hd hs hok
  refine gv_cret ?_
  have e := sj h0; subst e
  refine gv_ret (gv_done [(.bool ((c_0 == 32) || ((c_0 == 9) || (c_0 == 10))))] rfl ⟨(by kernel_rfl), trivial⟩ ?_)
  exact ⟨grown_of_below hB0, rfl⟩

theorem textstr_class_ok (fuel : Nat) (c_0 : Int) (w0 : World)  (r0 : Int) (h0 : textstr_class fuel c_0 = some r0) :
    Calls Tryz.prog 48 ([(.int .i32 c_0)] : List Value).toArray w0 (Ret fun v w' => w0.grownBy w' none ∧ v = tup [(.int .i64 r0)]) := by
 have hB0 : Below w0.heap.size w0 w0 := Below.refl _ _
 unfold textstr_class at h0
 refine calls_run Tryz.func48 rfl Tryz.ntmps48 (by kernel_rfl) ?_
 refine gv_sub [0] (σ' := [(0, (.int .i32 c_0))]) (by kernel_rfl) ?_
 refine gv_seq <| gv_region <| gv_pureN 1 [2] [] (by kernel_rfl) ?_
 refine gv_nil <| gv_seq <| gv_region <| gv_pureN 1 [6] [(6, (.int .i32 c_0))] (by kernel_rfl) ?_
 refine bindE h0 ?_; clear h0; intro r1 hr2 h0
 refine gv_call0 (by kernel_rfl) rfl (by kernel_rfl) enters65 (textstr_shift_ok fuel c_0 w0  r1 hr2) ?_
 rintro v5 w3 ⟨hg4, rfl⟩
 refine gv_pureN 5 [3, 4, 5, 8, 9] [(3, (.int .i32 r1.1)), (4, (.int .i32 r1.2))] (by kernel_rfl) ?_
 refine gv_nil <| gv_seq <| gv_block <| gv_seq <| gv_region <| gv_pureN 3 [10, 11, 12] [(10, (.bool (decide (r1.1 > 0))))] (by kernel_rfl) ?_
 refine gv_nil <| gv_cond (b := (decide (r1.1 > 0))) (by kernel_rfl) (fun hc6 => ?_) (fun hc6 => ?_)
 ·replace h0 := ite_t hc6 h0
  refine gv_seq <| gv_region <| gv_pureN 1 [2] [(2, (.int .i64 2))] (by kernel_rfl) ?_
  refine gv_nil <| gv_cret ?_
  have e := sj h0; subst e
  refine gv_ret (gv_done [(.int .i64 2)] rfl ⟨(by kernel_rfl), trivial⟩ ?_)
  have hB7 := bg hB0 hg4 nb
  exact ⟨grown_of_below hB7, rfl⟩
 ·replace h0 := ite_f hc6 h0
  refine gv_seq <| gv_region <| gv_pureN 3 [13, 14, 15] [(13, (.bool (decide (r1.2 > 0))))] (by kernel_rfl) ?_
  refine gv_nil <| gv_cond (b := (decide (r1.2 > 0))) (by kernel_rfl) (fun hc8 => ?_) (fun hc8 => ?_)
  ·replace h0 := ite_t hc8 h0
   refine gv_seq <| gv_region <| gv_pureN 1 [2] [(2, (.int .i64 1))] (by kernel_rfl) ?_
   refine gv_nil <| gv_cret ?_
   have e := sj h0; subst e
   refine gv_ret (gv_done [(.int .i64 1)] rfl ⟨(by kernel_rfl), trivial⟩ ?_)
   have hB9 := bg hB0 hg4 nb
   exact ⟨grown_of_below hB9, rfl⟩
  ·replace h0 := ite_f hc8 h0
   refine gv_seq <| gv_region <| gv_cut_ops (J := fun a w10 => w3 = w10 ∧ a.defers = [] ∧ a.tmps.size = 26 ∧ Ok [(0, (.int .i32 c_0)), (16, (.bool ((decide (c_0 ≥ 48)) && (decide (c_0 ≤ 57)))))] a.tmps) ?_ ?_
   ·skip
    refine gv_pureN 3 [17, 18, 19] [(19, (.bool (decide (c_0 ≥ 48))))] (by kernel_rfl) ?_
    refine gv_split (s := 19) (g := (decide (c_0 ≥ 48))) (by kernel_rfl) (fun hc11 => ?_) (fun hc11 => ?_)
    ·skip
     refine gv_pureN 4 [16, 20, 21, 22] [(16, (.bool (decide (c_0 ≤ 57))))] (by kernel_rfl) ?_
     refine gv_nil <| gv_sub [0, 16] (σ' := [(0, (.int .i32 c_0)), (16, (.bool (decide (c_0 ≤ 57))))]) (by kernel_rfl) ?_
     refine gv_goal fun a hd hs hok => ⟨rfl, hd, hs, ?_⟩
     obtain ⟨q0, q16, _⟩ := hok
     exact ⟨q0, (by rw [hc11]; exact q16), trivial⟩
    ·skip
     refine gv_pureN 4 [16, 20, 21, 22] [(16, (.bool false))] (by kernel_rfl) ?_
     refine gv_nil <| gv_sub [0, 16] (σ' := [(0, (.int .i32 c_0)), (16, (.bool false))]) (by kernel_rfl) ?_
     refine gv_goal fun a hd hs hok => ⟨rfl, hd, hs, ?_⟩
     obtain ⟨q0, q16, _⟩ := hok
     exact ⟨q0, (by rw [hc11]; exact q16), trivial⟩
   ·rintro a w10 ⟨e, hd, hs, hok⟩; subst e
    refine gv_in ?_ hd hs hok
    clear hd hs hok
    refine gv_cond (b := ((decide (c_0 ≥ 48)) && (decide (c_0 ≤ 57)))) (by kernel_rfl) (fun hc12 => ?_) (fun hc12 => ?_)
    ·replace h0 := ite_t hc12 h0
     refine gv_seq <| gv_region <| gv_pureN 1 [2] [(2, (.int .i64 4))] (by kernel_rfl) ?_
     refine gv_nil <| gv_cret ?_
     have e := sj h0; subst e
     refine gv_ret (gv_done [(.int .i64 4)] rfl ⟨(by kernel_rfl), trivial⟩ ?_)
     have hB13 := bg hB0 hg4 nb
     exact ⟨grown_of_below hB13, rfl⟩
    ·replace h0 := ite_f hc12 h0
     refine gv_seq <| gv_region <| gv_pureN 1 [24] [(24, (.int .i32 c_0))] (by kernel_rfl) ?_
     refine bindE h0 ?_; clear h0; intro r14 hr15 h0
     refine gv_call0 (by kernel_rfl) rfl (by kernel_rfl) enters66 (textstr_blank_ok fuel c_0 w3  r14 hr15) ?_
     rintro v18 w16 ⟨hg17, rfl⟩
     refine gv_pureN 1 [23] [(23, (.bool r14))] (by kernel_rfl) ?_
     refine gv_nil <| gv_cond (b := r14) (by kernel_rfl) (fun hc19 => ?_) (fun hc19 => ?_)
     ·replace h0 := ite_t hc19 h0
      refine gv_seq <| gv_region <| gv_pureN 1 [2] [(2, (.int .i64 8))] (by kernel_rfl) ?_
      refine gv_nil <| gv_cret ?_
      have e := sj h0; subst e
      refine gv_ret (gv_done [(.int .i64 8)] rfl ⟨(by kernel_rfl), trivial⟩ ?_)
      have hg20 := (grown_trans hg4 hg17)
      have hB21 := bg hB0 hg20 nb
      exact ⟨grown_of_below hB21, rfl⟩
     ·replace h0 := ite_f hc19 h0
      refine gv_skip <| gv_blk <| gv_seq <| gv_region <| gv_pureN 1 [2] [(2, (.int .i64 16))] (by kernel_rfl) ?_
      refine gv_nil <| gv_cret ?_
      have e := sj h0; subst e
      refine gv_ret (gv_done [(.int .i64 16)] rfl ⟨(by kernel_rfl), trivial⟩ ?_)
      have hg22 := (grown_trans hg4 hg17)
      have hB23 := bg hB0 hg22 nb
      exact ⟨grown_of_below hB23, rfl⟩

theorem textstr_ToTitle_1_ok (fuel : Nat) (c_0 : Int) (pb1 : Nat) (cap0_1 : Bool) (w0 : World) (hp1 : Box w0 pb1 4 #[(.bool cap0_1)]) (r0 : (Int × Bool)) (h0 : textstr_ToTitle_1 fuel c_0 cap0_1 = some r0) :
    Calls Tryz.prog 45 ([(.int .i32 c_0), (bp pb1)] : List Value).toArray w0 (Ret fun v w' => w0.grownBy w' (some pb1) ∧ v = tup [(.int .i32 r0.1)] ∧ Box w' pb1 4 #[(.bool r0.2)]) := by
 have hB0 : w0.grownBy w0 (some pb1) := grown_refl _ _
 unfold textstr_ToTitle_1 at h0
 refine calls_run Tryz.func45 rfl Tryz.ntmps45 (by kernel_rfl) ?_
 refine gv_sub [0, 1] (σ' := [(0, (.int .i32 c_0)), (1, (bp pb1))]) (by kernel_rfl) ?_
 have hpl1 := hp1.lt
 refine gv_seq <| gv_region <| gv_pureN 1 [3] [] (by kernel_rfl) ?_
 refine gv_nil <| gv_seq <| gv_region <| gv_pureN 1 [5] [(5, (.int .i32 c_0))] (by kernel_rfl) ?_
 refine bindE h0 ?_; clear h0; intro r1 hr2 h0
 refine gv_call0 (by kernel_rfl) rfl (by kernel_rfl) enters46 (textstr_lower_ok fuel c_0 w0  r1 hr2) ?_
 rintro v5 w3 ⟨hg4, rfl⟩
 refine gv_pureN 1 [4] [(4, (.int .i32 r1))] (by kernel_rfl) ?_
 refine gv_nil <| gv_seq <| gv_seq <| gv_region ?_
 have hk6 := hp1.grown hg4 nb
 refine gv_load (t := 4) (A := ⟨pb1, 0, none⟩) (.bool cap0_1) [] (fun e => by cases e) rfl rfl rfl (by kernel_rfl) (by kernel_rfl) (by kernel_rfl) (inw0 (hk6.cell 0 rfl)) rfl ?_
 refine gv_pureN 1 [8] [(8, (.bool (!cap0_1)))] (by kernel_rfl) ?_
 refine gv_nil <| bindE h0 ?_; clear h0; intro j7 h1 h0
 refine gv_cut_code (J := fun a w8 => w0.grownBy w8 (some pb1) ∧ w3.heap.size ≤ w8.heap.size ∧ Box w8 pb1 4 #[(.bool cap0_1)] ∧ a.defers = [] ∧ a.tmps.size = 16 ∧ Ok [(0, (.int .i32 c_0)), (1, (bp pb1)), (4, (.int .i32 j7))] a.tmps) ?_ ?_
 ·skip
  refine gv_cond (b := (!cap0_1)) (by kernel_rfl) (fun hc9 => ?_) (fun hc9 => ?_)
  ·replace h1 := ite_t hc9 h1
   refine gv_region <| gv_pureN 1 [9] [(9, (.int .i32 c_0))] (by kernel_rfl) ?_
   refine bindE h1 ?_; clear h1; intro r10 hr11 h1
   refine gv_call0 (by kernel_rfl) rfl (by kernel_rfl) enters47 (textstr_upper_ok fuel c_0 w3  r10 hr11) ?_
   rintro v14 w12 ⟨hg13, rfl⟩
   refine gv_pureN 1 [4] [(4, (.int .i32 r10))] (by kernel_rfl) ?_
   refine gv_nil ?_
   have e := sj h1; subst e
   refine gv_goal fun a hd hs hok => ?_
   have hg15 := (grown_trans hg4 hg13)
   have hB16 := grown_step hB0 hg15 nb
   have hz17 := hg13.size
   have hk18 := hk6.grown hg13 nb
   exact ⟨hB16, hz17, hk18, hd, hs, ok_pick [0, 1, 4] hok (by kernel_rfl)⟩
  ·replace h1 := ite_f hc9 h1
   refine gv_skip ?_
   have e := sj h1; subst e
   refine gv_goal fun a hd hs hok => ?_
   have hB19 := grown_step hB0 hg4 nb
   exact ⟨hB19, (Nat.le_refl _), hk6, hd, hs, ok_pick [0, 1, 4] hok (by kernel_rfl)⟩
 ·rintro a w8 ⟨hB20, hz21, hb22, hd, hs, hok⟩
  refine gv_in ?_ hd hs hok
  clear hd hs hok
  clear hz21 hp1 hk6 hg4 hr2
  refine gv_seq <| gv_region <| gv_pureN 1 [11] [(11, (.int .i32 c_0))] (by kernel_rfl) ?_
  refine bindE h0 ?_; clear h0; intro r23 hr24 h0
  refine gv_call0 (by kernel_rfl) rfl (by kernel_rfl) enters48 (textstr_class_ok fuel c_0 w8  r23 hr24) ?_
  rintro v27 w25 ⟨hg26, rfl⟩
  refine gv_pureN 2 [13, 14] [(14, (.bool ((bwAnd .i64 r23 3) != 0)))] (by kernel_rfl) ?_
  have hk32 := hb22.grown hg26 nb
  refine gv_store0 4 0 (.bool ((bwAnd .i64 r23 3) != 0)) #[(.bool ((bwAnd .i64 r23 3) != 0))] hk32 (by kernel_rfl) (by kernel_rfl) (by kernel_rfl) ?_
  intro w28 hg29 hb30 hz31
  refine gv_nil <| gv_seq <| gv_region <| gv_pureN 2 [3, 15] [(3, (.int .i32 j7))] (by kernel_rfl) ?_
  refine gv_nil <| gv_cret ?_
  have e := sj h0; subst e
  refine gv_ret (gv_done [(.int .i32 j7)] rfl ⟨(by kernel_rfl), trivial⟩ ?_)
  have hB33 := grown_step hB20 hg26 nb
  have hB34 := grown_step hB33 hg29 rowpp
  exact ⟨hB34, rfl, hb30⟩

theorem strings_Map_ToTitle_1_ok (fuel : Nat) (pb0c0 : Nat) (mapping_0c0 : Bool) (s_1 : ByteArray) (w0 : World) (X0 : Nat → Prop) (hX0 : ∀ k, X0 k → k < w0.heap.size ∧ k ≠ pb0c0) (hp0c0 : Box w0 pb0c0 4 #[(.bool mapping_0c0)]) (hG0 : Rd bE w0 X0 (some ⟨0, 0, none⟩) 256 utf8First) (hG1 : Rd (prE (iE .u8) (iE .u8)) w0 X0 (some ⟨1, 0, none⟩) 16 utf8Acc) (r0 : (ByteArray × Bool)) (h0 : strings_Map_ToTitle_1 fuel mapping_0c0 s_1 = some r0) :
    Calls Tryz.prog 64 ([(.func (.func 45) #[] #[(bp pb0c0)]), (.string s_1)] : List Value).toArray w0 (Ret fun v w' => w0.grownBy w' (some pb0c0) ∧ v = tup [(.string r0.1)] ∧ Box w' pb0c0 4 #[(.bool r0.2)]) := by
 have hB0 : w0.grownBy w0 (some pb0c0) := grown_refl _ _
 unfold strings_Map_ToTitle_1 at h0
 refine calls_run Tryz.func64 rfl Tryz.ntmps64 (by kernel_rfl) ?_
 refine gv_sub [0, 1] (σ' := [(0, (.func (.func 45) #[] #[(bp pb0c0)])), (1, (.string s_1))]) (by kernel_rfl) ?_
 have hpl0c0 := hp0c0.lt
 refine gv_seq <| gv_region <| gv_pureN 1 [4] [] (by kernel_rfl) ?_
 refine gv_nil <| gv_seq <| gv_region <| gv_new0 (fun b => .pointer (some ⟨b, 0, none⟩)) #[.pointer none, (.slice none 0 0)] 110 (by kernel_rfl) (by kernel_rfl) ?_
 intro b1 w2 hg3 hb4 hbe5 hz6
 refine gv_nil <| gv_seq <| gv_seq <| gv_region <| gv_pureN 1 [13] [(13, (.string s_1))] (by kernel_rfl) ?_
 refine gv_range (t := 9) (s := s_1) (by kernel_rfl) (by kernel_rfl) Tryz.underlying9 ?_
 intro b7 w8 hg9 hb10 hbe11 hz12
 refine gv_nil <| bindE h0 ?_; clear h0; intro j13 h1 h0
 refine gv_cut_code (J := fun a w14 => w0.grownBy w14 (some pb0c0) ∧ w8.heap.size ≤ w14.heap.size ∧ Box w14 pb0c0 4 #[(.bool j13.2.1)] ∧ Bld 110 5 w14 b1 j13.2.2 ∧ a.defers = [] ∧ a.tmps.size = 85 ∧ Ok [(0, (.func (.func 45) #[] #[(bp pb0c0)])), (1, (.string j13.1)), (5, (bp b1))] a.tmps) ?_ ?_
 ·skip
  refine gv_block <| gv_loop (A := fun (s15 : (ByteArray × Bool × (Option (List UInt8)) × Nat)) a w16 => w0.grownBy w16 (some pb0c0) ∧ w8.heap.size ≤ w16.heap.size ∧ Box w16 pb0c0 4 #[(.bool s15.2.1)] ∧ Bld 110 5 w16 b1 s15.2.2.1 ∧ At w16 b7 (.stringIter s_1 s15.2.2.2) ∧ a.defers = [] ∧ a.tmps.size = 85 ∧ Ok [(0, (.func (.func 45) #[] #[(bp pb0c0)])), (1, (.string s15.1)), (5, (bp b1)), (14, (bp b7))] a.tmps) h1 ?_ ?_
  ·intro a hd hs hok
   have hg17 := (grown_trans hg3 hg9)
   have hB18 := grown_step hB0 hg17 nb
   have hk19 := hp0c0.grown hg17 nb
   have hk20 := (bld_new (e := 5) hb4).grown hg9 nb
   exact ⟨hB18, (Nat.le_refl _), hk19, hk20, hb10, hd, hs, ok_pick [0, 1, 5, 14] hok (by kernel_rfl)⟩
  ·rintro s15 r2 h2 hR2 a w16 ⟨hB21, hz22, hb23, hb24, hb25, hd, hs, hok⟩
   refine gv_in ?_ hd hs hok
   clear hd hs hok
   clear hz12 hb10 hg9 hz6
   refine gv_seq <| gv_region <| gv_next (b := b7) (s := s_1) (pos := s15.2.2.2) (ty := 0) (by kernel_rfl) (by kernel_rfl) hb25 (fun hc26 => ?_) (fun hc26 => ?_)
   ·skip
    replace h2 := ite_t hc26 h2
    intro w27 hg28 hb29 hz30
    refine gv_pureN 1 [16] [(16, (.bool true))] (by kernel_rfl) ?_
    refine gv_nil <| gv_seq <| gv_cond (b := true) (by kernel_rfl) (fun hc => ?_) (fun hc => ?_)
    rotate_left; · cases hc
    clear hc
    refine gv_skip <| gv_block <| gv_seq <| gv_region <| gv_pureN 4 [6, 7, 17, 18] [(6, (.int .i64 ((s15.2.2.2 : Nat) : Int))), (7, (.int .i32 (runeI s_1 s15.2.2.2)))] (by kernel_rfl) ?_
    refine gv_nil <| gv_seq <| gv_region <| gv_pureN 2 [19, 20] [(19, (.func (.func 45) #[] #[(bp pb0c0)])), (20, (.int .i32 (runeI s_1 s15.2.2.2)))] (by kernel_rfl) ?_
    refine bindE h2 ?_; clear h2; intro r31 hr32 h2
    have hk33 := hp0c0.grown hg3 nb
    have ap34 : ¬ (· = pb0c0) b7 := fun hx => nl ((lowb hbe11) _ rfl) ((ltb hk33) _ hx)
    have hk35 := hb23.grown hg28 (rowne ap34)
    refine gv_call (f := 45) (vs := [(.int .i32 (runeI s_1 s15.2.2.2))]) (cap := [(bp pb0c0)]) _ (by decide) rfl rfl rfl (by kernel_rfl) (by kernel_rfl) enters45 (textstr_ToTitle_1_ok fuel (runeI s_1 s15.2.2.2) pb0c0 s15.2.1 w27 hk35 r31 hr32) ?_
    rintro v38 w36 ⟨hg37, rfl, hb39⟩
    refine ⟨(fun e => by cases e), ?_⟩
    refine gv_pureN 1 [8] [(8, (.int .i32 r31.1))] (by kernel_rfl) ?_
    refine gv_nil <| gv_seq <| gv_seq <| gv_region <| gv_cut_ops (J := fun a w40 => w36 = w40 ∧ a.defers = [] ∧ a.tmps.size = 85 ∧ Ok [(0, (.func (.func 45) #[] #[(bp pb0c0)])), (1, (.string s15.1)), (5, (bp b1)), (6, (.int .i64 ((s15.2.2.2 : Nat) : Int))), (7, (.int .i32 (runeI s_1 s15.2.2.2))), (8, (.int .i32 r31.1)), (14, (bp b7)), (28, (.bool ((r31.1 == (runeI s_1 s15.2.2.2)) && ((runeI s_1 s15.2.2.2) != 65533))))] a.tmps) ?_ ?_
    ·skip
     refine gv_pureN 4 [22, 23, 24, 25] [(25, (.bool (r31.1 == (runeI s_1 s15.2.2.2))))] (by kernel_rfl) ?_
     refine gv_split (s := 25) (g := (r31.1 == (runeI s_1 s15.2.2.2))) (by kernel_rfl) (fun hc41 => ?_) (fun hc41 => ?_)
     ·skip
      refine gv_pureN 3 [26, 27, 28] [(28, (.bool ((runeI s_1 s15.2.2.2) != 65533)))] (by kernel_rfl) ?_
      refine gv_nil <| gv_sub [0, 1, 5, 6, 7, 8, 14, 28] (σ' := [(0, (.func (.func 45) #[] #[(bp pb0c0)])), (1, (.string s15.1)), (5, (bp b1)), (6, (.int .i64 ((s15.2.2.2 : Nat) : Int))), (7, (.int .i32 (runeI s_1 s15.2.2.2))), (8, (.int .i32 r31.1)), (14, (bp b7)), (28, (.bool ((runeI s_1 s15.2.2.2) != 65533)))]) (by kernel_rfl) ?_
      refine gv_goal fun a hd hs hok => ⟨rfl, hd, hs, ?_⟩
      obtain ⟨q0, q1, q5, q6, q7, q8, q14, q28, _⟩ := hok
      exact ⟨q0, q1, q5, q6, q7, q8, q14, (by rw [hc41]; exact q28), trivial⟩
     ·skip
      refine gv_pureN 3 [26, 27, 28] [(28, (.bool false))] (by kernel_rfl) ?_
      refine gv_nil <| gv_sub [0, 1, 5, 6, 7, 8, 14, 28] (σ' := [(0, (.func (.func 45) #[] #[(bp pb0c0)])), (1, (.string s15.1)), (5, (bp b1)), (6, (.int .i64 ((s15.2.2.2 : Nat) : Int))), (7, (.int .i32 (runeI s_1 s15.2.2.2))), (8, (.int .i32 r31.1)), (14, (bp b7)), (28, (.bool false))]) (by kernel_rfl) ?_
      refine gv_goal fun a hd hs hok => ⟨rfl, hd, hs, ?_⟩
      obtain ⟨q0, q1, q5, q6, q7, q8, q14, q28, _⟩ := hok
      exact ⟨q0, q1, q5, q6, q7, q8, q14, (by rw [hc41]; exact q28), trivial⟩
    ·rintro a w40 ⟨e, hd, hs, hok⟩; subst e
     refine gv_in ?_ hd hs hok
     clear hd hs hok
     refine gv_cond (b := ((r31.1 == (runeI s_1 s15.2.2.2)) && ((runeI s_1 s15.2.2.2) != 65533))) (by kernel_rfl) (fun hc42 => ?_) (fun hc42 => ?_)
     ·replace h2 := ite_t hc42 h2
      refine gv_cexit <| gv_exit rfl ?_
      have e := sj h2; subst e
      refine gv_goal fun a hd hs hok => ?_
      have hB43 := grown_step hB0 hg3 nb
      have hlo44 : w0.heap.size ≤ b7 := lob hbe11 hB43.size
      have hB45 := grown_step hB21 hg28 (rowppr hlo44)
      have hB46 := grown_step hB45 hg37 rowpp
      have hz47 := (nt (nt hz22 hg28.size) hg37.size)
      have lt48 := ltl ((ltBld (bld_new (e := 5) hb4)) _ rfl) ((lowb hbe11) _ rfl)
      have hlo49 : w0.heap.size ≤ b1 := lob hbe5 hB0.size
      have hk50 := (hb24.grown hg28 (bld_at hb25 (ng lt48))).grown hg37 (bld_low (ltl hpl0c0 hlo49))
      have ap51 : ¬ (· = b7) pb0c0 := fun hx => nl ((lowb hbe11) _ hx) ((ltb hk33) _ rfl)
      have hk52 := hb29.grown hg37 (rowne ap51)
      exact ⟨(s15.1, r31.2, s15.2.2.1, (s15.2.2.2 + runeN s_1 s15.2.2.2)), rfl, hB46, hz47, hb39, hk50, hk52, hd, hs, ok_pick [0, 1, 5, 14] hok (by kernel_rfl)⟩
     ·replace h2 := ite_f hc42 h2
      refine gv_skip <| gv_seq <| gv_region <| gv_pureN 1 [9] [] (by kernel_rfl) ?_
      refine gv_nil <| gv_seq <| gv_seq <| gv_region <| gv_pureN 2 [29, 30] [(30, (.bool ((runeI s_1 s15.2.2.2) == 65533)))] (by kernel_rfl) ?_
      refine gv_nil <| bindE h2 ?_; clear h2; intro j53 h3 h2
      refine gv_cut_code (J := fun a w55 => ∃ s54 : Int, j53 = .inl s54 ∧ w0.grownBy w55 (some pb0c0) ∧ w36.heap.size ≤ w55.heap.size ∧ Box w55 pb0c0 4 #[(.bool r31.2)] ∧ Bld 110 5 w55 b1 s15.2.2.1 ∧ a.defers = [] ∧ a.tmps.size = 85 ∧ Ok [(0, (.func (.func 45) #[] #[(bp pb0c0)])), (1, (.string s15.1)), (5, (bp b1)), (6, (.int .i64 ((s15.2.2.2 : Nat) : Int))), (8, (.int .i32 r31.1)), (9, (.int .i64 s54))] a.tmps) ?_ ?_
      ·skip
       refine gv_cond (b := ((runeI s_1 s15.2.2.2) == 65533)) (by kernel_rfl) (fun hc56 => ?_) (fun hc56 => ?_)
       ·replace h3 := ite_t hc56 h3
        refine gv_seq <| gv_region <| gv_pureN 2 [32, 33] [(32, (.string s15.1)), (33, (.int .i64 ((s15.2.2.2 : Nat) : Int)))] (by kernel_rfl) ?_
        refine bindE h3 ?_; clear h3; intro x57 hx58 h3
        refine gv_ssub (t := 9) (s := s15.1) (lo := (some (.int .i64 ((s15.2.2.2 : Nat) : Int)))) (hi := none) ((s15.2.2.2 : Nat) : Int) ((ByteArray.size s15.1 : Nat) : Int) x57 [] (fun e => by cases e) rfl rfl rfl (by kernel_rfl) (by kernel_rfl) Tryz.underlying9 (.inr ⟨_, rfl⟩) (.inl ⟨rfl, rfl⟩) hx58 rfl ?_
        refine bindE h3 ?_; clear h3; intro r59 hr60 h3
        have hB61 := grown_step hB0 hg3 nb
        have hlo62 : w0.heap.size ≤ b7 := lob hbe11 hB61.size
        have hB63 := grown_step hB21 hg28 (rowppr hlo62)
        have hB64 := grown_step hB63 hg37 rowpp
        refine gv_call0 (by kernel_rfl) rfl (by kernel_rfl) enters84 (utf8_DecodeRuneInString_ok fuel x57 w36 (fun k => X0 k ∨ X0 k) (fun k hk => (hk).elim (fun h => (fun k (hk : X0 k) => ltl (hX0 k hk).1 hB64.size) k h) (fun h => (fun k (hk : X0 k) => ltl (hX0 k hk).1 hB64.size) k h)) ((hG0.grown hB64 (fun k hk => (hX0 k hk).1) (fun g e hk => by cases e; exact (hX0 _ hk).2 rfl)).wide (fun k hk => (.inl hk))) ((hG1.grown hB64 (fun k hk => (hX0 k hk).1) (fun g e hk => by cases e; exact (hX0 _ hk).2 rfl)).wide (fun k hk => (.inr hk))) r59 hr60) ?_
        rintro v67 w65 ⟨hg66, rfl⟩
        refine gv_pureN 5 [7, 9, 31, 36, 37] [(7, (.int .i32 r59.1)), (9, (.int .i64 r59.2))] (by kernel_rfl) ?_
        refine gv_nil <| gv_seq <| gv_region <| gv_cut_ops (J := fun a w68 => w65 = w68 ∧ a.defers = [] ∧ a.tmps.size = 85 ∧ Ok [(0, (.func (.func 45) #[] #[(bp pb0c0)])), (1, (.string s15.1)), (5, (bp b1)), (6, (.int .i64 ((s15.2.2.2 : Nat) : Int))), (8, (.int .i32 r31.1)), (9, (.int .i64 r59.2)), (14, (bp b7)), (44, (.bool ((r59.2 != 1) && (r31.1 == r59.1))))] a.tmps) ?_ ?_
        ·skip
         refine gv_pureN 3 [38, 39, 40] [(40, (.bool (r59.2 != 1)))] (by kernel_rfl) ?_
         refine gv_split (s := 40) (g := (r59.2 != 1)) (by kernel_rfl) (fun hc69 => ?_) (fun hc69 => ?_)
         ·skip
          refine gv_pureN 4 [41, 42, 43, 44] [(44, (.bool (r31.1 == r59.1)))] (by kernel_rfl) ?_
          refine gv_sub [0, 1, 5, 6, 8, 9, 14, 44] (σ' := [(0, (.func (.func 45) #[] #[(bp pb0c0)])), (1, (.string s15.1)), (5, (bp b1)), (6, (.int .i64 ((s15.2.2.2 : Nat) : Int))), (8, (.int .i32 r31.1)), (9, (.int .i64 r59.2)), (14, (bp b7)), (44, (.bool (r31.1 == r59.1)))]) (by kernel_rfl) ?_
          refine gv_nil <| gv_sub [0, 1, 5, 6, 8, 9, 14, 44] (σ' := [(0, (.func (.func 45) #[] #[(bp pb0c0)])), (1, (.string s15.1)), (5, (bp b1)), (6, (.int .i64 ((s15.2.2.2 : Nat) : Int))), (8, (.int .i32 r31.1)), (9, (.int .i64 r59.2)), (14, (bp b7)), (44, (.bool (r31.1 == r59.1)))]) (by kernel_rfl) ?_
          refine gv_goal fun a hd hs hok => ⟨rfl, hd, hs, ?_⟩
          obtain ⟨q0, q1, q5, q6, q8, q9, q14, q44, _⟩ := hok
          exact ⟨q0, q1, q5, q6, q8, q9, q14, (by rw [hc69]; exact q44), trivial⟩
         ·skip
          refine gv_pureN 4 [41, 42, 43, 44] [(44, (.bool false))] (by kernel_rfl) ?_
          refine gv_sub [0, 1, 5, 6, 8, 9, 14, 44] (σ' := [(0, (.func (.func 45) #[] #[(bp pb0c0)])), (1, (.string s15.1)), (5, (bp b1)), (6, (.int .i64 ((s15.2.2.2 : Nat) : Int))), (8, (.int .i32 r31.1)), (9, (.int .i64 r59.2)), (14, (bp b7)), (44, (.bool false))]) (by kernel_rfl) ?_
          refine gv_nil <| gv_sub [0, 1, 5, 6, 8, 9, 14, 44] (σ' := [(0, (.func (.func 45) #[] #[(bp pb0c0)])), (1, (.string s15.1)), (5, (bp b1)), (6, (.int .i64 ((s15.2.2.2 : Nat) : Int))), (8, (.int .i32 r31.1)), (9, (.int .i64 r59.2)), (14, (bp b7)), (44, (.bool false))]) (by kernel_rfl) ?_
          refine gv_goal fun a hd hs hok => ⟨rfl, hd, hs, ?_⟩
          obtain ⟨q0, q1, q5, q6, q8, q9, q14, q44, _⟩ := hok
          exact ⟨q0, q1, q5, q6, q8, q9, q14, (by rw [hc69]; exact q44), trivial⟩
        ·rintro a w68 ⟨e, hd, hs, hok⟩; subst e
         refine gv_in ?_ hd hs hok
         clear hd hs hok
         refine gv_cond (b := ((r59.2 != 1) && (r31.1 == r59.1))) (by kernel_rfl) (fun hc70 => ?_) (fun hc70 => ?_)
         ·replace h3 := ite_t hc70 h3
          refine gv_cexit <| gv_exit rfl ?_
          have e := sj h3; subst e
          replace h2 := cont_inr h2
          have e := sj h2; subst e
          refine gv_goal fun a hd hs hok => ?_
          have hB71 := grown_step hB64 hg66 nb
          have hz72 := (nt (nt (nt hz22 hg28.size) hg37.size) hg66.size)
          have hk73 := hb39.grown hg66 nb
          have lt74 := ltl ((ltBld (bld_new (e := 5) hb4)) _ rfl) ((lowb hbe11) _ rfl)
          have hlo75 : w0.heap.size ≤ b1 := lob hbe5 hB0.size
          have hk76 := ((hb24.grown hg28 (bld_at hb25 (ng lt74))).grown hg37 (bld_low (ltl hpl0c0 hlo75))).grown hg66 nb
          have ap77 : ¬ (· = b7) pb0c0 := fun hx => nl ((lowb hbe11) _ hx) ((ltb hk33) _ rfl)
          have hk78 := (hb29.grown hg37 (rowne ap77)).grown hg66 nb
          exact ⟨(s15.1, r31.2, s15.2.2.1, (s15.2.2.2 + runeN s_1 s15.2.2.2)), rfl, hB71, hz72, hk73, hk76, hk78, hd, hs, ok_pick [0, 1, 5, 14] hok (by kernel_rfl)⟩
         ·replace h3 := ite_f hc70 h3
          refine gv_skip ?_
          have e := sj h3; subst e
          refine gv_goal fun a hd hs hok => ?_
          have hB79 := grown_step hB64 hg66 nb
          have hz80 := hg66.size
          have hk81 := hb39.grown hg66 nb
          have lt82 := ltl ((ltBld (bld_new (e := 5) hb4)) _ rfl) ((lowb hbe11) _ rfl)
          have hlo83 : w0.heap.size ≤ b1 := lob hbe5 hB0.size
          have hk84 := ((hb24.grown hg28 (bld_at hb25 (ng lt82))).grown hg37 (bld_low (ltl hpl0c0 hlo83))).grown hg66 nb
          exact ⟨r59.2, rfl, hB79, hz80, hk81, hk84, hd, hs, ok_pick [0, 1, 5, 6, 8, 9] hok (by kernel_rfl)⟩
       ·replace h3 := ite_f hc56 h3
        refine gv_region <| gv_pureN 1 [45] [(45, (.int .i32 (runeI s_1 s15.2.2.2)))] (by kernel_rfl) ?_
        refine bindE h3 ?_; clear h3; intro r85 hr86 h3
        refine gv_call0 (by kernel_rfl) rfl (by kernel_rfl) enters85 (utf8_RuneLen_ok fuel (runeI s_1 s15.2.2.2) w36  r85 hr86) ?_
        rintro v89 w87 ⟨hg88, rfl⟩
        refine gv_pureN 1 [9] [(9, (.int .i64 r85))] (by kernel_rfl) ?_
        refine gv_nil ?_
        have e := sj h3; subst e
        refine gv_goal fun a hd hs hok => ?_
        have hB90 := grown_step hB0 hg3 nb
        have hlo91 : w0.heap.size ≤ b7 := lob hbe11 hB90.size
        have hB92 := grown_step hB21 hg28 (rowppr hlo91)
        have hB93 := grown_step hB92 hg37 rowpp
        have hB94 := grown_step hB93 hg88 nb
        have hz95 := hg88.size
        have hk96 := hb39.grown hg88 nb
        have lt97 := ltl ((ltBld (bld_new (e := 5) hb4)) _ rfl) ((lowb hbe11) _ rfl)
        have hlo98 : w0.heap.size ≤ b1 := lob hbe5 hB0.size
        have hk99 := ((hb24.grown hg28 (bld_at hb25 (ng lt97))).grown hg37 (bld_low (ltl hpl0c0 hlo98))).grown hg88 nb
        exact ⟨r85, rfl, hB94, hz95, hk96, hk99, hd, hs, ok_pick [0, 1, 5, 6, 8, 9] hok (by kernel_rfl)⟩
      ·rintro a w55 ⟨s54, e, hB100, hz101, hb102, hb103, hd, hs, hok⟩
       subst e
       refine gv_in ?_ hd hs hok
       clear hd hs hok
       replace h2 := cont_inl h2
       have hz104 := (nt (nt (nt hz22 hg28.size) hg37.size) hz101)
       clear hz101 hc42 hb39 hg37 hk35 ap34 hk33 hr32 hz30 hb29 hg28 hc26 hb25 hb24 hb23 hz22 hB21 hbe11 hb4 hg3
       refine gv_seq <| gv_region <| gv_pureN 3 [47, 48, 49] [(49, (.int .i64 (IntKind.i64.wrap (((ByteArray.size s15.1 : Nat) : Int) + 4))))] (by kernel_rfl) ?_
       refine bindE h2 ?_; clear h2; intro y105 hy106 h2
       refine gv_call0 (by kernel_rfl) rfl (by kernel_rfl) enters69 (builder_Grow hb103 hy106) ?_
       rintro v111 w107 ⟨rfl, hs108, hb110⟩
       have hlo113 : w0.heap.size ≤ b1 := lob hbe5 hB0.size
       have hB112 := grown_belowB hB100 hs108 hlo113
       have hk114 := hb102.belowB hs108 (ltl hpl0c0 hlo113)
       refine gv_nil <| gv_seq <| gv_region <| gv_pureN 2 [51, 52] [(51, (.string s15.1)), (52, (.int .i64 ((s15.2.2.2 : Nat) : Int)))] (by kernel_rfl) ?_
       refine bindE h2 ?_; clear h2; intro x115 hx116 h2
       refine gv_ssub (t := 9) (s := s15.1) (lo := none) (hi := (some (.int .i64 ((s15.2.2.2 : Nat) : Int)))) 0 ((s15.2.2.2 : Nat) : Int) x115 [] (fun e => by cases e) rfl rfl rfl (by kernel_rfl) (by kernel_rfl) Tryz.underlying9 (.inl ⟨rfl, rfl⟩) (.inr ⟨_, rfl⟩) hx116 rfl ?_
       refine bindE h2 ?_; clear h2; intro y117 hy118 h2
       refine gv_call0 (by kernel_rfl) rfl (by kernel_rfl) enters70 (builder_WriteString hb110 hy118) ?_
       rintro v123 w119 ⟨rfl, hs120, ho121, hb122⟩
       have hB124 := grown_belowB hB112 hs120 hlo113
       have hk125 := hk114.belowB hs120 (ltl hpl0c0 hlo113)
       have hz126 := (nt (nt hz104 hs108.size) hs120.size)
       clear ho121 hx116 hk114 hB112 hb110 hz104 hb103 hb102 hB100
       refine gv_nil <| gv_seq <| gv_seq <| gv_region <| gv_pureN 2 [55, 56] [(56, (.bool (decide (r31.1 ≥ 0))))] (by kernel_rfl) ?_
       refine gv_nil <| bindE h2 ?_; clear h2; intro j127 h3 h2
       refine gv_cut_code (J := fun a w128 => w0.grownBy w128 (some pb0c0) ∧ w119.heap.size ≤ w128.heap.size ∧ Box w128 pb0c0 4 #[(.bool r31.2)] ∧ Bld 110 5 w128 b1 j127 ∧ a.defers = [] ∧ a.tmps.size = 85 ∧ Ok [(0, (.func (.func 45) #[] #[(bp pb0c0)])), (1, (.string s15.1)), (5, (bp b1)), (6, (.int .i64 ((s15.2.2.2 : Nat) : Int))), (9, (.int .i64 s54))] a.tmps) ?_ ?_
       ·skip
        refine gv_cond (b := (decide (r31.1 ≥ 0))) (by kernel_rfl) (fun hc129 => ?_) (fun hc129 => ?_)
        ·replace h3 := ite_t hc129 h3
         refine gv_region <| gv_pureN 1 [57] [(57, (.int .i32 r31.1))] (by kernel_rfl) ?_
         refine bindE h3 ?_; clear h3; intro y130 hy131 h3
         refine gv_call0 (by kernel_rfl) rfl (by kernel_rfl) enters86 (builder_WriteRune hb122 hy131) ?_
         rintro v136 w132 ⟨rfl, hs133, ho134, hb135⟩
         have hB137 := grown_belowB hB124 hs133 hlo113
         have hk138 := hk125.belowB hs133 (ltl hpl0c0 hlo113)
         refine gv_nil ?_
         have e := sj h3; subst e
         refine gv_goal fun a hd hs hok => ?_
         have hz139 := hs133.size
         exact ⟨hB137, hz139, hk138, hb135, hd, hs, ok_pick [0, 1, 5, 6, 9] hok (by kernel_rfl)⟩
        ·replace h3 := ite_f hc129 h3
         refine gv_skip ?_
         have e := sj h3; subst e
         refine gv_goal fun a hd hs hok => ?_
         exact ⟨hB124, (Nat.le_refl _), hk125, hb122, hd, hs, ok_pick [0, 1, 5, 6, 9] hok (by kernel_rfl)⟩
       ·rintro a w128 ⟨hB140, hz141, hb142, hb143, hd, hs, hok⟩
        refine gv_in ?_ hd hs hok
        clear hd hs hok
        have hz144 := (nt hz126 hz141)
        clear hz141 hz126 hk125 hB124 hb122
        refine gv_seq <| gv_region <| gv_pureN 4 [59, 60, 61, 62] [(59, (.string s15.1)), (62, (.int .i64 (IntKind.i64.wrap (((s15.2.2.2 : Nat) : Int) + s54))))] (by kernel_rfl) ?_
        refine bindE h2 ?_; clear h2; intro x145 hx146 h2
        refine gv_ssub (t := 9) (s := s15.1) (lo := (some (.int .i64 (IntKind.i64.wrap (((s15.2.2.2 : Nat) : Int) + s54))))) (hi := none) (IntKind.i64.wrap (((s15.2.2.2 : Nat) : Int) + s54)) ((ByteArray.size s15.1 : Nat) : Int) x145 [] (fun e => by cases e) rfl rfl rfl (by kernel_rfl) (by kernel_rfl) Tryz.underlying9 (.inr ⟨_, rfl⟩) (.inl ⟨rfl, rfl⟩) hx146 rfl ?_
        refine gv_pureN 1 [1] [(1, (.string x145))] (by kernel_rfl) ?_
        refine gv_nil <| gv_cexit <| gv_exit rfl ?_
        have e := sj h2; subst e
        replace h1 := congrArg some (hR2 _ rfl)
        have e := sj h1; subst e
        refine gv_goal fun a hd hs hok => ?_
        have hz147 := hz144
        exact ⟨hB140, hz147, hb142, hb143, hd, hs, ok_pick [0, 1, 5] hok (by kernel_rfl)⟩
   ·skip
    replace h2 := ite_f hc26 h2
    refine gv_pureN 1 [16] [(16, (.bool false))] (by kernel_rfl) ?_
    refine gv_nil <| gv_seq <| gv_cond (b := false) (by kernel_rfl) (fun hc => ?_) (fun hc => ?_)
    ·cases hc
    clear hc
    refine gv_cexit <| gv_exit rfl ?_
    have e := sj h2; subst e
    replace h1 := congrArg some (hR2 _ rfl)
    have e := sj h1; subst e
    refine gv_goal fun a hd hs hok => ?_
    have hz148 := hz22
    exact ⟨hB21, hz148, hb23, hb24, hd, hs, ok_pick [0, 1, 5] hok (by kernel_rfl)⟩
 ·rintro a w14 ⟨hB149, hz150, hb151, hb152, hd, hs, hok⟩
  refine gv_in ?_ hd hs hok
  clear hd hs hok
  clear hz150 hz12 hbe11 hb10 hg9 hz6 hb4 hg3
  refine gv_seq <| gv_seq <| gv_region <| gv_call0 (by kernel_rfl) rfl (by kernel_rfl) enters87 (builder_Cap hb152) ?_
  rintro v159 w155 ⟨c160, rfl, hc161, rfl⟩
  refine gv_pureN 1 [65] [(65, (.bool ((c160 : Int) == 0)))] (by kernel_rfl) ?_
  refine gv_nil <| gv_name (s := 65) (v := (.bool ((c160 : Int) == 0))) (v' := (.bool (Option.isNone j13.2.2))) (by kernel_rfl) (congrArg Value.bool hc161) ?_
  refine gv_sub [0, 1, 5, 65] (σ' := [(0, (.func (.func 45) #[] #[(bp pb0c0)])), (1, (.string j13.1)), (5, (bp b1)), (65, (.bool (Option.isNone j13.2.2)))]) (by kernel_rfl) ?_
  refine gv_cond (b := (Option.isNone j13.2.2)) (by kernel_rfl) (fun hc162 => ?_) (fun hc162 => ?_)
  ·replace h0 := ite_t hc162 h0
   refine gv_seq <| gv_region <| gv_pureN 2 [4, 66] [(4, (.string j13.1))] (by kernel_rfl) ?_
   refine gv_nil <| gv_cret ?_
   have e := sj h0; subst e
   refine gv_ret (gv_done [(.string j13.1)] rfl ⟨(by kernel_rfl), trivial⟩ ?_)
   exact ⟨hB149, rfl, hb151⟩
  ·replace h0 := ite_f hc162 h0
   refine gv_skip <| gv_seq <| gv_seq <| gv_region <| gv_pureN 1 [67] [(67, (.string j13.1))] (by kernel_rfl) ?_
   refine gv_range (t := 9) (s := j13.1) (by kernel_rfl) (by kernel_rfl) Tryz.underlying9 ?_
   intro b163 w164 hg165 hb166 hbe167 hz168
   refine gv_nil <| bindE h0 ?_; clear h0; intro j169 h1 h0
   refine gv_cut_code (J := fun a w170 => w0.grownBy w170 (some pb0c0) ∧ w164.heap.size ≤ w170.heap.size ∧ Box w170 pb0c0 4 #[(.bool j169.1)] ∧ Bld 110 5 w170 b1 j169.2 ∧ a.defers = [] ∧ a.tmps.size = 85 ∧ Ok [(5, (bp b1))] a.tmps) ?_ ?_
   ·skip
    refine gv_block <| gv_loop (A := fun (s171 : (Bool × (Option (List UInt8)) × Nat)) a w172 => w0.grownBy w172 (some pb0c0) ∧ w164.heap.size ≤ w172.heap.size ∧ Box w172 pb0c0 4 #[(.bool s171.1)] ∧ Bld 110 5 w172 b1 s171.2.1 ∧ At w172 b163 (.stringIter j13.1 s171.2.2) ∧ a.defers = [] ∧ a.tmps.size = 85 ∧ Ok [(0, (.func (.func 45) #[] #[(bp pb0c0)])), (5, (bp b1)), (68, (bp b163))] a.tmps) h1 ?_ ?_
    ·intro a hd hs hok
     have hB173 := grown_step hB149 hg165 nb
     have hk174 := hb151.grown hg165 nb
     have hk175 := hb152.grown hg165 nb
     exact ⟨hB173, (Nat.le_refl _), hk174, hk175, hb166, hd, hs, ok_pick [0, 5, 68] hok (by kernel_rfl)⟩
    ·rintro s171 r2 h2 hR2 a w172 ⟨hB176, hz177, hb178, hb179, hb180, hd, hs, hok⟩
     refine gv_in ?_ hd hs hok
     clear hd hs hok
     clear hz168 hb166 hg165 hc162
     refine gv_seq <| gv_region <| gv_next (b := b163) (s := j13.1) (pos := s171.2.2) (ty := 0) (by kernel_rfl) (by kernel_rfl) hb180 (fun hc181 => ?_) (fun hc181 => ?_)
     ·skip
      replace h2 := ite_t hc181 h2
      intro w182 hg183 hb184 hz185
      refine gv_pureN 1 [70] [(70, (.bool true))] (by kernel_rfl) ?_
      refine gv_nil <| gv_seq <| gv_cond (b := true) (by kernel_rfl) (fun hc => ?_) (fun hc => ?_)
      rotate_left; · cases hc
      clear hc
      refine gv_skip <| gv_block <| gv_seq <| gv_region <| gv_pureN 2 [11, 71] [(11, (.int .i32 (runeI j13.1 s171.2.2)))] (by kernel_rfl) ?_
      refine gv_nil <| gv_seq <| gv_region <| gv_pureN 2 [72, 73] [(72, (.func (.func 45) #[] #[(bp pb0c0)])), (73, (.int .i32 (runeI j13.1 s171.2.2)))] (by kernel_rfl) ?_
      refine bindE h2 ?_; clear h2; intro r186 hr187 h2
      have ap188 : ¬ (· = pb0c0) b163 := fun hx => nl ((lowb hbe167) _ rfl) ((ltb hb151) _ hx)
      have hk189 := hb178.grown hg183 (rowne ap188)
      refine gv_call (f := 45) (vs := [(.int .i32 (runeI j13.1 s171.2.2))]) (cap := [(bp pb0c0)]) _ (by decide) rfl rfl rfl (by kernel_rfl) (by kernel_rfl) enters45 (textstr_ToTitle_1_ok fuel (runeI j13.1 s171.2.2) pb0c0 s171.1 w182 hk189 r186 hr187) ?_
      rintro v192 w190 ⟨hg191, rfl, hb193⟩
      refine ⟨(fun e => by cases e), ?_⟩
      refine gv_pureN 1 [12] [(12, (.int .i32 r186.1))] (by kernel_rfl) ?_
      refine gv_nil <| gv_seq <| gv_region <| gv_pureN 2 [75, 76] [(76, (.bool (decide (r186.1 ≥ 0))))] (by kernel_rfl) ?_
      refine gv_nil <| bindE h2 ?_; clear h2; intro j194 h3 h2
      refine gv_cut_code (J := fun a w195 => w0.grownBy w195 (some pb0c0) ∧ w190.heap.size ≤ w195.heap.size ∧ Box w195 pb0c0 4 #[(.bool r186.2)] ∧ Bld 110 5 w195 b1 j194 ∧ At w195 b163 (.stringIter j13.1 (s171.2.2 + runeN j13.1 s171.2.2)) ∧ a.defers = [] ∧ a.tmps.size = 85 ∧ Ok [(0, (.func (.func 45) #[] #[(bp pb0c0)])), (5, (bp b1)), (68, (bp b163))] a.tmps) ?_ ?_
      ·skip
       refine gv_cond (b := (decide (r186.1 ≥ 0))) (by kernel_rfl) (fun hc196 => ?_) (fun hc196 => ?_)
       ·replace h3 := ite_t hc196 h3
        refine gv_seq <| gv_region <| gv_pureN 2 [77, 78] [(78, (.bool (decide (r186.1 < 128))))] (by kernel_rfl) ?_
        refine gv_nil <| gv_cond (b := (decide (r186.1 < 128))) (by kernel_rfl) (fun hc197 => ?_) (fun hc197 => ?_)
        ·replace h3 := ite_t hc197 h3
         refine gv_region <| gv_pureN 2 [79, 80] [(80, (.int .u8 (IntKind.u8.wrap (r186.1))))] (by kernel_rfl) ?_
         refine bindE h3 ?_; clear h3; intro y198 hy199 h3
         have lt205 := ltl ((ltBld hb152) _ rfl) ((lowb hbe167) _ rfl)
         have hlo206 : w0.heap.size ≤ b1 := lob hbe5 hB0.size
         have hk207 := (hb179.grown hg183 (bld_at hb180 (ng lt205))).grown hg191 (bld_low (ltl hpl0c0 hlo206))
         refine gv_call0 (by kernel_rfl) rfl (by kernel_rfl) enters88 (builder_WriteByte hk207 hy199) ?_
         rintro v204 w200 ⟨rfl, hs201, ho202, hb203⟩
         have hlo209 : w0.heap.size ≤ b163 := lob hbe167 hB149.size
         have hB210 := grown_step hB176 hg183 (rowppr hlo209)
         have hB211 := grown_step hB210 hg191 rowpp
         have hB208 := grown_belowB hB211 hs201 hlo206
         have hk212 := hb193.belowB hs201 (ltl hpl0c0 hlo206)
         have ap214 : ¬ (· = b163) pb0c0 := fun hx => nl ((lowb hbe167) _ hx) ((ltb hb151) _ rfl)
         have hk215 := hb184.grown hg191 (rowne ap214)
         have hk213 := hk215.others ho202 (ng lt205)
         refine gv_nil ?_
         have e := sj h3; subst e
         refine gv_goal fun a hd hs hok => ?_
         have hz216 := hs201.size
         exact ⟨hB208, hz216, hk212, hb203, hk213, hd, hs, ok_pick [0, 5, 68] hok (by kernel_rfl)⟩
        ·replace h3 := ite_f hc197 h3
         refine gv_region <| gv_pureN 1 [82] [(82, (.int .i32 r186.1))] (by kernel_rfl) ?_
         refine bindE h3 ?_; clear h3; intro y217 hy218 h3
         have lt224 := ltl ((ltBld hb152) _ rfl) ((lowb hbe167) _ rfl)
         have hlo225 : w0.heap.size ≤ b1 := lob hbe5 hB0.size
         have hk226 := (hb179.grown hg183 (bld_at hb180 (ng lt224))).grown hg191 (bld_low (ltl hpl0c0 hlo225))
         refine gv_call0 (by kernel_rfl) rfl (by kernel_rfl) enters86 (builder_WriteRune hk226 hy218) ?_
         rintro v223 w219 ⟨rfl, hs220, ho221, hb222⟩
         have hlo228 : w0.heap.size ≤ b163 := lob hbe167 hB149.size
         have hB229 := grown_step hB176 hg183 (rowppr hlo228)
         have hB230 := grown_step hB229 hg191 rowpp
         have hB227 := grown_belowB hB230 hs220 hlo225
         have hk231 := hb193.belowB hs220 (ltl hpl0c0 hlo225)
         have ap233 : ¬ (· = b163) pb0c0 := fun hx => nl ((lowb hbe167) _ hx) ((ltb hb151) _ rfl)
         have hk234 := hb184.grown hg191 (rowne ap233)
         have hk232 := hk234.others ho221 (ng lt224)
         refine gv_nil ?_
         have e := sj h3; subst e
         refine gv_goal fun a hd hs hok => ?_
         have hz235 := hs220.size
         exact ⟨hB227, hz235, hk231, hb222, hk232, hd, hs, ok_pick [0, 5, 68] hok (by kernel_rfl)⟩
       ·replace h3 := ite_f hc196 h3
        refine gv_skip ?_
        have e := sj h3; subst e
        refine gv_goal fun a hd hs hok => ?_
        have hlo236 : w0.heap.size ≤ b163 := lob hbe167 hB149.size
        have hB237 := grown_step hB176 hg183 (rowppr hlo236)
        have hB238 := grown_step hB237 hg191 rowpp
        have lt239 := ltl ((ltBld hb152) _ rfl) ((lowb hbe167) _ rfl)
        have hlo240 : w0.heap.size ≤ b1 := lob hbe5 hB0.size
        have hk241 := (hb179.grown hg183 (bld_at hb180 (ng lt239))).grown hg191 (bld_low (ltl hpl0c0 hlo240))
        have ap242 : ¬ (· = b163) pb0c0 := fun hx => nl ((lowb hbe167) _ hx) ((ltb hb151) _ rfl)
        have hk243 := hb184.grown hg191 (rowne ap242)
        exact ⟨hB238, (Nat.le_refl _), hb193, hk241, hk243, hd, hs, ok_pick [0, 5, 68] hok (by kernel_rfl)⟩
      ·rintro a w195 ⟨hB244, hz245, hb246, hb247, hb248, hd, hs, hok⟩
       refine gv_in ?_ hd hs hok
       clear hd hs hok
       have hz249 := (nt (nt (nt hz177 hg183.size) hg191.size) hz245)
       clear hz245 hb193 hg191 hk189 hr187 hz185 hb184 hg183 hc181 hb180 hb179 hb178 hz177 hB176
       refine gv_blk ?_
       have e := sj h2; subst e
       refine gv_goal fun a hd hs hok => ?_
       have hz250 := hz249
       exact ⟨(r186.2, j194, (s171.2.2 + runeN j13.1 s171.2.2)), rfl, hB244, hz250, hb246, hb247, hb248, hd, hs, ok_pick [0, 5, 68] hok (by kernel_rfl)⟩
     ·skip
      replace h2 := ite_f hc181 h2
      refine gv_pureN 1 [70] [(70, (.bool false))] (by kernel_rfl) ?_
      refine gv_nil <| gv_seq <| gv_cond (b := false) (by kernel_rfl) (fun hc => ?_) (fun hc => ?_)
      ·cases hc
      clear hc
      refine gv_cexit <| gv_exit rfl ?_
      have e := sj h2; subst e
      replace h1 := congrArg some (hR2 _ rfl)
      have e := sj h1; subst e
      refine gv_goal fun a hd hs hok => ?_
      have hz251 := hz177
      exact ⟨hB176, hz251, hb178, hb179, hd, hs, ok_pick [5] hok (by kernel_rfl)⟩
   ·rintro a w170 ⟨hB252, hz253, hb254, hb255, hd, hs, hok⟩
    refine gv_in ?_ hd hs hok
    clear hd hs hok
    clear hz253 hz168 hbe167 hb166 hg165 hc162 hb152 hb151 hB149
    refine gv_seq <| gv_region <| bindE h0 ?_; clear h0; intro y256 hy257 h0
    refine gv_call0 (by kernel_rfl) rfl (by kernel_rfl) enters72 (builder_String hb255 hy257) ?_
    rintro v262 w258 ⟨rfl, hs259, ho260⟩
    have hlo264 : w0.heap.size ≤ b1 := lob hbe5 hB0.size
    have hB263 := grown_belowB hB252 hs259 hlo264
    have hk265 := hb254.belowB hs259 (ltl hpl0c0 hlo264)
    refine gv_pureN 1 [4] [(4, (.string y256))] (by kernel_rfl) ?_
    refine gv_nil <| gv_cret ?_
    have e := sj h0; subst e
    refine gv_ret (gv_done [(.string y256)] rfl ⟨(by kernel_rfl), trivial⟩ ?_)
    exact ⟨hB263, rfl, hk265⟩

theorem textstr_change_ToTitle_1_ok (fuel : Nat) (s_0 : ByteArray) (pb1c0 : Nat) (f_1c0 : Bool) (w0 : World) (X0 : Nat → Prop) (hX0 : ∀ k, X0 k → k < w0.heap.size ∧ k ≠ pb1c0) (hp1c0 : Box w0 pb1c0 4 #[(.bool f_1c0)]) (hG0 : Rd bE w0 X0 (some ⟨0, 0, none⟩) 256 utf8First) (hG1 : Rd (prE (iE .u8) (iE .u8)) w0 X0 (some ⟨1, 0, none⟩) 16 utf8Acc) (r0 : (ByteArray × (Int × Int) × Bool)) (h0 : textstr_change_ToTitle_1 fuel s_0 f_1c0 = some r0) :
    Calls Tryz.prog 44 ([(.string s_0), (.func (.func 45) #[] #[(bp pb1c0)])] : List Value).toArray w0 (Ret fun v w' => w0.grownBy w' (some pb1c0) ∧ v = tup [(.string r0.1), (.agg #[(.int .i64 r0.2.1.1), (.int .i64 r0.2.1.2)])] ∧ Box w' pb1c0 4 #[(.bool r0.2.2)]) := by
 have hB0 : w0.grownBy w0 (some pb1c0) := grown_refl _ _
 unfold textstr_change_ToTitle_1 at h0
 refine calls_run Tryz.func44 rfl Tryz.ntmps44 (by kernel_rfl) ?_
 refine gv_sub [0, 1] (σ' := [(0, (.string s_0)), (1, (.func (.func 45) #[] #[(bp pb1c0)]))]) (by kernel_rfl) ?_
 have hpl1c0 := hp1c0.lt
 refine gv_seq <| gv_region <| gv_pureN 1 [4] [] (by kernel_rfl) ?_
 refine gv_new0 (fun b => .pointer (some ⟨b, 0, none⟩)) #[(.int .i64 0), (.int .i64 0)] 29 (by kernel_rfl) (by kernel_rfl) ?_
 intro b1 w2 hg3 hb4 hbe5 hz6
 refine gv_nil <| gv_seq <| gv_seq <| gv_region <| gv_pureN 1 [7] [(7, (.string s_0))] (by kernel_rfl) ?_
 refine gv_new0 (fun b => .slice (some ⟨b, 0, none⟩) 1 1) #[(.string s_0)] 9 (by kernel_rfl) (by kernel_rfl) ?_
 intro b7 w8 hg9 hb10 hbe11 hz12
 have ho13 : Gv.Own sE 9 w8 (fun _ => False) (some ⟨b7, 0, none⟩) 1 ([s_0] : List ByteArray) := Box.ownE hb10 ⟨[(.string s_0)], [], rfl, rfl, rfl⟩ (show 1 ≤ maxLen by decide) (fun h => h)
 have hB18 := grown_step hB0 hg3 nb
 have hl14 : ∀ g, blk (some ⟨b7, 0, none⟩) = some g → w0.heap.size ≤ g := loo hbe11 hB18.size
 refine bindE h0 ?_; clear h0; intro r19 hr20 h0
 have hB21 := grown_step hB18 hg9 nb
 refine gv_call0 (by kernel_rfl) rfl (by kernel_rfl) enters21 (textstr_check_ok fuel (some ⟨b7, 0, none⟩) 1 ([s_0] : List ByteArray) w8 (fun k => (fun k => blk (some ⟨b7, 0, none⟩) = some k) k ∨ X0 k ∨ X0 k) (fun k hk => (hk).elim (fun h => (fun k (hk : blk (some ⟨b7, 0, none⟩) = some k) => ho13.lt k hk) k h) (fun h => (h).elim (fun h => (fun k (hk : X0 k) => ltl (hX0 k hk).1 hB21.size) k h) (fun h => (fun k (hk : X0 k) => ltl (hX0 k hk).1 hB21.size) k h))) ((ho13.rd (Y := fun k => blk (some ⟨b7, 0, none⟩) = some k) (fun _ h => h.elim) (fun g e => e)).wide (fun k hk => (.inl hk))) ((hG0.grown hB21 (fun k hk => (hX0 k hk).1) (fun g e hk => by cases e; exact (hX0 _ hk).2 rfl)).wide (fun k hk => (.inr (.inl hk)))) ((hG1.grown hB21 (fun k hk => (hX0 k hk).1) (fun g e hk => by cases e; exact (hX0 _ hk).2 rfl)).wide (fun k hk => (.inr (.inr hk)))) r19 hr20) ?_
 rintro v24 w22 ⟨hg23, rfl⟩
 refine gv_new0 (fun b => .pointer (some ⟨b, 0, none⟩)) #[(.int .i64 0), (.int .i64 0)] 29 (by kernel_rfl) (by kernel_rfl) ?_
 intro b25 w26 hg27 hb28 hbe29 hz30
 refine gv_store0 29 0 (.agg #[(.int .i64 r19.1), (.int .i64 r19.2)]) #[(.int .i64 r19.1), (.int .i64 r19.2)] hb28 (by kernel_rfl) (by kernel_rfl) (by kernel_rfl) ?_
 intro w31 hg32 hb33 hz34
 refine gv_nil <| gv_seq <| gv_region <| gv_pureN 1 [10] [(10, (bp b25))] (by kernel_rfl) ?_
 refine gv_load (t := 3) (A := ⟨b25, 0, none⟩) (.int .i64 r19.1) [] (fun e => by cases e) rfl rfl rfl (by kernel_rfl) (by kernel_rfl) (by kernel_rfl) (inw0 (hb33.cell 0 rfl)) rfl ?_
 refine gv_pureN 1 [12] [(12, (.bool (r19.1 != 0)))] (by kernel_rfl) ?_
 refine gv_nil <| gv_cond (b := (r19.1 != 0)) (by kernel_rfl) (fun hc35 => ?_) (fun hc35 => ?_)
 ·replace h0 := ite_t hc35 h0
  refine gv_seq <| gv_drawA (by kernel_rfl) ?_
  intro w36 hg37
  refine gv_pre [1] (bA 3 [1]) 2 (by kernel_rfl) (by kernel_rfl) ?_
  refine gv_pureN 1 [4] [(4, (.string (strOf [])))] (by kernel_rfl) ?_
  refine gv_nil <| gv_goA ?_
  refine gv_stage (Cls w36 []) [0, 1] [(0, some true)] (bA 3 [0, 1]) 1 (by kernel_rfl) (by kernel_rfl) (Cls.refl _ _) ?_
  have hC38 := Cls.refl w36 []
  have hk39 := hb33.grown hg37 nb
  refine gv_loadBox (t := 29) (b := b25) (t' := 29) (fr := (0, 0)) #[(.int .i64 r19.1), (.int .i64 r19.2)] [] (fun e => by cases e) rfl rfl rfl (by kernel_rfl) (by kernel_rfl) (by kernel_rfl) (by kernel_rfl) (inw1 fun w' hC' => (hC'.box hk39 nm_nil)) rfl ?_
  refine gv_nil <| gv_goA ?_
  refine gv_stage (fun _ => True) [0, 1, 2] [(2, some false)] (bA 3 [0, 1, 2]) 0 (by kernel_rfl) (by kernel_rfl) trivial ?_
  have hg44 := (grown_trans (grown_trans hg9 hg23) hg27)
  have hg45 := (grown_trans hg9 hg23)
  have hk46 := hb4.grown hg45 nb
  have lt47 := ltl ((ltb hk46) _ rfl) ((lowb hbe29) _ rfl)
  have hk48 := ((hb4.grown hg44 nb).grown hg32 (rowne (ng lt47))).grown hg37 nb
  refine gv_store (t := 29) (b := b1) (off := 0) (v := (.agg #[(.int .i64 r19.1), (.int .i64 r19.2)])) (t' := 29) (cs := #[(.int .i64 0), (.int .i64 0)]) #[(.int .i64 r19.1), (.int .i64 r19.2)] (by decide) rfl rfl (by kernel_rfl) (by kernel_rfl) (by kernel_rfl) (by intro u hu; simp [Value.cells] at hu; rcases hu with rfl | rfl <;> rfl) (show 0 + 2 ≤ 2 by decide) (by rfl) hk48 ?_
  intro w40 hg41 hb42 hz43
  refine ⟨(fun _ => trivial), ?_⟩
  refine gv_nil <| gv_goA ?_
  refine gv_stageE (by kernel_rfl) ?_
  refine gv_cret ?_
  have e := sj h0; subst e
  refine gv_ret (gv_done [(.string (strOf [])), (.agg #[(.int .i64 r19.1), (.int .i64 r19.2)])] rfl ⟨(by kernel_rfl), ⟨⟨b1, 0, none⟩, (by kernel_rfl), run_loadVar_row w40 b1 _ 29 _ _ _ hb42 Tryz.underlying29 rfl (by kernel_rfl)⟩, trivial⟩ ?_)
  have hg49 := (grown_trans hg23 hg27)
  have hB50 := grown_step hB21 hg49 nb
  have hB51 := grown_step hB21 hg23 nb
  have hlo52 : w0.heap.size ≤ b25 := lob hbe29 hB51.size
  have hB53 := grown_step hB50 hg32 (rowppr hlo52)
  have hB54 := grown_step hB53 hg37 nb
  have hlo55 : w0.heap.size ≤ b1 := lob hbe5 hB0.size
  have hB56 := grown_step hB54 hg41 (rowppr hlo55)
  have hg57 := (grown_trans hg3 hg44)
  have hg58 := (grown_trans hg3 hg45)
  have hk59 := hp1c0.grown hg58 nb
  have ap60 : ¬ (· = pb1c0) b25 := fun hx => nl ((lowb hbe29) _ rfl) ((ltb hk59) _ hx)
  have ap61 : ¬ (· = pb1c0) b1 := fun hx => nl ((lowb hbe5) _ rfl) ((ltb hp1c0) _ hx)
  have hk62 := (((hp1c0.grown hg57 nb).grown hg32 (rowne ap60)).grown hg37 nb).grown hg41 (rowne ap61)
  exact ⟨hB56, rfl, hk62⟩
 ·replace h0 := ite_f hc35 h0
  refine gv_skip <| gv_seq <| gv_region <| gv_pureN 2 [14, 15] [(14, (.func (.func 45) #[] #[(bp pb1c0)])), (15, (.string s_0))] (by kernel_rfl) ?_
  refine bindE h0 ?_; clear h0; intro r63 hr64 h0
  have hg65 := (grown_trans hg23 hg27)
  have hB66 := grown_step hB21 hg65 nb
  have hB67 := grown_step hB21 hg23 nb
  have hlo68 : w0.heap.size ≤ b25 := lob hbe29 hB67.size
  have hB69 := grown_step hB66 hg32 (rowppr hlo68)
  have hg70 := (grown_trans (grown_trans hg3 hg9) hg65)
  have hg71 := (grown_trans (grown_trans hg3 hg9) hg23)
  have hk72 := hp1c0.grown hg71 nb
  have ap73 : ¬ (· = pb1c0) b25 := fun hx => nl ((lowb hbe29) _ rfl) ((ltb hk72) _ hx)
  have hk74 := (hp1c0.grown hg70 nb).grown hg32 (rowne ap73)
  refine gv_call0 (by kernel_rfl) rfl (by kernel_rfl) enters64 (strings_Map_ToTitle_1_ok fuel pb1c0 f_1c0 s_0 w31 (fun k => X0 k ∨ X0 k) (fun k hk => ⟨(hk).elim (fun h => (fun k (hk : X0 k) => ltl (hX0 k hk).1 hB69.size) k h) (fun h => (fun k (hk : X0 k) => ltl (hX0 k hk).1 hB69.size) k h), fun e => (hk).elim (fun h => (fun (hx : X0 pb1c0) => (hX0 _ hx).2 rfl) (e ▸ h)) (fun h => (fun (hx : X0 pb1c0) => (hX0 _ hx).2 rfl) (e ▸ h))⟩) hk74 ((hG0.grown hB69 (fun k hk => (hX0 k hk).1) (fun g e hk => by cases e; exact (hX0 _ hk).2 rfl)).wide (fun k hk => (.inl hk))) ((hG1.grown hB69 (fun k hk => (hX0 k hk).1) (fun g e hk => by cases e; exact (hX0 _ hk).2 rfl)).wide (fun k hk => (.inr hk))) r63 hr64) ?_
  rintro v77 w75 ⟨hg76, rfl, hb78⟩
  clear hk74 ap73 hk72 hg71 hg70 hlo68 hB67 hB66 hg65 hr64 hc35 hz34 hb33 hz30 hb28 hB21 hr20 hl14 hB18 ho13 hz12 hbe11 hb10 hz6 hg3
  refine gv_pureN 2 [4, 17] [(4, (.string r63.1)), (17, (.agg #[(.int .i64 0), (.int .i64 0)]))] (by kernel_rfl) ?_
  have hg83 := (grown_trans (grown_trans hg9 hg23) hg27)
  have hg84 := (grown_trans hg9 hg23)
  have hk85 := hb4.grown hg84 nb
  have lt86 := ltl ((ltb hk85) _ rfl) ((lowb hbe29) _ rfl)
  have ap87 : ¬ (· = b1) pb1c0 := fun hx => nl ((lowb hbe5) _ hx) ((ltb hp1c0) _ rfl)
  have hk88 := ((hb4.grown hg83 nb).grown hg32 (rowne (ng lt86))).grown hg76 (rowne ap87)
  refine gv_store0 29 0 (.agg #[(.int .i64 0), (.int .i64 0)]) #[(.int .i64 0), (.int .i64 0)] hk88 (by kernel_rfl) (by kernel_rfl) (by kernel_rfl) ?_
  intro w79 hg80 hb81 hz82
  refine gv_nil <| gv_cret ?_
  have e := sj h0; subst e
  refine gv_ret (gv_done [(.string r63.1), (.agg #[(.int .i64 0), (.int .i64 0)])] rfl ⟨(by kernel_rfl), ⟨⟨b1, 0, none⟩, (by kernel_rfl), run_loadVar_row w79 b1 _ 29 _ _ _ hb81 Tryz.underlying29 rfl (by kernel_rfl)⟩, trivial⟩ ?_)
  have hB89 := grown_step hB69 hg76 rowpp
  have hlo90 : w0.heap.size ≤ b1 := lob hbe5 hB0.size
  have hB91 := grown_step hB89 hg80 (rowppr hlo90)
  have ap92 : ¬ (· = pb1c0) b1 := fun hx => nl ((lowb hbe5) _ rfl) ((ltb hp1c0) _ hx)
  have hk93 := hb78.grown hg80 (rowne ap92)
  exact ⟨hB91, rfl, hk93⟩

theorem textstr_ToTitle_ok (fuel : Nat) (s_0 : ByteArray) (w0 : World) (X0 : Nat → Prop) (hX0 : ∀ k, X0 k → k < w0.heap.size) (hG0 : Rd bE w0 X0 (some ⟨0, 0, none⟩) 256 utf8First) (hG1 : Rd (prE (iE .u8) (iE .u8)) w0 X0 (some ⟨1, 0, none⟩) 16 utf8Acc) (r0 : (ByteArray × (Int × Int))) (h0 : textstr_ToTitle fuel s_0 = some r0) :
    Calls Tryz.prog 27 ([(.string s_0)] : List Value).toArray w0 (Ret fun v w' => w0.grownBy w' none ∧ v = tup [(.string r0.1), (.agg #[(.int .i64 r0.2.1), (.int .i64 r0.2.2)])]) := by
 have hB0 : Below w0.heap.size w0 w0 := Below.refl _ _
 unfold textstr_ToTitle at h0
 refine calls_run Tryz.func27 rfl Tryz.ntmps27 (by kernel_rfl) ?_
 refine gv_sub [0] (σ' := [(0, (.string s_0))]) (by kernel_rfl) ?_
 refine gv_seq <| gv_region <| gv_pureN 1 [2] [] (by kernel_rfl) ?_
 refine gv_new0 (fun b => .pointer (some ⟨b, 0, none⟩)) #[(.int .i64 0), (.int .i64 0)] 29 (by kernel_rfl) (by kernel_rfl) ?_
 intro b1 w2 hg3 hb4 hbe5 hz6
 refine gv_nil <| gv_seq <| gv_region <| gv_new0 (fun b => .pointer (some ⟨b, 0, none⟩)) #[(.bool false)] 4 (by kernel_rfl) (by kernel_rfl) ?_
 intro b7 w8 hg9 hb10 hbe11 hz12
 refine gv_store0 4 0 (.bool false) #[(.bool false)] hb10 (by kernel_rfl) (by kernel_rfl) (by kernel_rfl) ?_
 intro w13 hg14 hb15 hz16
 refine gv_nil <| gv_seq <| gv_region <| gv_pureN 2 [5, 6] [(5, (.string s_0)), (6, (.func (.func 45) #[] #[(bp b7)]))] (by kernel_rfl) ?_
 refine bindE h0 ?_; clear h0; intro r17 hr18 h0
 have hg19 := (grown_trans hg3 hg9)
 have hB20 := bg hB0 hg19 nb
 have hB21 := bg hB0 hg3 nb
 have hlo22 : w0.heap.size ≤ b7 := lob hbe11 hB21.size
 have hB23 := bg hB20 hg14 (rowlo hlo22)
 refine gv_call0 (by kernel_rfl) rfl (by kernel_rfl) enters44 (textstr_change_ToTitle_1_ok fuel s_0 b7 false w13 (fun k => X0 k ∨ X0 k) (fun k hk => ⟨(hk).elim (fun h => (fun k (hk : X0 k) => ltl (hX0 k hk) hB23.size) k h) (fun h => (fun k (hk : X0 k) => ltl (hX0 k hk) hB23.size) k h), fun e => (hk).elim (fun h => (fun (hx : X0 b7) => nl hlo22 (hX0 _ hx)) (e ▸ h)) (fun h => (fun (hx : X0 b7) => nl hlo22 (hX0 _ hx)) (e ▸ h))⟩) hb15 ((hG0.below hB23 hX0).wide (fun k hk => (.inl hk))) ((hG1.below hB23 hX0).wide (fun k hk => (.inr hk))) r17 hr18) ?_
 rintro v26 w24 ⟨hg25, rfl, hb27⟩
 refine gv_pureN 3 [2, 8, 9] [(2, (.string r17.1)), (9, (.agg #[(.int .i64 r17.2.1.1), (.int .i64 r17.2.1.2)]))] (by kernel_rfl) ?_
 have lt32 := ltl ((ltb hb4) _ rfl) ((lowb hbe11) _ rfl)
 have hk33 := ((hb4.grown hg9 nb).grown hg14 (rowne (ng lt32))).grown hg25 (rowne (ng lt32))
 refine gv_store0 29 0 (.agg #[(.int .i64 r17.2.1.1), (.int .i64 r17.2.1.2)]) #[(.int .i64 r17.2.1.1), (.int .i64 r17.2.1.2)] hk33 (by kernel_rfl) (by kernel_rfl) (by kernel_rfl) ?_
 intro w28 hg29 hb30 hz31
 refine gv_nil <| gv_cret ?_
 have e := sj h0; subst e
 refine gv_ret (gv_done [(.string r17.1), (.agg #[(.int .i64 r17.2.1.1), (.int .i64 r17.2.1.2)])] rfl ⟨(by kernel_rfl), ⟨⟨b1, 0, none⟩, (by kernel_rfl), run_loadVar_row w28 b1 _ 29 _ _ _ hb30 Tryz.underlying29 rfl (by kernel_rfl)⟩, trivial⟩ ?_)
 have hB34 := bg hB23 hg25 (rowlo hlo22)
 have hlo35 : w0.heap.size ≤ b1 := lob hbe5 hB0.size
 have hB36 := bg hB34 hg29 (rowlo hlo35)
 exact ⟨grown_of_below hB36, rfl⟩

theorem textstr_limited_ok (fuel : Nat) (s_0 : ByteArray) (w0 : World)  (r0 : (ByteArray × (Int × Int))) (h0 : textstr_limited fuel s_0 = some r0) :
    Calls Tryz.prog 50 ([(.string s_0)] : List Value).toArray w0 (Ret fun v w' => w0.grownBy w' none ∧ v = tup [(.string r0.1), (.agg #[(.int .i64 r0.2.1), (.int .i64 r0.2.2)])]) := by
 have hB0 : Below w0.heap.size w0 w0 := Below.refl _ _
 unfold textstr_limited at h0
 refine calls_run Tryz.func50 rfl Tryz.ntmps50 (by kernel_rfl) ?_
 refine gv_sub [0] (σ' := [(0, (.string s_0))]) (by kernel_rfl) ?_
 refine gv_seq <| gv_region <| gv_pureN 1 [2] [] (by kernel_rfl) ?_
 refine gv_new0 (fun b => .pointer (some ⟨b, 0, none⟩)) #[(.int .i64 0), (.int .i64 0)] 29 (by kernel_rfl) (by kernel_rfl) ?_
 intro b1 w2 hg3 hb4 hbe5 hz6
 refine gv_nil <| gv_seq <| gv_seq <| gv_region <| gv_pureN 3 [4, 5, 6] [(6, (.bool (decide (((ByteArray.size s_0 : Nat) : Int) > 4000))))] (by kernel_rfl) ?_
 refine gv_nil <| gv_cond (b := (decide (((ByteArray.size s_0 : Nat) : Int) > 4000))) (by kernel_rfl) (fun hc7 => ?_) (fun hc7 => ?_)
 ·replace h0 := ite_t hc7 h0
  refine gv_seq <| gv_region <| bindE h0 ?_; clear h0; intro r8 hr9 h0
  refine gv_call0 (by kernel_rfl) rfl (by kernel_rfl) enters23 (textstr_at_ok fuel 3 (-1) w2  r8 hr9) ?_
  rintro v12 w10 ⟨hg11, rfl⟩
  refine gv_pureN 1 [2] [(2, (.string (strOf [])))] (by kernel_rfl) ?_
  have hk17 := hb4.grown hg11 nb
  refine gv_store0 29 0 (.agg #[(.int .i64 r8.1), (.int .i64 r8.2)]) #[(.int .i64 r8.1), (.int .i64 r8.2)] hk17 (by kernel_rfl) (by kernel_rfl) (by kernel_rfl) ?_
  intro w13 hg14 hb15 hz16
  refine gv_nil <| gv_cret ?_
  have e := sj h0; subst e
  refine gv_ret (gv_done [(.string (strOf [])), (.agg #[(.int .i64 r8.1), (.int .i64 r8.2)])] rfl ⟨(by kernel_rfl), ⟨⟨b1, 0, none⟩, (by kernel_rfl), run_loadVar_row w13 b1 _ 29 _ _ _ hb15 Tryz.underlying29 rfl (by kernel_rfl)⟩, trivial⟩ ?_)
  have hg18 := (grown_trans hg3 hg11)
  have hB19 := bg hB0 hg18 nb
  have hlo20 : w0.heap.size ≤ b1 := lob hbe5 hB0.size
  have hB21 := bg hB19 hg14 (rowlo hlo20)
  exact ⟨grown_of_below hB21, rfl⟩
 ·replace h0 := ite_f hc7 h0
  refine gv_skip <| gv_seq <| gv_region <| gv_pureN 3 [2, 8, 9] [(2, (.string s_0)), (9, (.agg #[(.int .i64 0), (.int .i64 0)]))] (by kernel_rfl) ?_
  refine gv_store0 29 0 (.agg #[(.int .i64 0), (.int .i64 0)]) #[(.int .i64 0), (.int .i64 0)] hb4 (by kernel_rfl) (by kernel_rfl) (by kernel_rfl) ?_
  intro w22 hg23 hb24 hz25
  refine gv_nil <| gv_cret ?_
  have e := sj h0; subst e
  refine gv_ret (gv_done [(.string s_0), (.agg #[(.int .i64 0), (.int .i64 0)])] rfl ⟨(by kernel_rfl), ⟨⟨b1, 0, none⟩, (by kernel_rfl), run_loadVar_row w22 b1 _ 29 _ _ _ hb24 Tryz.underlying29 rfl (by kernel_rfl)⟩, trivial⟩ ?_)
  have hB26 := bg hB0 hg3 nb
  have hlo27 : w0.heap.size ≤ b1 := lob hbe5 hB0.size
  have hB28 := bg hB26 hg23 (rowlo hlo27)
  exact ⟨grown_of_below hB28, rfl⟩

theorem textstr_Pad_ok (fuel : Nat) (s_0 : ByteArray) (width_1 : Int) (fill_2 : Int) (sides_3 : Int) (w0 : World) (X0 : Nat → Prop) (hX0 : ∀ k, X0 k → k < w0.heap.size) (hG0 : Rd bE w0 X0 (some ⟨0, 0, none⟩) 256 utf8First) (hG1 : Rd (prE (iE .u8) (iE .u8)) w0 X0 (some ⟨1, 0, none⟩) 16 utf8Acc) (r0 : (ByteArray × (Int × Int))) (h0 : textstr_Pad fuel s_0 width_1 fill_2 sides_3 = some r0) :
    Calls Tryz.prog 28 ([(.string s_0), (.int .i64 width_1), (.int .i64 fill_2), (.int .i64 sides_3)] : List Value).toArray w0 (Ret fun v w' => w0.grownBy w' none ∧ v = tup [(.string r0.1), (.agg #[(.int .i64 r0.2.1), (.int .i64 r0.2.2)])]) := by
 have hB0 : Below w0.heap.size w0 w0 := Below.refl _ _
 unfold textstr_Pad at h0
 refine calls_run Tryz.func28 rfl Tryz.ntmps28 (by kernel_rfl) ?_
 refine gv_sub [0, 1, 2, 3] (σ' := [(0, (.string s_0)), (1, (.int .i64 width_1)), (2, (.int .i64 fill_2)), (3, (.int .i64 sides_3))]) (by kernel_rfl) ?_
 refine gv_seq <| gv_region <| gv_pureN 1 [8] [] (by kernel_rfl) ?_
 refine gv_new0 (fun b => .pointer (some ⟨b, 0, none⟩)) #[(.int .i64 0), (.int .i64 0)] 29 (by kernel_rfl) (by kernel_rfl) ?_
 intro b1 w2 hg3 hb4 hbe5 hz6
 refine gv_nil <| gv_seq <| gv_seq <| gv_region <| gv_pureN 1 [14] [(14, (.string s_0))] (by kernel_rfl) ?_
 refine gv_new0 (fun b => .slice (some ⟨b, 0, none⟩) 1 1) #[(.string s_0)] 9 (by kernel_rfl) (by kernel_rfl) ?_
 intro b7 w8 hg9 hb10 hbe11 hz12
 have ho13 : Gv.Own sE 9 w8 (fun _ => False) (some ⟨b7, 0, none⟩) 1 ([s_0] : List ByteArray) := Box.ownE hb10 ⟨[(.string s_0)], [], rfl, rfl, rfl⟩ (show 1 ≤ maxLen by decide) (fun h => h)
 have hB18 := bg hB0 hg3 nb
 have hl14 : ∀ g, blk (some ⟨b7, 0, none⟩) = some g → w0.heap.size ≤ g := loo hbe11 hB18.size
 refine bindE h0 ?_; clear h0; intro r19 hr20 h0
 have hB21 := bg hB18 hg9 nb
 refine gv_call0 (by kernel_rfl) rfl (by kernel_rfl) enters21 (textstr_check_ok fuel (some ⟨b7, 0, none⟩) 1 ([s_0] : List ByteArray) w8 (fun k => (fun k => blk (some ⟨b7, 0, none⟩) = some k) k ∨ X0 k ∨ X0 k) (fun k hk => (hk).elim (fun h => (fun k (hk : blk (some ⟨b7, 0, none⟩) = some k) => ho13.lt k hk) k h) (fun h => (h).elim (fun h => (fun k (hk : X0 k) => ltl (hX0 k hk) hB21.size) k h) (fun h => (fun k (hk : X0 k) => ltl (hX0 k hk) hB21.size) k h))) ((ho13.rd (Y := fun k => blk (some ⟨b7, 0, none⟩) = some k) (fun _ h => h.elim) (fun g e => e)).wide (fun k hk => (.inl hk))) ((hG0.below hB21 hX0).wide (fun k hk => (.inr (.inl hk)))) ((hG1.below hB21 hX0).wide (fun k hk => (.inr (.inr hk)))) r19 hr20) ?_
 rintro v24 w22 ⟨hg23, rfl⟩
 refine gv_new0 (fun b => .pointer (some ⟨b, 0, none⟩)) #[(.int .i64 0), (.int .i64 0)] 29 (by kernel_rfl) (by kernel_rfl) ?_
 intro b25 w26 hg27 hb28 hbe29 hz30
 refine gv_store0 29 0 (.agg #[(.int .i64 r19.1), (.int .i64 r19.2)]) #[(.int .i64 r19.1), (.int .i64 r19.2)] hb28 (by kernel_rfl) (by kernel_rfl) (by kernel_rfl) ?_
 intro w31 hg32 hb33 hz34
 refine gv_nil <| gv_seq <| gv_region <| gv_pureN 1 [17] [(17, (bp b25))] (by kernel_rfl) ?_
 refine gv_load (t := 3) (A := ⟨b25, 0, none⟩) (.int .i64 r19.1) [] (fun e => by cases e) rfl rfl rfl (by kernel_rfl) (by kernel_rfl) (by kernel_rfl) (inw0 (hb33.cell 0 rfl)) rfl ?_
 refine gv_pureN 1 [19] [(19, (.bool (r19.1 != 0)))] (by kernel_rfl) ?_
 refine gv_nil <| gv_cond (b := (r19.1 != 0)) (by kernel_rfl) (fun hc35 => ?_) (fun hc35 => ?_)
 ·replace h0 := ite_t hc35 h0
  refine gv_seq <| gv_drawA (by kernel_rfl) ?_
  intro w36 hg37
  refine gv_pre [1] (bA 3 [1]) 2 (by kernel_rfl) (by kernel_rfl) ?_
  refine gv_pureN 1 [8] [(8, (.string (strOf [])))] (by kernel_rfl) ?_
  refine gv_nil <| gv_goA ?_
  refine gv_stage (Cls w36 []) [0, 1] [(0, some true)] (bA 3 [0, 1]) 1 (by kernel_rfl) (by kernel_rfl) (Cls.refl _ _) ?_
  have hC38 := Cls.refl w36 []
  have hk39 := hb33.grown hg37 nb
  refine gv_loadBox (t := 29) (b := b25) (t' := 29) (fr := (0, 0)) #[(.int .i64 r19.1), (.int .i64 r19.2)] [] (fun e => by cases e) rfl rfl rfl (by kernel_rfl) (by kernel_rfl) (by kernel_rfl) (by kernel_rfl) (inw1 fun w' hC' => (hC'.box hk39 nm_nil)) rfl ?_
  refine gv_nil <| gv_goA ?_
  refine gv_stage (fun _ => True) [0, 1, 2] [(2, some false)] (bA 3 [0, 1, 2]) 0 (by kernel_rfl) (by kernel_rfl) trivial ?_
  have hg44 := (grown_trans (grown_trans hg9 hg23) hg27)
  have hg45 := (grown_trans hg9 hg23)
  have hk46 := hb4.grown hg45 nb
  have lt47 := ltl ((ltb hk46) _ rfl) ((lowb hbe29) _ rfl)
  have hk48 := ((hb4.grown hg44 nb).grown hg32 (rowne (ng lt47))).grown hg37 nb
  refine gv_store (t := 29) (b := b1) (off := 0) (v := (.agg #[(.int .i64 r19.1), (.int .i64 r19.2)])) (t' := 29) (cs := #[(.int .i64 0), (.int .i64 0)]) #[(.int .i64 r19.1), (.int .i64 r19.2)] (by decide) rfl rfl (by kernel_rfl) (by kernel_rfl) (by kernel_rfl) (by intro u hu; simp [Value.cells] at hu; rcases hu with rfl | rfl <;> rfl) (show 0 + 2 ≤ 2 by decide) (by rfl) hk48 ?_
  intro w40 hg41 hb42 hz43
  refine ⟨(fun _ => trivial), ?_⟩
  refine gv_nil <| gv_goA ?_
  refine gv_stageE (by kernel_rfl) ?_
  refine gv_cret ?_
  have e := sj h0; subst e
  refine gv_ret (gv_done [(.string (strOf [])), (.agg #[(.int .i64 r19.1), (.int .i64 r19.2)])] rfl ⟨(by kernel_rfl), ⟨⟨b1, 0, none⟩, (by kernel_rfl), run_loadVar_row w40 b1 _ 29 _ _ _ hb42 Tryz.underlying29 rfl (by kernel_rfl)⟩, trivial⟩ ?_)
  have hg49 := (grown_trans hg23 hg27)
  have hB50 := bg hB21 hg49 nb
  have hB51 := bg hB21 hg23 nb
  have hlo52 : w0.heap.size ≤ b25 := lob hbe29 hB51.size
  have hB53 := bg hB50 hg32 (rowlo hlo52)
  have hB54 := bg hB53 hg37 nb
  have hlo55 : w0.heap.size ≤ b1 := lob hbe5 hB0.size
  have hB56 := bg hB54 hg41 (rowlo hlo55)
  exact ⟨grown_of_below hB56, rfl⟩
 ·replace h0 := ite_f hc35 h0
  refine gv_skip <| gv_seq <| gv_block <| gv_seq <| gv_region <| gv_cut_ops (J := fun a w57 => w31 = w57 ∧ a.defers = [] ∧ a.tmps.size = 80 ∧ Ok [(0, (.string s_0)), (1, (.int .i64 width_1)), (2, (.int .i64 fill_2)), (3, (.int .i64 sides_3)), (9, (bp b1)), (21, (.bool ((decide (width_1 < 0)) || (decide (width_1 > 4000)))))] a.tmps) ?_ ?_
  ·skip
   refine gv_pureN 3 [22, 23, 24] [(24, (.bool (decide (width_1 < 0))))] (by kernel_rfl) ?_
   refine gv_split (s := 24) (g := (decide (width_1 < 0))) (by kernel_rfl) (fun hc58 => ?_) (fun hc58 => ?_)
   ·skip
    refine gv_pureN 4 [21, 25, 26, 27] [(21, (.bool true))] (by kernel_rfl) ?_
    refine gv_nil <| gv_sub [0, 1, 2, 3, 9, 21] (σ' := [(0, (.string s_0)), (1, (.int .i64 width_1)), (2, (.int .i64 fill_2)), (3, (.int .i64 sides_3)), (9, (bp b1)), (21, (.bool true))]) (by kernel_rfl) ?_
    refine gv_goal fun a hd hs hok => ⟨rfl, hd, hs, ?_⟩
    obtain ⟨q0, q1, q2, q3, q9, q21, _⟩ := hok
    exact ⟨q0, q1, q2, q3, q9, (by rw [hc58]; exact q21), trivial⟩
   ·skip
    refine gv_pureN 4 [21, 25, 26, 27] [(21, (.bool (decide (width_1 > 4000))))] (by kernel_rfl) ?_
    refine gv_nil <| gv_sub [0, 1, 2, 3, 9, 21] (σ' := [(0, (.string s_0)), (1, (.int .i64 width_1)), (2, (.int .i64 fill_2)), (3, (.int .i64 sides_3)), (9, (bp b1)), (21, (.bool (decide (width_1 > 4000))))]) (by kernel_rfl) ?_
    refine gv_goal fun a hd hs hok => ⟨rfl, hd, hs, ?_⟩
    obtain ⟨q0, q1, q2, q3, q9, q21, _⟩ := hok
    exact ⟨q0, q1, q2, q3, q9, (by rw [hc58]; exact q21), trivial⟩
  ·rintro a w57 ⟨e, hd, hs, hok⟩; subst e
   refine gv_in ?_ hd hs hok
   clear hd hs hok
   refine gv_cond (b := ((decide (width_1 < 0)) || (decide (width_1 > 4000)))) (by kernel_rfl) (fun hc59 => ?_) (fun hc59 => ?_)
   ·replace h0 := ite_t hc59 h0
    refine gv_seq <| gv_region <| bindE h0 ?_; clear h0; intro r60 hr61 h0
    refine gv_call0 (by kernel_rfl) rfl (by kernel_rfl) enters23 (textstr_at_ok fuel 4 (-2) w31  r60 hr61) ?_
    rintro v64 w62 ⟨hg63, rfl⟩
    clear hr61 hc59 hc35 hz34 hb33 hz30 hb28 hr20 hl14 hB18 ho13 hz12 hbe11 hb10 hz6 hg3
    refine gv_pureN 1 [8] [(8, (.string (strOf [])))] (by kernel_rfl) ?_
    have hg69 := (grown_trans (grown_trans hg9 hg23) hg27)
    have hg70 := (grown_trans hg9 hg23)
    have hk71 := hb4.grown hg70 nb
    have lt72 := ltl ((ltb hk71) _ rfl) ((lowb hbe29) _ rfl)
    have hk73 := ((hb4.grown hg69 nb).grown hg32 (rowne (ng lt72))).grown hg63 nb
    refine gv_store0 29 0 (.agg #[(.int .i64 r60.1), (.int .i64 r60.2)]) #[(.int .i64 r60.1), (.int .i64 r60.2)] hk73 (by kernel_rfl) (by kernel_rfl) (by kernel_rfl) ?_
    intro w65 hg66 hb67 hz68
    refine gv_nil <| gv_cret ?_
    have e := sj h0; subst e
    refine gv_ret (gv_done [(.string (strOf [])), (.agg #[(.int .i64 r60.1), (.int .i64 r60.2)])] rfl ⟨(by kernel_rfl), ⟨⟨b1, 0, none⟩, (by kernel_rfl), run_loadVar_row w65 b1 _ 29 _ _ _ hb67 Tryz.underlying29 rfl (by kernel_rfl)⟩, trivial⟩ ?_)
    have hg74 := (grown_trans hg23 hg27)
    have hB75 := bg hB21 hg74 nb
    have hB76 := bg hB21 hg23 nb
    have hlo77 : w0.heap.size ≤ b25 := lob hbe29 hB76.size
    have hB78 := bg hB75 hg32 (rowlo hlo77)
    have hB79 := bg hB78 hg63 nb
    have hlo80 : w0.heap.size ≤ b1 := lob hbe5 hB0.size
    have hB81 := bg hB79 hg66 (rowlo hlo80)
    exact ⟨grown_of_below hB81, rfl⟩
   ·replace h0 := ite_f hc59 h0
    refine gv_seq <| gv_region <| bindE h0 ?_; clear h0; intro j82 h1 h0
    refine gv_cut_ops (J := fun a w83 => Below w0.heap.size w0 w83 ∧ w31.heap.size ≤ w83.heap.size ∧ Box w83 b1 29 #[(.int .i64 0), (.int .i64 0)] ∧ a.defers = [] ∧ a.tmps.size = 80 ∧ Ok [(0, (.string s_0)), (1, (.int .i64 width_1)), (2, (.int .i64 fill_2)), (3, (.int .i64 sides_3)), (9, (bp b1)), (29, (.bool j82))] a.tmps) ?_ ?_
    ·skip
     refine gv_pureN 3 [30, 31, 32] [(32, (.bool (decide (fill_2 < 0))))] (by kernel_rfl) ?_
     refine gv_split (s := 32) (g := (decide (fill_2 < 0))) (by kernel_rfl) (fun hc84 => ?_) (fun hc84 => ?_)
     ·skip
      replace h1 := ite_t hc84 h1
      refine gv_pureN 10 [29, 33, 34, 35, 36, 37, 38, 39, 40, 41] [(29, (.bool true))] (by kernel_rfl) ?_
      refine gv_nil ?_
      have e := sj h1; subst e
      refine gv_goal fun a hd hs hok => ?_
      have hg85 := (grown_trans hg23 hg27)
      have hB86 := bg hB21 hg85 nb
      have hB87 := bg hB21 hg23 nb
      have hlo88 : w0.heap.size ≤ b25 := lob hbe29 hB87.size
      have hB89 := bg hB86 hg32 (rowlo hlo88)
      have hg90 := (grown_trans hg9 hg85)
      have hg91 := (grown_trans hg9 hg23)
      have hk92 := hb4.grown hg91 nb
      have lt93 := ltl ((ltb hk92) _ rfl) ((lowb hbe29) _ rfl)
      have hk94 := (hb4.grown hg90 nb).grown hg32 (rowne (ng lt93))
      exact ⟨hB89, (Nat.le_refl _), hk94, hd, hs, ok_pick [0, 1, 2, 3, 9, 29] hok (by kernel_rfl)⟩
     ·skip
      replace h1 := ite_f hc84 h1
      refine gv_pureN 4 [33, 34, 35, 36] [(36, (.bool (decide (fill_2 > 1114111))))] (by kernel_rfl) ?_
      refine gv_split (s := 36) (g := (decide (fill_2 > 1114111))) (by kernel_rfl) (fun hc95 => ?_) (fun hc95 => ?_)
      ·skip
       replace h1 := ite_t hc95 h1
       refine gv_pureN 6 [29, 37, 38, 39, 40, 41] [(29, (.bool true))] (by kernel_rfl) ?_
       refine gv_nil ?_
       have e := sj h1; subst e
       refine gv_goal fun a hd hs hok => ?_
       have hg96 := (grown_trans hg23 hg27)
       have hB97 := bg hB21 hg96 nb
       have hB98 := bg hB21 hg23 nb
       have hlo99 : w0.heap.size ≤ b25 := lob hbe29 hB98.size
       have hB100 := bg hB97 hg32 (rowlo hlo99)
       have hg101 := (grown_trans hg9 hg96)
       have hg102 := (grown_trans hg9 hg23)
       have hk103 := hb4.grown hg102 nb
       have lt104 := ltl ((ltb hk103) _ rfl) ((lowb hbe29) _ rfl)
       have hk105 := (hb4.grown hg101 nb).grown hg32 (rowne (ng lt104))
       exact ⟨hB100, (Nat.le_refl _), hk105, hd, hs, ok_pick [0, 1, 2, 3, 9, 29] hok (by kernel_rfl)⟩
      ·skip
       replace h1 := ite_f hc95 h1
       refine gv_pureN 2 [37, 38] [(38, (.int .i32 (IntKind.i32.wrap (fill_2))))] (by kernel_rfl) ?_
       refine bindE h1 ?_; clear h1; intro r106 hr107 h1
       refine gv_call0 (by kernel_rfl) rfl (by kernel_rfl) enters22 (utf8_ValidRune_ok fuel (IntKind.i32.wrap (fill_2)) w31  r106 hr107) ?_
       rintro v110 w108 ⟨hg109, rfl⟩
       refine gv_pureN 3 [29, 40, 41] [(29, (.bool (!r106)))] (by kernel_rfl) ?_
       refine gv_sub [0, 1, 2, 3, 9, 29] (σ' := [(0, (.string s_0)), (1, (.int .i64 width_1)), (2, (.int .i64 fill_2)), (3, (.int .i64 sides_3)), (9, (bp b1)), (29, (.bool (!r106)))]) (by kernel_rfl) ?_
       refine gv_nil ?_
       have e := sj h1; subst e
       refine gv_goal fun a hd hs hok => ?_
       have hg111 := (grown_trans hg23 hg27)
       have hB112 := bg hB21 hg111 nb
       have hB113 := bg hB21 hg23 nb
       have hlo114 : w0.heap.size ≤ b25 := lob hbe29 hB113.size
       have hB115 := bg hB112 hg32 (rowlo hlo114)
       have hB116 := bg hB115 hg109 nb
       have hz117 := hg109.size
       have hg118 := (grown_trans hg9 hg111)
       have hg119 := (grown_trans hg9 hg23)
       have hk120 := hb4.grown hg119 nb
       have lt121 := ltl ((ltb hk120) _ rfl) ((lowb hbe29) _ rfl)
       have hk122 := ((hb4.grown hg118 nb).grown hg32 (rowne (ng lt121))).grown hg109 nb
       exact ⟨hB116, hz117, hk122, hd, hs, ok_pick [0, 1, 2, 3, 9, 29] hok (by kernel_rfl)⟩
    ·rintro a w83 ⟨hB123, hz124, hb125, hd, hs, hok⟩
     refine gv_in ?_ hd hs hok
     clear hd hs hok
     clear hz124 hc59 hc35 hz34 hb33 hg32 hz30 hbe29 hb28 hg27 hg23 hB21 hr20 hl14 hB18 ho13 hz12 hbe11 hb10 hg9 hz6 hb4 hg3
     refine gv_cond (b := j82) (by kernel_rfl) (fun hc126 => ?_) (fun hc126 => ?_)
     ·replace h0 := ite_t hc126 h0
      refine gv_seq <| gv_region <| bindE h0 ?_; clear h0; intro r127 hr128 h0
      refine gv_call0 (by kernel_rfl) rfl (by kernel_rfl) enters23 (textstr_at_ok fuel 4 (-3) w83  r127 hr128) ?_
      rintro v131 w129 ⟨hg130, rfl⟩
      refine gv_pureN 1 [8] [(8, (.string (strOf [])))] (by kernel_rfl) ?_
      have hk136 := hb125.grown hg130 nb
      refine gv_store0 29 0 (.agg #[(.int .i64 r127.1), (.int .i64 r127.2)]) #[(.int .i64 r127.1), (.int .i64 r127.2)] hk136 (by kernel_rfl) (by kernel_rfl) (by kernel_rfl) ?_
      intro w132 hg133 hb134 hz135
      refine gv_nil <| gv_cret ?_
      have e := sj h0; subst e
      refine gv_ret (gv_done [(.string (strOf [])), (.agg #[(.int .i64 r127.1), (.int .i64 r127.2)])] rfl ⟨(by kernel_rfl), ⟨⟨b1, 0, none⟩, (by kernel_rfl), run_loadVar_row w132 b1 _ 29 _ _ _ hb134 Tryz.underlying29 rfl (by kernel_rfl)⟩, trivial⟩ ?_)
      have hB137 := bg hB123 hg130 nb
      have hlo138 : w0.heap.size ≤ b1 := lob hbe5 hB0.size
      have hB139 := bg hB137 hg133 (rowlo hlo138)
      exact ⟨grown_of_below hB139, rfl⟩
     ·replace h0 := ite_f hc126 h0
      refine gv_seq <| gv_region <| gv_cut_ops (J := fun a w140 => w83 = w140 ∧ a.defers = [] ∧ a.tmps.size = 80 ∧ Ok [(0, (.string s_0)), (1, (.int .i64 width_1)), (2, (.int .i64 fill_2)), (3, (.int .i64 sides_3)), (9, (bp b1)), (43, (.bool ((decide (sides_3 < 1)) || (decide (sides_3 > 3)))))] a.tmps) ?_ ?_
      ·skip
       refine gv_pureN 3 [44, 45, 46] [(46, (.bool (decide (sides_3 < 1))))] (by kernel_rfl) ?_
       refine gv_split (s := 46) (g := (decide (sides_3 < 1))) (by kernel_rfl) (fun hc141 => ?_) (fun hc141 => ?_)
       ·skip
        refine gv_pureN 4 [43, 47, 48, 49] [(43, (.bool true))] (by kernel_rfl) ?_
        refine gv_nil <| gv_sub [0, 1, 2, 3, 9, 43] (σ' := [(0, (.string s_0)), (1, (.int .i64 width_1)), (2, (.int .i64 fill_2)), (3, (.int .i64 sides_3)), (9, (bp b1)), (43, (.bool true))]) (by kernel_rfl) ?_
        refine gv_goal fun a hd hs hok => ⟨rfl, hd, hs, ?_⟩
        obtain ⟨q0, q1, q2, q3, q9, q43, _⟩ := hok
        exact ⟨q0, q1, q2, q3, q9, (by rw [hc141]; exact q43), trivial⟩
       ·skip
        refine gv_pureN 4 [43, 47, 48, 49] [(43, (.bool (decide (sides_3 > 3))))] (by kernel_rfl) ?_
        refine gv_nil <| gv_sub [0, 1, 2, 3, 9, 43] (σ' := [(0, (.string s_0)), (1, (.int .i64 width_1)), (2, (.int .i64 fill_2)), (3, (.int .i64 sides_3)), (9, (bp b1)), (43, (.bool (decide (sides_3 > 3))))]) (by kernel_rfl) ?_
        refine gv_goal fun a hd hs hok => ⟨rfl, hd, hs, ?_⟩
        obtain ⟨q0, q1, q2, q3, q9, q43, _⟩ := hok
        exact ⟨q0, q1, q2, q3, q9, (by rw [hc141]; exact q43), trivial⟩
      ·rintro a w140 ⟨e, hd, hs, hok⟩; subst e
       refine gv_in ?_ hd hs hok
       clear hd hs hok
       refine gv_cond (b := ((decide (sides_3 < 1)) || (decide (sides_3 > 3)))) (by kernel_rfl) (fun hc142 => ?_) (fun hc142 => ?_)
       ·replace h0 := ite_t hc142 h0
        refine gv_seq <| gv_region <| bindE h0 ?_; clear h0; intro r143 hr144 h0
        refine gv_call0 (by kernel_rfl) rfl (by kernel_rfl) enters23 (textstr_at_ok fuel 4 (-4) w83  r143 hr144) ?_
        rintro v147 w145 ⟨hg146, rfl⟩
        refine gv_pureN 1 [8] [(8, (.string (strOf [])))] (by kernel_rfl) ?_
        have hk152 := hb125.grown hg146 nb
        refine gv_store0 29 0 (.agg #[(.int .i64 r143.1), (.int .i64 r143.2)]) #[(.int .i64 r143.1), (.int .i64 r143.2)] hk152 (by kernel_rfl) (by kernel_rfl) (by kernel_rfl) ?_
        intro w148 hg149 hb150 hz151
        refine gv_nil <| gv_cret ?_
        have e := sj h0; subst e
        refine gv_ret (gv_done [(.string (strOf [])), (.agg #[(.int .i64 r143.1), (.int .i64 r143.2)])] rfl ⟨(by kernel_rfl), ⟨⟨b1, 0, none⟩, (by kernel_rfl), run_loadVar_row w148 b1 _ 29 _ _ _ hb150 Tryz.underlying29 rfl (by kernel_rfl)⟩, trivial⟩ ?_)
        have hB153 := bg hB123 hg146 nb
        have hlo154 : w0.heap.size ≤ b1 := lob hbe5 hB0.size
        have hB155 := bg hB153 hg149 (rowlo hlo154)
        exact ⟨grown_of_below hB155, rfl⟩
       ·replace h0 := ite_f hc142 h0
        refine gv_skip <| gv_blk <| gv_seq <| gv_region <| gv_pureN 2 [51, 52] [(51, (.int .i64 width_1)), (52, (.string s_0))] (by kernel_rfl) ?_
        refine bindE h0 ?_; clear h0; intro r156 hr157 h0
        refine gv_call0 (by kernel_rfl) rfl (by kernel_rfl) enters49 (utf8_RuneCountInString_ok fuel s_0 w83  r156 hr157) ?_
        rintro v160 w158 ⟨hg159, rfl⟩
        refine gv_pureN 3 [11, 54, 55] [(11, (.int .i64 (if 0 < (IntKind.i64.wrap (width_1 - r156)) then (IntKind.i64.wrap (width_1 - r156)) else 0)))] (by kernel_rfl) ?_
        refine bindE h0 ?_; clear h0; intro n161 hn162 h0
        refine gv_name (s := 11) (v := (.int .i64 (if 0 < (IntKind.i64.wrap (width_1 - r156)) then (IntKind.i64.wrap (width_1 - r156)) else 0))) (v' := (.int .i64 n161)) (by kernel_rfl) (congrArg (Value.int .i64) (sj hn162)) ?_
        refine gv_nil <| gv_seq <| gv_region <| gv_pureN 6 [56, 57, 58, 59, 60, 61] [(59, (.agg #[(.int .i64 n161), (.int .i64 0), (.int .i64 (IntKind.i64.wrap ((n161).tdiv 2)))])), (61, (.int .i64 (IntKind.i64.wrap (sides_3 - 1))))] (by kernel_rfl) ?_
        refine bindE h0 ?_; clear h0; intro x163 hx164 h0
        refine gv_aindex (fun n : Int => Value.int .i64 n) (t := 86) (e := 3) (len := 3) (kk := .i64) (i := (IntKind.i64.wrap (sides_3 - 1))) ([n161, 0, (IntKind.i64.wrap ((n161).tdiv 2))] : List Int) x163 [] (fun e => by cases e) rfl rfl rfl (by kernel_rfl) (by kernel_rfl) Tryz.underlying86 (by kernel_rfl) (by kernel_rfl) rfl hx164 rfl ?_
        refine gv_pureN 1 [12] [(12, (.int .i64 x163))] (by kernel_rfl) ?_
        refine gv_nil <| gv_seq <| gv_region <| gv_pureN 2 [63, 64] [(64, (.int .i32 (IntKind.i32.wrap (fill_2))))] (by kernel_rfl) ?_
        refine gv_i2s (src := 21) (dst := 9) (kk := .i32) (x := (IntKind.i32.wrap (fill_2))) [] (fun e => by cases e) rfl rfl rfl (by kernel_rfl) (by kernel_rfl) (by kernel_rfl) Tryz.underlying9 rfl ?_
        refine gv_pureN 1 [13] [(13, (.string (Utf8.encode (IntKind.i32.wrap (fill_2)))))] (by kernel_rfl) ?_
        refine bindE h0 ?_; clear h0; intro n165 hn166 h0
        refine gv_name (s := 13) (v := (.string (Utf8.encode (IntKind.i32.wrap (fill_2))))) (v' := (.string n165)) (by kernel_rfl) (congrArg (Value.string) (sj hn166)) ?_
        refine gv_nil <| gv_seq <| gv_region <| gv_pureN 2 [66, 67] [(66, (.string n165)), (67, (.int .i64 x163))] (by kernel_rfl) ?_
        refine bindE h0 ?_; clear h0; intro r167 hr168 h0
        refine gv_call0 (by kernel_rfl) rfl (by kernel_rfl) enters51 (strings_Repeat_ok fuel n165 x163 w158  r167 hr168) ?_
        rintro v171 w169 ⟨hg170, rfl⟩
        clear hr168 hn166 hx164 hn162 hr157 hc142 hc126
        refine gv_pureN 1 [69] [(69, (.string s_0))] (by kernel_rfl) ?_
        refine bindE h0 ?_; clear h0; intro x172 hx173 h0
        refine gv_cat (t := 9) (s := r167) (u := s_0) x172 [] (fun e => by cases e) rfl rfl rfl (by kernel_rfl) (by kernel_rfl) hx173 rfl ?_
        refine gv_pureN 4 [71, 72, 73, 74] [(71, (.string n165)), (74, (.int .i64 (IntKind.i64.wrap (n161 - x163))))] (by kernel_rfl) ?_
        refine gv_sub [9, 70, 71, 74] (σ' := [(9, (bp b1)), (70, (.string x172)), (71, (.string n165)), (74, (.int .i64 (IntKind.i64.wrap (n161 - x163))))]) (by kernel_rfl) ?_
        refine bindE h0 ?_; clear h0; intro r174 hr175 h0
        refine gv_call0 (by kernel_rfl) rfl (by kernel_rfl) enters51 (strings_Repeat_ok fuel n165 (IntKind.i64.wrap (n161 - x163)) w169  r174 hr175) ?_
        rintro v178 w176 ⟨hg177, rfl⟩
        refine bindE h0 ?_; clear h0; intro x179 hx180 h0
        refine gv_cat (t := 9) (s := x172) (u := r174) x179 [] (fun e => by cases e) rfl rfl rfl (by kernel_rfl) (by kernel_rfl) hx180 rfl ?_
        refine bindE h0 ?_; clear h0; intro r181 hr182 h0
        refine gv_call0 (by kernel_rfl) rfl (by kernel_rfl) enters50 (textstr_limited_ok fuel x179 w176  r181 hr182) ?_
        rintro v185 w183 ⟨hg184, rfl⟩
        refine gv_pureN 3 [8, 78, 79] [(8, (.string r181.1)), (79, (.agg #[(.int .i64 r181.2.1), (.int .i64 r181.2.2)]))] (by kernel_rfl) ?_
        have hg190 := (grown_trans (grown_trans (grown_trans hg159 hg170) hg177) hg184)
        have hk191 := hb125.grown hg190 nb
        refine gv_store0 29 0 (.agg #[(.int .i64 r181.2.1), (.int .i64 r181.2.2)]) #[(.int .i64 r181.2.1), (.int .i64 r181.2.2)] hk191 (by kernel_rfl) (by kernel_rfl) (by kernel_rfl) ?_
        intro w186 hg187 hb188 hz189
        refine gv_nil <| gv_cret ?_
        have e := sj h0; subst e
        refine gv_ret (gv_done [(.string r181.1), (.agg #[(.int .i64 r181.2.1), (.int .i64 r181.2.2)])] rfl ⟨(by kernel_rfl), ⟨⟨b1, 0, none⟩, (by kernel_rfl), run_loadVar_row w186 b1 _ 29 _ _ _ hb188 Tryz.underlying29 rfl (by kernel_rfl)⟩, trivial⟩ ?_)
        have hB192 := bg hB123 hg190 nb
        have hlo193 : w0.heap.size ≤ b1 := lob hbe5 hB0.size
        have hB194 := bg hB192 hg187 (rowlo hlo193)
        exact ⟨grown_of_below hB194, rfl⟩

theorem strings_FieldsFunc_blank_ok (fuel : Nat) (s_0 : ByteArray) (w0 : World) (r0 : (List ByteArray)) (h0 : strings_FieldsFunc_blank fuel s_0 = some r0) :
    Calls Tryz.prog 73 ([(.string s_0), (.func (.func 66) #[] #[])] : List Value).toArray w0 (Ret fun v w' => w0.grownBy w' none ∧ ∃ (a0_0r : Option Addr) (c0_0r : Nat), v = tup [(.slice a0_0r (List.length r0) c0_0r)] ∧ Gv.Own sE 9 w' (fun _ => False) a0_0r c0_0r r0 ∧ (∀ g, blk a0_0r = some g → w0.heap.size ≤ g)) := by
  unfold strings_FieldsFunc_blank at h0
  split at h0
  · rename_i hb
    cases h0
    have hp : Go.Proofs.PredGrows Tryz.prog 66 #[] blankN w0 := by
      intro W x hx hW
      have hd : textstr_blank 0 (x : Int) = some (blankN x) := by
        unfold textstr_blank blankN
        by_cases h1 : x = 32
        · subst h1; rfl
        · by_cases h2 : x = 9
          · subst h2; rfl
          · by_cases h3 : x = 10
            · subst h3; rfl
            · have e1 : ((x : Int) == 32) = false := beq_eq_false_iff_ne.2 (by omega)
              have e2 : ((x : Int) == 9) = false := beq_eq_false_iff_ne.2 (by omega)
              have e3 : ((x : Int) == 10) = false := beq_eq_false_iff_ne.2 (by omega)
              have f1 : (x == 32) = false := beq_eq_false_iff_ne.2 h1
              have f2 : (x == 9) = false := beq_eq_false_iff_ne.2 h2
              have f3 : (x == 10) = false := beq_eq_false_iff_ne.2 h3
              simp [e1, e2, e3, f1, f2, f3]
      refine (textstr_blank_ok 0 (x : Int) W _ hd).mono fun e w' h => ?_
      cases e <;> first | exact h.elim | skip
      obtain ⟨h1, h2⟩ := h
      exact ⟨congrArg Ending.returned h2, below_of_grown h1⟩
    have ef : ∀ args w, (callFunc 66 args).run Tryz.prog w = .ok (.enter 66 args) w := fun args w => by
      obtain ⟨fn, h1, h2, h3⟩ := enters66
      obtain ⟨c, hc⟩ : ∃ c, fn.body = some c := by cases hb : fn.body with | none => rw [hb] at h3; cases h3 | some c => exact ⟨c, rfl⟩
      exact enters_of h1 h2 hc args w
    refine (Go.Proofs.Any.strings_FieldsFunc_grows lays229 66 #[] ef blankN s_0 w0 hb hp hi154 hi9).mono fun e w' ⟨A, he, hA, hrow, hw⟩ => ?_
    subst he
    exact ⟨grown_of_below hw, some ⟨A, 0, none⟩, _, rfl, own_rows (rows_base hrow) rfl, fun g hg => by cases hg; exact hA⟩
  · cases h0

theorem textstr_Words_ok (fuel : Nat) (s_0 : ByteArray) (w0 : World) (X0 : Nat → Prop) (hX0 : ∀ k, X0 k → k < w0.heap.size) (hG0 : Rd bE w0 X0 (some ⟨0, 0, none⟩) 256 utf8First) (hG1 : Rd (prE (iE .u8) (iE .u8)) w0 X0 (some ⟨1, 0, none⟩) 16 utf8Acc) (r0 : ((List ByteArray) × (Int × Int))) (h0 : textstr_Words fuel s_0 = some r0) :
    Calls Tryz.prog 52 ([(.string s_0)] : List Value).toArray w0 (Ret fun v w' => w0.grownBy w' none ∧ ∃ (a0_0r : Option Addr) (c0_0r : Nat), ∃ (X0_0r : Nat → Prop), v = tup [(.slice a0_0r (List.length r0.1) c0_0r), (.agg #[(.int .i64 r0.2.1), (.int .i64 r0.2.2)])] ∧ Rd sE w' X0_0r a0_0r c0_0r r0.1 ∧ (∀ k, X0_0r k → k < w'.heap.size ∧ (X0 k ∨ w0.heap.size ≤ k))) := by
 have hB0 : Below w0.heap.size w0 w0 := Below.refl _ _
 unfold textstr_Words at h0
 refine calls_run Tryz.func52 rfl Tryz.ntmps52 (by kernel_rfl) ?_
 refine gv_sub [0] (σ' := [(0, (.string s_0))]) (by kernel_rfl) ?_
 refine gv_seq <| gv_region <| gv_pureN 1 [2] [] (by kernel_rfl) ?_
 refine gv_new0 (fun b => .pointer (some ⟨b, 0, none⟩)) #[(.int .i64 0), (.int .i64 0)] 29 (by kernel_rfl) (by kernel_rfl) ?_
 intro b1 w2 hg3 hb4 hbe5 hz6
 refine gv_nil <| gv_seq <| gv_seq <| gv_region <| gv_pureN 1 [5] [(5, (.string s_0))] (by kernel_rfl) ?_
 refine gv_new0 (fun b => .slice (some ⟨b, 0, none⟩) 1 1) #[(.string s_0)] 9 (by kernel_rfl) (by kernel_rfl) ?_
 intro b7 w8 hg9 hb10 hbe11 hz12
 have ho13 : Gv.Own sE 9 w8 (fun _ => False) (some ⟨b7, 0, none⟩) 1 ([s_0] : List ByteArray) := Box.ownE hb10 ⟨[(.string s_0)], [], rfl, rfl, rfl⟩ (show 1 ≤ maxLen by decide) (fun h => h)
 have hB18 := bg hB0 hg3 nb
 have hl14 : ∀ g, blk (some ⟨b7, 0, none⟩) = some g → w0.heap.size ≤ g := loo hbe11 hB18.size
 refine bindE h0 ?_; clear h0; intro r19 hr20 h0
 have hB21 := bg hB18 hg9 nb
 refine gv_call0 (by kernel_rfl) rfl (by kernel_rfl) enters21 (textstr_check_ok fuel (some ⟨b7, 0, none⟩) 1 ([s_0] : List ByteArray) w8 (fun k => (fun k => blk (some ⟨b7, 0, none⟩) = some k) k ∨ X0 k ∨ X0 k) (fun k hk => (hk).elim (fun h => (fun k (hk : blk (some ⟨b7, 0, none⟩) = some k) => ho13.lt k hk) k h) (fun h => (h).elim (fun h => (fun k (hk : X0 k) => ltl (hX0 k hk) hB21.size) k h) (fun h => (fun k (hk : X0 k) => ltl (hX0 k hk) hB21.size) k h))) ((ho13.rd (Y := fun k => blk (some ⟨b7, 0, none⟩) = some k) (fun _ h => h.elim) (fun g e => e)).wide (fun k hk => (.inl hk))) ((hG0.below hB21 hX0).wide (fun k hk => (.inr (.inl hk)))) ((hG1.below hB21 hX0).wide (fun k hk => (.inr (.inr hk)))) r19 hr20) ?_
 rintro v24 w22 ⟨hg23, rfl⟩
 refine gv_new0 (fun b => .pointer (some ⟨b, 0, none⟩)) #[(.int .i64 0), (.int .i64 0)] 29 (by kernel_rfl) (by kernel_rfl) ?_
 intro b25 w26 hg27 hb28 hbe29 hz30
 refine gv_store0 29 0 (.agg #[(.int .i64 r19.1), (.int .i64 r19.2)]) #[(.int .i64 r19.1), (.int .i64 r19.2)] hb28 (by kernel_rfl) (by kernel_rfl) (by kernel_rfl) ?_
 intro w31 hg32 hb33 hz34
 refine gv_nil <| gv_seq <| gv_region <| gv_pureN 1 [8] [(8, (bp b25))] (by kernel_rfl) ?_
 refine gv_load (t := 3) (A := ⟨b25, 0, none⟩) (.int .i64 r19.1) [] (fun e => by cases e) rfl rfl rfl (by kernel_rfl) (by kernel_rfl) (by kernel_rfl) (inw0 (hb33.cell 0 rfl)) rfl ?_
 refine gv_pureN 1 [10] [(10, (.bool (r19.1 != 0)))] (by kernel_rfl) ?_
 refine gv_nil <| gv_cond (b := (r19.1 != 0)) (by kernel_rfl) (fun hc35 => ?_) (fun hc35 => ?_)
 ·replace h0 := ite_t hc35 h0
  refine gv_seq <| gv_drawA (by kernel_rfl) ?_
  intro w36 hg37
  refine gv_pre [1] (bA 3 [1]) 2 (by kernel_rfl) (by kernel_rfl) ?_
  refine gv_pureN 1 [2] [(2, (.slice none (List.length ([] : List ByteArray)) 0))] (by kernel_rfl) ?_
  refine gv_nil <| gv_goA ?_
  refine gv_stage (Cls w36 []) [0, 1] [(0, some true)] (bA 3 [0, 1]) 1 (by kernel_rfl) (by kernel_rfl) (Cls.refl _ _) ?_
  have hC38 := Cls.refl w36 []
  have hk39 := hb33.grown hg37 nb
  refine gv_loadBox (t := 29) (b := b25) (t' := 29) (fr := (0, 0)) #[(.int .i64 r19.1), (.int .i64 r19.2)] [] (fun e => by cases e) rfl rfl rfl (by kernel_rfl) (by kernel_rfl) (by kernel_rfl) (by kernel_rfl) (inw1 fun w' hC' => (hC'.box hk39 nm_nil)) rfl ?_
  refine gv_nil <| gv_goA ?_
  refine gv_stage (fun _ => True) [0, 1, 2] [(2, some false)] (bA 3 [0, 1, 2]) 0 (by kernel_rfl) (by kernel_rfl) trivial ?_
  have hg44 := (grown_trans (grown_trans hg9 hg23) hg27)
  have hg45 := (grown_trans hg9 hg23)
  have hk46 := hb4.grown hg45 nb
  have lt47 := ltl ((ltb hk46) _ rfl) ((lowb hbe29) _ rfl)
  have hk48 := ((hb4.grown hg44 nb).grown hg32 (rowne (ng lt47))).grown hg37 nb
  refine gv_store (t := 29) (b := b1) (off := 0) (v := (.agg #[(.int .i64 r19.1), (.int .i64 r19.2)])) (t' := 29) (cs := #[(.int .i64 0), (.int .i64 0)]) #[(.int .i64 r19.1), (.int .i64 r19.2)] (by decide) rfl rfl (by kernel_rfl) (by kernel_rfl) (by kernel_rfl) (by intro u hu; simp [Value.cells] at hu; rcases hu with rfl | rfl <;> rfl) (show 0 + 2 ≤ 2 by decide) (by rfl) hk48 ?_
  intro w40 hg41 hb42 hz43
  refine ⟨(fun _ => trivial), ?_⟩
  refine gv_nil <| gv_goA ?_
  refine gv_stageE (by kernel_rfl) ?_
  refine gv_cret ?_
  have e := sj h0; subst e
  refine gv_ret (gv_done [(.slice none (List.length ([] : List ByteArray)) 0), (.agg #[(.int .i64 r19.1), (.int .i64 r19.2)])] rfl ⟨(by kernel_rfl), ⟨⟨b1, 0, none⟩, (by kernel_rfl), run_loadVar_row w40 b1 _ 29 _ _ _ hb42 Tryz.underlying29 rfl (by kernel_rfl)⟩, trivial⟩ ?_)
  have hg49 := (grown_trans hg23 hg27)
  have hB50 := bg hB21 hg49 nb
  have hB51 := bg hB21 hg23 nb
  have hlo52 : w0.heap.size ≤ b25 := lob hbe29 hB51.size
  have hB53 := bg hB50 hg32 (rowlo hlo52)
  have hB54 := bg hB53 hg37 nb
  have hlo55 : w0.heap.size ≤ b1 := lob hbe5 hB0.size
  have hB56 := bg hB54 hg41 (rowlo hlo55)
  exact ⟨grown_of_below hB56, none, 0, (fun _ => False), rfl, (Rd.nil sE w40 (fun _ => False) none 0), (fun k hk => ⟨(fun _ h => h.elim) k hk, (fun _ h => h.elim) k hk⟩)⟩
 ·replace h0 := ite_f hc35 h0
  refine gv_skip <| gv_seq <| gv_region <| gv_pureN 1 [12] [(12, (.string s_0))] (by kernel_rfl) ?_
  refine bindE h0 ?_; clear h0; intro r57 hr58 h0
  refine gv_call0 (by kernel_rfl) rfl (by kernel_rfl) enters73 (strings_FieldsFunc_blank_ok fuel s_0 w31  r57 hr58) ?_
  rintro v61 w59 ⟨hg60, a62, c63, rfl, ho64, hl65⟩
  have hg67 := (grown_trans hg23 hg27)
  have hB68 := bg hB21 hg67 nb
  have hB69 := bg hB21 hg23 nb
  have hlo70 : w0.heap.size ≤ b25 := lob hbe29 hB69.size
  have hB71 := bg hB68 hg32 (rowlo hlo70)
  have hl66 : ∀ g, blk a62 = some g → w0.heap.size ≤ g := fun g e => Nat.le_trans hB71.size (hl65 g e)
  clear hlo70 hB69 hB68 hg67 hr58 hc35 hz34 hb33 hz30 hb28 hB21 hr20 hl14 hB18 ho13 hz12 hbe11 hb10 hz6 hg3
  refine bindE h0 ?_; clear h0; intro r72 hr73 h0
  refine gv_call0 (by kernel_rfl) rfl (by kernel_rfl) enters41 (textstr_pieces_ok fuel a62 c63 r57 w59 (fun k => (fun k => blk a62 = some k) k) (fun k hk => (fun k (hk : blk a62 = some k) => ho64.lt k hk) k hk) ((ho64.rd (Y := fun k => blk a62 = some k) (fun _ h => h.elim) (fun g e => e)).wide (fun k hk => hk)) r72 hr73) ?_
  rintro v76 w74 ⟨hg75, a77, c78, X80, rfl, ho79, hx81⟩
  have hx82 : ∀ k, X80 k → k < w74.heap.size := fun k hk => (hx81 k hk).1
  have hB84 := bg hB71 hg60 nb
  have hx83 : ∀ k, X80 k → X0 k ∨ w0.heap.size ≤ k := fun k hk => (hx81 k hk).2.elim (fun h => (fun k (hk : blk a62 = some k) => Or.inr (hl66 k hk)) k h) (fun h => .inr (Nat.le_trans hB84.size h))
  refine gv_pureN 3 [2, 15, 16] [(2, (.slice a77 (List.length r72.1) c78)), (16, (.agg #[(.int .i64 r72.2.1), (.int .i64 r72.2.2)]))] (by kernel_rfl) ?_
  refine gv_sub [2, 3, 16] (σ' := [(2, (.slice a77 (List.length r72.1) c78)), (3, (bp b1)), (16, (.agg #[(.int .i64 r72.2.1), (.int .i64 r72.2.2)]))]) (by kernel_rfl) ?_
  have hg89 := (grown_trans (grown_trans hg9 hg23) hg27)
  have hg90 := (grown_trans hg9 hg23)
  have hk91 := hb4.grown hg90 nb
  have lt92 := ltl ((ltb hk91) _ rfl) ((lowb hbe29) _ rfl)
  have hg93 := (grown_trans hg60 hg75)
  have hk94 := ((hb4.grown hg89 nb).grown hg32 (rowne (ng lt92))).grown hg93 nb
  refine gv_store0 29 0 (.agg #[(.int .i64 r72.2.1), (.int .i64 r72.2.2)]) #[(.int .i64 r72.2.1), (.int .i64 r72.2.2)] hk94 (by kernel_rfl) (by kernel_rfl) (by kernel_rfl) ?_
  intro w85 hg86 hb87 hz88
  refine gv_nil <| gv_cret ?_
  have e := sj h0; subst e
  refine gv_ret (gv_done [(.slice a77 (List.length r72.1) c78), (.agg #[(.int .i64 r72.2.1), (.int .i64 r72.2.2)])] rfl ⟨(by kernel_rfl), ⟨⟨b1, 0, none⟩, (by kernel_rfl), run_loadVar_row w85 b1 _ 29 _ _ _ hb87 Tryz.underlying29 rfl (by kernel_rfl)⟩, trivial⟩ ?_)
  have hB95 := bg hB84 hg75 nb
  have hlo96 : w0.heap.size ≤ b1 := lob hbe5 hB0.size
  have hB97 := bg hB95 hg86 (rowlo hlo96)
  have hk98 := (hk91.grown hg27 nb).grown hg32 (rowne (ng lt92))
  have ap99 : ¬ (fun k => blk a62 = some k) b1 := fun hx => nl ((show ∀ k, blk a62 = some k → w31.heap.size ≤ k from hl65) _ hx) ((ltb hk98) _ rfl)
  have hk100 := hk98.grown hg60 nb
  have ap101 : ¬ X80 b1 := fun h => ((hx81 _ h).2.elim (fun h => (ap99)  h) (fun h => nl h (hk100.lt)))
  have hk102 := ho79.grown hg86 hx82 (rowne ap101)
  have hx103 := ltx hx82 hg86.size
  exact ⟨grown_of_below hB97, a77, c78, X80, rfl, hk102, (fun k hk => ⟨hx103 k hk, hx83 k hk⟩)⟩

theorem textstr_Wrap_ok (fuel : Nat) (s_0 : ByteArray) (width_1 : Int) (w0 : World) (X0 : Nat → Prop) (hX0 : ∀ k, X0 k → k < w0.heap.size) (hG0 : Rd bE w0 X0 (some ⟨0, 0, none⟩) 256 utf8First) (hG1 : Rd (prE (iE .u8) (iE .u8)) w0 X0 (some ⟨1, 0, none⟩) 16 utf8Acc) (r0 : ((List ByteArray) × (Int × Int))) (h0 : textstr_Wrap fuel s_0 width_1 = some r0) :
    Calls Tryz.prog 29 ([(.string s_0), (.int .i64 width_1)] : List Value).toArray w0 (Ret fun v w' => w0.grownBy w' none ∧ ∃ (a0_0r : Option Addr) (c0_0r : Nat), ∃ (X0_0r : Nat → Prop), v = tup [(.slice a0_0r (List.length r0.1) c0_0r), (.agg #[(.int .i64 r0.2.1), (.int .i64 r0.2.2)])] ∧ Rd sE w' X0_0r a0_0r c0_0r r0.1 ∧ (∀ k, X0_0r k → k < w'.heap.size ∧ (X0 k ∨ w0.heap.size ≤ k))) := by
 have hB0 : Below w0.heap.size w0 w0 := Below.refl _ _
 unfold textstr_Wrap at h0
 refine calls_run Tryz.func29 rfl Tryz.ntmps29 (by kernel_rfl) ?_
 refine gv_sub [0, 1] (σ' := [(0, (.string s_0)), (1, (.int .i64 width_1))]) (by kernel_rfl) ?_
 refine gv_seq <| gv_region <| gv_pureN 1 [4] [] (by kernel_rfl) ?_
 refine gv_new0 (fun b => .pointer (some ⟨b, 0, none⟩)) #[(.int .i64 0), (.int .i64 0)] 29 (by kernel_rfl) (by kernel_rfl) ?_
 intro b1 w2 hg3 hb4 hbe5 hz6
 refine gv_nil <| gv_seq <| gv_seq <| gv_region <| gv_cut_ops (J := fun a w7 => w2 = w7 ∧ a.defers = [] ∧ a.tmps.size = 84 ∧ Ok [(0, (.string s_0)), (1, (.int .i64 width_1)), (5, (bp b1)), (18, (.bool ((decide (width_1 < 1)) || (decide (width_1 > 4000)))))] a.tmps) ?_ ?_
 ·skip
  refine gv_pureN 3 [13, 14, 15] [(15, (.bool (decide (width_1 < 1))))] (by kernel_rfl) ?_
  refine gv_split (s := 15) (g := (decide (width_1 < 1))) (by kernel_rfl) (fun hc8 => ?_) (fun hc8 => ?_)
  ·skip
   refine gv_pureN 3 [16, 17, 18] [(18, (.bool true))] (by kernel_rfl) ?_
   refine gv_nil <| gv_sub [0, 1, 5, 18] (σ' := [(0, (.string s_0)), (1, (.int .i64 width_1)), (5, (bp b1)), (18, (.bool true))]) (by kernel_rfl) ?_
   refine gv_goal fun a hd hs hok => ⟨rfl, hd, hs, ?_⟩
   obtain ⟨q0, q1, q5, q18, _⟩ := hok
   exact ⟨q0, q1, q5, (by rw [hc8]; exact q18), trivial⟩
  ·skip
   refine gv_pureN 3 [16, 17, 18] [(18, (.bool (decide (width_1 > 4000))))] (by kernel_rfl) ?_
   refine gv_nil <| gv_sub [0, 1, 5, 18] (σ' := [(0, (.string s_0)), (1, (.int .i64 width_1)), (5, (bp b1)), (18, (.bool (decide (width_1 > 4000))))]) (by kernel_rfl) ?_
   refine gv_goal fun a hd hs hok => ⟨rfl, hd, hs, ?_⟩
   obtain ⟨q0, q1, q5, q18, _⟩ := hok
   exact ⟨q0, q1, q5, (by rw [hc8]; exact q18), trivial⟩
 ·rintro a w7 ⟨e, hd, hs, hok⟩; subst e
  refine gv_in ?_ hd hs hok
  clear hd hs hok
  refine gv_cond (b := ((decide (width_1 < 1)) || (decide (width_1 > 4000)))) (by kernel_rfl) (fun hc9 => ?_) (fun hc9 => ?_)
  ·replace h0 := ite_t hc9 h0
   refine gv_seq <| gv_region <| bindE h0 ?_; clear h0; intro r10 hr11 h0
   refine gv_call0 (by kernel_rfl) rfl (by kernel_rfl) enters23 (textstr_at_ok fuel 4 (-2) w2  r10 hr11) ?_
   rintro v14 w12 ⟨hg13, rfl⟩
   refine gv_pureN 1 [4] [(4, (.slice none (List.length ([] : List ByteArray)) 0))] (by kernel_rfl) ?_
   have hk19 := hb4.grown hg13 nb
   refine gv_store0 29 0 (.agg #[(.int .i64 r10.1), (.int .i64 r10.2)]) #[(.int .i64 r10.1), (.int .i64 r10.2)] hk19 (by kernel_rfl) (by kernel_rfl) (by kernel_rfl) ?_
   intro w15 hg16 hb17 hz18
   refine gv_nil <| gv_cret ?_
   have e := sj h0; subst e
   refine gv_ret (gv_done [(.slice none (List.length ([] : List ByteArray)) 0), (.agg #[(.int .i64 r10.1), (.int .i64 r10.2)])] rfl ⟨(by kernel_rfl), ⟨⟨b1, 0, none⟩, (by kernel_rfl), run_loadVar_row w15 b1 _ 29 _ _ _ hb17 Tryz.underlying29 rfl (by kernel_rfl)⟩, trivial⟩ ?_)
   have hg20 := (grown_trans hg3 hg13)
   have hB21 := bg hB0 hg20 nb
   have hlo22 : w0.heap.size ≤ b1 := lob hbe5 hB0.size
   have hB23 := bg hB21 hg16 (rowlo hlo22)
   exact ⟨grown_of_below hB23, none, 0, (fun _ => False), rfl, (Rd.nil sE w15 (fun _ => False) none 0), (fun k hk => ⟨(fun _ h => h.elim) k hk, (fun _ h => h.elim) k hk⟩)⟩
  ·replace h0 := ite_f hc9 h0
   refine gv_skip <| gv_seq <| gv_region <| gv_pureN 1 [21] [(21, (.string s_0))] (by kernel_rfl) ?_
   refine bindE h0 ?_; clear h0; intro r24 hr25 h0
   have hB26 := bg hB0 hg3 nb
   refine gv_call0 (by kernel_rfl) rfl (by kernel_rfl) enters52 (textstr_Words_ok fuel s_0 w2 (fun k => X0 k ∨ X0 k) (fun k hk => (hk).elim (fun h => (fun k (hk : X0 k) => ltl (hX0 k hk) hB26.size) k h) (fun h => (fun k (hk : X0 k) => ltl (hX0 k hk) hB26.size) k h)) ((hG0.below hB26 hX0).wide (fun k hk => (.inl hk))) ((hG1.below hB26 hX0).wide (fun k hk => (.inr hk))) r24 hr25) ?_
   rintro v29 w27 ⟨hg28, a30, c31, X33, rfl, ho32, hx34⟩
   have hx35 : ∀ k, X33 k → k < w27.heap.size := fun k hk => (hx34 k hk).1
   have hx36 : ∀ k, X33 k → X0 k ∨ w0.heap.size ≤ k := fun k hk => (hx34 k hk).2.elim (fun h => (h).elim (fun h => (fun k (hk : X0 k) => Or.inl hk) k h) (fun h => (fun k (hk : X0 k) => Or.inl hk) k h)) (fun h => .inr (Nat.le_trans hB26.size h))
   refine gv_pureN 3 [20, 23, 24] [(23, (.slice a30 (List.length r24.1) c31)), (24, (.agg #[(.int .i64 r24.2.1), (.int .i64 r24.2.2)]))] (by kernel_rfl) ?_
   refine gv_new0 (fun b => .pointer (some ⟨b, 0, none⟩)) #[(.int .i64 0), (.int .i64 0)] 29 (by kernel_rfl) (by kernel_rfl) ?_
   intro b37 w38 hg39 hb40 hbe41 hz42
   refine gv_pureN 1 [6] [(6, (.slice a30 (List.length r24.1) c31))] (by kernel_rfl) ?_
   refine gv_store0 29 0 (.agg #[(.int .i64 r24.2.1), (.int .i64 r24.2.2)]) #[(.int .i64 r24.2.1), (.int .i64 r24.2.2)] hb40 (by kernel_rfl) (by kernel_rfl) (by kernel_rfl) ?_
   intro w43 hg44 hb45 hz46
   refine gv_nil <| gv_seq <| gv_seq <| gv_region <| gv_pureN 1 [25] [(25, (bp b37))] (by kernel_rfl) ?_
   refine gv_load (t := 3) (A := ⟨b37, 0, none⟩) (.int .i64 r24.2.1) [] (fun e => by cases e) rfl rfl rfl (by kernel_rfl) (by kernel_rfl) (by kernel_rfl) (inw0 (hb45.cell 0 rfl)) rfl ?_
   refine gv_pureN 1 [27] [(27, (.bool (r24.2.1 != 0)))] (by kernel_rfl) ?_
   refine gv_nil <| gv_cond (b := (r24.2.1 != 0)) (by kernel_rfl) (fun hc47 => ?_) (fun hc47 => ?_)
   ·replace h0 := ite_t hc47 h0
    refine gv_seq <| gv_drawA (by kernel_rfl) ?_
    intro w48 hg49
    refine gv_pre [1] (bA 3 [1]) 2 (by kernel_rfl) (by kernel_rfl) ?_
    refine gv_pureN 1 [4] [(4, (.slice none (List.length ([] : List ByteArray)) 0))] (by kernel_rfl) ?_
    refine gv_nil <| gv_goA ?_
    refine gv_stage (Cls w48 []) [0, 1] [(0, some true)] (bA 3 [0, 1]) 1 (by kernel_rfl) (by kernel_rfl) (Cls.refl _ _) ?_
    have hC50 := Cls.refl w48 []
    have hk51 := hb45.grown hg49 nb
    refine gv_loadBox (t := 29) (b := b37) (t' := 29) (fr := (0, 0)) #[(.int .i64 r24.2.1), (.int .i64 r24.2.2)] [] (fun e => by cases e) rfl rfl rfl (by kernel_rfl) (by kernel_rfl) (by kernel_rfl) (by kernel_rfl) (inw1 fun w' hC' => (hC'.box hk51 nm_nil)) rfl ?_
    refine gv_nil <| gv_goA ?_
    refine gv_stage (fun _ => True) [0, 1, 2] [(2, some false)] (bA 3 [0, 1, 2]) 0 (by kernel_rfl) (by kernel_rfl) trivial ?_
    have hg56 := (grown_trans hg28 hg39)
    have hk57 := hb4.grown hg28 nb
    have lt58 := ltl ((ltb hk57) _ rfl) ((lowb hbe41) _ rfl)
    have hk59 := ((hb4.grown hg56 nb).grown hg44 (rowne (ng lt58))).grown hg49 nb
    refine gv_store (t := 29) (b := b1) (off := 0) (v := (.agg #[(.int .i64 r24.2.1), (.int .i64 r24.2.2)])) (t' := 29) (cs := #[(.int .i64 0), (.int .i64 0)]) #[(.int .i64 r24.2.1), (.int .i64 r24.2.2)] (by decide) rfl rfl (by kernel_rfl) (by kernel_rfl) (by kernel_rfl) (by intro u hu; simp [Value.cells] at hu; rcases hu with rfl | rfl <;> rfl) (show 0 + 2 ≤ 2 by decide) (by rfl) hk59 ?_
    intro w52 hg53 hb54 hz55
    refine ⟨(fun _ => trivial), ?_⟩
    clear hz55 lt58 hk57 hg56 hC50 hc47 hz46 hb45 hz42 hb40 hx34 hr25 hc9 hz6 hb4 hg3
    refine gv_nil <| gv_goA ?_
    refine gv_stageE (by kernel_rfl) ?_
    refine gv_cret ?_
    have e := sj h0; subst e
    refine gv_ret (gv_done [(.slice none (List.length ([] : List ByteArray)) 0), (.agg #[(.int .i64 r24.2.1), (.int .i64 r24.2.2)])] rfl ⟨(by kernel_rfl), ⟨⟨b1, 0, none⟩, (by kernel_rfl), run_loadVar_row w52 b1 _ 29 _ _ _ hb54 Tryz.underlying29 rfl (by kernel_rfl)⟩, trivial⟩ ?_)
    have hg60 := (grown_trans hg28 hg39)
    have hB61 := bg hB26 hg60 nb
    have hB62 := bg hB26 hg28 nb
    have hlo63 : w0.heap.size ≤ b37 := lob hbe41 hB62.size
    have hB64 := bg hB61 hg44 (rowlo hlo63)
    have hB65 := bg hB64 hg49 nb
    have hlo66 : w0.heap.size ≤ b1 := lob hbe5 hB0.size
    have hB67 := bg hB65 hg53 (rowlo hlo66)
    exact ⟨grown_of_below hB67, none, 0, (fun _ => False), rfl, (Rd.nil sE w52 (fun _ => False) none 0), (fun k hk => ⟨(fun _ h => h.elim) k hk, (fun _ h => h.elim) k hk⟩)⟩
   ·replace h0 := ite_f hc47 h0
    refine gv_skip <| gv_seq <| gv_region <| gv_pureN 1 [8] [(8, (.slice none (List.length ([] : List ByteArray)) 0))] (by kernel_rfl) ?_
    refine gv_nil <| gv_seq <| gv_region <| gv_pureN 1 [9] [(9, (.int .i64 0))] (by kernel_rfl) ?_
    refine gv_nil <| gv_seq <| gv_seq <| gv_region <| gv_pureN 3 [29, 30, 31] [(29, (.slice a30 (List.length r24.1) c31)), (30, (.int .i64 ((List.length r24.1 : Nat) : Int))), (31, (.int .i64 0))] (by kernel_rfl) ?_
    refine gv_sub [1, 5, 8, 9, 29, 30, 31] (σ' := [(1, (.int .i64 width_1)), (5, (bp b1)), (8, (.slice none (List.length ([] : List ByteArray)) 0)), (9, (.int .i64 0)), (29, (.slice a30 (List.length r24.1) c31)), (30, (.int .i64 ((List.length r24.1 : Nat) : Int))), (31, (.int .i64 0))]) (by kernel_rfl) ?_
    refine gv_nil <| bindE h0 ?_; clear h0; intro j68 h1 h0
    refine gv_cut_code (J := fun a w69 => ∃ (a8_0j : Option Addr) (c8_0j : Nat), Below w0.heap.size w0 w69 ∧ w43.heap.size ≤ w69.heap.size ∧ Gv.Own sE 9 w69 (fun _ => False) a8_0j c8_0j j68 ∧ (∀ g, blk a8_0j = some g → w0.heap.size ≤ g) ∧ (∀ g, blk a8_0j = some g → ¬ (· = b1) g) ∧ ¬ (fun k => blk a8_0j = some k) b1 ∧ Box w69 b1 29 #[(.int .i64 0), (.int .i64 0)] ∧ a.defers = [] ∧ a.tmps.size = 84 ∧ Ok [(5, (bp b1)), (8, (.slice a8_0j (List.length j68) c8_0j))] a.tmps) ?_ ?_
    ·skip
     refine gv_block <| gv_loop (A := fun (s70 : ((List ByteArray) × Int × Int)) a w71 => ∃ (a8_0j : Option Addr) (c8_0j : Nat), Below w0.heap.size w0 w71 ∧ w43.heap.size ≤ w71.heap.size ∧ Gv.Own sE 9 w71 (fun _ => False) a8_0j c8_0j s70.1 ∧ (∀ g, blk a8_0j = some g → w0.heap.size ≤ g) ∧ (∀ g, blk a8_0j = some g → ¬ (· = b1) g) ∧ (∀ g, blk a8_0j = some g → ¬ X33 g) ∧ ¬ (fun k => blk a8_0j = some k) b1 ∧ Box w71 b1 29 #[(.int .i64 0), (.int .i64 0)] ∧ Rd sE w71 X33 a30 c31 r24.1 ∧ a.defers = [] ∧ a.tmps.size = 84 ∧ Ok [(1, (.int .i64 width_1)), (5, (bp b1)), (8, (.slice a8_0j (List.length s70.1) c8_0j)), (9, (.int .i64 s70.2.1)), (29, (.slice a30 (List.length r24.1) c31)), (30, (.int .i64 ((List.length r24.1 : Nat) : Int))), (31, (.int .i64 s70.2.2))] a.tmps) h1 ?_ ?_
     ·intro a hd hs hok
      have hg72 := (grown_trans hg28 hg39)
      have hB73 := bg hB26 hg72 nb
      have hB74 := bg hB26 hg28 nb
      have hlo75 : w0.heap.size ≤ b37 := lob hbe41 hB74.size
      have hB76 := bg hB73 hg44 (rowlo hlo75)
      have hk77 := hb4.grown hg28 nb
      have lt78 := ltl ((ltb hk77) _ rfl) ((lowb hbe41) _ rfl)
      have hk79 := (hb4.grown hg72 nb).grown hg44 (rowne (ng lt78))
      have ap80 : ¬ X33 b37 := fun hx => nl ((lowb hbe41) _ rfl) (hx35 _ hx)
      have hx81 := ltx hx35 hg39.size
      have hk82 := (ho32.grown hg39 hx35 nb).grown hg44 hx81 (rowne ap80)
      exact ⟨none, 0, hB76, (Nat.le_refl _), (Gv.Own.nil sE 9 w43 (fun _ => False)), (fun _ h => by cases h), (fun _ h => by cases h), (fun _ h => by cases h), (fun h => by cases h), hk79, hk82, hd, hs, ok_pick [1, 5, 8, 9, 29, 30, 31] hok (by kernel_rfl)⟩
     ·rintro s70 r2 h2 hR2 a w71 ⟨a85, c86, hB83, hz84, ho87, hl88, ap89, ap90, ap91, hb92, hk93, hd, hs, hok⟩
      refine gv_in ?_ hd hs hok
      clear hd hs hok
      clear hc47 hz46 hb45 hz42 hbe41 hb40 ho32 hg28 hB26 hr25 hc9 hz6 hg3
      refine gv_seq <| gv_region <| gv_pureN 1 [32] [(32, (.bool (decide (s70.2.2 < ((List.length r24.1 : Nat) : Int)))))] (by kernel_rfl) ?_
      refine gv_nil <| gv_seq <| gv_cond (b := (decide (s70.2.2 < ((List.length r24.1 : Nat) : Int)))) (by kernel_rfl) (fun hc94 => ?_) (fun hc94 => ?_)
      ·replace h2 := ite_t hc94 h2
       refine gv_skip <| gv_seq <| bindE h2 ?_; clear h2; intro j95 h3 h2
       refine gv_cut_code (J := fun a w96 => ∃ (a8_0j : Option Addr) (c8_0j : Nat), Below w0.heap.size w0 w96 ∧ w71.heap.size ≤ w96.heap.size ∧ Gv.Own sE 9 w96 (fun _ => False) a8_0j c8_0j j95.1 ∧ (∀ g, blk a8_0j = some g → w0.heap.size ≤ g) ∧ (∀ g, blk a8_0j = some g → ¬ (· = b1) g) ∧ (∀ g, blk a8_0j = some g → ¬ X33 g) ∧ ¬ (fun k => blk a8_0j = some k) b1 ∧ Box w96 b1 29 #[(.int .i64 0), (.int .i64 0)] ∧ Rd sE w96 X33 a30 c31 r24.1 ∧ a.defers = [] ∧ a.tmps.size = 84 ∧ Ok [(1, (.int .i64 width_1)), (5, (bp b1)), (8, (.slice a8_0j (List.length j95.1) c8_0j)), (9, (.int .i64 j95.2)), (29, (.slice a30 (List.length r24.1) c31)), (30, (.int .i64 ((List.length r24.1 : Nat) : Int))), (31, (.int .i64 s70.2.2))] a.tmps) ?_ ?_
       ·skip
        refine gv_block <| gv_seq <| gv_region <| bindE h3 ?_; clear h3; intro x97 hx98 h3
        refine gv_idxaddr (t := 58) (e := 9) (a := a30) (len := List.length r24.1) (cap := c31) (kk := .i64) (i := s70.2.2) (sz := 1) [] (fun e => by cases e) rfl rfl rfl (by kernel_rfl) (by kernel_rfl) Tryz.underlying58 (by kernel_rfl) (hk93.has hx98) (idx_spec hx98).1 (idx_spec hx98).2.1 rfl ?_
        refine gv_load (t := 9) (A := (elemAddr a30 ((s70.2.2 : Int).toNat * 1))) (.string x97) [] (fun e => by cases e) rfl rfl rfl (by kernel_rfl) (by kernel_rfl) (by kernel_rfl) (inw0 (hk93.cell hx98)) rfl ?_
        refine gv_pureN 1 [11] [(11, (.string x97))] (by kernel_rfl) ?_
        refine gv_nil <| gv_seq <| gv_region <| gv_pureN 1 [35] [(35, (.string x97))] (by kernel_rfl) ?_
        refine bindE h3 ?_; clear h3; intro l106 hx107 h3
        refine gv_s2r (src := 9) (dst := 55) (e := 21) (s := x97) (by decide) rfl rfl (by kernel_rfl) (by kernel_rfl) Tryz.underlying9 Tryz.underlying55 Tryz.underlying21 hx107 ?_
        rintro a99 c100 w101 hg102 hr103 hz105
        refine ⟨(fun e => by cases e), ?_⟩
        have hx108 : ∀ k, k = w71.heap.size → k < w101.heap.size := lts hz105
        have hx109 : ∀ k, k = w71.heap.size → X0 k ∨ w0.heap.size ≤ k := fun k hk => .inr (lowe hB83.size k hk)
        refine gv_pureN 1 [12] [(12, (.slice a99 (List.length l106) c100))] (by kernel_rfl) ?_
        refine gv_nil <| gv_seq <| gv_seq <| gv_region <| gv_pureN 4 [37, 38, 39, 40] [(40, (.bool (decide (((List.length l106 : Nat) : Int) < s70.2.1))))] (by kernel_rfl) ?_
        refine gv_nil <| gv_cond (b := (decide (((List.length l106 : Nat) : Int) < s70.2.1))) (by kernel_rfl) (fun hc110 => ?_) (fun hc110 => ?_)
        ·replace h3 := ite_t hc110 h3
         refine gv_seq <| gv_region <| gv_pureN 4 [41, 42, 43, 44] [(41, (.slice a85 (List.length s70.1) c86)), (44, (.int .i64 (IntKind.i64.wrap (((List.length s70.1 : Nat) : Int) - 1))))] (by kernel_rfl) ?_
         refine bindE h3 ?_; clear h3; intro x111 hx112 h3
         have hk113 := ho87.grown hg102 (fun _ h => h.elim) nb
         refine gv_idxaddr (t := 58) (e := 9) (a := a85) (len := List.length s70.1) (cap := c86) (kk := .i64) (i := (IntKind.i64.wrap (((List.length s70.1 : Nat) : Int) - 1))) (sz := 1) [] (fun e => by cases e) rfl rfl rfl (by kernel_rfl) (by kernel_rfl) Tryz.underlying58 (by kernel_rfl) ((hk113.rd (Y := fun k => blk a85 = some k) (fun _ h => h.elim) (fun g e => e)).has hx112) (idx_spec hx112).1 (idx_spec hx112).2.1 rfl ?_
         refine gv_load (t := 9) (A := (elemAddr a85 (((IntKind.i64.wrap (((List.length s70.1 : Nat) : Int) - 1)) : Int).toNat * 1))) (.string x111) [] (fun e => by cases e) rfl rfl rfl (by kernel_rfl) (by kernel_rfl) (by kernel_rfl) (inw0 ((hk113.rd (Y := fun k => blk a85 = some k) (fun _ h => h.elim) (fun g e => e)).cell hx112)) rfl ?_
         refine gv_pureN 1 [47] [(47, (.string x97))] (by kernel_rfl) ?_
         refine bindE h3 ?_; clear h3; intro x114 hx115 h3
         refine gv_cat (t := 9) (s := (strOf [32])) (u := x97) x114 [] (fun e => by cases e) rfl rfl rfl (by kernel_rfl) (by kernel_rfl) hx115 rfl ?_
         refine bindE h3 ?_; clear h3; intro x116 hx117 h3
         refine gv_cat (t := 9) (s := x111) (u := x114) x116 [] (fun e => by cases e) rfl rfl rfl (by kernel_rfl) (by kernel_rfl) hx117 rfl ?_
         refine gv_sub [1, 5, 8, 9, 12, 29, 30, 31, 41, 44, 49] (σ' := [(1, (.int .i64 width_1)), (5, (bp b1)), (8, (.slice a85 (List.length s70.1) c86)), (9, (.int .i64 s70.2.1)), (12, (.slice a99 (List.length l106) c100)), (29, (.slice a30 (List.length r24.1) c31)), (30, (.int .i64 ((List.length r24.1 : Nat) : Int))), (31, (.int .i64 s70.2.2)), (41, (.slice a85 (List.length s70.1) c86)), (44, (.int .i64 (IntKind.i64.wrap (((List.length s70.1 : Nat) : Int) - 1)))), (49, (.string x116))]) (by kernel_rfl) ?_
         refine bindE h3 ?_; clear h3; intro x118 hx119 h3
         refine gv_idxaddr (t := 58) (e := 9) (a := a85) (len := List.length s70.1) (cap := c86) (kk := .i64) (i := (IntKind.i64.wrap (((List.length s70.1 : Nat) : Int) - 1))) (sz := 1) [] (fun e => by cases e) rfl rfl rfl (by kernel_rfl) (by kernel_rfl) Tryz.underlying58 (by kernel_rfl) ((hk113.rd (Y := fun k => blk a85 = some k) (fun _ h => h.elim) (fun g e => e)).has hx119) (idx_spec hx119).1 (idx_spec hx119).2.1 rfl ?_
         refine bindE h3 ?_; clear h3; intro l120 hx121 h3
         refine gv_upd (f := Value.string) (hf := fun _ => rfl) (t := 9) (e := 9) (a := a85) (cap := c86) (xs := s70.1) (i := (IntKind.i64.wrap (((List.length s70.1 : Nat) : Int) - 1))) x116 l120 (by decide) rfl rfl (by kernel_rfl) rfl (by kernel_rfl) (by kernel_rfl) hk113 hx121 ?_
         intro w122 hg123 ho124 hz125
         refine ⟨(fun e => by cases e), ?_⟩
         have hln126 : List.length s70.1 = List.length l120 := by obtain ⟨_, _, e⟩ := upd_spec hx121; rw [e, List.length_set]
         refine gv_name (s := 8) (v := (.slice a85 (List.length s70.1) c86)) (v' := (.slice a85 (List.length l120) c86)) (by kernel_rfl) (by rw [hln126]) ?_
         refine gv_nil <| gv_seq <| gv_region <| gv_pureN 6 [9, 51, 52, 53, 54, 55] [(9, (.int .i64 (IntKind.i64.wrap (s70.2.1 - (IntKind.i64.wrap (((List.length l106 : Nat) : Int) + 1))))))] (by kernel_rfl) ?_
         refine bindE h3 ?_; clear h3; intro n127 hn128 h3
         refine gv_name (s := 9) (v := (.int .i64 (IntKind.i64.wrap (s70.2.1 - (IntKind.i64.wrap (((List.length l106 : Nat) : Int) + 1)))))) (v' := (.int .i64 n127)) (by kernel_rfl) (congrArg (Value.int .i64) (sj hn128)) ?_
         refine gv_nil <| gv_cexit <| gv_exit rfl ?_
         have e := sj h3; subst e
         refine gv_goal fun a hd hs hok => ?_
         have hB129 := bg hB83 hg102 nb
         have hB130 := bg hB129 hg123 hl88
         have hz131 := (nt hg102.size hg123.size)
         have hk132 := (hb92.grown hg102 nb).grown hg123 ap89
         have hx133 := ltx (ltx hx35 hg39.size) hg44.size
         have hx134 := ltx (fun k hk => ltl (hx133 k hk) hz84) hg102.size
         have hk135 := (hk93.grown hg102 (fun k hk => ltl (hx133 k hk) hz84) nb).grown hg123 hx134 ap90
         exact ⟨a85, c86, hB130, hz131, ho124, hl88, ap89, ap90, ap91, hk132, hk135, hd, hs, ok_pick [1, 5, 8, 9, 29, 30, 31] hok (by kernel_rfl)⟩
        ·replace h3 := ite_f hc110 h3
         refine gv_skip <| gv_seq <| bindE h3 ?_; clear h3; intro j136 h4 h3
         refine gv_cut_code (J := fun a w137 => ∃ (a8_0j : Option Addr) (c8_0j : Nat), ∃ (a12_0j : Option Addr) (c12_0j : Nat), ∃ (X12_0j : Nat → Prop), Below w0.heap.size w0 w137 ∧ w101.heap.size ≤ w137.heap.size ∧ Gv.Own sE 9 w137 (fun _ => False) a8_0j c8_0j j136.1 ∧ (∀ g, blk a8_0j = some g → w0.heap.size ≤ g) ∧ Rd (iE .i32) w137 X12_0j a12_0j c12_0j j136.2 ∧ (∀ k, X12_0j k → k < w137.heap.size) ∧ (∀ k, X12_0j k → X0 k ∨ w0.heap.size ≤ k) ∧ (∀ g, blk a8_0j = some g → ¬ X12_0j g) ∧ (∀ g, blk a8_0j = some g → ¬ (· = b1) g) ∧ (∀ g, blk a8_0j = some g → ¬ X33 g) ∧ ¬ (fun k => blk a8_0j = some k) b1 ∧ ¬ X12_0j b1 ∧ Box w137 b1 29 #[(.int .i64 0), (.int .i64 0)] ∧ Rd sE w137 X33 a30 c31 r24.1 ∧ a.defers = [] ∧ a.tmps.size = 84 ∧ Ok [(1, (.int .i64 width_1)), (5, (bp b1)), (8, (.slice a8_0j (List.length j136.1) c8_0j)), (12, (.slice a12_0j (List.length j136.2) c12_0j)), (29, (.slice a30 (List.length r24.1) c31)), (30, (.int .i64 ((List.length r24.1 : Nat) : Int))), (31, (.int .i64 s70.2.2))] a.tmps) ?_ ?_
         ·skip
          refine gv_block <| gv_loop (A := fun (s138 : ((List ByteArray) × (List Int))) a w139 => ∃ (a8_0j : Option Addr) (c8_0j : Nat), ∃ (a12_0j : Option Addr) (c12_0j : Nat), ∃ (X12_0j : Nat → Prop), Below w0.heap.size w0 w139 ∧ w101.heap.size ≤ w139.heap.size ∧ Gv.Own sE 9 w139 (fun _ => False) a8_0j c8_0j s138.1 ∧ (∀ g, blk a8_0j = some g → w0.heap.size ≤ g) ∧ Rd (iE .i32) w139 X12_0j a12_0j c12_0j s138.2 ∧ (∀ k, X12_0j k → k < w139.heap.size) ∧ (∀ k, X12_0j k → X0 k ∨ w0.heap.size ≤ k) ∧ (∀ g, blk a8_0j = some g → ¬ X12_0j g) ∧ (∀ g, blk a8_0j = some g → ¬ (· = b1) g) ∧ (∀ g, blk a8_0j = some g → ¬ X33 g) ∧ ¬ (fun k => blk a8_0j = some k) b1 ∧ ¬ X12_0j b1 ∧ Box w139 b1 29 #[(.int .i64 0), (.int .i64 0)] ∧ Rd sE w139 X33 a30 c31 r24.1 ∧ a.defers = [] ∧ a.tmps.size = 84 ∧ Ok [(1, (.int .i64 width_1)), (5, (bp b1)), (8, (.slice a8_0j (List.length s138.1) c8_0j)), (12, (.slice a12_0j (List.length s138.2) c12_0j)), (29, (.slice a30 (List.length r24.1) c31)), (30, (.int .i64 ((List.length r24.1 : Nat) : Int))), (31, (.int .i64 s70.2.2))] a.tmps) h4 ?_ ?_
          ·intro a hd hs hok
           have hB140 := bg hB83 hg102 nb
           have hk141 := ho87.grown hg102 (fun _ h => h.elim) nb
           have ap142 : ∀ g, blk a85 = some g → ¬ (· = w71.heap.size) g := fun g e hx => nl ((lowe (Nat.le_refl w71.heap.size)) _ hx) ((fun k (hk : blk a85 = some k) => ho87.lt k hk) g e)
           have ap143 : ¬ (· = w71.heap.size) b1 := fun hx => nl ((lowe (Nat.le_refl w71.heap.size)) _ hx) ((ltb hb92) _ rfl)
           have hk144 := hb92.grown hg102 nb
           have hx145 := ltx (ltx hx35 hg39.size) hg44.size
           have hk146 := hk93.grown hg102 (fun k hk => ltl (hx145 k hk) hz84) nb
           exact ⟨a85, c86, a99, c100, (· = w71.heap.size), hB140, (Nat.le_refl _), hk141, hl88, hr103, hx108, hx109, ap142, ap89, ap90, ap91, ap143, hk144, hk146, hd, hs, ok_pick [1, 5, 8, 12, 29, 30, 31] hok (by kernel_rfl)⟩
          ·rintro s138 r5 h5 hR5 a w139 ⟨a149, c150, a151, c152, X151, hB147, hz148, ho153, hl154, hr155, hx156, hx157, ap158, ap159, ap160, ap161, ap162, hb163, hk164, hd, hs, hok⟩
           refine gv_in ?_ hd hs hok
           clear hd hs hok
           clear hc110 hx109 hx108 hz105 hr103 hx107 hx98 hc94 hk93 hb92 ap91 ap90 ap89 hl88 ho87 hB83
           refine gv_seq <| gv_seq <| gv_region <| gv_pureN 4 [56, 57, 58, 59] [(59, (.bool (decide (((List.length s138.2 : Nat) : Int) > width_1))))] (by kernel_rfl) ?_
           refine gv_nil <| gv_cond (b := (decide (((List.length s138.2 : Nat) : Int) > width_1))) (by kernel_rfl) (fun hc165 => ?_) (fun hc165 => ?_)
           ·replace h5 := ite_t hc165 h5
            refine gv_skip <| gv_block <| gv_drawA (by kernel_rfl) ?_
            intro w166 hg167
            refine gv_pre [0, 1, 2, 3, 7, 8, 9] (bA 12 [0, 1, 2, 3, 7, 8, 9]) 5 (by kernel_rfl) (by kernel_rfl) ?_
            refine gv_pureN 3 [60, 61, 62] [(60, (.slice a149 (List.length s138.1) c150)), (61, (.slice a151 (List.length s138.2) c152)), (62, (.int .i64 width_1))] (by kernel_rfl) ?_
            refine bindE h5 ?_; clear h5; intro x168 hx169 h5
            have hk173 := hr155.grown hg167 hx156 nb
            refine gv_ssl2 (iE .i32) (t := 55) (e := 21) (xs := s138.2) (a := a151) (cap := c152) (lo := none) (hi := (some (.int .i64 width_1))) 0 width_1 x168 (fun e => by cases e) rfl rfl rfl (by kernel_rfl) (by kernel_rfl) Tryz.underlying55 (by kernel_rfl) (.inl ⟨rfl, rfl⟩) (.inr ⟨_, rfl⟩) hx169 hk173.1 ?_
            intro a170 c171 hsub172
            have hr174 := hsub172 _ _ hk173
            refine gv_pureN 2 [67, 68] [(67, (.slice a151 (List.length s138.2) c152)), (68, (.int .i64 width_1))] (by kernel_rfl) ?_
            refine bindE h5 ?_; clear h5; intro x175 hx176 h5
            refine gv_ssl2 (iE .i32) (t := 55) (e := 21) (xs := s138.2) (a := a151) (cap := c152) (lo := (some (.int .i64 width_1))) (hi := none) width_1 ((List.length s138.2 : Nat) : Int) x175 (fun e => by cases e) rfl rfl rfl (by kernel_rfl) (by kernel_rfl) Tryz.underlying55 (by kernel_rfl) (.inr ⟨_, rfl⟩) (.inl ⟨rfl, rfl⟩) hx176 hk173.1 ?_
            intro a177 c178 hsub179
            have hr180 := hsub179 _ _ hk173
            refine gv_nil <| gv_goA ?_
            refine gv_stage (Cls w166 []) [0, 1, 2, 3, 4, 7, 8, 9] [(4, some true)] (bA 12 [0, 1, 2, 3, 4, 7, 8, 9]) 4 (by kernel_rfl) (by kernel_rfl) (Cls.refl _ _) ?_
            have hC181 := Cls.refl w166 []
            have hx182 := ltx hx156 hg167.size
            refine gv_r2s (src := 55) (dst := 9) (e := 21) (xs := x168) (a := a170) (cap := c171) (X := X151) [] (fun e => by cases e) rfl rfl rfl (by kernel_rfl) (by kernel_rfl) Tryz.underlying55 Tryz.underlying21 Tryz.underlying9 (inw1 fun w' hC' => (hC'.rd hr174 hx182 nmx_nil)) rfl ?_
            refine gv_nil <| gv_goA ?_
            refine gv_stage (fun _ => True) [0, 1, 2, 3, 4, 5, 7, 8, 9] [(5, some false)] (bA 12 [0, 1, 2, 3, 4, 5, 7, 8, 9]) 3 (by kernel_rfl) (by kernel_rfl) trivial ?_
            refine gv_new (fun b => .slice (some ⟨b, 0, none⟩) 1 1) #[(.string (strR x168))] 9 (by decide) rfl rfl (by kernel_rfl) (by kernel_rfl) ?_
            intro b183 w184 hg185 hb186 hbe187 hz188
            refine ⟨(fun _ => trivial), ?_⟩
            have ho189 : Gv.Own sE 9 w184 (fun _ => False) (some ⟨b183, 0, none⟩) 1 ([(strR x168)] : List ByteArray) := Box.ownE hb186 ⟨[(.string (strR x168))], [], rfl, rfl, rfl⟩ (show 1 ≤ maxLen by decide) (fun h => h)
            have hB194 := bg hB147 hg167 nb
            have hl190 : ∀ g, blk (some ⟨b183, 0, none⟩) = some g → w0.heap.size ≤ g := loo hbe187 hB194.size
            refine gv_nil <| gv_goA ?_
            refine gv_stage (fun _ => True) [0, 1, 2, 3, 4, 5, 6, 7, 8, 9] [(6, some false)] (bA 12 [0, 1, 2, 3, 4, 5, 6, 7, 8, 9]) 2 (by kernel_rfl) (by kernel_rfl) trivial ?_
            refine bindE h5 ?_; clear h5; intro l195 hx196 h5
            have hg203 := (grown_trans hg167 hg185)
            have hk204 := ho153.grown hg203 (fun _ h => h.elim) nb
            refine gv_append sE (t := 58) (ty := 58) (e := 9) (a := a149) (ax := (some ⟨b183, 0, none⟩)) (cap := c150) (cx := 1) (xs := s138.1) (ys := ([(strR x168)] : List ByteArray)) l195 (X := (fun _ => False)) (Y := (fun k => blk (some ⟨b183, 0, none⟩) = some k)) (by decide) rfl rfl (by kernel_rfl) (by kernel_rfl) Tryz.underlying58 info9 hk204 (ho189.rd (Y := fun k => blk (some ⟨b183, 0, none⟩) = some k) (fun _ h => h.elim) (fun g e => e)) hx196 (.inr fun _ _ _ _ _ h => h) (fun _ h => h.elim) ?_
            intro a197 c198 w199 hg200 ho201 hk202
            refine ⟨(fun _ => trivial), ?_⟩
            have hB206 := bg hB194 hg185 nb
            have hl205 : ∀ g, blk a197 = some g → w0.heap.size ≤ g := blk_step hk202 hl154 hB206.size
            have hx208 := ltx hx182 hg185.size
            have ap207 : ∀ g, blk a197 = some g → ¬ X151 g := blk_neX hk202 ap158 hx208
            have hk210 := hb163.grown hg203 nb
            have ap209 : ∀ g, blk a197 = some g → ¬ (· = b1) g := blk_neX hk202 ap159 (ltb hk210)
            have ap211 : ¬ (fun k => blk a197 = some k) b1 := fun h => blk_rev hk202 (fun h => (ap161) h) (hk210.lt) h
            have hx213 := ltx (ltx hx35 hg39.size) hg44.size
            have hx214 := ltx (fun k hk => ltl (hx213 k hk) hz84) hg102.size
            have hx215 := ltx (fun k hk => ltl (hx214 k hk) hz148) hg203.size
            have ap212 : ∀ g, blk a197 = some g → ¬ X33 g := blk_neX hk202 ap160 hx215
            have hx217 := ltx hx182 hg185.size
            have ap216 : ∀ g, blk a197 = some g → ¬ X151 g := blk_neX hk202 ap158 hx217
            have hx219 := ltx hx182 hg185.size
            have ap218 : ∀ g, blk a197 = some g → ¬ X151 g := blk_neX hk202 ap158 hx219
            have hk221 := ho153.grown hg167 (fun _ h => h.elim) nb
            have ap222 : ∀ g, blk a149 = some g → ¬ (fun k => blk (some ⟨b183, 0, none⟩) = some k) g := fun g e hx => nl ((lowo hbe187) _ hx) ((fun k (hk : blk a149 = some k) => hk221.lt k hk) g e)
            have ap220 : ∀ g, blk a197 = some g → ¬ (fun k => blk (some ⟨b183, 0, none⟩) = some k) g := blk_neX hk202 ap222 (fun k (hk : blk (some ⟨b183, 0, none⟩) = some k) => ho189.lt k hk)
            have ap224 : ∀ g, blk (some ⟨b183, 0, none⟩) = some g → ¬ (fun k => blk a149 = some k) g := fun g e hx => nl ((lowo hbe187) g e) ((fun k (hk : blk a149 = some k) => hk221.lt k hk) _ hx)
            have ap223 : ∀ g, blk (some ⟨b183, 0, none⟩) = some g → ¬ (fun k => blk a197 = some k) g := fun g e h => blk_rev hk202 (fun h => ((ap224) g e) h) (ho189.lt g e) h
            refine gv_nil <| gv_goA ?_
            refine gv_pre [10, 11] (bA 12 [0, 1, 2, 3, 4, 5, 6, 7, 8, 9, 10, 11]) 0 (by kernel_rfl) (by kernel_rfl) ?_
            refine gv_pureN 2 [8, 12] [(8, (.slice a197 (List.length l195) c198)), (12, (.slice a177 (List.length x175) c178))] (by kernel_rfl) ?_
            refine gv_nil <| gv_goA ?_
            refine gv_stageE (by kernel_rfl) ?_
            refine gv_blk ?_
            have e := sj h5; subst e
            refine gv_goal fun a hd hs hok => ?_
            have hB225 := bg hB206 hg200 hl154
            have hz226 := (nt (nt (nt hz148 hg167.size) hg185.size) hg200.size)
            have hk227 := (hr180.grown hg185 hx182 nb).grown hg200 hx219 ap158
            have hx228 := ltx hx219 hg200.size
            have hk229 := hk210.grown hg200 ap159
            have hk230 := (hk164.grown hg203 (fun k hk => ltl (hx214 k hk) hz148) nb).grown hg200 hx215 ap160
            exact ⟨(l195, x175), rfl, a197, c198, a177, c178, X151, hB225, hz226, ho201, hl205, hk227, hx228, hx157, ap218, ap209, ap212, ap211, ap162, hk229, hk230, hd, hs, ok_pick [1, 5, 8, 12, 29, 30, 31] hok (by kernel_rfl)⟩
           ·replace h5 := ite_f hc165 h5
            refine gv_cexit <| gv_exit rfl ?_
            have e := sj h5; subst e
            replace h4 := congrArg some (hR5 _ rfl)
            have e := sj h4; subst e
            refine gv_goal fun a hd hs hok => ?_
            have hz231 := hz148
            exact ⟨a149, c150, a151, c152, X151, hB147, hz231, ho153, hl154, hr155, hx156, hx157, ap158, ap159, ap160, ap161, ap162, hb163, hk164, hd, hs, ok_pick [1, 5, 8, 12, 29, 30, 31] hok (by kernel_rfl)⟩
         ·rintro a w137 ⟨a234, c235, a236, c237, X236, hB232, hz233, ho238, hl239, hr240, hx241, hx242, ap243, ap244, ap245, ap246, ap247, hb248, hk249, hd, hs, hok⟩
          refine gv_in ?_ hd hs hok
          clear hd hs hok
          have hz250 := (nt hg102.size hz233)
          clear hc110 hx109 hx108 hz105 hr103 hx107 hx98 hc94 hk93 hb92 ap91 ap90 ap89 hl88 ho87 hB83
          refine gv_region <| gv_pureN 2 [70, 71] [(70, (.slice a234 (List.length j136.1) c235)), (71, (.slice a236 (List.length j136.2) c237))] (by kernel_rfl) ?_
          refine gv_r2s (src := 55) (dst := 9) (e := 21) (xs := j136.2) (a := a236) (cap := c237) (X := X236) [] (fun e => by cases e) rfl rfl rfl (by kernel_rfl) (by kernel_rfl) Tryz.underlying55 Tryz.underlying21 Tryz.underlying9 (inw0 hr240) rfl ?_
          refine gv_new0 (fun b => .slice (some ⟨b, 0, none⟩) 1 1) #[(.string (strR j136.2))] 9 (by kernel_rfl) (by kernel_rfl) ?_
          intro b251 w252 hg253 hb254 hbe255 hz256
          have ho257 : Gv.Own sE 9 w252 (fun _ => False) (some ⟨b251, 0, none⟩) 1 ([(strR j136.2)] : List ByteArray) := Box.ownE hb254 ⟨[(.string (strR j136.2))], [], rfl, rfl, rfl⟩ (show 1 ≤ maxLen by decide) (fun h => h)
          have hl258 : ∀ g, blk (some ⟨b251, 0, none⟩) = some g → w0.heap.size ≤ g := loo hbe255 hB232.size
          refine bindE h3 ?_; clear h3; intro l262 hx263 h3
          have hk270 := ho238.grown hg253 (fun _ h => h.elim) nb
          refine gv_append sE (t := 58) (ty := 58) (e := 9) (a := a234) (ax := (some ⟨b251, 0, none⟩)) (cap := c235) (cx := 1) (xs := j136.1) (ys := ([(strR j136.2)] : List ByteArray)) l262 (X := (fun _ => False)) (Y := (fun k => blk (some ⟨b251, 0, none⟩) = some k)) (by decide) rfl rfl (by kernel_rfl) (by kernel_rfl) Tryz.underlying58 info9 hk270 (ho257.rd (Y := fun k => blk (some ⟨b251, 0, none⟩) = some k) (fun _ h => h.elim) (fun g e => e)) hx263 (.inr fun _ _ _ _ _ h => h) (fun _ h => h.elim) ?_
          intro a264 c265 w266 hg267 ho268 hk269
          refine ⟨(fun e => by cases e), ?_⟩
          have hB272 := bg hB232 hg253 nb
          have hl271 : ∀ g, blk a264 = some g → w0.heap.size ≤ g := blk_step hk269 hl239 hB272.size
          have hx274 := ltx hx241 hg253.size
          have ap273 : ∀ g, blk a264 = some g → ¬ X236 g := blk_neX hk269 ap243 hx274
          have hk276 := hb248.grown hg253 nb
          have ap275 : ∀ g, blk a264 = some g → ¬ (· = b1) g := blk_neX hk269 ap244 (ltb hk276)
          have ap277 : ¬ (fun k => blk a264 = some k) b1 := fun h => blk_rev hk269 (fun h => (ap246) h) (hk276.lt) h
          have hx279 := ltx (ltx hx35 hg39.size) hg44.size
          have hx280 := ltx (fun k hk => ltl (hx279 k hk) hz84) hg102.size
          have hx281 := ltx (fun k hk => ltl (hx280 k hk) hz233) hg253.size
          have ap278 : ∀ g, blk a264 = some g → ¬ X33 g := blk_neX hk269 ap245 hx281
          have ap283 : ∀ g, blk a234 = some g → ¬ (fun k => blk (some ⟨b251, 0, none⟩) = some k) g := fun g e hx => nl ((lowo hbe255) _ hx) ((fun k (hk : blk a234 = some k) => ho238.lt k hk) g e)
          have ap282 : ∀ g, blk a264 = some g → ¬ (fun k => blk (some ⟨b251, 0, none⟩) = some k) g := blk_neX hk269 ap283 (fun k (hk : blk (some ⟨b251, 0, none⟩) = some k) => ho257.lt k hk)
          have ap285 : ∀ g, blk (some ⟨b251, 0, none⟩) = some g → ¬ (fun k => blk a234 = some k) g := fun g e hx => nl ((lowo hbe255) g e) ((fun k (hk : blk a234 = some k) => ho238.lt k hk) _ hx)
          have ap284 : ∀ g, blk (some ⟨b251, 0, none⟩) = some g → ¬ (fun k => blk a264 = some k) g := fun g e h => blk_rev hk269 (fun h => ((ap285) g e) h) (ho257.lt g e) h
          refine gv_pureN 6 [8, 9, 75, 76, 77, 78] [(8, (.slice a264 (List.length l262) c265)), (9, (.int .i64 (IntKind.i64.wrap (width_1 - ((List.length j136.2 : Nat) : Int)))))] (by kernel_rfl) ?_
          refine bindE h3 ?_; clear h3; intro n286 hn287 h3
          refine gv_name (s := 9) (v := (.int .i64 (IntKind.i64.wrap (width_1 - ((List.length j136.2 : Nat) : Int))))) (v' := (.int .i64 n286)) (by kernel_rfl) (congrArg (Value.int .i64) (sj hn287)) ?_
          refine gv_nil <| gv_blk ?_
          have e := sj h3; subst e
          refine gv_goal fun a hd hs hok => ?_
          have hB288 := bg hB272 hg267 hl239
          have hz289 := (nt (nt hz250 hg253.size) hg267.size)
          have hk290 := hk276.grown hg267 ap244
          have hk291 := (hk249.grown hg253 (fun k hk => ltl (hx280 k hk) hz233) nb).grown hg267 hx281 ap245
          exact ⟨a264, c265, hB288, hz289, ho268, hl271, ap275, ap278, ap277, hk290, hk291, hd, hs, ok_pick [1, 5, 8, 9, 29, 30, 31] hok (by kernel_rfl)⟩
       ·rintro a w96 ⟨a294, c295, hB292, hz293, ho296, hl297, ap298, ap299, ap300, hb301, hk302, hd, hs, hok⟩
        refine gv_in ?_ hd hs hok
        clear hd hs hok
        have hz303 := (nt hz84 hz293)
        clear hc94 hk93 hb92 ap91 ap90 ap89 hl88 ho87 hB83
        refine gv_region <| gv_pureN 2 [31, 79] [(31, (.int .i64 (IntKind.i64.wrap (s70.2.2 + 1))))] (by kernel_rfl) ?_
        refine gv_nil ?_
        have e := sj h2; subst e
        refine gv_goal fun a hd hs hok => ?_
        have hz304 := hz303
        exact ⟨(j95.1, j95.2, (IntKind.i64.wrap (s70.2.2 + 1))), rfl, a294, c295, hB292, hz304, ho296, hl297, ap298, ap299, ap300, hb301, hk302, hd, hs, ok_pick [1, 5, 8, 9, 29, 30, 31] hok (by kernel_rfl)⟩
      ·replace h2 := ite_f hc94 h2
       refine gv_cexit <| gv_exit rfl ?_
       have e := sj h2; subst e
       replace h1 := congrArg some (hR2 _ rfl)
       have e := sj h1; subst e
       refine gv_goal fun a hd hs hok => ?_
       have hz305 := hz84
       exact ⟨a85, c86, hB83, hz305, ho87, hl88, ap89, ap91, hb92, hd, hs, ok_pick [5, 8] hok (by kernel_rfl)⟩
    ·rintro a w69 ⟨a308, c309, hB306, hz307, ho310, hl311, ap312, ap313, hb314, hd, hs, hok⟩
     refine gv_in ?_ hd hs hok
     clear hd hs hok
     clear hz307 hc47 hz46 hb45 hg44 hz42 hbe41 hb40 hg39 hx36 hx35 hx34 ho32 hg28 hB26 hr25 hc9 hz6 hb4 hg3
     refine gv_seq <| gv_region <| gv_pureN 1 [80] [(80, (.slice a308 (List.length j68) c309))] (by kernel_rfl) ?_
     refine bindE h0 ?_; clear h0; intro r315 hr316 h0
     refine gv_call0 (by kernel_rfl) rfl (by kernel_rfl) enters41 (textstr_pieces_ok fuel a308 c309 j68 w69 (fun k => (fun k => blk a308 = some k) k) (fun k hk => (fun k (hk : blk a308 = some k) => ho310.lt k hk) k hk) ((ho310.rd (Y := fun k => blk a308 = some k) (fun _ h => h.elim) (fun g e => e)).wide (fun k hk => hk)) r315 hr316) ?_
     rintro v319 w317 ⟨hg318, a320, c321, X323, rfl, ho322, hx324⟩
     have hx325 : ∀ k, X323 k → k < w317.heap.size := fun k hk => (hx324 k hk).1
     have hx326 : ∀ k, X323 k → X0 k ∨ w0.heap.size ≤ k := fun k hk => (hx324 k hk).2.elim (fun h => (fun k (hk : blk a308 = some k) => Or.inr (hl311 k hk)) k h) (fun h => .inr (Nat.le_trans hB306.size h))
     clear hr316 ap312 hl311 ho310
     refine gv_pureN 3 [4, 82, 83] [(4, (.slice a320 (List.length r315.1) c321)), (83, (.agg #[(.int .i64 r315.2.1), (.int .i64 r315.2.2)]))] (by kernel_rfl) ?_
     have hk331 := hb314.grown hg318 nb
     refine gv_store0 29 0 (.agg #[(.int .i64 r315.2.1), (.int .i64 r315.2.2)]) #[(.int .i64 r315.2.1), (.int .i64 r315.2.2)] hk331 (by kernel_rfl) (by kernel_rfl) (by kernel_rfl) ?_
     intro w327 hg328 hb329 hz330
     refine gv_nil <| gv_cret ?_
     have e := sj h0; subst e
     refine gv_ret (gv_done [(.slice a320 (List.length r315.1) c321), (.agg #[(.int .i64 r315.2.1), (.int .i64 r315.2.2)])] rfl ⟨(by kernel_rfl), ⟨⟨b1, 0, none⟩, (by kernel_rfl), run_loadVar_row w327 b1 _ 29 _ _ _ hb329 Tryz.underlying29 rfl (by kernel_rfl)⟩, trivial⟩ ?_)
     have hB332 := bg hB306 hg318 nb
     have hlo333 : w0.heap.size ≤ b1 := lob hbe5 hB0.size
     have hB334 := bg hB332 hg328 (rowlo hlo333)
     have ap335 : ¬ X323 b1 := fun h => ((hx324 _ h).2.elim (fun h => (ap313)  h) (fun h => nl h (hb314.lt)))
     have hk336 := ho322.grown hg328 hx325 (rowne ap335)
     have hx337 := ltx hx325 hg328.size
     exact ⟨grown_of_below hB334, a320, c321, X323, rfl, hk336, (fun k hk => ⟨hx337 k hk, hx326 k hk⟩)⟩

theorem ref4_SameTexts_ok (fuel : Nat) (pa0_0 : Option Addr) (pc0_0 : Nat) (a_0 : (List ByteArray)) (pa1_0 : Option Addr) (pc1_0 : Nat) (b_1 : (List ByteArray)) (w0 : World) (X0 : Nat → Prop) (hX0 : ∀ k, X0 k → k < w0.heap.size) (hpa0_0 : Rd sE w0 X0 pa0_0 pc0_0 a_0) (hpa1_0 : Rd sE w0 X0 pa1_0 pc1_0 b_1) (r0 : Bool) (h0 : ref4_SameTexts fuel a_0 b_1 = some r0) :
    Calls Tryz.prog 30 ([(.slice pa0_0 (List.length a_0) pc0_0), (.slice pa1_0 (List.length b_1) pc1_0)] : List Value).toArray w0 (Ret fun v w' => w0.grownBy w' none ∧ v = tup [(.bool r0)]) := by
 have hB0 : Below w0.heap.size w0 w0 := Below.refl _ _
 unfold ref4_SameTexts at h0
 refine calls_run Tryz.func30 rfl Tryz.ntmps30 (by kernel_rfl) ?_
 refine gv_sub [0, 1] (σ' := [(0, (.slice pa0_0 (List.length a_0) pc0_0)), (1, (.slice pa1_0 (List.length b_1) pc1_0))]) (by kernel_rfl) ?_
 refine gv_seq <| gv_region <| gv_pureN 1 [4] [] (by kernel_rfl) ?_
 refine gv_nil <| gv_seq <| gv_seq <| gv_region <| gv_pureN 5 [6, 7, 8, 9, 10] [(10, (.bool (((List.length a_0 : Nat) : Int) != ((List.length b_1 : Nat) : Int))))] (by kernel_rfl) ?_
 refine gv_nil <| gv_cond (b := (((List.length a_0 : Nat) : Int) != ((List.length b_1 : Nat) : Int))) (by kernel_rfl) (fun hc1 => ?_) (fun hc1 => ?_)
 ·replace h0 := ite_t hc1 h0
  refine gv_seq <| gv_region <| gv_pureN 1 [4] [(4, (.bool false))] (by kernel_rfl) ?_
  refine gv_nil <| gv_cret ?_
  have e := sj h0; subst e
  refine gv_ret (gv_done [(.bool false)] rfl ⟨(by kernel_rfl), trivial⟩ ?_)
  exact ⟨grown_of_below hB0, rfl⟩
 ·replace h0 := ite_f hc1 h0
  refine gv_skip <| gv_seq <| gv_seq <| gv_region <| gv_pureN 1 [5] [(5, (.int .i64 0))] (by kernel_rfl) ?_
  refine gv_nil <| bindE h0 ?_; clear h0; intro j2 h1 h0
  refine gv_cut_code (J := fun a w4 => ∃ s3 : Unit, j2 = .inl s3 ∧ Below w0.heap.size w0 w4 ∧ w0.heap.size ≤ w4.heap.size ∧ a.defers = [] ∧ a.tmps.size = 26 ∧ Ok [] a.tmps) ?_ ?_
  ·skip
   refine gv_block <| gv_loop (A := fun (s5 : Int) a w6 => Below w0.heap.size w0 w6 ∧ w0.heap.size ≤ w6.heap.size ∧ a.defers = [] ∧ a.tmps.size = 26 ∧ Ok [(0, (.slice pa0_0 (List.length a_0) pc0_0)), (1, (.slice pa1_0 (List.length b_1) pc1_0)), (5, (.int .i64 s5))] a.tmps) h1 ?_ ?_
   ·intro a hd hs hok
    exact ⟨hB0, (Nat.le_refl _), hd, hs, ok_pick [0, 1, 5] hok (by kernel_rfl)⟩
   ·rintro s5 r2 h2 hR2 a w6 ⟨hB7, hz8, hd, hs, hok⟩
    refine gv_in ?_ hd hs hok
    clear hd hs hok
    refine gv_seq <| gv_seq <| gv_region <| gv_pureN 4 [11, 12, 13, 14] [(14, (.bool (decide (s5 < ((List.length a_0 : Nat) : Int)))))] (by kernel_rfl) ?_
    refine gv_nil <| gv_cond (b := (decide (s5 < ((List.length a_0 : Nat) : Int)))) (by kernel_rfl) (fun hc9 => ?_) (fun hc9 => ?_)
    ·replace h2 := ite_t hc9 h2
     refine gv_skip <| gv_seq <| gv_block <| gv_seq <| gv_drawA (by kernel_rfl) ?_
     intro w10 hg11
     refine gv_pre [0, 1, 2, 4, 5, 6] (bA 9 [0, 1, 2, 4, 5, 6]) 3 (by kernel_rfl) (by kernel_rfl) ?_
     refine gv_pureN 2 [17, 18] [(17, (.slice pa0_0 (List.length a_0) pc0_0)), (18, (.int .i64 s5))] (by kernel_rfl) ?_
     refine bindE h2 ?_; clear h2; intro x12 hx13 h2
     have hB14 := bg hB7 hg11 nb
     refine gv_idxaddr (t := 58) (e := 9) (a := pa0_0) (len := List.length a_0) (cap := pc0_0) (kk := .i64) (i := s5) (sz := 1) [] (fun e => by cases e) rfl rfl rfl (by kernel_rfl) (by kernel_rfl) Tryz.underlying58 (by kernel_rfl) ((hpa0_0.below hB14 hX0).has hx13) (idx_spec hx13).1 (idx_spec hx13).2.1 rfl ?_
     refine gv_pureN 2 [21, 22] [(21, (.slice pa1_0 (List.length b_1) pc1_0)), (22, (.int .i64 s5))] (by kernel_rfl) ?_
     refine bindE h2 ?_; clear h2; intro x15 hx16 h2
     refine gv_idxaddr (t := 58) (e := 9) (a := pa1_0) (len := List.length b_1) (cap := pc1_0) (kk := .i64) (i := s5) (sz := 1) [] (fun e => by cases e) rfl rfl rfl (by kernel_rfl) (by kernel_rfl) Tryz.underlying58 (by kernel_rfl) ((hpa1_0.below hB14 hX0).has hx16) (idx_spec hx16).1 (idx_spec hx16).2.1 rfl ?_
     refine gv_nil <| gv_goA ?_
     refine gv_stage (Cls w10 []) [0, 1, 2, 3, 4, 5, 6, 7] [(3, some true), (7, some true)] (bA 9 [0, 1, 2, 3, 4, 5, 6, 7]) 1 (by kernel_rfl) (by kernel_rfl) (Cls.refl _ _) ?_
     have hC17 := Cls.refl w10 []
     refine gv_load (t := 9) (A := (elemAddr pa0_0 ((s5 : Int).toNat * 1))) (.string x12) [] (fun e => by cases e) rfl rfl rfl (by kernel_rfl) (by kernel_rfl) (by kernel_rfl) (inw1 fun w' hC' => ((hC'.rd (hpa0_0.below hB14 hX0) (fun k (hk : X0 k) => ltl (hX0 k hk) hB14.size) nmx_nil).cell hx13)) rfl ?_
     refine gv_load (t := 9) (A := (elemAddr pa1_0 ((s5 : Int).toNat * 1))) (.string x15) [] (fun e => by cases e) rfl rfl rfl (by kernel_rfl) (by kernel_rfl) (by kernel_rfl) (inw1 fun w' hC' => ((hC'.rd (hpa1_0.below hB14 hX0) (fun k (hk : X0 k) => ltl (hX0 k hk) hB14.size) nmx_nil).cell hx16)) rfl ?_
     refine gv_nil <| gv_goA ?_
     refine gv_pre [8] (bA 9 [0, 1, 2, 3, 4, 5, 6, 7, 8]) 0 (by kernel_rfl) (by kernel_rfl) ?_
     refine gv_pureN 1 [25] [(25, (.bool (!(x12.toList == x15.toList))))] (by kernel_rfl) ?_
     refine gv_nil <| gv_goA ?_
     refine gv_stageE (by kernel_rfl) ?_
     refine gv_cond (b := (!(x12.toList == x15.toList))) (by kernel_rfl) (fun hc18 => ?_) (fun hc18 => ?_)
     ·replace h2 := ite_t hc18 h2
      refine gv_seq <| gv_region <| gv_pureN 1 [4] [(4, (.bool false))] (by kernel_rfl) ?_
      refine gv_nil <| gv_cret ?_
      have e := sj h2; subst e
      replace h1 := congrArg some (hR2 _ rfl)
      have e := sj h1; subst e
      replace h0 := cont_inr h0
      have e := sj h0; subst e
      refine gv_ret (gv_done [(.bool false)] rfl ⟨(by kernel_rfl), trivial⟩ ?_)
      exact ⟨grown_of_below hB14, rfl⟩
     ·replace h2 := ite_f hc18 h2
      refine gv_skip <| gv_blk <| gv_region <| gv_pureN 3 [5, 15, 16] [(5, (.int .i64 (IntKind.i64.wrap (s5 + 1))))] (by kernel_rfl) ?_
      refine gv_nil ?_
      have e := sj h2; subst e
      refine gv_goal fun a hd hs hok => ?_
      have hz19 := (nt hz8 hg11.size)
      exact ⟨(IntKind.i64.wrap (s5 + 1)), rfl, hB14, hz19, hd, hs, ok_pick [0, 1, 5] hok (by kernel_rfl)⟩
    ·replace h2 := ite_f hc9 h2
     refine gv_cexit <| gv_exit rfl ?_
     have e := sj h2; subst e
     replace h1 := congrArg some (hR2 _ rfl)
     have e := sj h1; subst e
     refine gv_goal fun a hd hs hok => ?_
     have hz20 := hz8
     exact ⟨(), rfl, hB7, hz20, hd, hs, ok_pick [] hok (by kernel_rfl)⟩
  ·rintro a w4 ⟨s3, e, hB21, hz22, hd, hs, hok⟩
   subst e
   refine gv_in ?_ hd hs hok
   clear hd hs hok
   replace h0 := cont_inl h0
   refine gv_seq <| gv_region <| gv_pureN 1 [4] [(4, (.bool true))] (by kernel_rfl) ?_
   refine gv_nil <| gv_cret ?_
   have e := sj h0; subst e
   refine gv_ret (gv_done [(.bool true)] rfl ⟨(by kernel_rfl), trivial⟩ ?_)
   exact ⟨grown_of_below hB21, rfl⟩

theorem law4_letters_ok (fuel : Nat)  (w0 : World) (X0 : Nat → Prop) (hX0 : ∀ k, X0 k → k < w0.heap.size) (hG0 : Rd bE w0 X0 (some ⟨0, 0, none⟩) 256 utf8First) (hG1 : Rd (prE (iE .u8) (iE .u8)) w0 X0 (some ⟨1, 0, none⟩) 16 utf8Acc) {gmx : Int} (hG2 : Rd (iE .i64) w0 X0 (some ⟨2, 0, none⟩) 1 [gmx]) (r0 : Bool) (h0 : law4_letters fuel  = some r0) :
    Calls Tryz.prog 8 ([] : List Value).toArray w0 (Ret fun v w' => w0.grownBy w' none ∧ v = tup [(.bool r0)]) := by
 have hB0 : Below w0.heap.size w0 w0 := Below.refl _ _
 unfold law4_letters at h0
 refine calls_run Tryz.func8 rfl Tryz.ntmps8 (by kernel_rfl) ?_
 refine gv_sub [] (σ' := []) (by kernel_rfl) ?_
 refine gv_seq <| gv_region <| gv_pureN 1 [0] [] (by kernel_rfl) ?_
 refine gv_nil <| gv_seq <| gv_region <| bindE h0 ?_; clear h0; intro r1 hr2 h0
 refine gv_call0 (by kernel_rfl) rfl (by kernel_rfl) enters26 (textstr_Split_ok fuel (strOf [97, 44, 98, 44, 44, 99]) (strOf [44]) 2 w0 (fun k => X0 k ∨ X0 k ∨ X0 k) (fun k hk => (hk).elim (fun h => (fun k (hk : X0 k) => ltl (hX0 k hk) hB0.size) k h) (fun h => (h).elim (fun h => (fun k (hk : X0 k) => ltl (hX0 k hk) hB0.size) k h) (fun h => (fun k (hk : X0 k) => ltl (hX0 k hk) hB0.size) k h))) ((hG0.below hB0 hX0).wide (fun k hk => (.inl hk))) ((hG1.below hB0 hX0).wide (fun k hk => (.inr (.inl hk)))) ((hG2.below hB0 hX0).wide (fun k hk => (.inr (.inr hk)))) r1 hr2) ?_
 rintro v5 w3 ⟨hg4, a6, c7, X9, rfl, ho8, hx10⟩
 have hx11 : ∀ k, X9 k → k < w3.heap.size := fun k hk => (hx10 k hk).1
 have hx12 : ∀ k, X9 k → X0 k ∨ w0.heap.size ≤ k := fun k hk => (hx10 k hk).2.elim (fun h => (h).elim (fun h => (fun k (hk : X0 k) => Or.inl hk) k h) (fun h => (h).elim (fun h => (fun k (hk : X0 k) => Or.inl hk) k h) (fun h => (fun k (hk : X0 k) => Or.inl hk) k h))) (fun h => .inr (Nat.le_trans hB0.size h))
 refine gv_pureN 3 [9, 11, 12] [(11, (.slice a6 (List.length r1.1) c7)), (12, (.agg #[(.int .i64 r1.2.1), (.int .i64 r1.2.2)]))] (by kernel_rfl) ?_
 refine gv_new0 (fun b => .pointer (some ⟨b, 0, none⟩)) #[(.int .i64 0), (.int .i64 0)] 29 (by kernel_rfl) (by kernel_rfl) ?_
 intro b13 w14 hg15 hb16 hbe17 hz18
 refine gv_pureN 1 [1] [(1, (.slice a6 (List.length r1.1) c7))] (by kernel_rfl) ?_
 refine gv_store0 29 0 (.agg #[(.int .i64 r1.2.1), (.int .i64 r1.2.2)]) #[(.int .i64 r1.2.1), (.int .i64 r1.2.2)] hb16 (by kernel_rfl) (by kernel_rfl) (by kernel_rfl) ?_
 intro w19 hg20 hb21 hz22
 refine gv_nil <| gv_seq <| gv_region <| bindE h0 ?_; clear h0; intro r23 hr24 h0
 have hg25 := (grown_trans hg4 hg15)
 have hB26 := bg hB0 hg25 nb
 have hB27 := bg hB0 hg4 nb
 have hlo28 : w0.heap.size ≤ b13 := lob hbe17 hB27.size
 have hB29 := bg hB26 hg20 (rowlo hlo28)
 refine gv_call0 (by kernel_rfl) rfl (by kernel_rfl) enters27 (textstr_ToTitle_ok fuel (strOf [100, 111, 110, 39, 116, 32, 195, 169, 108, 97, 110]) w19 (fun k => X0 k ∨ X0 k) (fun k hk => (hk).elim (fun h => (fun k (hk : X0 k) => ltl (hX0 k hk) hB29.size) k h) (fun h => (fun k (hk : X0 k) => ltl (hX0 k hk) hB29.size) k h)) ((hG0.below hB29 hX0).wide (fun k hk => (.inl hk))) ((hG1.below hB29 hX0).wide (fun k hk => (.inr hk))) r23 hr24) ?_
 rintro v32 w30 ⟨hg31, rfl⟩
 refine gv_pureN 3 [13, 15, 16] [(15, (.string r23.1)), (16, (.agg #[(.int .i64 r23.2.1), (.int .i64 r23.2.2)]))] (by kernel_rfl) ?_
 refine gv_new0 (fun b => .pointer (some ⟨b, 0, none⟩)) #[(.int .i64 0), (.int .i64 0)] 29 (by kernel_rfl) (by kernel_rfl) ?_
 intro b33 w34 hg35 hb36 hbe37 hz38
 refine gv_pureN 1 [3] [(3, (.string r23.1))] (by kernel_rfl) ?_
 refine gv_store0 29 0 (.agg #[(.int .i64 r23.2.1), (.int .i64 r23.2.2)]) #[(.int .i64 r23.2.1), (.int .i64 r23.2.2)] hb36 (by kernel_rfl) (by kernel_rfl) (by kernel_rfl) ?_
 intro w39 hg40 hb41 hz42
 refine gv_nil <| gv_seq <| gv_region <| bindE h0 ?_; clear h0; intro r43 hr44 h0
 have hg45 := (grown_trans hg31 hg35)
 have hB46 := bg hB29 hg45 nb
 have hB47 := bg hB29 hg31 nb
 have hlo48 : w0.heap.size ≤ b33 := lob hbe37 hB47.size
 have hB49 := bg hB46 hg40 (rowlo hlo48)
 refine gv_call0 (by kernel_rfl) rfl (by kernel_rfl) enters28 (textstr_Pad_ok fuel (strOf [97, 98]) 5 42 3 w39 (fun k => X0 k ∨ X0 k) (fun k hk => (hk).elim (fun h => (fun k (hk : X0 k) => ltl (hX0 k hk) hB49.size) k h) (fun h => (fun k (hk : X0 k) => ltl (hX0 k hk) hB49.size) k h)) ((hG0.below hB49 hX0).wide (fun k hk => (.inl hk))) ((hG1.below hB49 hX0).wide (fun k hk => (.inr hk))) r43 hr44) ?_
 rintro v52 w50 ⟨hg51, rfl⟩
 refine gv_pureN 3 [17, 19, 20] [(19, (.string r43.1)), (20, (.agg #[(.int .i64 r43.2.1), (.int .i64 r43.2.2)]))] (by kernel_rfl) ?_
 refine gv_new0 (fun b => .pointer (some ⟨b, 0, none⟩)) #[(.int .i64 0), (.int .i64 0)] 29 (by kernel_rfl) (by kernel_rfl) ?_
 intro b53 w54 hg55 hb56 hbe57 hz58
 clear hz58 hB47 hB46 hg45 hr44 hz42 hz38 hb36 hB29 hB27 hB26 hg25 hr24 hz22 hz18 hb16 hx10 hg4 hr2
 refine gv_pureN 1 [5] [(5, (.string r43.1))] (by kernel_rfl) ?_
 refine gv_sub [1, 2, 3, 4, 5, 6, 20] (σ' := [(1, (.slice a6 (List.length r1.1) c7)), (2, (bp b13)), (3, (.string r23.1)), (4, (bp b33)), (5, (.string r43.1)), (6, (bp b53)), (20, (.agg #[(.int .i64 r43.2.1), (.int .i64 r43.2.2)]))]) (by kernel_rfl) ?_
 refine gv_store0 29 0 (.agg #[(.int .i64 r43.2.1), (.int .i64 r43.2.2)]) #[(.int .i64 r43.2.1), (.int .i64 r43.2.2)] hb56 (by kernel_rfl) (by kernel_rfl) (by kernel_rfl) ?_
 intro w59 hg60 hb61 hz62
 refine gv_nil <| gv_seq <| gv_region <| bindE h0 ?_; clear h0; intro r63 hr64 h0
 have hg65 := (grown_trans hg51 hg55)
 have hB66 := bg hB49 hg65 nb
 have hB67 := bg hB49 hg51 nb
 have hlo68 : w0.heap.size ≤ b53 := lob hbe57 hB67.size
 have hB69 := bg hB66 hg60 (rowlo hlo68)
 refine gv_call0 (by kernel_rfl) rfl (by kernel_rfl) enters29 (textstr_Wrap_ok fuel (strOf [116, 111, 32, 98, 101, 32, 111, 114]) 5 w59 (fun k => X0 k ∨ X0 k) (fun k hk => (hk).elim (fun h => (fun k (hk : X0 k) => ltl (hX0 k hk) hB69.size) k h) (fun h => (fun k (hk : X0 k) => ltl (hX0 k hk) hB69.size) k h)) ((hG0.below hB69 hX0).wide (fun k hk => (.inl hk))) ((hG1.below hB69 hX0).wide (fun k hk => (.inr hk))) r63 hr64) ?_
 rintro v72 w70 ⟨hg71, a73, c74, X76, rfl, ho75, hx77⟩
 have hx78 : ∀ k, X76 k → k < w70.heap.size := fun k hk => (hx77 k hk).1
 have hx79 : ∀ k, X76 k → X0 k ∨ w0.heap.size ≤ k := fun k hk => (hx77 k hk).2.elim (fun h => (h).elim (fun h => (fun k (hk : X0 k) => Or.inl hk) k h) (fun h => (fun k (hk : X0 k) => Or.inl hk) k h)) (fun h => .inr (Nat.le_trans hB69.size h))
 refine gv_pureN 3 [21, 23, 24] [(23, (.slice a73 (List.length r63.1) c74)), (24, (.agg #[(.int .i64 r63.2.1), (.int .i64 r63.2.2)]))] (by kernel_rfl) ?_
 refine gv_new0 (fun b => .pointer (some ⟨b, 0, none⟩)) #[(.int .i64 0), (.int .i64 0)] 29 (by kernel_rfl) (by kernel_rfl) ?_
 intro b80 w81 hg82 hb83 hbe84 hz85
 refine gv_pureN 1 [7] [(7, (.slice a73 (List.length r63.1) c74))] (by kernel_rfl) ?_
 refine gv_store0 29 0 (.agg #[(.int .i64 r63.2.1), (.int .i64 r63.2.2)]) #[(.int .i64 r63.2.1), (.int .i64 r63.2.2)] hb83 (by kernel_rfl) (by kernel_rfl) (by kernel_rfl) ?_
 intro w86 hg87 hb88 hz89
 refine gv_nil <| gv_seq <| gv_region <| bindE h0 ?_; clear h0; intro j90 h1 h0
 refine gv_cut_ops (J := fun a w91 => Below w0.heap.size w0 w91 ∧ w86.heap.size ≤ w91.heap.size ∧ a.defers = [] ∧ a.tmps.size = 61 ∧ Ok [(0, (.bool j90))] a.tmps) ?_ ?_
 ·skip
  refine gv_pureN 1 [25] [(25, (bp b13))] (by kernel_rfl) ?_
  have hg92 := (grown_trans hg31 hg35)
  have hk93 := hb21.grown hg31 nb
  have lt94 := ltl ((ltb hk93) _ rfl) ((lowb hbe37) _ rfl)
  have hk95 := hb41.grown hg51 nb
  have lt96 := ltl ((ltb hk95) _ rfl) ((lowb hbe57) _ rfl)
  have lt97 := ltt lt94 lt96
  have hg98 := (grown_trans hg71 hg82)
  have hk99 := hb61.grown hg71 nb
  have lt100 := ltl ((ltb hk99) _ rfl) ((lowb hbe84) _ rfl)
  have lt101 := ltt lt97 lt100
  have hk102 := (((((hb21.grown hg92 nb).grown hg40 (rowne (ng lt94))).grown hg65 nb).grown hg60 (rowne (ng lt97))).grown hg98 nb).grown hg87 (rowne (ng lt101))
  refine gv_load (t := 3) (A := ⟨b13, 0, none⟩) (.int .i64 r1.2.1) [] (fun e => by cases e) rfl rfl rfl (by kernel_rfl) (by kernel_rfl) (by kernel_rfl) (inw0 (hk102.cell 0 rfl)) rfl ?_
  refine gv_pureN 2 [27, 28] [(28, (.bool (r1.2.1 == 0)))] (by kernel_rfl) ?_
  refine gv_split (s := 28) (g := (r1.2.1 == 0)) (by kernel_rfl) (fun hc103 => ?_) (fun hc103 => ?_)
  ·skip
   replace h1 := ite_t hc103 h1
   refine gv_pureN 1 [29] [(29, (bp b33))] (by kernel_rfl) ?_
   have lt104 := ltt lt96 lt100
   have hk105 := (((hk95.grown hg55 nb).grown hg60 (rowne (ng lt96))).grown hg98 nb).grown hg87 (rowne (ng lt104))
   refine gv_load (t := 3) (A := ⟨b33, 0, none⟩) (.int .i64 r23.2.1) [] (fun e => by cases e) rfl rfl rfl (by kernel_rfl) (by kernel_rfl) (by kernel_rfl) (inw0 (hk105.cell 0 rfl)) rfl ?_
   refine gv_pureN 3 [31, 32, 33] [(33, (.bool (r23.2.1 == 0)))] (by kernel_rfl) ?_
   refine gv_split (s := 33) (g := (r23.2.1 == 0)) (by kernel_rfl) (fun hc106 => ?_) (fun hc106 => ?_)
   ·skip
    replace h1 := ite_t hc106 h1
    refine gv_pureN 1 [34] [(34, (bp b53))] (by kernel_rfl) ?_
    have hk107 := (hk99.grown hg82 nb).grown hg87 (rowne (ng lt100))
    refine gv_load (t := 3) (A := ⟨b53, 0, none⟩) (.int .i64 r43.2.1) [] (fun e => by cases e) rfl rfl rfl (by kernel_rfl) (by kernel_rfl) (by kernel_rfl) (inw0 (hk107.cell 0 rfl)) rfl ?_
    refine gv_pureN 3 [36, 37, 38] [(38, (.bool (r43.2.1 == 0)))] (by kernel_rfl) ?_
    refine gv_sub [1, 3, 5, 7, 8, 38] (σ' := [(1, (.slice a6 (List.length r1.1) c7)), (3, (.string r23.1)), (5, (.string r43.1)), (7, (.slice a73 (List.length r63.1) c74)), (8, (bp b80)), (38, (.bool (r43.2.1 == 0)))]) (by kernel_rfl) ?_
    refine gv_split (s := 38) (g := (r43.2.1 == 0)) (by kernel_rfl) (fun hc108 => ?_) (fun hc108 => ?_)
    ·skip
     replace h1 := ite_t hc108 h1
     refine gv_pureN 1 [39] [(39, (bp b80))] (by kernel_rfl) ?_
     refine gv_load (t := 3) (A := ⟨b80, 0, none⟩) (.int .i64 r63.2.1) [] (fun e => by cases e) rfl rfl rfl (by kernel_rfl) (by kernel_rfl) (by kernel_rfl) (inw0 (hb88.cell 0 rfl)) rfl ?_
     refine gv_pureN 3 [41, 42, 43] [(43, (.bool (r63.2.1 == 0)))] (by kernel_rfl) ?_
     refine gv_split (s := 43) (g := (r63.2.1 == 0)) (by kernel_rfl) (fun hc109 => ?_) (fun hc109 => ?_)
     ·skip
      replace h1 := ite_t hc109 h1
      refine gv_pureN 1 [44] [(44, (.slice a6 (List.length r1.1) c7))] (by kernel_rfl) ?_
      refine gv_new0 (fun b => .slice (some ⟨b, 0, none⟩) 3 3) #[(.string (strOf [97])), (.string (strOf [98])), (.string (strOf [44, 99]))] 9 (by kernel_rfl) (by kernel_rfl) ?_
      intro b110 w111 hg112 hb113 hbe114 hz115
      have ho116 : Gv.Own sE 9 w111 (fun _ => False) (some ⟨b110, 0, none⟩) 3 ([(strOf [97]), (strOf [98]), (strOf [44, 99])] : List ByteArray) := Box.ownE hb113 ⟨[(.string (strOf [97]))], [(.string (strOf [98])), (.string (strOf [44, 99]))], rfl, rfl, ⟨[(.string (strOf [98]))], [(.string (strOf [44, 99]))], rfl, rfl, ⟨[(.string (strOf [44, 99]))], [], rfl, rfl, rfl⟩⟩⟩ (show 3 ≤ maxLen by decide) (fun h => h)
      have hB121 := bg hB69 hg98 nb
      have hB122 := bg hB69 hg71 nb
      have hlo123 : w0.heap.size ≤ b80 := lob hbe84 hB122.size
      have hB124 := bg hB121 hg87 (rowlo hlo123)
      have hl117 : ∀ g, blk (some ⟨b110, 0, none⟩) = some g → w0.heap.size ≤ g := loo hbe114 hB124.size
      refine bindE h1 ?_; clear h1; intro r125 hr126 h1
      have hx127 := ltx (ltx (ltx (ltx (ltx (ltx (ltx (ltx (ltx hx11 hg15.size) hg20.size) hg92.size) hg40.size) hg65.size) hg60.size) hg98.size) hg87.size) hg112.size
      have ap128 : ¬ X9 b13 := fun hx => nl ((lowb hbe17) _ rfl) (hx11 _ hx)
      have hx129 := ltx hx11 hg15.size
      have hx130 := ltx hx129 hg20.size
      have hx131 := ltx hx130 hg31.size
      have ap132 : ¬ X9 b33 := fun hx => nl ((lowb hbe37) _ rfl) (hx131 _ hx)
      have hx133 := ltx hx131 hg35.size
      have hx134 := ltx hx133 hg40.size
      have hx135 := ltx hx134 hg51.size
      have ap136 : ¬ X9 b53 := fun hx => nl ((lowb hbe57) _ rfl) (hx135 _ hx)
      have hx137 := ltx hx135 hg55.size
      have hx138 := ltx hx137 hg60.size
      have hx139 := ltx hx138 hg71.size
      have ap140 : ¬ X9 b80 := fun hx => nl ((lowb hbe84) _ rfl) (hx139 _ hx)
      have hx141 := ltx hx139 hg82.size
      have hx142 := ltx hx141 hg87.size
      have hk143 := ((((((((ho8.grown hg15 hx11 nb).grown hg20 hx129 (rowne ap128)).grown hg92 hx130 nb).grown hg40 hx133 (rowne ap132)).grown hg65 hx134 nb).grown hg60 hx137 (rowne ap136)).grown hg98 hx138 nb).grown hg87 hx141 (rowne ap140)).grown hg112 hx142 nb
      refine gv_call0 (by kernel_rfl) rfl (by kernel_rfl) enters30 (ref4_SameTexts_ok fuel a6 c7 r1.1 (some ⟨b110, 0, none⟩) 3 ([(strOf [97]), (strOf [98]), (strOf [44, 99])] : List ByteArray) w111 (fun k => X9 k ∨ (fun k => blk (some ⟨b110, 0, none⟩) = some k) k) (fun k hk => (hk).elim (fun h => hx127 k h) (fun h => (fun k (hk : blk (some ⟨b110, 0, none⟩) = some k) => ho116.lt k hk) k h)) (hk143.wide (fun k hk => (.inl hk))) ((ho116.rd (Y := fun k => blk (some ⟨b110, 0, none⟩) = some k) (fun _ h => h.elim) (fun g e => e)).wide (fun k hk => (.inr hk))) r125 hr126) ?_
      rintro v146 w144 ⟨hg145, rfl⟩
      refine gv_pureN 2 [47, 48] [(48, (.bool r125))] (by kernel_rfl) ?_
      refine gv_split (s := 48) (g := r125) (by kernel_rfl) (fun hc147 => ?_) (fun hc147 => ?_)
      ·skip
       replace h1 := ite_t hc147 h1
       refine gv_pureN 4 [49, 50, 51, 52] [(52, (.bool (r23.1.toList == (strOf [68, 111, 110, 39, 84, 32, 195, 137, 108, 97, 110]).toList)))] (by kernel_rfl) ?_
       refine gv_split (s := 52) (g := (r23.1.toList == (strOf [68, 111, 110, 39, 84, 32, 195, 137, 108, 97, 110]).toList)) (by kernel_rfl) (fun hc148 => ?_) (fun hc148 => ?_)
       ·skip
        replace h1 := ite_t hc148 h1
        refine gv_pureN 4 [53, 54, 55, 56] [(56, (.bool (r43.1.toList == (strOf [42, 97, 98, 42, 42]).toList)))] (by kernel_rfl) ?_
        refine gv_split (s := 56) (g := (r43.1.toList == (strOf [42, 97, 98, 42, 42]).toList)) (by kernel_rfl) (fun hc149 => ?_) (fun hc149 => ?_)
        ·skip
         replace h1 := ite_t hc149 h1
         refine gv_pureN 1 [57] [(57, (.slice a73 (List.length r63.1) c74))] (by kernel_rfl) ?_
         refine gv_new0 (fun b => .slice (some ⟨b, 0, none⟩) 2 2) #[(.string (strOf [116, 111, 32, 98, 101])), (.string (strOf [111, 114]))] 9 (by kernel_rfl) (by kernel_rfl) ?_
         intro b150 w151 hg152 hb153 hbe154 hz155
         have ho156 : Gv.Own sE 9 w151 (fun _ => False) (some ⟨b150, 0, none⟩) 2 ([(strOf [116, 111, 32, 98, 101]), (strOf [111, 114])] : List ByteArray) := Box.ownE hb153 ⟨[(.string (strOf [116, 111, 32, 98, 101]))], [(.string (strOf [111, 114]))], rfl, rfl, ⟨[(.string (strOf [111, 114]))], [], rfl, rfl, rfl⟩⟩ (show 2 ≤ maxLen by decide) (fun h => h)
         have hg161 := (grown_trans hg112 hg145)
         have hB162 := bg hB124 hg161 nb
         have hl157 : ∀ g, blk (some ⟨b150, 0, none⟩) = some g → w0.heap.size ≤ g := loo hbe154 hB162.size
         refine bindE h1 ?_; clear h1; intro r163 hr164 h1
         have hg165 := (grown_trans hg161 hg152)
         have hx166 := ltx (ltx (ltx hx78 hg82.size) hg87.size) hg165.size
         have ap167 : ¬ X76 b80 := fun hx => nl ((lowb hbe84) _ rfl) (hx78 _ hx)
         have hx168 := ltx hx78 hg82.size
         have hx169 := ltx hx168 hg87.size
         have hk170 := ((ho75.grown hg82 hx78 nb).grown hg87 hx168 (rowne ap167)).grown hg165 hx169 nb
         refine gv_call0 (by kernel_rfl) rfl (by kernel_rfl) enters30 (ref4_SameTexts_ok fuel a73 c74 r63.1 (some ⟨b150, 0, none⟩) 2 ([(strOf [116, 111, 32, 98, 101]), (strOf [111, 114])] : List ByteArray) w151 (fun k => X76 k ∨ (fun k => blk (some ⟨b150, 0, none⟩) = some k) k) (fun k hk => (hk).elim (fun h => hx166 k h) (fun h => (fun k (hk : blk (some ⟨b150, 0, none⟩) = some k) => ho156.lt k hk) k h)) (hk170.wide (fun k hk => (.inl hk))) ((ho156.rd (Y := fun k => blk (some ⟨b150, 0, none⟩) = some k) (fun _ h => h.elim) (fun g e => e)).wide (fun k hk => (.inr hk))) r163 hr164) ?_
         rintro v173 w171 ⟨hg172, rfl⟩
         have hz174 := (nt (nt (nt hg112.size hg145.size) hg152.size) hg172.size)
         clear hk170 hx169 hx168 ap167 hx166 hg165 hr164 hl157 hg161 ho156 hz155 hbe154 hb153 hc149 hc148 hc147 hg145 hk143 hx142 hx141 ap140 hx139 hx138 hx137 ap136 hx135 hx134 hx133 ap132 hx131 hx130 hx129 ap128 hx127 hr126 hl117 hB124 hlo123 hB122 hB121 ho116 hz115 hbe114 hb113 hg112 hc109 hc108 hk107 hc106 hk105 lt104 hc103 hk102 lt101 lt100 hk99 hg98 lt97 lt96 hk95 lt94 hk93 hg92 hz89 hb88 hg87 hz85 hbe84 hb83 hg82 hx79 hx78 hx77 ho75 hg71 hB69 hlo68 hB67 hB66 hg65 hr64 hz62 hb61 hg60 hbe57 hb56 hg55 hg51 hB49 hlo48 hb41 hg40 hbe37 hg35 hg31 hlo28 hb21 hg20 hbe17 hg15 hx12 hx11 ho8
         refine gv_pureN 2 [0, 60] [(0, (.bool r163))] (by kernel_rfl) ?_
         refine gv_nil ?_
         have e := sj h1; subst e
         refine gv_goal fun a hd hs hok => ?_
         have hg175 := (grown_trans hg152 hg172)
         have hB176 := bg hB162 hg175 nb
         have hz177 := hz174
         exact ⟨hB176, hz177, hd, hs, ok_pick [0] hok (by kernel_rfl)⟩
        ·skip
         replace h1 := ite_f hc149 h1
         refine gv_pureN 5 [0, 57, 58, 59, 60] [(0, (.bool false))] (by kernel_rfl) ?_
         refine gv_nil ?_
         have e := sj h1; subst e
         refine gv_goal fun a hd hs hok => ?_
         have hg178 := (grown_trans hg112 hg145)
         have hB179 := bg hB124 hg178 nb
         have hz180 := (nt hg112.size hg145.size)
         exact ⟨hB179, hz180, hd, hs, ok_pick [0] hok (by kernel_rfl)⟩
       ·skip
        replace h1 := ite_f hc148 h1
        refine gv_pureN 9 [0, 53, 54, 55, 56, 57, 58, 59, 60] [(0, (.bool false))] (by kernel_rfl) ?_
        refine gv_nil ?_
        have e := sj h1; subst e
        refine gv_goal fun a hd hs hok => ?_
        have hg181 := (grown_trans hg112 hg145)
        have hB182 := bg hB124 hg181 nb
        have hz183 := (nt hg112.size hg145.size)
        exact ⟨hB182, hz183, hd, hs, ok_pick [0] hok (by kernel_rfl)⟩
      ·skip
       replace h1 := ite_f hc147 h1
       refine gv_pureN 13 [0, 49, 50, 51, 52, 53, 54, 55, 56, 57, 58, 59, 60] [(0, (.bool false))] (by kernel_rfl) ?_
       refine gv_nil ?_
       have e := sj h1; subst e
       refine gv_goal fun a hd hs hok => ?_
       have hg184 := (grown_trans hg112 hg145)
       have hB185 := bg hB124 hg184 nb
       have hz186 := (nt hg112.size hg145.size)
       exact ⟨hB185, hz186, hd, hs, ok_pick [0] hok (by kernel_rfl)⟩
     ·skip
      replace h1 := ite_f hc109 h1
      refine gv_pureN 18 [0, 44, 45, 46, 47, 48, 49, 50, 51, 52, 53, 54, 55, 56, 57, 58, 59, 60] [(0, (.bool false))] (by kernel_rfl) ?_
      refine gv_nil ?_
      have e := sj h1; subst e
      refine gv_goal fun a hd hs hok => ?_
      have hB187 := bg hB69 hg98 nb
      have hB188 := bg hB69 hg71 nb
      have hlo189 : w0.heap.size ≤ b80 := lob hbe84 hB188.size
      have hB190 := bg hB187 hg87 (rowlo hlo189)
      exact ⟨hB190, (Nat.le_refl _), hd, hs, ok_pick [0] hok (by kernel_rfl)⟩
    ·skip
     replace h1 := ite_f hc108 h1
     refine gv_pureN 23 [0, 39, 40, 41, 42, 43, 44, 45, 46, 47, 48, 49, 50, 51, 52, 53, 54, 55, 56, 57, 58, 59, 60] [(0, (.bool false))] (by kernel_rfl) ?_
     refine gv_nil ?_
     have e := sj h1; subst e
     refine gv_goal fun a hd hs hok => ?_
     have hB191 := bg hB69 hg98 nb
     have hB192 := bg hB69 hg71 nb
     have hlo193 : w0.heap.size ≤ b80 := lob hbe84 hB192.size
     have hB194 := bg hB191 hg87 (rowlo hlo193)
     exact ⟨hB194, (Nat.le_refl _), hd, hs, ok_pick [0] hok (by kernel_rfl)⟩
   ·skip
    replace h1 := ite_f hc106 h1
    refine gv_pureN 28 [0, 34, 35, 36, 37, 38, 39, 40, 41, 42, 43, 44, 45, 46, 47, 48, 49, 50, 51, 52, 53, 54, 55, 56, 57, 58, 59, 60] [(0, (.bool false))] (by kernel_rfl) ?_
    refine gv_nil ?_
    have e := sj h1; subst e
    refine gv_goal fun a hd hs hok => ?_
    have hB195 := bg hB69 hg98 nb
    have hB196 := bg hB69 hg71 nb
    have hlo197 : w0.heap.size ≤ b80 := lob hbe84 hB196.size
    have hB198 := bg hB195 hg87 (rowlo hlo197)
    exact ⟨hB198, (Nat.le_refl _), hd, hs, ok_pick [0] hok (by kernel_rfl)⟩
  ·skip
   replace h1 := ite_f hc103 h1
   refine gv_pureN 33 [0, 29, 30, 31, 32, 33, 34, 35, 36, 37, 38, 39, 40, 41, 42, 43, 44, 45, 46, 47, 48, 49, 50, 51, 52, 53, 54, 55, 56, 57, 58, 59, 60] [(0, (.bool false))] (by kernel_rfl) ?_
   refine gv_nil ?_
   have e := sj h1; subst e
   refine gv_goal fun a hd hs hok => ?_
   have hB199 := bg hB69 hg98 nb
   have hB200 := bg hB69 hg71 nb
   have hlo201 : w0.heap.size ≤ b80 := lob hbe84 hB200.size
   have hB202 := bg hB199 hg87 (rowlo hlo201)
   exact ⟨hB202, (Nat.le_refl _), hd, hs, ok_pick [0] hok (by kernel_rfl)⟩
 ·rintro a w91 ⟨hB203, hz204, hd, hs, hok⟩
  refine gv_in ?_ hd hs hok
  clear hd hs hok
  clear hz204 hz89 hb88 hg87 hz85 hbe84 hb83 hg82 hx79 hx78 hx77 ho75 hg71 hB69 hlo68 hB67 hB66 hg65 hr64 hz62 hb61 hg60 hbe57 hb56 hg55 hg51 hB49 hlo48 hb41 hg40 hbe37 hg35 hg31 hlo28 hb21 hg20 hbe17 hg15 hx12 hx11 ho8
  refine gv_cret ?_
  have e := sj h0; subst e
  refine gv_ret (gv_done [(.bool j90)] rfl ⟨(by kernel_rfl), trivial⟩ ?_)
  exact ⟨grown_of_below hB203, rfl⟩

end Go.Proofs.YtkmcegicngjhbaaGreatDoor
