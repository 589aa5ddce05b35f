import Derived.Test.YtkmcegicngjhbaaDoorP1
set_option linter.all false
set_option maxHeartbeats 4000000
set_option maxRecDepth 100000
/- Own work, printed by a program of mine: the walk of each function: a call returns what the plain function says. -/
namespace Go.Proofs.YtkmcegicngjhbaaDoor
open Go.Gv Go.Gv.D Go.RowKit
theorem enters15 : Go.Gv.Enters Tryd.prog 15 := ⟨Tryd.f15, Tryd.func15, by kernel_rfl, by kernel_rfl⟩
theorem enters17 : Go.Gv.Enters Tryd.prog 17 := ⟨Tryd.f17, Tryd.func17, by kernel_rfl, by kernel_rfl⟩
theorem enters61 : Go.Gv.Enters Tryd.prog 61 := ⟨Tryd.f61, Tryd.func61, by kernel_rfl, by kernel_rfl⟩
theorem info3 : InfoOk Tryd.prog 3 1 := infoOk (z := (.int .i64 0)) (bytes := 8) (by kernel_rfl) (by kernel_rfl) (by kernel_rfl) (by kernel_rfl)

theorem textstr_Points_ok (fuel : Nat) (s_0 : ByteArray) (w0 : World) (X0 : Nat → Prop) (hX0 : ∀ k, X0 k → k < w0.heap.size) (hG1 : Rd bE w0 X0 (some ⟨1, 0, none⟩) 256 utf8First) (hG2 : Rd (prE (iE .u8) (iE .u8)) w0 X0 (some ⟨2, 0, none⟩) 16 utf8Acc) (r0 : ((List Int) × (Int × Int))) (h0 : textstr_Points fuel s_0 = some r0) :
    Calls Tryd.prog 61 ([(.string s_0)] : List Value).toArray w0 (Ret fun v w' => w0.grownBy w' none ∧ ∃ (a0_0r : Option Addr) (c0_0r : Nat), v = tup [(.slice a0_0r (List.length r0.1) c0_0r), (.agg #[(.int .i64 r0.2.1), (.int .i64 r0.2.2)])] ∧ Gv.Own (iE .i64) 3 w' (fun _ => False) a0_0r c0_0r r0.1 ∧ (∀ g, blk a0_0r = some g → w0.heap.size ≤ g)) := by
 have hB0 : Below w0.heap.size w0 w0 := Below.refl _ _
 unfold textstr_Points at h0
 refine calls_run Tryd.func61 rfl Tryd.ntmps61 (by kernel_rfl) ?_
 refine gv_sub [0] (σ' := [(0, (.string s_0))]) (by kernel_rfl) ?_
 refine gv_seq <| gv_region <| gv_pureN 1 [2] [] (by kernel_rfl) ?_
 refine gv_new0 (fun b => .pointer (some ⟨b, 0, none⟩)) #[(.int .i64 0), (.int .i64 0)] 24 (by kernel_rfl) (by kernel_rfl) ?_
 intro b1 w2 hg3 hb4 hbe5 hz6
 refine gv_nil <| gv_seq <| gv_seq <| gv_region <| gv_pureN 1 [8] [(8, (.string s_0))] (by kernel_rfl) ?_
 refine gv_new0 (fun b => .slice (some ⟨b, 0, none⟩) 1 1) #[(.string s_0)] 9 (by kernel_rfl) (by kernel_rfl) ?_
 intro b7 w8 hg9 hb10 hbe11 hz12
 have ho13 : Gv.Own sE 9 w8 (fun _ => False) (some ⟨b7, 0, none⟩) 1 ([s_0] : List ByteArray) := Box.ownE hb10 ⟨[(.string s_0)], [], rfl, rfl, rfl⟩ (show 1 ≤ maxLen by decide) (fun h => h)
 have hB18 := bg hB0 hg3 nb
 have hl14 : ∀ g, blk (some ⟨b7, 0, none⟩) = some g → w0.heap.size ≤ g := loo hbe11 hB18.size
 refine bindE h0 ?_; clear h0; intro r19 hr20 h0
 have hB21 := bg hB18 hg9 nb
 refine gv_call0 (by kernel_rfl) rfl (by kernel_rfl) enters58 (textstr_check_ok fuel (some ⟨b7, 0, none⟩) 1 ([s_0] : List ByteArray) w8 (fun k => (fun k => blk (some ⟨b7, 0, none⟩) = some k) k ∨ X0 k ∨ X0 k) (fun k hk => (hk).elim (fun h => (fun k (hk : blk (some ⟨b7, 0, none⟩) = some k) => ho13.lt k hk) k h) (fun h => (h).elim (fun h => (fun k (hk : X0 k) => ltl (hX0 k hk) hB21.size) k h) (fun h => (fun k (hk : X0 k) => ltl (hX0 k hk) hB21.size) k h))) ((ho13.rd (Y := fun k => blk (some ⟨b7, 0, none⟩) = some k) (fun _ h => h.elim) (fun g e => e)).wide (fun k hk => (.inl hk))) ((hG1.below hB21 hX0).wide (fun k hk => (.inr (.inl hk)))) ((hG2.below hB21 hX0).wide (fun k hk => (.inr (.inr hk)))) r19 hr20) ?_
 rintro v24 w22 ⟨hg23, rfl⟩
 refine gv_new0 (fun b => .pointer (some ⟨b, 0, none⟩)) #[(.int .i64 0), (.int .i64 0)] 24 (by kernel_rfl) (by kernel_rfl) ?_
 intro b25 w26 hg27 hb28 hbe29 hz30
 refine gv_store0 24 0 (.agg #[(.int .i64 r19.1), (.int .i64 r19.2)]) #[(.int .i64 r19.1), (.int .i64 r19.2)] hb28 (by kernel_rfl) (by kernel_rfl) (by kernel_rfl) ?_
 intro w31 hg32 hb33 hz34
 refine gv_nil <| gv_seq <| gv_region <| gv_pureN 1 [11] [(11, (bp b25))] (by kernel_rfl) ?_
 refine gv_load (t := 3) (A := ⟨b25, 0, none⟩) (.int .i64 r19.1) [] (fun e => by cases e) rfl rfl rfl (by kernel_rfl) (by kernel_rfl) (by kernel_rfl) (inw0 (hb33.cell 0 rfl)) rfl ?_
 refine gv_pureN 1 [13] [(13, (.bool (r19.1 != 0)))] (by kernel_rfl) ?_
 refine gv_nil <| gv_cond (b := (r19.1 != 0)) (by kernel_rfl) (fun hc35 => ?_) (fun hc35 => ?_)
 ·replace h0 := ite_t hc35 h0
  refine gv_seq <| gv_drawA (by kernel_rfl) ?_
  intro w36 hg37
  refine gv_pre [1] (bA 3 [1]) 2 (by kernel_rfl) (by kernel_rfl) ?_
  refine gv_pureN 1 [2] [(2, (.slice none (List.length ([] : List Int)) 0))] (by kernel_rfl) ?_
  refine gv_nil <| gv_goA ?_
  refine gv_stage (Cls w36 []) [0, 1] [(0, some true)] (bA 3 [0, 1]) 1 (by kernel_rfl) (by kernel_rfl) (Cls.refl _ _) ?_
  have hC38 := Cls.refl w36 []
  have hk39 := hb33.grown hg37 nb
  refine gv_loadBox (t := 24) (b := b25) (t' := 24) (fr := (0, 0)) #[(.int .i64 r19.1), (.int .i64 r19.2)] [] (fun e => by cases e) rfl rfl rfl (by kernel_rfl) (by kernel_rfl) (by kernel_rfl) (by kernel_rfl) (inw1 fun w' hC' => (hC'.box hk39 nm_nil)) rfl ?_
  refine gv_nil <| gv_goA ?_
  refine gv_stage (fun _ => True) [0, 1, 2] [(2, some false)] (bA 3 [0, 1, 2]) 0 (by kernel_rfl) (by kernel_rfl) trivial ?_
  have hg44 := (grown_trans (grown_trans hg9 hg23) hg27)
  have hg45 := (grown_trans hg9 hg23)
  have hk46 := hb4.grown hg45 nb
  have lt47 := ltl ((ltb hk46) _ rfl) ((lowb hbe29) _ rfl)
  have hk48 := ((hb4.grown hg44 nb).grown hg32 (rowne (ng lt47))).grown hg37 nb
  refine gv_store (t := 24) (b := b1) (off := 0) (v := (.agg #[(.int .i64 r19.1), (.int .i64 r19.2)])) (t' := 24) (cs := #[(.int .i64 0), (.int .i64 0)]) #[(.int .i64 r19.1), (.int .i64 r19.2)] (by decide) rfl rfl (by kernel_rfl) (by kernel_rfl) (by kernel_rfl) (by intro u hu; simp [Value.cells] at hu; rcases hu with rfl | rfl <;> rfl) (show 0 + 2 ≤ 2 by decide) (by rfl) hk48 ?_
  intro w40 hg41 hb42 hz43
  refine ⟨(fun _ => trivial), ?_⟩
  refine gv_nil <| gv_goA ?_
  refine gv_stageE (by kernel_rfl) ?_
  refine gv_cret ?_
  have e := sj h0; subst e
  refine gv_ret (gv_done [(.slice none (List.length ([] : List Int)) 0), (.agg #[(.int .i64 r19.1), (.int .i64 r19.2)])] rfl ⟨(by kernel_rfl), ⟨⟨b1, 0, none⟩, (by kernel_rfl), run_loadVar_row w40 b1 _ 24 _ _ _ hb42 Tryd.underlying24 rfl (by kernel_rfl)⟩, trivial⟩ ?_)
  have hg49 := (grown_trans hg23 hg27)
  have hB50 := bg hB21 hg49 nb
  have hB51 := bg hB21 hg23 nb
  have hlo52 : w0.heap.size ≤ b25 := lob hbe29 hB51.size
  have hB53 := bg hB50 hg32 (rowlo hlo52)
  have hB54 := bg hB53 hg37 nb
  have hlo55 : w0.heap.size ≤ b1 := lob hbe5 hB0.size
  have hB56 := bg hB54 hg41 (rowlo hlo55)
  exact ⟨grown_of_below hB56, none, 0, rfl, (Gv.Own.nil (iE .i64) 3 w40 (fun _ => False)), (fun _ h => by cases h)⟩
 ·replace h0 := ite_f hc35 h0
  refine gv_skip <| gv_seq <| gv_region <| gv_pureN 1 [5] [(5, (.slice none (List.length ([] : List Int)) 0))] (by kernel_rfl) ?_
  refine gv_nil <| gv_seq <| gv_seq <| gv_region <| gv_pureN 1 [15] [(15, (.string s_0))] (by kernel_rfl) ?_
  refine gv_range (t := 9) (s := s_0) (by kernel_rfl) (by kernel_rfl) Tryd.underlying9 ?_
  intro b57 w58 hg59 hb60 hbe61 hz62
  clear hz62 hc35 hz34 hz30 hb28 hr20 hB18 hz12 hb10 hz6 hg3
  refine gv_nil <| bindE h0 ?_; clear h0; intro j63 h1 h0
  refine gv_cut_code (J := fun a w64 => ∃ (a5_0j : Option Addr) (c5_0j : Nat), Below w0.heap.size w0 w64 ∧ w58.heap.size ≤ w64.heap.size ∧ Gv.Own (iE .i64) 3 w64 (fun _ => False) a5_0j c5_0j j63 ∧ (∀ g, blk a5_0j = some g → w0.heap.size ≤ g) ∧ (∀ g, blk a5_0j = some g → ¬ (· = b1) g) ∧ ¬ (fun k => blk a5_0j = some k) b1 ∧ Box w64 b1 24 #[(.int .i64 0), (.int .i64 0)] ∧ a.defers = [] ∧ a.tmps.size = 27 ∧ Ok [(3, (bp b1)), (5, (.slice a5_0j (List.length j63) c5_0j))] a.tmps) ?_ ?_
  ·skip
   refine gv_block <| gv_loop (A := fun (s65 : ((List Int) × Nat)) a w66 => ∃ (a5_0j : Option Addr) (c5_0j : Nat), Below w0.heap.size w0 w66 ∧ w58.heap.size ≤ w66.heap.size ∧ Gv.Own (iE .i64) 3 w66 (fun _ => False) a5_0j c5_0j s65.1 ∧ (∀ g, blk a5_0j = some g → w0.heap.size ≤ g) ∧ (∀ g, blk a5_0j = some g → ¬ (· = b1) g) ∧ (∀ g, blk a5_0j = some g → ¬ (· = b57) g) ∧ ¬ (fun k => blk a5_0j = some k) b1 ∧ ¬ (fun k => blk a5_0j = some k) b57 ∧ Box w66 b1 24 #[(.int .i64 0), (.int .i64 0)] ∧ At w66 b57 (.stringIter s_0 s65.2) ∧ a.defers = [] ∧ a.tmps.size = 27 ∧ Ok [(3, (bp b1)), (5, (.slice a5_0j (List.length s65.1) c5_0j)), (16, (bp b57))] a.tmps) h1 ?_ ?_
   ·intro a hd hs hok
    have hg67 := (grown_trans hg23 hg27)
    have hB68 := bg hB21 hg67 nb
    have hB69 := bg hB21 hg23 nb
    have hlo70 : w0.heap.size ≤ b25 := lob hbe29 hB69.size
    have hB71 := bg hB68 hg32 (rowlo hlo70)
    have hB72 := bg hB71 hg59 nb
    have hg73 := (grown_trans hg9 hg67)
    have hg74 := (grown_trans hg9 hg23)
    have hk75 := hb4.grown hg74 nb
    have lt76 := ltl ((ltb hk75) _ rfl) ((lowb hbe29) _ rfl)
    have hk77 := ((hb4.grown hg73 nb).grown hg32 (rowne (ng lt76))).grown hg59 nb
    exact ⟨none, 0, hB72, (Nat.le_refl _), (Gv.Own.nil (iE .i64) 3 w58 (fun _ => False)), (fun _ h => by cases h), (fun _ h => by cases h), (fun _ h => by cases h), (fun h => by cases h), (fun h => by cases h), hk77, hb60, hd, hs, ok_pick [3, 5, 16] hok (by kernel_rfl)⟩
   ·rintro s65 r2 h2 hR2 a w66 ⟨a80, c81, hB78, hz79, ho82, hl83, ap84, ap85, ap86, ap87, hb88, hb89, hd, hs, hok⟩
    refine gv_in ?_ hd hs hok
    clear hd hs hok
    clear hb60 hg59 hl14 ho13 hbe11
    refine gv_seq <| gv_region <| gv_next (b := b57) (s := s_0) (pos := s65.2) (ty := 0) (by kernel_rfl) (by kernel_rfl) hb89 (fun hc90 => ?_) (fun hc90 => ?_)
    ·skip
     replace h2 := ite_t hc90 h2
     intro w91 hg92 hb93 hz94
     refine gv_pureN 1 [18] [(18, (.bool true))] (by kernel_rfl) ?_
     refine gv_nil <| gv_seq <| gv_cond (b := true) (by kernel_rfl) (fun hc => ?_) (fun hc => ?_)
     rotate_left; · cases hc
     clear hc
     refine gv_skip <| gv_block <| gv_seq <| gv_region <| gv_pureN 2 [7, 19] [(7, (.int .i32 (runeI s_0 s65.2)))] (by kernel_rfl) ?_
     refine gv_nil <| gv_region <| gv_pureN 3 [20, 21, 22] [(20, (.slice a80 (List.length s65.1) c81)), (22, (.int .i64 (IntKind.i64.wrap ((runeI s_0 s65.2)))))] (by kernel_rfl) ?_
     refine gv_new0 (fun b => .slice (some ⟨b, 0, none⟩) 1 1) #[(.int .i64 (IntKind.i64.wrap ((runeI s_0 s65.2))))] 3 (by kernel_rfl) (by kernel_rfl) ?_
     intro b95 w96 hg97 hb98 hbe99 hz100
     have ho101 : Gv.Own (iE .i64) 3 w96 (fun _ => False) (some ⟨b95, 0, none⟩) 1 ([(IntKind.i64.wrap ((runeI s_0 s65.2)))] : List Int) := Box.ownE hb98 ⟨[(.int .i64 (IntKind.i64.wrap ((runeI s_0 s65.2))))], [], rfl, rfl, rfl⟩ (show 1 ≤ maxLen by decide) (fun h => h)
     have hg106 := (grown_trans hg23 hg27)
     have hB107 := bg hB21 hg106 nb
     have hB108 := bg hB21 hg23 nb
     have hlo109 : w0.heap.size ≤ b25 := lob hbe29 hB108.size
     have hB110 := bg hB107 hg32 (rowlo hlo109)
     have hlo111 : w0.heap.size ≤ b57 := lob hbe61 hB110.size
     have hB112 := bg hB78 hg92 (rowlo hlo111)
     have hl102 : ∀ g, blk (some ⟨b95, 0, none⟩) = some g → w0.heap.size ≤ g := loo hbe99 hB112.size
     refine bindE h2 ?_; clear h2; intro l113 hx114 h2
     have hk121 := (ho82.grown hg92 (fun _ h => h.elim) (rdnn (rowne ap87))).grown hg97 (fun _ h => h.elim) nb
     refine gv_append (iE .i64) (t := 38) (ty := 38) (e := 3) (a := a80) (ax := (some ⟨b95, 0, none⟩)) (cap := c81) (cx := 1) (xs := s65.1) (ys := ([(IntKind.i64.wrap ((runeI s_0 s65.2)))] : List Int)) l113 (X := (fun _ => False)) (Y := (fun k => blk (some ⟨b95, 0, none⟩) = some k)) (by decide) rfl rfl (by kernel_rfl) (by kernel_rfl) Tryd.underlying38 info3 hk121 (ho101.rd (Y := fun k => blk (some ⟨b95, 0, none⟩) = some k) (fun _ h => h.elim) (fun g e => e)) hx114 (.inr fun _ _ _ _ _ h => h) (fun _ h => h.elim) ?_
     intro a115 c116 w117 hg118 ho119 hk120
     refine ⟨(fun e => by cases e), ?_⟩
     have hB123 := bg hB112 hg97 nb
     have hl122 : ∀ g, blk a115 = some g → w0.heap.size ≤ g := blk_step hk120 hl83 hB123.size
     have hg125 := (grown_trans hg9 hg23)
     have hk126 := hb4.grown hg125 nb
     have lt127 := ltl ((ltb hk126) _ rfl) ((lowb hbe29) _ rfl)
     have lt128 := ltl ((ltb hb33) _ rfl) ((lowb hbe61) _ rfl)
     have lt129 := ltt lt127 lt128
     have hk130 := (hb88.grown hg92 (rowne (ng lt129))).grown hg97 nb
     have ap124 : ∀ g, blk a115 = some g → ¬ (· = b1) g := blk_neX hk120 ap84 (ltb hk130)
     have ap131 : ¬ (fun k => blk a115 = some k) b1 := fun h => blk_rev hk120 (fun h => (ap86) h) (hk130.lt) h
     have hk133 := hb93.grown hg97 nb
     have ap132 : ∀ g, blk a115 = some g → ¬ (· = b57) g := blk_neX hk120 ap85 (ltA hk133)
     have ap134 : ¬ (fun k => blk a115 = some k) b57 := fun h => blk_rev hk120 (fun h => (ap87) h) (hk133.lt) h
     have hk136 := ho82.grown hg92 (fun _ h => h.elim) (rdnn (rowne ap87))
     have ap137 : ∀ g, blk a80 = some g → ¬ (fun k => blk (some ⟨b95, 0, none⟩) = some k) g := fun g e hx => nl ((lowo hbe99) _ hx) ((fun k (hk : blk a80 = some k) => hk136.lt k hk) g e)
     have ap135 : ∀ g, blk a115 = some g → ¬ (fun k => blk (some ⟨b95, 0, none⟩) = some k) g := blk_neX hk120 ap137 (fun k (hk : blk (some ⟨b95, 0, none⟩) = some k) => ho101.lt k hk)
     have ap139 : ∀ g, blk (some ⟨b95, 0, none⟩) = some g → ¬ (fun k => blk a80 = some k) g := fun g e hx => nl ((lowo hbe99) g e) ((fun k (hk : blk a80 = some k) => hk136.lt k hk) _ hx)
     have ap138 : ∀ g, blk (some ⟨b95, 0, none⟩) = some g → ¬ (fun k => blk a115 = some k) g := fun g e h => blk_rev hk120 (fun h => ((ap139) g e) h) (ho101.lt g e) h
     refine gv_pureN 1 [5] [(5, (.slice a115 (List.length l113) c116))] (by kernel_rfl) ?_
     refine gv_nil <| gv_blk ?_
     have e := sj h2; subst e
     refine gv_goal fun a hd hs hok => ?_
     have hB140 := bg hB123 hg118 hl83
     have hz141 := (nt (nt (nt hz79 hg92.size) hg97.size) hg118.size)
     have hk142 := hk130.grown hg118 ap84
     have hk143 := hk133.grown hg118 ap85
     exact ⟨(l113, (s65.2 + runeN s_0 s65.2)), rfl, a115, c116, hB140, hz141, ho119, hl122, ap124, ap132, ap131, ap134, hk142, hk143, hd, hs, ok_pick [3, 5, 16] hok (by kernel_rfl)⟩
    ·skip
     replace h2 := ite_f hc90 h2
     refine gv_pureN 1 [18] [(18, (.bool false))] (by kernel_rfl) ?_
     refine gv_nil <| gv_seq <| gv_cond (b := false) (by kernel_rfl) (fun hc => ?_) (fun hc => ?_)
     ·cases hc
     clear hc
     refine gv_cexit <| gv_exit rfl ?_
     have e := sj h2; subst e
     replace h1 := congrArg some (hR2 _ rfl)
     have e := sj h1; subst e
     refine gv_goal fun a hd hs hok => ?_
     have hz144 := hz79
     exact ⟨a80, c81, hB78, hz144, ho82, hl83, ap84, ap86, hb88, hd, hs, ok_pick [3, 5] hok (by kernel_rfl)⟩
  ·rintro a w64 ⟨a147, c148, hB145, hz146, ho149, hl150, ap151, ap152, hb153, hd, hs, hok⟩
   refine gv_in ?_ hd hs hok
   clear hd hs hok
   clear hz146 hbe61 hb60 hg59 hb33 hg32 hbe29 hg27 hg23 hB21 hl14 ho13 hbe11 hg9 hb4
   refine gv_seq <| gv_region <| gv_pureN 3 [2, 25, 26] [(2, (.slice a147 (List.length j63) c148)), (26, (.agg #[(.int .i64 0), (.int .i64 0)]))] (by kernel_rfl) ?_
   refine gv_store0 24 0 (.agg #[(.int .i64 0), (.int .i64 0)]) #[(.int .i64 0), (.int .i64 0)] hb153 (by kernel_rfl) (by kernel_rfl) (by kernel_rfl) ?_
   intro w154 hg155 hb156 hz157
   refine gv_nil <| gv_cret ?_
   have e := sj h0; subst e
   refine gv_ret (gv_done [(.slice a147 (List.length j63) c148), (.agg #[(.int .i64 0), (.int .i64 0)])] rfl ⟨(by kernel_rfl), ⟨⟨b1, 0, none⟩, (by kernel_rfl), run_loadVar_row w154 b1 _ 24 _ _ _ hb156 Tryd.underlying24 rfl (by kernel_rfl)⟩, trivial⟩ ?_)
   have hlo158 : w0.heap.size ≤ b1 := lob hbe5 hB0.size
   have hB159 := bg hB145 hg155 (rowlo hlo158)
   have hk160 := ho149.grown hg155 (fun _ h => h.elim) (rdnn (rowne ap152))
   exact ⟨grown_of_below hB159, a147, c148, rfl, hk160, hl150⟩

theorem textstr_Length_ok (fuel : Nat) (s_0 : ByteArray) (w0 : World) (X0 : Nat → Prop) (hX0 : ∀ k, X0 k → k < w0.heap.size) (hG1 : Rd bE w0 X0 (some ⟨1, 0, none⟩) 256 utf8First) (hG2 : Rd (prE (iE .u8) (iE .u8)) w0 X0 (some ⟨2, 0, none⟩) 16 utf8Acc) (r0 : (Int × (Int × Int))) (h0 : textstr_Length fuel s_0 = some r0) :
    Calls Tryd.prog 17 ([(.string s_0)] : List Value).toArray w0 (Ret fun v w' => w0.grownBy w' none ∧ v = tup [(.int .i64 r0.1), (.agg #[(.int .i64 r0.2.1), (.int .i64 r0.2.2)])]) := by
 have hB0 : Below w0.heap.size w0 w0 := Below.refl _ _
 unfold textstr_Length at h0
 refine calls_run Tryd.func17 rfl Tryd.ntmps17 (by kernel_rfl) ?_
 refine gv_sub [0] (σ' := [(0, (.string s_0))]) (by kernel_rfl) ?_
 refine gv_seq <| gv_region <| gv_pureN 1 [2] [] (by kernel_rfl) ?_
 refine gv_new0 (fun b => .pointer (some ⟨b, 0, none⟩)) #[(.int .i64 0), (.int .i64 0)] 24 (by kernel_rfl) (by kernel_rfl) ?_
 intro b1 w2 hg3 hb4 hbe5 hz6
 refine gv_nil <| gv_seq <| gv_region <| gv_pureN 1 [7] [(7, (.string s_0))] (by kernel_rfl) ?_
 refine bindE h0 ?_; clear h0; intro r7 hr8 h0
 have hB9 := bg hB0 hg3 nb
 refine gv_call0 (by kernel_rfl) rfl (by kernel_rfl) enters61 (textstr_Points_ok fuel s_0 w2 (fun k => X0 k ∨ X0 k) (fun k hk => (hk).elim (fun h => (fun k (hk : X0 k) => ltl (hX0 k hk) hB9.size) k h) (fun h => (fun k (hk : X0 k) => ltl (hX0 k hk) hB9.size) k h)) ((hG1.below hB9 hX0).wide (fun k hk => (.inl hk))) ((hG2.below hB9 hX0).wide (fun k hk => (.inr hk))) r7 hr8) ?_
 rintro v12 w10 ⟨hg11, a13, c14, rfl, ho15, hl16⟩
 have hl17 : ∀ g, blk a13 = some g → w0.heap.size ≤ g := fun g e => Nat.le_trans hB9.size (hl16 g e)
 refine gv_pureN 3 [6, 9, 10] [(9, (.slice a13 (List.length r7.1) c14)), (10, (.agg #[(.int .i64 r7.2.1), (.int .i64 r7.2.2)]))] (by kernel_rfl) ?_
 refine gv_new0 (fun b => .pointer (some ⟨b, 0, none⟩)) #[(.int .i64 0), (.int .i64 0)] 24 (by kernel_rfl) (by kernel_rfl) ?_
 intro b18 w19 hg20 hb21 hbe22 hz23
 refine gv_pureN 1 [4] [(4, (.slice a13 (List.length r7.1) c14))] (by kernel_rfl) ?_
 refine gv_store0 24 0 (.agg #[(.int .i64 r7.2.1), (.int .i64 r7.2.2)]) #[(.int .i64 r7.2.1), (.int .i64 r7.2.2)] hb21 (by kernel_rfl) (by kernel_rfl) (by kernel_rfl) ?_
 intro w24 hg25 hb26 hz27
 refine gv_nil <| gv_seq <| gv_drawA (by kernel_rfl) ?_
 intro w28 hg29
 refine gv_pre [0, 1, 3] (bA 5 [0, 1, 3]) 2 (by kernel_rfl) (by kernel_rfl) ?_
 refine gv_pureN 3 [2, 11, 12] [(2, (.int .i64 ((List.length r7.1 : Nat) : Int)))] (by kernel_rfl) ?_
 refine gv_nil <| gv_goA ?_
 refine gv_stage (Cls w28 []) [0, 1, 2, 3] [(2, some true)] (bA 5 [0, 1, 2, 3]) 1 (by kernel_rfl) (by kernel_rfl) (Cls.refl _ _) ?_
 have hC30 := Cls.refl w28 []
 have hk31 := hb26.grown hg29 nb
 refine gv_loadBox (t := 24) (b := b18) (t' := 24) (fr := (0, 0)) #[(.int .i64 r7.2.1), (.int .i64 r7.2.2)] [] (fun e => by cases e) rfl rfl rfl (by kernel_rfl) (by kernel_rfl) (by kernel_rfl) (by kernel_rfl) (inw1 fun w' hC' => (hC'.box hk31 nm_nil)) rfl ?_
 refine gv_nil <| gv_goA ?_
 refine gv_stage (fun _ => True) [0, 1, 2, 3, 4] [(4, some false)] (bA 5 [0, 1, 2, 3, 4]) 0 (by kernel_rfl) (by kernel_rfl) trivial ?_
 have hg36 := (grown_trans hg11 hg20)
 have hk37 := hb4.grown hg11 nb
 have lt38 := ltl ((ltb hk37) _ rfl) ((lowb hbe22) _ rfl)
 have hk39 := ((hb4.grown hg36 nb).grown hg25 (rowne (ng lt38))).grown hg29 nb
 refine gv_store (t := 24) (b := b1) (off := 0) (v := (.agg #[(.int .i64 r7.2.1), (.int .i64 r7.2.2)])) (t' := 24) (cs := #[(.int .i64 0), (.int .i64 0)]) #[(.int .i64 r7.2.1), (.int .i64 r7.2.2)] (by decide) rfl rfl (by kernel_rfl) (by kernel_rfl) (by kernel_rfl) (by intro u hu; simp [Value.cells] at hu; rcases hu with rfl | rfl <;> rfl) (show 0 + 2 ≤ 2 by decide) (by rfl) hk39 ?_
 intro w32 hg33 hb34 hz35
 refine ⟨(fun _ => trivial), ?_⟩
 refine gv_nil <| gv_goA ?_
 refine gv_stageE (by kernel_rfl) ?_
 refine gv_cret ?_
 have e := sj h0; subst e
 refine gv_ret (gv_done [(.int .i64 ((List.length r7.1 : Nat) : Int)), (.agg #[(.int .i64 r7.2.1), (.int .i64 r7.2.2)])] rfl ⟨(by kernel_rfl), ⟨⟨b1, 0, none⟩, (by kernel_rfl), run_loadVar_row w32 b1 _ 24 _ _ _ hb34 Tryd.underlying24 rfl (by kernel_rfl)⟩, trivial⟩ ?_)
 have hB40 := bg hB9 hg36 nb
 have hB41 := bg hB9 hg11 nb
 have hlo42 : w0.heap.size ≤ b18 := lob hbe22 hB41.size
 have hB43 := bg hB40 hg25 (rowlo hlo42)
 have hB44 := bg hB43 hg29 nb
 have hlo45 : w0.heap.size ≤ b1 := lob hbe5 hB0.size
 have hB46 := bg hB44 hg33 (rowlo hlo45)
 exact ⟨grown_of_below hB46, rfl⟩

theorem law4_TextstrLinesKept_ok (fuel : Nat) (s_0 : ByteArray) (width_1 : Int) (w0 : World) (X0 : Nat → Prop) (hX0 : ∀ k, X0 k → k < w0.heap.size) {gmx : Int} (hG0 : Rd (iE .i64) w0 X0 (some ⟨0, 0, none⟩) 1 [gmx]) (hG1 : Rd bE w0 X0 (some ⟨1, 0, none⟩) 256 utf8First) (hG2 : Rd (prE (iE .u8) (iE .u8)) w0 X0 (some ⟨2, 0, none⟩) 16 utf8Acc) (r0 : Bool) (h0 : law4_TextstrLinesKept fuel s_0 width_1 = some r0) :
    Calls Tryd.prog 3 ([(.string s_0), (.int .i64 width_1)] : List Value).toArray w0 (Ret fun v w' => w0.grownBy w' none ∧ v = tup [(.bool r0)]) := by
 have hB0 : Below w0.heap.size w0 w0 := Below.refl _ _
 unfold law4_TextstrLinesKept at h0
 refine calls_run Tryd.func3 rfl Tryd.ntmps3 (by kernel_rfl) ?_
 refine gv_sub [0, 1] (σ' := [(0, (.string s_0)), (1, (.int .i64 width_1))]) (by kernel_rfl) ?_
 refine gv_seq <| gv_region <| gv_pureN 1 [4] [] (by kernel_rfl) ?_
 refine gv_nil <| gv_seq <| gv_region <| gv_pureN 2 [26, 27] [(26, (.string s_0)), (27, (.int .i64 width_1))] (by kernel_rfl) ?_
 refine bindE h0 ?_; clear h0; intro r1 hr2 h0
 refine gv_call0 (by kernel_rfl) rfl (by kernel_rfl) enters14 (textstr_Wrap_ok fuel s_0 width_1 w0 (fun k => X0 k ∨ X0 k) (fun k hk => (hk).elim (fun h => (fun k (hk : X0 k) => ltl (hX0 k hk) hB0.size) k h) (fun h => (fun k (hk : X0 k) => ltl (hX0 k hk) hB0.size) k h)) ((hG1.below hB0 hX0).wide (fun k hk => (.inl hk))) ((hG2.below hB0 hX0).wide (fun k hk => (.inr hk))) r1 hr2) ?_
 rintro v5 w3 ⟨hg4, a6, c7, X9, rfl, ho8, hx10⟩
 have hx11 : ∀ k, X9 k → k < w3.heap.size := fun k hk => (hx10 k hk).1
 have hx12 : ∀ k, X9 k → X0 k ∨ w0.heap.size ≤ k := fun k hk => (hx10 k hk).2.elim (fun h => (h).elim (fun h => (fun k (hk : X0 k) => Or.inl hk) k h) (fun h => (fun k (hk : X0 k) => Or.inl hk) k h)) (fun h => .inr (Nat.le_trans hB0.size h))
 refine gv_pureN 3 [25, 29, 30] [(29, (.slice a6 (List.length r1.1) c7)), (30, (.agg #[(.int .i64 r1.2.1), (.int .i64 r1.2.2)]))] (by kernel_rfl) ?_
 refine gv_new0 (fun b => .pointer (some ⟨b, 0, none⟩)) #[(.int .i64 0), (.int .i64 0)] 24 (by kernel_rfl) (by kernel_rfl) ?_
 intro b13 w14 hg15 hb16 hbe17 hz18
 refine gv_pureN 1 [5] [(5, (.slice a6 (List.length r1.1) c7))] (by kernel_rfl) ?_
 refine gv_store0 24 0 (.agg #[(.int .i64 r1.2.1), (.int .i64 r1.2.2)]) #[(.int .i64 r1.2.1), (.int .i64 r1.2.2)] hb16 (by kernel_rfl) (by kernel_rfl) (by kernel_rfl) ?_
 intro w19 hg20 hb21 hz22
 refine gv_nil <| gv_seq <| gv_seq <| gv_region <| bindE h0 ?_; clear h0; intro r23 hr24 h0
 have hg25 := (grown_trans hg4 hg15)
 have hB26 := bg hB0 hg25 nb
 have hB27 := bg hB0 hg4 nb
 have hlo28 : w0.heap.size ≤ b13 := lob hbe17 hB27.size
 have hB29 := bg hB26 hg20 (rowlo hlo28)
 refine gv_call0 (by kernel_rfl) rfl (by kernel_rfl) enters15 (law4_letters_ok fuel  w19 (fun k => X0 k ∨ X0 k ∨ X0 k) (fun k hk => (hk).elim (fun h => (fun k (hk : X0 k) => ltl (hX0 k hk) hB29.size) k h) (fun h => (h).elim (fun h => (fun k (hk : X0 k) => ltl (hX0 k hk) hB29.size) k h) (fun h => (fun k (hk : X0 k) => ltl (hX0 k hk) hB29.size) k h))) ((hG0.below hB29 hX0).wide (fun k hk => (.inl hk))) ((hG1.below hB29 hX0).wide (fun k hk => (.inr (.inl hk)))) ((hG2.below hB29 hX0).wide (fun k hk => (.inr (.inr hk)))) r23 hr24) ?_
 rintro v32 w30 ⟨hg31, rfl⟩
 refine gv_pureN 1 [32] [(32, (.bool (!r23)))] (by kernel_rfl) ?_
 refine gv_nil <| gv_cond (b := (!r23)) (by kernel_rfl) (fun hc33 => ?_) (fun hc33 => ?_)
 ·replace h0 := ite_t hc33 h0
  refine gv_seq <| gv_region <| gv_pureN 1 [4] [(4, (.bool false))] (by kernel_rfl) ?_
  refine gv_nil <| gv_cret ?_
  have e := sj h0; subst e
  refine gv_ret (gv_done [(.bool false)] rfl ⟨(by kernel_rfl), trivial⟩ ?_)
  have hB34 := bg hB29 hg31 nb
  exact ⟨grown_of_below hB34, rfl⟩
 ·replace h0 := ite_f hc33 h0
  refine gv_skip <| gv_seq <| gv_seq <| gv_region <| gv_pureN 1 [33] [(33, (bp b13))] (by kernel_rfl) ?_
  have hk35 := hb21.grown hg31 nb
  refine gv_load (t := 3) (A := ⟨b13, 0, none⟩) (.int .i64 r1.2.1) [] (fun e => by cases e) rfl rfl rfl (by kernel_rfl) (by kernel_rfl) (by kernel_rfl) (inw0 (hk35.cell 0 rfl)) rfl ?_
  refine gv_pureN 1 [35] [(35, (.bool (r1.2.1 != 0)))] (by kernel_rfl) ?_
  refine gv_nil <| gv_cond (b := (r1.2.1 != 0)) (by kernel_rfl) (fun hc36 => ?_) (fun hc36 => ?_)
  ·replace h0 := ite_t hc36 h0
   refine gv_seq <| gv_region <| gv_pureN 4 [4, 36, 37, 38] [(4, (.bool (((List.length r1.1 : Nat) : Int) == 0)))] (by kernel_rfl) ?_
   refine gv_nil <| gv_cret ?_
   have e := sj h0; subst e
   refine gv_ret (gv_done [(.bool (((List.length r1.1 : Nat) : Int) == 0))] rfl ⟨(by kernel_rfl), trivial⟩ ?_)
   have hB37 := bg hB29 hg31 nb
   exact ⟨grown_of_below hB37, rfl⟩
  ·replace h0 := ite_f hc36 h0
   refine gv_skip <| gv_seq <| gv_region <| gv_pureN 1 [40] [(40, (.string s_0))] (by kernel_rfl) ?_
   refine bindE h0 ?_; clear h0; intro r38 hr39 h0
   have hB40 := bg hB29 hg31 nb
   refine gv_call0 (by kernel_rfl) rfl (by kernel_rfl) enters16 (textstr_Words_ok fuel s_0 w30 (fun k => X0 k ∨ X0 k) (fun k hk => (hk).elim (fun h => (fun k (hk : X0 k) => ltl (hX0 k hk) hB40.size) k h) (fun h => (fun k (hk : X0 k) => ltl (hX0 k hk) hB40.size) k h)) ((hG1.below hB40 hX0).wide (fun k hk => (.inl hk))) ((hG2.below hB40 hX0).wide (fun k hk => (.inr hk))) r38 hr39) ?_
   rintro v43 w41 ⟨hg42, a44, c45, X47, rfl, ho46, hx48⟩
   have hx49 : ∀ k, X47 k → k < w41.heap.size := fun k hk => (hx48 k hk).1
   have hx50 : ∀ k, X47 k → X0 k ∨ w0.heap.size ≤ k := fun k hk => (hx48 k hk).2.elim (fun h => (h).elim (fun h => (fun k (hk : X0 k) => Or.inl hk) k h) (fun h => (fun k (hk : X0 k) => Or.inl hk) k h)) (fun h => .inr (Nat.le_trans hB40.size h))
   refine gv_pureN 3 [39, 42, 43] [(42, (.slice a44 (List.length r38.1) c45)), (43, (.agg #[(.int .i64 r38.2.1), (.int .i64 r38.2.2)]))] (by kernel_rfl) ?_
   refine gv_sub [1, 5, 42, 43] (σ' := [(1, (.int .i64 width_1)), (5, (.slice a6 (List.length r1.1) c7)), (42, (.slice a44 (List.length r38.1) c45)), (43, (.agg #[(.int .i64 r38.2.1), (.int .i64 r38.2.2)]))]) (by kernel_rfl) ?_
   refine gv_new0 (fun b => .pointer (some ⟨b, 0, none⟩)) #[(.int .i64 0), (.int .i64 0)] 24 (by kernel_rfl) (by kernel_rfl) ?_
   intro b51 w52 hg53 hb54 hbe55 hz56
   refine gv_pureN 1 [7] [(7, (.slice a44 (List.length r38.1) c45))] (by kernel_rfl) ?_
   refine gv_store0 24 0 (.agg #[(.int .i64 r38.2.1), (.int .i64 r38.2.2)]) #[(.int .i64 r38.2.1), (.int .i64 r38.2.2)] hb54 (by kernel_rfl) (by kernel_rfl) (by kernel_rfl) ?_
   intro w57 hg58 hb59 hz60
   refine gv_nil <| gv_seq <| gv_seq <| gv_region <| gv_pureN 1 [44] [(44, (bp b51))] (by kernel_rfl) ?_
   refine gv_load (t := 3) (A := ⟨b51, 0, none⟩) (.int .i64 r38.2.1) [] (fun e => by cases e) rfl rfl rfl (by kernel_rfl) (by kernel_rfl) (by kernel_rfl) (inw0 (hb59.cell 0 rfl)) rfl ?_
   refine gv_pureN 1 [46] [(46, (.bool (r38.2.1 != 0)))] (by kernel_rfl) ?_
   refine gv_nil <| gv_cond (b := (r38.2.1 != 0)) (by kernel_rfl) (fun hc61 => ?_) (fun hc61 => ?_)
   ·replace h0 := ite_t hc61 h0
    refine gv_seq <| gv_region <| gv_pureN 1 [4] [(4, (.bool false))] (by kernel_rfl) ?_
    refine gv_nil <| gv_cret ?_
    have e := sj h0; subst e
    refine gv_ret (gv_done [(.bool false)] rfl ⟨(by kernel_rfl), trivial⟩ ?_)
    have hg62 := (grown_trans hg42 hg53)
    have hB63 := bg hB40 hg62 nb
    have hB64 := bg hB40 hg42 nb
    have hlo65 : w0.heap.size ≤ b51 := lob hbe55 hB64.size
    have hB66 := bg hB63 hg58 (rowlo hlo65)
    exact ⟨grown_of_below hB66, rfl⟩
   ·replace h0 := ite_f hc61 h0
    refine gv_skip <| gv_seq <| gv_region <| gv_pureN 1 [9] [(9, (.bool false))] (by kernel_rfl) ?_
    refine gv_nil <| gv_seq <| gv_seq <| gv_region <| gv_pureN 3 [47, 48, 49] [(47, (.slice a44 (List.length r38.1) c45)), (48, (.int .i64 ((List.length r38.1 : Nat) : Int))), (49, (.int .i64 0))] (by kernel_rfl) ?_
    refine gv_nil <| bindE h0 ?_; clear h0; intro j67 h1 h0
    refine gv_cut_code (J := fun a w68 => Below w0.heap.size w0 w68 ∧ w57.heap.size ≤ w68.heap.size ∧ Rd sE w68 X9 a6 c7 r1.1 ∧ Rd sE w68 X47 a44 c45 r38.1 ∧ a.defers = [] ∧ a.tmps.size = 153 ∧ Ok [(1, (.int .i64 width_1)), (5, (.slice a6 (List.length r1.1) c7)), (7, (.slice a44 (List.length r38.1) c45)), (9, (.bool j67))] a.tmps) ?_ ?_
    ·skip
     refine gv_block <| gv_loop (A := fun (s69 : (Bool × Int)) a w70 => Below w0.heap.size w0 w70 ∧ w57.heap.size ≤ w70.heap.size ∧ Rd sE w70 X9 a6 c7 r1.1 ∧ Rd sE w70 X47 a44 c45 r38.1 ∧ a.defers = [] ∧ a.tmps.size = 153 ∧ Ok [(1, (.int .i64 width_1)), (5, (.slice a6 (List.length r1.1) c7)), (7, (.slice a44 (List.length r38.1) c45)), (9, (.bool s69.1)), (47, (.slice a44 (List.length r38.1) c45)), (48, (.int .i64 ((List.length r38.1 : Nat) : Int))), (49, (.int .i64 s69.2))] a.tmps) h1 ?_ ?_
     ·intro a hd hs hok
      have hg71 := (grown_trans hg42 hg53)
      have hB72 := bg hB40 hg71 nb
      have hB73 := bg hB40 hg42 nb
      have hlo74 : w0.heap.size ≤ b51 := lob hbe55 hB73.size
      have hB75 := bg hB72 hg58 (rowlo hlo74)
      have ap76 : ¬ X9 b13 := fun hx => nl ((lowb hbe17) _ rfl) (hx11 _ hx)
      have hx77 := ltx hx11 hg15.size
      have hg78 := (grown_trans hg31 hg71)
      have hx79 := ltx hx77 hg20.size
      have hg80 := (grown_trans hg31 hg42)
      have hx81 := ltx hx79 hg80.size
      have ap82 : ¬ X9 b51 := fun hx => nl ((lowb hbe55) _ rfl) (hx81 _ hx)
      have hx83 := ltx hx81 hg53.size
      have hk84 := (((ho8.grown hg15 hx11 nb).grown hg20 hx77 (rowne ap76)).grown hg78 hx79 nb).grown hg58 hx83 (rowne ap82)
      have ap85 : ¬ X47 b51 := fun hx => nl ((lowb hbe55) _ rfl) (hx49 _ hx)
      have hx86 := ltx hx49 hg53.size
      have hk87 := (ho46.grown hg53 hx49 nb).grown hg58 hx86 (rowne ap85)
      exact ⟨hB75, (Nat.le_refl _), hk84, hk87, hd, hs, ok_pick [1, 5, 7, 9, 47, 48, 49] hok (by kernel_rfl)⟩
     ·rintro s69 r2 h2 hR2 a w70 ⟨hB88, hz89, hk90, hk91, hd, hs, hok⟩
      refine gv_in ?_ hd hs hok
      clear hd hs hok
      clear hc61 hz60 hb59 hz56 hbe55 hb54 hx48 ho46 hB40 hr39 hc36 hk35 hc33 hB29 hlo28 hB27 hB26 hg25 hr24 hz22 hb21 hz18 hbe17 hb16 hx10 ho8 hg4 hr2
      refine gv_seq <| gv_region <| gv_pureN 1 [50] [(50, (.bool (decide (s69.2 < ((List.length r38.1 : Nat) : Int)))))] (by kernel_rfl) ?_
      refine gv_nil <| gv_seq <| gv_cond (b := (decide (s69.2 < ((List.length r38.1 : Nat) : Int)))) (by kernel_rfl) (fun hc92 => ?_) (fun hc92 => ?_)
      ·replace h2 := ite_t hc92 h2
       refine gv_skip <| gv_seq <| gv_block <| gv_seq <| gv_region <| bindE h2 ?_; clear h2; intro x93 hx94 h2
       refine gv_idxaddr (t := 22) (e := 9) (a := a44) (len := List.length r38.1) (cap := c45) (kk := .i64) (i := s69.2) (sz := 1) [] (fun e => by cases e) rfl rfl rfl (by kernel_rfl) (by kernel_rfl) Tryd.underlying22 (by kernel_rfl) (hk91.has hx94) (idx_spec hx94).1 (idx_spec hx94).2.1 rfl ?_
       refine gv_load (t := 9) (A := (elemAddr a44 ((s69.2 : Int).toNat * 1))) (.string x93) [] (fun e => by cases e) rfl rfl rfl (by kernel_rfl) (by kernel_rfl) (by kernel_rfl) (inw0 (hk91.cell hx94)) rfl ?_
       refine gv_pureN 1 [11] [(11, (.string x93))] (by kernel_rfl) ?_
       refine gv_nil <| gv_seq <| gv_region <| gv_pureN 1 [54] [(54, (.string x93))] (by kernel_rfl) ?_
       refine bindE h2 ?_; clear h2; intro r95 hr96 h2
       refine gv_call0 (by kernel_rfl) rfl (by kernel_rfl) enters17 (textstr_Length_ok fuel x93 w70 (fun k => X0 k ∨ X0 k) (fun k hk => (hk).elim (fun h => (fun k (hk : X0 k) => ltl (hX0 k hk) hB88.size) k h) (fun h => (fun k (hk : X0 k) => ltl (hX0 k hk) hB88.size) k h)) ((hG1.below hB88 hX0).wide (fun k hk => (.inl hk))) ((hG2.below hB88 hX0).wide (fun k hk => (.inr hk))) r95 hr96) ?_
       rintro v99 w97 ⟨hg98, rfl⟩
       have hz100 := (nt hz89 hg98.size)
       refine gv_pureN 3 [53, 56, 57] [(56, (.int .i64 r95.1)), (57, (.agg #[(.int .i64 r95.2.1), (.int .i64 r95.2.2)]))] (by kernel_rfl) ?_
       refine gv_new0 (fun b => .pointer (some ⟨b, 0, none⟩)) #[(.int .i64 0), (.int .i64 0)] 24 (by kernel_rfl) (by kernel_rfl) ?_
       intro b101 w102 hg103 hb104 hbe105 hz106
       refine gv_pureN 1 [12] [(12, (.int .i64 r95.1))] (by kernel_rfl) ?_
       refine gv_store0 24 0 (.agg #[(.int .i64 r95.2.1), (.int .i64 r95.2.2)]) #[(.int .i64 r95.2.1), (.int .i64 r95.2.2)] hb104 (by kernel_rfl) (by kernel_rfl) (by kernel_rfl) ?_
       intro w107 hg108 hb109 hz110
       refine gv_nil <| gv_region <| bindE h2 ?_; clear h2; intro j111 h3 h2
       refine gv_cut_ops (J := fun a w112 => Below w0.heap.size w0 w112 ∧ w107.heap.size ≤ w112.heap.size ∧ Rd sE w112 X9 a6 c7 r1.1 ∧ Rd sE w112 X47 a44 c45 r38.1 ∧ a.defers = [] ∧ a.tmps.size = 153 ∧ Ok [(1, (.int .i64 width_1)), (5, (.slice a6 (List.length r1.1) c7)), (7, (.slice a44 (List.length r38.1) c45)), (9, (.bool j111)), (47, (.slice a44 (List.length r38.1) c45)), (48, (.int .i64 ((List.length r38.1 : Nat) : Int))), (49, (.int .i64 s69.2))] a.tmps) ?_ ?_
       ·skip
        refine gv_pureN 2 [58, 59] [(59, (.bool s69.1))] (by kernel_rfl) ?_
        refine gv_split (s := 59) (g := s69.1) (by kernel_rfl) (fun hc113 => ?_) (fun hc113 => ?_)
        ·skip
         replace h3 := ite_t hc113 h3
         refine gv_pureN 10 [9, 60, 61, 62, 63, 64, 65, 66, 67, 68] [(9, (.bool true))] (by kernel_rfl) ?_
         refine gv_nil ?_
         have e := sj h3; subst e
         refine gv_goal fun a hd hs hok => ?_
         have hg114 := (grown_trans hg98 hg103)
         have hB115 := bg hB88 hg114 nb
         have hB116 := bg hB88 hg98 nb
         have hlo117 : w0.heap.size ≤ b101 := lob hbe105 hB116.size
         have hB118 := bg hB115 hg108 (rowlo hlo117)
         have hg119 := (grown_trans (grown_trans hg31 hg42) hg53)
         have hx120 := ltx (ltx (ltx (ltx hx11 hg15.size) hg20.size) hg119.size) hg58.size
         have hx121 := ltx (fun k hk => ltl (hx120 k hk) hz89) hg98.size
         have ap122 : ¬ X9 b101 := fun hx => nl ((lowb hbe105) _ rfl) (hx121 _ hx)
         have hx123 := ltx hx121 hg103.size
         have hk124 := (hk90.grown hg114 (fun k hk => ltl (hx120 k hk) hz89) nb).grown hg108 hx123 (rowne ap122)
         have hx125 := ltx (ltx hx49 hg53.size) hg58.size
         have hx126 := ltx (fun k hk => ltl (hx125 k hk) hz89) hg98.size
         have ap127 : ¬ X47 b101 := fun hx => nl ((lowb hbe105) _ rfl) (hx126 _ hx)
         have hx128 := ltx hx126 hg103.size
         have hk129 := (hk91.grown hg114 (fun k hk => ltl (hx125 k hk) hz89) nb).grown hg108 hx128 (rowne ap127)
         exact ⟨hB118, (Nat.le_refl _), hk124, hk129, hd, hs, ok_pick [1, 5, 7, 9, 47, 48, 49] hok (by kernel_rfl)⟩
        ·skip
         replace h3 := ite_f hc113 h3
         refine gv_pureN 5 [60, 61, 62, 63, 64] [(64, (.bool (decide (r95.1 > width_1))))] (by kernel_rfl) ?_
         refine gv_split (s := 64) (g := (decide (r95.1 > width_1))) (by kernel_rfl) (fun hc130 => ?_) (fun hc130 => ?_)
         ·skip
          replace h3 := ite_t hc130 h3
          refine gv_pureN 5 [9, 65, 66, 67, 68] [(9, (.bool true))] (by kernel_rfl) ?_
          refine gv_nil ?_
          have e := sj h3; subst e
          refine gv_goal fun a hd hs hok => ?_
          have hg131 := (grown_trans hg98 hg103)
          have hB132 := bg hB88 hg131 nb
          have hB133 := bg hB88 hg98 nb
          have hlo134 : w0.heap.size ≤ b101 := lob hbe105 hB133.size
          have hB135 := bg hB132 hg108 (rowlo hlo134)
          have hg136 := (grown_trans (grown_trans hg31 hg42) hg53)
          have hx137 := ltx (ltx (ltx (ltx hx11 hg15.size) hg20.size) hg136.size) hg58.size
          have hx138 := ltx (fun k hk => ltl (hx137 k hk) hz89) hg98.size
          have ap139 : ¬ X9 b101 := fun hx => nl ((lowb hbe105) _ rfl) (hx138 _ hx)
          have hx140 := ltx hx138 hg103.size
          have hk141 := (hk90.grown hg131 (fun k hk => ltl (hx137 k hk) hz89) nb).grown hg108 hx140 (rowne ap139)
          have hx142 := ltx (ltx hx49 hg53.size) hg58.size
          have hx143 := ltx (fun k hk => ltl (hx142 k hk) hz89) hg98.size
          have ap144 : ¬ X47 b101 := fun hx => nl ((lowb hbe105) _ rfl) (hx143 _ hx)
          have hx145 := ltx hx143 hg103.size
          have hk146 := (hk91.grown hg131 (fun k hk => ltl (hx142 k hk) hz89) nb).grown hg108 hx145 (rowne ap144)
          exact ⟨hB135, (Nat.le_refl _), hk141, hk146, hd, hs, ok_pick [1, 5, 7, 9, 47, 48, 49] hok (by kernel_rfl)⟩
         ·skip
          replace h3 := ite_f hc130 h3
          refine gv_pureN 1 [65] [(65, (bp b101))] (by kernel_rfl) ?_
          refine gv_load (t := 3) (A := ⟨b101, 0, none⟩) (.int .i64 r95.2.1) [] (fun e => by cases e) rfl rfl rfl (by kernel_rfl) (by kernel_rfl) (by kernel_rfl) (inw0 (hb109.cell 0 rfl)) rfl ?_
          refine gv_pureN 3 [9, 67, 68] [(9, (.bool (r95.2.1 != 0)))] (by kernel_rfl) ?_
          refine gv_sub [1, 5, 7, 9, 47, 48, 49] (σ' := [(1, (.int .i64 width_1)), (5, (.slice a6 (List.length r1.1) c7)), (7, (.slice a44 (List.length r38.1) c45)), (9, (.bool (r95.2.1 != 0))), (47, (.slice a44 (List.length r38.1) c45)), (48, (.int .i64 ((List.length r38.1 : Nat) : Int))), (49, (.int .i64 s69.2))]) (by kernel_rfl) ?_
          refine gv_nil ?_
          have e := sj h3; subst e
          refine gv_goal fun a hd hs hok => ?_
          have hg147 := (grown_trans hg98 hg103)
          have hB148 := bg hB88 hg147 nb
          have hB149 := bg hB88 hg98 nb
          have hlo150 : w0.heap.size ≤ b101 := lob hbe105 hB149.size
          have hB151 := bg hB148 hg108 (rowlo hlo150)
          have hg152 := (grown_trans (grown_trans hg31 hg42) hg53)
          have hx153 := ltx (ltx (ltx (ltx hx11 hg15.size) hg20.size) hg152.size) hg58.size
          have hx154 := ltx (fun k hk => ltl (hx153 k hk) hz89) hg98.size
          have ap155 : ¬ X9 b101 := fun hx => nl ((lowb hbe105) _ rfl) (hx154 _ hx)
          have hx156 := ltx hx154 hg103.size
          have hk157 := (hk90.grown hg147 (fun k hk => ltl (hx153 k hk) hz89) nb).grown hg108 hx156 (rowne ap155)
          have hx158 := ltx (ltx hx49 hg53.size) hg58.size
          have hx159 := ltx (fun k hk => ltl (hx158 k hk) hz89) hg98.size
          have ap160 : ¬ X47 b101 := fun hx => nl ((lowb hbe105) _ rfl) (hx159 _ hx)
          have hx161 := ltx hx159 hg103.size
          have hk162 := (hk91.grown hg147 (fun k hk => ltl (hx158 k hk) hz89) nb).grown hg108 hx161 (rowne ap160)
          exact ⟨hB151, (Nat.le_refl _), hk157, hk162, hd, hs, ok_pick [1, 5, 7, 9, 47, 48, 49] hok (by kernel_rfl)⟩
       ·rintro a w112 ⟨hB163, hz164, hk165, hk166, hd, hs, hok⟩
        refine gv_in ?_ hd hs hok
        clear hd hs hok
        have hz167 := (nt (nt (nt hz100 hg103.size) hg108.size) hz164)
        clear hz110 hb109 hz106 hbe105 hb104 hz100 hr96 hx94 hc92 hk91 hk90 hB88
        refine gv_blk <| gv_region <| gv_pureN 2 [49, 69] [(49, (.int .i64 (IntKind.i64.wrap (s69.2 + 1))))] (by kernel_rfl) ?_
        refine gv_nil ?_
        have e := sj h2; subst e
        refine gv_goal fun a hd hs hok => ?_
        have hz168 := hz167
        exact ⟨(j111, (IntKind.i64.wrap (s69.2 + 1))), rfl, hB163, hz168, hk165, hk166, hd, hs, ok_pick [1, 5, 7, 9, 47, 48, 49] hok (by kernel_rfl)⟩
      ·replace h2 := ite_f hc92 h2
       refine gv_cexit <| gv_exit rfl ?_
       have e := sj h2; subst e
       replace h1 := congrArg some (hR2 _ rfl)
       have e := sj h1; subst e
       refine gv_goal fun a hd hs hok => ?_
       have hz169 := hz89
       exact ⟨hB88, hz169, hk90, hk91, hd, hs, ok_pick [1, 5, 7, 9] hok (by kernel_rfl)⟩
    ·rintro a w68 ⟨hB170, hz171, hk172, hk173, hd, hs, hok⟩
     refine gv_in ?_ hd hs hok
     clear hd hs hok
     clear hc61 hz60 hb59 hz56 hbe55 hb54 hx48 ho46 hB40 hr39 hc36 hk35 hc33 hB29 hlo28 hB27 hB26 hg25 hr24 hz22 hb21 hz18 hbe17 hb16 hx10 ho8 hg4 hr2
     refine gv_seq <| gv_region <| gv_pureN 1 [14] [(14, (.slice none (List.length ([] : List ByteArray)) 0))] (by kernel_rfl) ?_
     refine gv_nil <| gv_seq <| gv_seq <| gv_region <| gv_pureN 3 [70, 71, 72] [(70, (.slice a6 (List.length r1.1) c7)), (71, (.int .i64 ((List.length r1.1 : Nat) : Int))), (72, (.int .i64 0))] (by kernel_rfl) ?_
     refine gv_nil <| bindE h0 ?_; clear h0; intro j174 h1 h0
     refine gv_cut_code (J := fun a w176 => ∃ s175 : (List ByteArray), j174 = .inl s175 ∧ ∃ (a14_0j : Option Addr) (c14_0j : Nat), Below w0.heap.size w0 w176 ∧ w68.heap.size ≤ w176.heap.size ∧ Gv.Own sE 9 w176 (fun _ => False) a14_0j c14_0j s175 ∧ (∀ g, blk a14_0j = some g → w0.heap.size ≤ g) ∧ (∀ g, blk a14_0j = some g → ¬ X47 g) ∧ Rd sE w176 X47 a44 c45 r38.1 ∧ a.defers = [] ∧ a.tmps.size = 153 ∧ Ok [(7, (.slice a44 (List.length r38.1) c45)), (9, (.bool j67)), (14, (.slice a14_0j (List.length s175) c14_0j))] a.tmps) ?_ ?_
     ·skip
      refine gv_block <| gv_loop (A := fun (s177 : ((List ByteArray) × Int)) a w178 => ∃ (a14_0j : Option Addr) (c14_0j : Nat), Below w0.heap.size w0 w178 ∧ w68.heap.size ≤ w178.heap.size ∧ Gv.Own sE 9 w178 (fun _ => False) a14_0j c14_0j s177.1 ∧ (∀ g, blk a14_0j = some g → w0.heap.size ≤ g) ∧ (∀ g, blk a14_0j = some g → ¬ X9 g) ∧ (∀ g, blk a14_0j = some g → ¬ X47 g) ∧ Rd sE w178 X9 a6 c7 r1.1 ∧ Rd sE w178 X47 a44 c45 r38.1 ∧ a.defers = [] ∧ a.tmps.size = 153 ∧ Ok [(1, (.int .i64 width_1)), (5, (.slice a6 (List.length r1.1) c7)), (7, (.slice a44 (List.length r38.1) c45)), (9, (.bool j67)), (14, (.slice a14_0j (List.length s177.1) c14_0j)), (70, (.slice a6 (List.length r1.1) c7)), (71, (.int .i64 ((List.length r1.1 : Nat) : Int))), (72, (.int .i64 s177.2))] a.tmps) h1 ?_ ?_
      ·intro a hd hs hok
       exact ⟨none, 0, hB170, (Nat.le_refl _), (Gv.Own.nil sE 9 w68 (fun _ => False)), (fun _ h => by cases h), (fun _ h => by cases h), (fun _ h => by cases h), hk172, hk173, hd, hs, ok_pick [1, 5, 7, 9, 14, 70, 71, 72] hok (by kernel_rfl)⟩
      ·rintro s177 r2 h2 hR2 a w178 ⟨a181, c182, hB179, hz180, ho183, hl184, ap185, ap186, hk187, hk188, hd, hs, hok⟩
       refine gv_in ?_ hd hs hok
       clear hd hs hok
       refine gv_seq <| gv_region <| gv_pureN 1 [73] [(73, (.bool (decide (s177.2 < ((List.length r1.1 : Nat) : Int)))))] (by kernel_rfl) ?_
       refine gv_nil <| gv_seq <| gv_cond (b := (decide (s177.2 < ((List.length r1.1 : Nat) : Int)))) (by kernel_rfl) (fun hc189 => ?_) (fun hc189 => ?_)
       ·replace h2 := ite_t hc189 h2
        refine gv_skip <| gv_seq <| gv_block <| gv_seq <| gv_region <| gv_pureN 1 [74] [(74, (.int .i64 s177.2))] (by kernel_rfl) ?_
        refine bindE h2 ?_; clear h2; intro x190 hx191 h2
        refine gv_idxaddr (t := 22) (e := 9) (a := a6) (len := List.length r1.1) (cap := c7) (kk := .i64) (i := s177.2) (sz := 1) [] (fun e => by cases e) rfl rfl rfl (by kernel_rfl) (by kernel_rfl) Tryd.underlying22 (by kernel_rfl) (hk187.has hx191) (idx_spec hx191).1 (idx_spec hx191).2.1 rfl ?_
        refine gv_load (t := 9) (A := (elemAddr a6 ((s177.2 : Int).toNat * 1))) (.string x190) [] (fun e => by cases e) rfl rfl rfl (by kernel_rfl) (by kernel_rfl) (by kernel_rfl) (inw0 (hk187.cell hx191)) rfl ?_
        refine gv_pureN 2 [15, 16] [(15, (.int .i64 s177.2)), (16, (.string x190))] (by kernel_rfl) ?_
        refine gv_nil <| gv_seq <| gv_region <| gv_pureN 1 [78] [(78, (.string x190))] (by kernel_rfl) ?_
        refine bindE h2 ?_; clear h2; intro r192 hr193 h2
        refine gv_call0 (by kernel_rfl) rfl (by kernel_rfl) enters17 (textstr_Length_ok fuel x190 w178 (fun k => X0 k ∨ X0 k) (fun k hk => (hk).elim (fun h => (fun k (hk : X0 k) => ltl (hX0 k hk) hB179.size) k h) (fun h => (fun k (hk : X0 k) => ltl (hX0 k hk) hB179.size) k h)) ((hG1.below hB179 hX0).wide (fun k hk => (.inl hk))) ((hG2.below hB179 hX0).wide (fun k hk => (.inr hk))) r192 hr193) ?_
        rintro v196 w194 ⟨hg195, rfl⟩
        refine gv_pureN 3 [77, 80, 81] [(80, (.int .i64 r192.1)), (81, (.agg #[(.int .i64 r192.2.1), (.int .i64 r192.2.2)]))] (by kernel_rfl) ?_
        refine gv_new0 (fun b => .pointer (some ⟨b, 0, none⟩)) #[(.int .i64 0), (.int .i64 0)] 24 (by kernel_rfl) (by kernel_rfl) ?_
        intro b197 w198 hg199 hb200 hbe201 hz202
        refine gv_pureN 1 [17] [(17, (.int .i64 r192.1))] (by kernel_rfl) ?_
        refine gv_store0 24 0 (.agg #[(.int .i64 r192.2.1), (.int .i64 r192.2.2)]) #[(.int .i64 r192.2.1), (.int .i64 r192.2.2)] hb200 (by kernel_rfl) (by kernel_rfl) (by kernel_rfl) ?_
        intro w203 hg204 hb205 hz206
        refine gv_nil <| gv_seq <| gv_region <| gv_pureN 1 [83] [(83, (.string x190))] (by kernel_rfl) ?_
        refine bindE h2 ?_; clear h2; intro r207 hr208 h2
        have hg209 := (grown_trans hg195 hg199)
        have hB210 := bg hB179 hg209 nb
        have hB211 := bg hB179 hg195 nb
        have hlo212 : w0.heap.size ≤ b197 := lob hbe201 hB211.size
        have hB213 := bg hB210 hg204 (rowlo hlo212)
        refine gv_call0 (by kernel_rfl) rfl (by kernel_rfl) enters16 (textstr_Words_ok fuel x190 w203 (fun k => X0 k ∨ X0 k) (fun k hk => (hk).elim (fun h => (fun k (hk : X0 k) => ltl (hX0 k hk) hB213.size) k h) (fun h => (fun k (hk : X0 k) => ltl (hX0 k hk) hB213.size) k h)) ((hG1.below hB213 hX0).wide (fun k hk => (.inl hk))) ((hG2.below hB213 hX0).wide (fun k hk => (.inr hk))) r207 hr208) ?_
        rintro v216 w214 ⟨hg215, a217, c218, X220, rfl, ho219, hx221⟩
        have hx222 : ∀ k, X220 k → k < w214.heap.size := fun k hk => (hx221 k hk).1
        have hx223 : ∀ k, X220 k → X0 k ∨ w0.heap.size ≤ k := fun k hk => (hx221 k hk).2.elim (fun h => (h).elim (fun h => (fun k (hk : X0 k) => Or.inl hk) k h) (fun h => (fun k (hk : X0 k) => Or.inl hk) k h)) (fun h => .inr (Nat.le_trans hB213.size h))
        refine gv_pureN 3 [82, 85, 86] [(85, (.slice a217 (List.length r207.1) c218)), (86, (.agg #[(.int .i64 r207.2.1), (.int .i64 r207.2.2)]))] (by kernel_rfl) ?_
        refine gv_sub [1, 5, 7, 9, 14, 15, 17, 18, 70, 71, 72, 85, 86] (σ' := [(1, (.int .i64 width_1)), (5, (.slice a6 (List.length r1.1) c7)), (7, (.slice a44 (List.length r38.1) c45)), (9, (.bool j67)), (14, (.slice a181 (List.length s177.1) c182)), (15, (.int .i64 s177.2)), (17, (.int .i64 r192.1)), (18, (bp b197)), (70, (.slice a6 (List.length r1.1) c7)), (71, (.int .i64 ((List.length r1.1 : Nat) : Int))), (72, (.int .i64 s177.2)), (85, (.slice a217 (List.length r207.1) c218)), (86, (.agg #[(.int .i64 r207.2.1), (.int .i64 r207.2.2)]))]) (by kernel_rfl) ?_
        refine gv_new0 (fun b => .pointer (some ⟨b, 0, none⟩)) #[(.int .i64 0), (.int .i64 0)] 24 (by kernel_rfl) (by kernel_rfl) ?_
        intro b224 w225 hg226 hb227 hbe228 hz229
        refine gv_pureN 1 [19] [(19, (.slice a217 (List.length r207.1) c218))] (by kernel_rfl) ?_
        refine gv_store0 24 0 (.agg #[(.int .i64 r207.2.1), (.int .i64 r207.2.2)]) #[(.int .i64 r207.2.1), (.int .i64 r207.2.2)] hb227 (by kernel_rfl) (by kernel_rfl) (by kernel_rfl) ?_
        intro w230 hg231 hb232 hz233
        have hz234 := (nt (nt (nt (nt (nt (nt hz180 hg195.size) hg199.size) hg204.size) hg215.size) hg226.size) hg231.size)
        clear hz233 hz229 hb227 hB211 hB210 hg209 hr208 hz206 hz202 hb200 hr193 hx191 hc189 hB179 hk173 hk172 hB170
        refine gv_nil <| gv_seq <| gv_seq <| gv_region <| bindE h2 ?_; clear h2; intro j235 h3 h2
        refine gv_cut_ops (J := fun a w236 => Below w0.heap.size w0 w236 ∧ w230.heap.size ≤ w236.heap.size ∧ Rd sE w236 X9 a6 c7 r1.1 ∧ Rd sE w236 X47 a44 c45 r38.1 ∧ Gv.Own sE 9 w236 (fun _ => False) a181 c182 s177.1 ∧ Rd sE w236 X220 a217 c218 r207.1 ∧ a.defers = [] ∧ a.tmps.size = 153 ∧ Ok [(1, (.int .i64 width_1)), (5, (.slice a6 (List.length r1.1) c7)), (7, (.slice a44 (List.length r38.1) c45)), (9, (.bool j67)), (14, (.slice a181 (List.length s177.1) c182)), (15, (.int .i64 s177.2)), (19, (.slice a217 (List.length r207.1) c218)), (70, (.slice a6 (List.length r1.1) c7)), (71, (.int .i64 ((List.length r1.1 : Nat) : Int))), (72, (.int .i64 s177.2)), (104, (.bool j235))] a.tmps) ?_ ?_
        ·skip
         refine gv_pureN 1 [87] [(87, (bp b197))] (by kernel_rfl) ?_
         have hg237 := (grown_trans hg215 hg226)
         have hk238 := hb205.grown hg215 nb
         have lt239 := ltl ((ltb hk238) _ rfl) ((lowb hbe228) _ rfl)
         have hk240 := (hb205.grown hg237 nb).grown hg231 (rowne (ng lt239))
         refine gv_load (t := 3) (A := ⟨b197, 0, none⟩) (.int .i64 r192.2.1) [] (fun e => by cases e) rfl rfl rfl (by kernel_rfl) (by kernel_rfl) (by kernel_rfl) (inw0 (hk240.cell 0 rfl)) rfl ?_
         refine gv_pureN 2 [89, 90] [(90, (.bool (r192.2.1 != 0)))] (by kernel_rfl) ?_
         refine gv_split (s := 90) (g := (r192.2.1 != 0)) (by kernel_rfl) (fun hc241 => ?_) (fun hc241 => ?_)
         ·skip
          replace h3 := ite_t hc241 h3
          refine gv_pureN 14 [91, 92, 93, 94, 95, 96, 97, 98, 99, 100, 101, 102, 103, 104] [(104, (.bool true))] (by kernel_rfl) ?_
          refine gv_nil ?_
          have e := sj h3; subst e
          refine gv_goal fun a hd hs hok => ?_
          have hB242 := bg hB213 hg237 nb
          have hB243 := bg hB213 hg215 nb
          have hlo244 : w0.heap.size ≤ b224 := lob hbe228 hB243.size
          have hB245 := bg hB242 hg231 (rowlo hlo244)
          have hg246 := (grown_trans hg195 hg199)
          have hg247 := (grown_trans (grown_trans hg31 hg42) hg53)
          have hx248 := ltx (ltx (ltx (ltx hx11 hg15.size) hg20.size) hg247.size) hg58.size
          have hx249 := ltx (fun k hk => ltl ((fun k hk => ltl (hx248 k hk) hz171) k hk) hz180) hg195.size
          have ap250 : ¬ X9 b197 := fun hx => nl ((lowb hbe201) _ rfl) (hx249 _ hx)
          have hx251 := ltx hx249 hg199.size
          have hx252 := ltx hx251 hg204.size
          have hx253 := ltx hx252 hg215.size
          have ap254 : ¬ X9 b224 := fun hx => nl ((lowb hbe228) _ rfl) (hx253 _ hx)
          have hx255 := ltx hx253 hg226.size
          have hk256 := (((hk187.grown hg246 (fun k hk => ltl ((fun k hk => ltl (hx248 k hk) hz171) k hk) hz180) nb).grown hg204 hx251 (rowne ap250)).grown hg237 hx252 nb).grown hg231 hx255 (rowne ap254)
          have hx257 := ltx (ltx hx49 hg53.size) hg58.size
          have hx258 := ltx (fun k hk => ltl ((fun k hk => ltl (hx257 k hk) hz171) k hk) hz180) hg195.size
          have ap259 : ¬ X47 b197 := fun hx => nl ((lowb hbe201) _ rfl) (hx258 _ hx)
          have hx260 := ltx hx258 hg199.size
          have hx261 := ltx hx260 hg204.size
          have hx262 := ltx hx261 hg215.size
          have ap263 : ¬ X47 b224 := fun hx => nl ((lowb hbe228) _ rfl) (hx262 _ hx)
          have hx264 := ltx hx262 hg226.size
          have hk265 := (((hk188.grown hg246 (fun k hk => ltl ((fun k hk => ltl (hx257 k hk) hz171) k hk) hz180) nb).grown hg204 hx260 (rowne ap259)).grown hg237 hx261 nb).grown hg231 hx264 (rowne ap263)
          have hk266 := ho183.grown hg195 (fun _ h => h.elim) nb
          have ap267 : ¬ (fun k => blk a181 = some k) b197 := fun hx => nl ((lowb hbe201) _ rfl) ((fun k (hk : blk a181 = some k) => hk266.lt k hk) _ hx)
          have hk268 := ((hk266.grown hg199 (fun _ h => h.elim) nb).grown hg204 (fun _ h => h.elim) (rdnn (rowne ap267))).grown hg215 (fun _ h => h.elim) nb
          have ap269 : ¬ (fun k => blk a181 = some k) b224 := fun hx => nl ((lowb hbe228) _ rfl) ((fun k (hk : blk a181 = some k) => hk268.lt k hk) _ hx)
          have hk270 := (((ho183.grown hg246 (fun _ h => h.elim) nb).grown hg204 (fun _ h => h.elim) (rdnn (rowne ap267))).grown hg237 (fun _ h => h.elim) nb).grown hg231 (fun _ h => h.elim) (rdnn (rowne ap269))
          have ap271 : ¬ X220 b224 := fun hx => nl ((lowb hbe228) _ rfl) (hx222 _ hx)
          have hx272 := ltx hx222 hg226.size
          have hk273 := (ho219.grown hg226 hx222 nb).grown hg231 hx272 (rowne ap271)
          exact ⟨hB245, (Nat.le_refl _), hk256, hk265, hk270, hk273, hd, hs, ok_pick [1, 5, 7, 9, 14, 15, 19, 70, 71, 72, 104] hok (by kernel_rfl)⟩
         ·skip
          replace h3 := ite_f hc241 h3
          refine gv_pureN 1 [91] [(91, (bp b224))] (by kernel_rfl) ?_
          refine gv_load (t := 3) (A := ⟨b224, 0, none⟩) (.int .i64 r207.2.1) [] (fun e => by cases e) rfl rfl rfl (by kernel_rfl) (by kernel_rfl) (by kernel_rfl) (inw0 (hb232.cell 0 rfl)) rfl ?_
          refine gv_pureN 3 [93, 94, 95] [(95, (.bool (r207.2.1 != 0)))] (by kernel_rfl) ?_
          refine gv_split (s := 95) (g := (r207.2.1 != 0)) (by kernel_rfl) (fun hc274 => ?_) (fun hc274 => ?_)
          ·skip
           replace h3 := ite_t hc274 h3
           refine gv_pureN 9 [96, 97, 98, 99, 100, 101, 102, 103, 104] [(104, (.bool true))] (by kernel_rfl) ?_
           refine gv_nil ?_
           have e := sj h3; subst e
           refine gv_goal fun a hd hs hok => ?_
           have hB275 := bg hB213 hg237 nb
           have hB276 := bg hB213 hg215 nb
           have hlo277 : w0.heap.size ≤ b224 := lob hbe228 hB276.size
           have hB278 := bg hB275 hg231 (rowlo hlo277)
           have hg279 := (grown_trans hg195 hg199)
           have hg280 := (grown_trans (grown_trans hg31 hg42) hg53)
           have hx281 := ltx (ltx (ltx (ltx hx11 hg15.size) hg20.size) hg280.size) hg58.size
           have hx282 := ltx (fun k hk => ltl ((fun k hk => ltl (hx281 k hk) hz171) k hk) hz180) hg195.size
           have ap283 : ¬ X9 b197 := fun hx => nl ((lowb hbe201) _ rfl) (hx282 _ hx)
           have hx284 := ltx hx282 hg199.size
           have hx285 := ltx hx284 hg204.size
           have hx286 := ltx hx285 hg215.size
           have ap287 : ¬ X9 b224 := fun hx => nl ((lowb hbe228) _ rfl) (hx286 _ hx)
           have hx288 := ltx hx286 hg226.size
           have hk289 := (((hk187.grown hg279 (fun k hk => ltl ((fun k hk => ltl (hx281 k hk) hz171) k hk) hz180) nb).grown hg204 hx284 (rowne ap283)).grown hg237 hx285 nb).grown hg231 hx288 (rowne ap287)
           have hx290 := ltx (ltx hx49 hg53.size) hg58.size
           have hx291 := ltx (fun k hk => ltl ((fun k hk => ltl (hx290 k hk) hz171) k hk) hz180) hg195.size
           have ap292 : ¬ X47 b197 := fun hx => nl ((lowb hbe201) _ rfl) (hx291 _ hx)
           have hx293 := ltx hx291 hg199.size
           have hx294 := ltx hx293 hg204.size
           have hx295 := ltx hx294 hg215.size
           have ap296 : ¬ X47 b224 := fun hx => nl ((lowb hbe228) _ rfl) (hx295 _ hx)
           have hx297 := ltx hx295 hg226.size
           have hk298 := (((hk188.grown hg279 (fun k hk => ltl ((fun k hk => ltl (hx290 k hk) hz171) k hk) hz180) nb).grown hg204 hx293 (rowne ap292)).grown hg237 hx294 nb).grown hg231 hx297 (rowne ap296)
           have hk299 := ho183.grown hg195 (fun _ h => h.elim) nb
           have ap300 : ¬ (fun k => blk a181 = some k) b197 := fun hx => nl ((lowb hbe201) _ rfl) ((fun k (hk : blk a181 = some k) => hk299.lt k hk) _ hx)
           have hk301 := ((hk299.grown hg199 (fun _ h => h.elim) nb).grown hg204 (fun _ h => h.elim) (rdnn (rowne ap300))).grown hg215 (fun _ h => h.elim) nb
           have ap302 : ¬ (fun k => blk a181 = some k) b224 := fun hx => nl ((lowb hbe228) _ rfl) ((fun k (hk : blk a181 = some k) => hk301.lt k hk) _ hx)
           have hk303 := (((ho183.grown hg279 (fun _ h => h.elim) nb).grown hg204 (fun _ h => h.elim) (rdnn (rowne ap300))).grown hg237 (fun _ h => h.elim) nb).grown hg231 (fun _ h => h.elim) (rdnn (rowne ap302))
           have ap304 : ¬ X220 b224 := fun hx => nl ((lowb hbe228) _ rfl) (hx222 _ hx)
           have hx305 := ltx hx222 hg226.size
           have hk306 := (ho219.grown hg226 hx222 nb).grown hg231 hx305 (rowne ap304)
           exact ⟨hB278, (Nat.le_refl _), hk289, hk298, hk303, hk306, hd, hs, ok_pick [1, 5, 7, 9, 14, 15, 19, 70, 71, 72, 104] hok (by kernel_rfl)⟩
          ·skip
           replace h3 := ite_f hc274 h3
           refine gv_pureN 5 [96, 97, 98, 99, 100] [(100, (.bool (decide (r192.1 > width_1))))] (by kernel_rfl) ?_
           refine gv_split (s := 100) (g := (decide (r192.1 > width_1))) (by kernel_rfl) (fun hc307 => ?_) (fun hc307 => ?_)
           ·skip
            replace h3 := ite_t hc307 h3
            refine gv_pureN 4 [101, 102, 103, 104] [(104, (.bool true))] (by kernel_rfl) ?_
            refine gv_nil ?_
            have e := sj h3; subst e
            refine gv_goal fun a hd hs hok => ?_
            have hB308 := bg hB213 hg237 nb
            have hB309 := bg hB213 hg215 nb
            have hlo310 : w0.heap.size ≤ b224 := lob hbe228 hB309.size
            have hB311 := bg hB308 hg231 (rowlo hlo310)
            have hg312 := (grown_trans hg195 hg199)
            have hg313 := (grown_trans (grown_trans hg31 hg42) hg53)
            have hx314 := ltx (ltx (ltx (ltx hx11 hg15.size) hg20.size) hg313.size) hg58.size
            have hx315 := ltx (fun k hk => ltl ((fun k hk => ltl (hx314 k hk) hz171) k hk) hz180) hg195.size
            have ap316 : ¬ X9 b197 := fun hx => nl ((lowb hbe201) _ rfl) (hx315 _ hx)
            have hx317 := ltx hx315 hg199.size
            have hx318 := ltx hx317 hg204.size
            have hx319 := ltx hx318 hg215.size
            have ap320 : ¬ X9 b224 := fun hx => nl ((lowb hbe228) _ rfl) (hx319 _ hx)
            have hx321 := ltx hx319 hg226.size
            have hk322 := (((hk187.grown hg312 (fun k hk => ltl ((fun k hk => ltl (hx314 k hk) hz171) k hk) hz180) nb).grown hg204 hx317 (rowne ap316)).grown hg237 hx318 nb).grown hg231 hx321 (rowne ap320)
            have hx323 := ltx (ltx hx49 hg53.size) hg58.size
            have hx324 := ltx (fun k hk => ltl ((fun k hk => ltl (hx323 k hk) hz171) k hk) hz180) hg195.size
            have ap325 : ¬ X47 b197 := fun hx => nl ((lowb hbe201) _ rfl) (hx324 _ hx)
            have hx326 := ltx hx324 hg199.size
            have hx327 := ltx hx326 hg204.size
            have hx328 := ltx hx327 hg215.size
            have ap329 : ¬ X47 b224 := fun hx => nl ((lowb hbe228) _ rfl) (hx328 _ hx)
            have hx330 := ltx hx328 hg226.size
            have hk331 := (((hk188.grown hg312 (fun k hk => ltl ((fun k hk => ltl (hx323 k hk) hz171) k hk) hz180) nb).grown hg204 hx326 (rowne ap325)).grown hg237 hx327 nb).grown hg231 hx330 (rowne ap329)
            have hk332 := ho183.grown hg195 (fun _ h => h.elim) nb
            have ap333 : ¬ (fun k => blk a181 = some k) b197 := fun hx => nl ((lowb hbe201) _ rfl) ((fun k (hk : blk a181 = some k) => hk332.lt k hk) _ hx)
            have hk334 := ((hk332.grown hg199 (fun _ h => h.elim) nb).grown hg204 (fun _ h => h.elim) (rdnn (rowne ap333))).grown hg215 (fun _ h => h.elim) nb
            have ap335 : ¬ (fun k => blk a181 = some k) b224 := fun hx => nl ((lowb hbe228) _ rfl) ((fun k (hk : blk a181 = some k) => hk334.lt k hk) _ hx)
            have hk336 := (((ho183.grown hg312 (fun _ h => h.elim) nb).grown hg204 (fun _ h => h.elim) (rdnn (rowne ap333))).grown hg237 (fun _ h => h.elim) nb).grown hg231 (fun _ h => h.elim) (rdnn (rowne ap335))
            have ap337 : ¬ X220 b224 := fun hx => nl ((lowb hbe228) _ rfl) (hx222 _ hx)
            have hx338 := ltx hx222 hg226.size
            have hk339 := (ho219.grown hg226 hx222 nb).grown hg231 hx338 (rowne ap337)
            exact ⟨hB311, (Nat.le_refl _), hk322, hk331, hk336, hk339, hd, hs, ok_pick [1, 5, 7, 9, 14, 15, 19, 70, 71, 72, 104] hok (by kernel_rfl)⟩
           ·skip
            replace h3 := ite_f hc307 h3
            refine gv_pureN 4 [101, 102, 103, 104] [(104, (.bool (((List.length r207.1 : Nat) : Int) == 0)))] (by kernel_rfl) ?_
            refine gv_nil ?_
            have e := sj h3; subst e
            refine gv_goal fun a hd hs hok => ?_
            have hB340 := bg hB213 hg237 nb
            have hB341 := bg hB213 hg215 nb
            have hlo342 : w0.heap.size ≤ b224 := lob hbe228 hB341.size
            have hB343 := bg hB340 hg231 (rowlo hlo342)
            have hg344 := (grown_trans hg195 hg199)
            have hg345 := (grown_trans (grown_trans hg31 hg42) hg53)
            have hx346 := ltx (ltx (ltx (ltx hx11 hg15.size) hg20.size) hg345.size) hg58.size
            have hx347 := ltx (fun k hk => ltl ((fun k hk => ltl (hx346 k hk) hz171) k hk) hz180) hg195.size
            have ap348 : ¬ X9 b197 := fun hx => nl ((lowb hbe201) _ rfl) (hx347 _ hx)
            have hx349 := ltx hx347 hg199.size
            have hx350 := ltx hx349 hg204.size
            have hx351 := ltx hx350 hg215.size
            have ap352 : ¬ X9 b224 := fun hx => nl ((lowb hbe228) _ rfl) (hx351 _ hx)
            have hx353 := ltx hx351 hg226.size
            have hk354 := (((hk187.grown hg344 (fun k hk => ltl ((fun k hk => ltl (hx346 k hk) hz171) k hk) hz180) nb).grown hg204 hx349 (rowne ap348)).grown hg237 hx350 nb).grown hg231 hx353 (rowne ap352)
            have hx355 := ltx (ltx hx49 hg53.size) hg58.size
            have hx356 := ltx (fun k hk => ltl ((fun k hk => ltl (hx355 k hk) hz171) k hk) hz180) hg195.size
            have ap357 : ¬ X47 b197 := fun hx => nl ((lowb hbe201) _ rfl) (hx356 _ hx)
            have hx358 := ltx hx356 hg199.size
            have hx359 := ltx hx358 hg204.size
            have hx360 := ltx hx359 hg215.size
            have ap361 : ¬ X47 b224 := fun hx => nl ((lowb hbe228) _ rfl) (hx360 _ hx)
            have hx362 := ltx hx360 hg226.size
            have hk363 := (((hk188.grown hg344 (fun k hk => ltl ((fun k hk => ltl (hx355 k hk) hz171) k hk) hz180) nb).grown hg204 hx358 (rowne ap357)).grown hg237 hx359 nb).grown hg231 hx362 (rowne ap361)
            have hk364 := ho183.grown hg195 (fun _ h => h.elim) nb
            have ap365 : ¬ (fun k => blk a181 = some k) b197 := fun hx => nl ((lowb hbe201) _ rfl) ((fun k (hk : blk a181 = some k) => hk364.lt k hk) _ hx)
            have hk366 := ((hk364.grown hg199 (fun _ h => h.elim) nb).grown hg204 (fun _ h => h.elim) (rdnn (rowne ap365))).grown hg215 (fun _ h => h.elim) nb
            have ap367 : ¬ (fun k => blk a181 = some k) b224 := fun hx => nl ((lowb hbe228) _ rfl) ((fun k (hk : blk a181 = some k) => hk366.lt k hk) _ hx)
            have hk368 := (((ho183.grown hg344 (fun _ h => h.elim) nb).grown hg204 (fun _ h => h.elim) (rdnn (rowne ap365))).grown hg237 (fun _ h => h.elim) nb).grown hg231 (fun _ h => h.elim) (rdnn (rowne ap367))
            have ap369 : ¬ X220 b224 := fun hx => nl ((lowb hbe228) _ rfl) (hx222 _ hx)
            have hx370 := ltx hx222 hg226.size
            have hk371 := (ho219.grown hg226 hx222 nb).grown hg231 hx370 (rowne ap369)
            exact ⟨hB343, (Nat.le_refl _), hk354, hk363, hk368, hk371, hd, hs, ok_pick [1, 5, 7, 9, 14, 15, 19, 70, 71, 72, 104] hok (by kernel_rfl)⟩
        ·rintro a w236 ⟨hB372, hz373, hk374, hk375, hk376, hk377, hd, hs, hok⟩
         refine gv_in ?_ hd hs hok
         clear hd hs hok
         have hz378 := (nt hz234 hz373)
         clear hz234 hb232 hbe228 ho219 hB213 hlo212 hb205 hk188 hk187
         refine gv_cond (b := j235) (by kernel_rfl) (fun hc379 => ?_) (fun hc379 => ?_)
         ·replace h2 := ite_t hc379 h2
          refine gv_seq <| gv_region <| gv_pureN 1 [4] [(4, (.bool false))] (by kernel_rfl) ?_
          refine gv_nil <| gv_cret ?_
          have e := sj h2; subst e
          replace h1 := congrArg some (hR2 _ rfl)
          have e := sj h1; subst e
          replace h0 := cont_inr h0
          have e := sj h0; subst e
          refine gv_ret (gv_done [(.bool false)] rfl ⟨(by kernel_rfl), trivial⟩ ?_)
          exact ⟨grown_of_below hB372, rfl⟩
         ·replace h2 := ite_f hc379 h2
          refine gv_skip <| gv_seq <| gv_seq <| gv_region <| gv_cut_ops (J := fun a w380 => w236 = w380 ∧ a.defers = [] ∧ a.tmps.size = 153 ∧ Ok [(1, (.int .i64 width_1)), (5, (.slice a6 (List.length r1.1) c7)), (7, (.slice a44 (List.length r38.1) c45)), (9, (.bool j67)), (14, (.slice a181 (List.length s177.1) c182)), (15, (.int .i64 s177.2)), (19, (.slice a217 (List.length r207.1) c218)), (70, (.slice a6 (List.length r1.1) c7)), (71, (.int .i64 ((List.length r1.1 : Nat) : Int))), (72, (.int .i64 s177.2)), (110, (.bool ((decide (s177.2 > 0)) && (!j67))))] a.tmps) ?_ ?_
          ·skip
           refine gv_pureN 3 [105, 106, 107] [(107, (.bool (decide (s177.2 > 0))))] (by kernel_rfl) ?_
           refine gv_split (s := 107) (g := (decide (s177.2 > 0))) (by kernel_rfl) (fun hc381 => ?_) (fun hc381 => ?_)
           ·skip
            refine gv_pureN 3 [108, 109, 110] [(110, (.bool (!j67)))] (by kernel_rfl) ?_
            refine gv_nil <| gv_sub [1, 5, 7, 9, 14, 15, 19, 70, 71, 72, 110] (σ' := [(1, (.int .i64 width_1)), (5, (.slice a6 (List.length r1.1) c7)), (7, (.slice a44 (List.length r38.1) c45)), (9, (.bool j67)), (14, (.slice a181 (List.length s177.1) c182)), (15, (.int .i64 s177.2)), (19, (.slice a217 (List.length r207.1) c218)), (70, (.slice a6 (List.length r1.1) c7)), (71, (.int .i64 ((List.length r1.1 : Nat) : Int))), (72, (.int .i64 s177.2)), (110, (.bool (!j67)))]) (by kernel_rfl) ?_
            refine gv_goal fun a hd hs hok => ⟨rfl, hd, hs, ?_⟩
            obtain ⟨q1, q5, q7, q9, q14, q15, q19, q70, q71, q72, q110, _⟩ := hok
            exact ⟨q1, q5, q7, q9, q14, q15, q19, q70, q71, q72, (by rw [hc381]; exact q110), trivial⟩
           ·skip
            refine gv_pureN 3 [108, 109, 110] [(110, (.bool false))] (by kernel_rfl) ?_
            refine gv_nil <| gv_sub [1, 5, 7, 9, 14, 15, 19, 70, 71, 72, 110] (σ' := [(1, (.int .i64 width_1)), (5, (.slice a6 (List.length r1.1) c7)), (7, (.slice a44 (List.length r38.1) c45)), (9, (.bool j67)), (14, (.slice a181 (List.length s177.1) c182)), (15, (.int .i64 s177.2)), (19, (.slice a217 (List.length r207.1) c218)), (70, (.slice a6 (List.length r1.1) c7)), (71, (.int .i64 ((List.length r1.1 : Nat) : Int))), (72, (.int .i64 s177.2)), (110, (.bool false))]) (by kernel_rfl) ?_
            refine gv_goal fun a hd hs hok => ⟨rfl, hd, hs, ?_⟩
            obtain ⟨q1, q5, q7, q9, q14, q15, q19, q70, q71, q72, q110, _⟩ := hok
            exact ⟨q1, q5, q7, q9, q14, q15, q19, q70, q71, q72, (by rw [hc381]; exact q110), trivial⟩
          ·rintro a w380 ⟨e, hd, hs, hok⟩; subst e
           refine gv_in ?_ hd hs hok
           clear hd hs hok
           refine bindE h2 ?_; clear h2; intro j382 h3 h2
           refine gv_cut_code (J := fun a w384 => ∃ s383 : Unit, j382 = .inl s383 ∧ Below w0.heap.size w0 w384 ∧ w236.heap.size ≤ w384.heap.size ∧ Rd sE w384 X9 a6 c7 r1.1 ∧ Rd sE w384 X47 a44 c45 r38.1 ∧ Gv.Own sE 9 w384 (fun _ => False) a181 c182 s177.1 ∧ Rd sE w384 X220 a217 c218 r207.1 ∧ a.defers = [] ∧ a.tmps.size = 153 ∧ Ok [(1, (.int .i64 width_1)), (5, (.slice a6 (List.length r1.1) c7)), (7, (.slice a44 (List.length r38.1) c45)), (9, (.bool j67)), (14, (.slice a181 (List.length s177.1) c182)), (19, (.slice a217 (List.length r207.1) c218)), (70, (.slice a6 (List.length r1.1) c7)), (71, (.int .i64 ((List.length r1.1 : Nat) : Int))), (72, (.int .i64 s177.2))] a.tmps) ?_ ?_
           ·skip
            refine gv_cond (b := ((decide (s177.2 > 0)) && (!j67))) (by kernel_rfl) (fun hc385 => ?_) (fun hc385 => ?_)
            ·replace h3 := ite_t hc385 h3
             refine gv_seq <| gv_region <| gv_pureN 3 [112, 113, 114] [(112, (.slice a6 (List.length r1.1) c7)), (114, (.int .i64 (IntKind.i64.wrap (s177.2 - 1))))] (by kernel_rfl) ?_
             refine bindE h3 ?_; clear h3; intro x386 hx387 h3
             refine gv_idxaddr (t := 22) (e := 9) (a := a6) (len := List.length r1.1) (cap := c7) (kk := .i64) (i := (IntKind.i64.wrap (s177.2 - 1))) (sz := 1) [] (fun e => by cases e) rfl rfl rfl (by kernel_rfl) (by kernel_rfl) Tryd.underlying22 (by kernel_rfl) (hk374.has hx387) (idx_spec hx387).1 (idx_spec hx387).2.1 rfl ?_
             refine gv_load (t := 9) (A := (elemAddr a6 (((IntKind.i64.wrap (s177.2 - 1)) : Int).toNat * 1))) (.string x386) [] (fun e => by cases e) rfl rfl rfl (by kernel_rfl) (by kernel_rfl) (by kernel_rfl) (inw0 (hk374.cell hx387)) rfl ?_
             refine bindE h3 ?_; clear h3; intro r388 hr389 h3
             refine gv_call0 (by kernel_rfl) rfl (by kernel_rfl) enters17 (textstr_Length_ok fuel x386 w236 (fun k => X0 k ∨ X0 k) (fun k hk => (hk).elim (fun h => (fun k (hk : X0 k) => ltl (hX0 k hk) hB372.size) k h) (fun h => (fun k (hk : X0 k) => ltl (hX0 k hk) hB372.size) k h)) ((hG1.below hB372 hX0).wide (fun k hk => (.inl hk))) ((hG2.below hB372 hX0).wide (fun k hk => (.inr hk))) r388 hr389) ?_
             rintro v392 w390 ⟨hg391, rfl⟩
             refine gv_pureN 3 [111, 118, 119] [(118, (.int .i64 r388.1)), (119, (.agg #[(.int .i64 r388.2.1), (.int .i64 r388.2.2)]))] (by kernel_rfl) ?_
             refine gv_new0 (fun b => .pointer (some ⟨b, 0, none⟩)) #[(.int .i64 0), (.int .i64 0)] 24 (by kernel_rfl) (by kernel_rfl) ?_
             intro b393 w394 hg395 hb396 hbe397 hz398
             refine gv_pureN 1 [21] [(21, (.int .i64 r388.1))] (by kernel_rfl) ?_
             refine gv_store0 24 0 (.agg #[(.int .i64 r388.2.1), (.int .i64 r388.2.2)]) #[(.int .i64 r388.2.1), (.int .i64 r388.2.2)] hb396 (by kernel_rfl) (by kernel_rfl) (by kernel_rfl) ?_
             intro w399 hg400 hb401 hz402
             refine gv_nil <| gv_seq <| gv_region <| gv_pureN 1 [121] [(121, (.slice a217 (List.length r207.1) c218))] (by kernel_rfl) ?_
             refine bindE h3 ?_; clear h3; intro x403 hx404 h3
             have hg405 := (grown_trans hg391 hg395)
             have hx406 := ltx (ltx hx222 hg226.size) hg231.size
             have hx407 := ltx (fun k hk => ltl (hx406 k hk) hz373) hg391.size
             have ap408 : ¬ X220 b393 := fun hx => nl ((lowb hbe397) _ rfl) (hx407 _ hx)
             have hx409 := ltx hx407 hg395.size
             have hk410 := (hk377.grown hg405 (fun k hk => ltl (hx406 k hk) hz373) nb).grown hg400 hx409 (rowne ap408)
             refine gv_idxaddr (t := 22) (e := 9) (a := a217) (len := List.length r207.1) (cap := c218) (kk := .i64) (i := 0) (sz := 1) [] (fun e => by cases e) rfl rfl rfl (by kernel_rfl) (by kernel_rfl) Tryd.underlying22 (by kernel_rfl) (hk410.has hx404) (idx_spec hx404).1 (idx_spec hx404).2.1 rfl ?_
             refine gv_load (t := 9) (A := (elemAddr a217 ((0 : Int).toNat * 1))) (.string x403) [] (fun e => by cases e) rfl rfl rfl (by kernel_rfl) (by kernel_rfl) (by kernel_rfl) (inw0 (hk410.cell hx404)) rfl ?_
             refine bindE h3 ?_; clear h3; intro r411 hr412 h3
             have hB413 := bg hB372 hg405 nb
             have hB414 := bg hB372 hg391 nb
             have hlo415 : w0.heap.size ≤ b393 := lob hbe397 hB414.size
             have hB416 := bg hB413 hg400 (rowlo hlo415)
             refine gv_call0 (by kernel_rfl) rfl (by kernel_rfl) enters17 (textstr_Length_ok fuel x403 w399 (fun k => X0 k ∨ X0 k) (fun k hk => (hk).elim (fun h => (fun k (hk : X0 k) => ltl (hX0 k hk) hB416.size) k h) (fun h => (fun k (hk : X0 k) => ltl (hX0 k hk) hB416.size) k h)) ((hG1.below hB416 hX0).wide (fun k hk => (.inl hk))) ((hG2.below hB416 hX0).wide (fun k hk => (.inr hk))) r411 hr412) ?_
             rintro v419 w417 ⟨hg418, rfl⟩
             refine gv_pureN 3 [120, 125, 126] [(125, (.int .i64 r411.1)), (126, (.agg #[(.int .i64 r411.2.1), (.int .i64 r411.2.2)]))] (by kernel_rfl) ?_
             refine gv_new0 (fun b => .pointer (some ⟨b, 0, none⟩)) #[(.int .i64 0), (.int .i64 0)] 24 (by kernel_rfl) (by kernel_rfl) ?_
             intro b420 w421 hg422 hb423 hbe424 hz425
             refine gv_pureN 1 [23] [(23, (.int .i64 r411.1))] (by kernel_rfl) ?_
             refine gv_sub [1, 5, 7, 9, 14, 19, 21, 22, 23, 24, 70, 71, 72, 126] (σ' := [(1, (.int .i64 width_1)), (5, (.slice a6 (List.length r1.1) c7)), (7, (.slice a44 (List.length r38.1) c45)), (9, (.bool j67)), (14, (.slice a181 (List.length s177.1) c182)), (19, (.slice a217 (List.length r207.1) c218)), (21, (.int .i64 r388.1)), (22, (bp b393)), (23, (.int .i64 r411.1)), (24, (bp b420)), (70, (.slice a6 (List.length r1.1) c7)), (71, (.int .i64 ((List.length r1.1 : Nat) : Int))), (72, (.int .i64 s177.2)), (126, (.agg #[(.int .i64 r411.2.1), (.int .i64 r411.2.2)]))]) (by kernel_rfl) ?_
             refine gv_store0 24 0 (.agg #[(.int .i64 r411.2.1), (.int .i64 r411.2.2)]) #[(.int .i64 r411.2.1), (.int .i64 r411.2.2)] hb423 (by kernel_rfl) (by kernel_rfl) (by kernel_rfl) ?_
             intro w426 hg427 hb428 hz429
             refine gv_nil <| gv_seq <| gv_region <| bindE h3 ?_; clear h3; intro j430 h4 h3
             refine gv_cut_ops (J := fun a w431 => Below w0.heap.size w0 w431 ∧ w426.heap.size ≤ w431.heap.size ∧ Rd sE w431 X9 a6 c7 r1.1 ∧ Rd sE w431 X47 a44 c45 r38.1 ∧ Gv.Own sE 9 w431 (fun _ => False) a181 c182 s177.1 ∧ Rd sE w431 X220 a217 c218 r207.1 ∧ a.defers = [] ∧ a.tmps.size = 153 ∧ Ok [(1, (.int .i64 width_1)), (5, (.slice a6 (List.length r1.1) c7)), (7, (.slice a44 (List.length r38.1) c45)), (9, (.bool j67)), (14, (.slice a181 (List.length s177.1) c182)), (19, (.slice a217 (List.length r207.1) c218)), (70, (.slice a6 (List.length r1.1) c7)), (71, (.int .i64 ((List.length r1.1 : Nat) : Int))), (72, (.int .i64 s177.2)), (142, (.bool j430))] a.tmps) ?_ ?_
             ·skip
              refine gv_pureN 1 [127] [(127, (bp b393))] (by kernel_rfl) ?_
              have hg432 := (grown_trans hg418 hg422)
              have hk433 := hb401.grown hg418 nb
              have lt434 := ltl ((ltb hk433) _ rfl) ((lowb hbe424) _ rfl)
              have hk435 := (hb401.grown hg432 nb).grown hg427 (rowne (ng lt434))
              refine gv_load (t := 3) (A := ⟨b393, 0, none⟩) (.int .i64 r388.2.1) [] (fun e => by cases e) rfl rfl rfl (by kernel_rfl) (by kernel_rfl) (by kernel_rfl) (inw0 (hk435.cell 0 rfl)) rfl ?_
              refine gv_pureN 2 [129, 130] [(130, (.bool (r388.2.1 != 0)))] (by kernel_rfl) ?_
              refine gv_split (s := 130) (g := (r388.2.1 != 0)) (by kernel_rfl) (fun hc436 => ?_) (fun hc436 => ?_)
              ·skip
               replace h4 := ite_t hc436 h4
               refine gv_pureN 12 [131, 132, 133, 134, 135, 136, 137, 138, 139, 140, 141, 142] [(142, (.bool true))] (by kernel_rfl) ?_
               refine gv_nil ?_
               have e := sj h4; subst e
               refine gv_goal fun a hd hs hok => ?_
               have hB437 := bg hB416 hg432 nb
               have hB438 := bg hB416 hg418 nb
               have hlo439 : w0.heap.size ≤ b420 := lob hbe424 hB438.size
               have hB440 := bg hB437 hg427 (rowlo hlo439)
               have hg441 := (grown_trans (grown_trans hg31 hg42) hg53)
               have hx442 := ltx (ltx (ltx (ltx hx11 hg15.size) hg20.size) hg441.size) hg58.size
               have hg443 := (grown_trans hg195 hg199)
               have hg444 := (grown_trans hg215 hg226)
               have hx445 := ltx (ltx (ltx (ltx (fun k hk => ltl ((fun k hk => ltl (hx442 k hk) hz171) k hk) hz180) hg443.size) hg204.size) hg444.size) hg231.size
               have hx446 := ltx (fun k hk => ltl (hx445 k hk) hz373) hg391.size
               have ap447 : ¬ X9 b393 := fun hx => nl ((lowb hbe397) _ rfl) (hx446 _ hx)
               have hx448 := ltx hx446 hg395.size
               have hx449 := ltx hx448 hg400.size
               have hx450 := ltx hx449 hg418.size
               have ap451 : ¬ X9 b420 := fun hx => nl ((lowb hbe424) _ rfl) (hx450 _ hx)
               have hx452 := ltx hx450 hg422.size
               have hk453 := (((hk374.grown hg405 (fun k hk => ltl (hx445 k hk) hz373) nb).grown hg400 hx448 (rowne ap447)).grown hg432 hx449 nb).grown hg427 hx452 (rowne ap451)
               have hx454 := ltx (ltx hx49 hg53.size) hg58.size
               have hx455 := ltx (ltx (ltx (ltx (fun k hk => ltl ((fun k hk => ltl (hx454 k hk) hz171) k hk) hz180) hg443.size) hg204.size) hg444.size) hg231.size
               have hx456 := ltx (fun k hk => ltl (hx455 k hk) hz373) hg391.size
               have ap457 : ¬ X47 b393 := fun hx => nl ((lowb hbe397) _ rfl) (hx456 _ hx)
               have hx458 := ltx hx456 hg395.size
               have hx459 := ltx hx458 hg400.size
               have hx460 := ltx hx459 hg418.size
               have ap461 : ¬ X47 b420 := fun hx => nl ((lowb hbe424) _ rfl) (hx460 _ hx)
               have hx462 := ltx hx460 hg422.size
               have hk463 := (((hk375.grown hg405 (fun k hk => ltl (hx455 k hk) hz373) nb).grown hg400 hx458 (rowne ap457)).grown hg432 hx459 nb).grown hg427 hx462 (rowne ap461)
               have hk464 := hk376.grown hg391 (fun _ h => h.elim) nb
               have ap465 : ¬ (fun k => blk a181 = some k) b393 := fun hx => nl ((lowb hbe397) _ rfl) ((fun k (hk : blk a181 = some k) => hk464.lt k hk) _ hx)
               have hk466 := ((hk464.grown hg395 (fun _ h => h.elim) nb).grown hg400 (fun _ h => h.elim) (rdnn (rowne ap465))).grown hg418 (fun _ h => h.elim) nb
               have ap467 : ¬ (fun k => blk a181 = some k) b420 := fun hx => nl ((lowb hbe424) _ rfl) ((fun k (hk : blk a181 = some k) => hk466.lt k hk) _ hx)
               have hk468 := (((hk376.grown hg405 (fun _ h => h.elim) nb).grown hg400 (fun _ h => h.elim) (rdnn (rowne ap465))).grown hg432 (fun _ h => h.elim) nb).grown hg427 (fun _ h => h.elim) (rdnn (rowne ap467))
               have hx469 := ltx hx409 hg400.size
               have hx470 := ltx hx469 hg418.size
               have ap471 : ¬ X220 b420 := fun hx => nl ((lowb hbe424) _ rfl) (hx470 _ hx)
               have hx472 := ltx hx470 hg422.size
               have hk473 := (hk410.grown hg432 hx469 nb).grown hg427 hx472 (rowne ap471)
               exact ⟨hB440, (Nat.le_refl _), hk453, hk463, hk468, hk473, hd, hs, ok_pick [1, 5, 7, 9, 14, 19, 70, 71, 72, 142] hok (by kernel_rfl)⟩
              ·skip
               replace h4 := ite_f hc436 h4
               refine gv_pureN 1 [131] [(131, (bp b420))] (by kernel_rfl) ?_
               refine gv_load (t := 3) (A := ⟨b420, 0, none⟩) (.int .i64 r411.2.1) [] (fun e => by cases e) rfl rfl rfl (by kernel_rfl) (by kernel_rfl) (by kernel_rfl) (inw0 (hb428.cell 0 rfl)) rfl ?_
               refine gv_pureN 3 [133, 134, 135] [(135, (.bool (r411.2.1 != 0)))] (by kernel_rfl) ?_
               refine gv_split (s := 135) (g := (r411.2.1 != 0)) (by kernel_rfl) (fun hc474 => ?_) (fun hc474 => ?_)
               ·skip
                replace h4 := ite_t hc474 h4
                refine gv_pureN 7 [136, 137, 138, 139, 140, 141, 142] [(142, (.bool true))] (by kernel_rfl) ?_
                refine gv_nil ?_
                have e := sj h4; subst e
                refine gv_goal fun a hd hs hok => ?_
                have hB475 := bg hB416 hg432 nb
                have hB476 := bg hB416 hg418 nb
                have hlo477 : w0.heap.size ≤ b420 := lob hbe424 hB476.size
                have hB478 := bg hB475 hg427 (rowlo hlo477)
                have hg479 := (grown_trans (grown_trans hg31 hg42) hg53)
                have hx480 := ltx (ltx (ltx (ltx hx11 hg15.size) hg20.size) hg479.size) hg58.size
                have hg481 := (grown_trans hg195 hg199)
                have hg482 := (grown_trans hg215 hg226)
                have hx483 := ltx (ltx (ltx (ltx (fun k hk => ltl ((fun k hk => ltl (hx480 k hk) hz171) k hk) hz180) hg481.size) hg204.size) hg482.size) hg231.size
                have hx484 := ltx (fun k hk => ltl (hx483 k hk) hz373) hg391.size
                have ap485 : ¬ X9 b393 := fun hx => nl ((lowb hbe397) _ rfl) (hx484 _ hx)
                have hx486 := ltx hx484 hg395.size
                have hx487 := ltx hx486 hg400.size
                have hx488 := ltx hx487 hg418.size
                have ap489 : ¬ X9 b420 := fun hx => nl ((lowb hbe424) _ rfl) (hx488 _ hx)
                have hx490 := ltx hx488 hg422.size
                have hk491 := (((hk374.grown hg405 (fun k hk => ltl (hx483 k hk) hz373) nb).grown hg400 hx486 (rowne ap485)).grown hg432 hx487 nb).grown hg427 hx490 (rowne ap489)
                have hx492 := ltx (ltx hx49 hg53.size) hg58.size
                have hx493 := ltx (ltx (ltx (ltx (fun k hk => ltl ((fun k hk => ltl (hx492 k hk) hz171) k hk) hz180) hg481.size) hg204.size) hg482.size) hg231.size
                have hx494 := ltx (fun k hk => ltl (hx493 k hk) hz373) hg391.size
                have ap495 : ¬ X47 b393 := fun hx => nl ((lowb hbe397) _ rfl) (hx494 _ hx)
                have hx496 := ltx hx494 hg395.size
                have hx497 := ltx hx496 hg400.size
                have hx498 := ltx hx497 hg418.size
                have ap499 : ¬ X47 b420 := fun hx => nl ((lowb hbe424) _ rfl) (hx498 _ hx)
                have hx500 := ltx hx498 hg422.size
                have hk501 := (((hk375.grown hg405 (fun k hk => ltl (hx493 k hk) hz373) nb).grown hg400 hx496 (rowne ap495)).grown hg432 hx497 nb).grown hg427 hx500 (rowne ap499)
                have hk502 := hk376.grown hg391 (fun _ h => h.elim) nb
                have ap503 : ¬ (fun k => blk a181 = some k) b393 := fun hx => nl ((lowb hbe397) _ rfl) ((fun k (hk : blk a181 = some k) => hk502.lt k hk) _ hx)
                have hk504 := ((hk502.grown hg395 (fun _ h => h.elim) nb).grown hg400 (fun _ h => h.elim) (rdnn (rowne ap503))).grown hg418 (fun _ h => h.elim) nb
                have ap505 : ¬ (fun k => blk a181 = some k) b420 := fun hx => nl ((lowb hbe424) _ rfl) ((fun k (hk : blk a181 = some k) => hk504.lt k hk) _ hx)
                have hk506 := (((hk376.grown hg405 (fun _ h => h.elim) nb).grown hg400 (fun _ h => h.elim) (rdnn (rowne ap503))).grown hg432 (fun _ h => h.elim) nb).grown hg427 (fun _ h => h.elim) (rdnn (rowne ap505))
                have hx507 := ltx hx409 hg400.size
                have hx508 := ltx hx507 hg418.size
                have ap509 : ¬ X220 b420 := fun hx => nl ((lowb hbe424) _ rfl) (hx508 _ hx)
                have hx510 := ltx hx508 hg422.size
                have hk511 := (hk410.grown hg432 hx507 nb).grown hg427 hx510 (rowne ap509)
                exact ⟨hB478, (Nat.le_refl _), hk491, hk501, hk506, hk511, hd, hs, ok_pick [1, 5, 7, 9, 14, 19, 70, 71, 72, 142] hok (by kernel_rfl)⟩
               ·skip
                replace h4 := ite_f hc474 h4
                refine gv_pureN 7 [136, 137, 138, 139, 140, 141, 142] [(142, (.bool (decide ((IntKind.i64.wrap ((IntKind.i64.wrap (r388.1 + 1)) + r411.1)) ≤ width_1))))] (by kernel_rfl) ?_
                refine gv_nil ?_
                have e := sj h4; subst e
                refine gv_goal fun a hd hs hok => ?_
                have hB512 := bg hB416 hg432 nb
                have hB513 := bg hB416 hg418 nb
                have hlo514 : w0.heap.size ≤ b420 := lob hbe424 hB513.size
                have hB515 := bg hB512 hg427 (rowlo hlo514)
                have hg516 := (grown_trans (grown_trans hg31 hg42) hg53)
                have hx517 := ltx (ltx (ltx (ltx hx11 hg15.size) hg20.size) hg516.size) hg58.size
                have hg518 := (grown_trans hg195 hg199)
                have hg519 := (grown_trans hg215 hg226)
                have hx520 := ltx (ltx (ltx (ltx (fun k hk => ltl ((fun k hk => ltl (hx517 k hk) hz171) k hk) hz180) hg518.size) hg204.size) hg519.size) hg231.size
                have hx521 := ltx (fun k hk => ltl (hx520 k hk) hz373) hg391.size
                have ap522 : ¬ X9 b393 := fun hx => nl ((lowb hbe397) _ rfl) (hx521 _ hx)
                have hx523 := ltx hx521 hg395.size
                have hx524 := ltx hx523 hg400.size
                have hx525 := ltx hx524 hg418.size
                have ap526 : ¬ X9 b420 := fun hx => nl ((lowb hbe424) _ rfl) (hx525 _ hx)
                have hx527 := ltx hx525 hg422.size
                have hk528 := (((hk374.grown hg405 (fun k hk => ltl (hx520 k hk) hz373) nb).grown hg400 hx523 (rowne ap522)).grown hg432 hx524 nb).grown hg427 hx527 (rowne ap526)
                have hx529 := ltx (ltx hx49 hg53.size) hg58.size
                have hx530 := ltx (ltx (ltx (ltx (fun k hk => ltl ((fun k hk => ltl (hx529 k hk) hz171) k hk) hz180) hg518.size) hg204.size) hg519.size) hg231.size
                have hx531 := ltx (fun k hk => ltl (hx530 k hk) hz373) hg391.size
                have ap532 : ¬ X47 b393 := fun hx => nl ((lowb hbe397) _ rfl) (hx531 _ hx)
                have hx533 := ltx hx531 hg395.size
                have hx534 := ltx hx533 hg400.size
                have hx535 := ltx hx534 hg418.size
                have ap536 : ¬ X47 b420 := fun hx => nl ((lowb hbe424) _ rfl) (hx535 _ hx)
                have hx537 := ltx hx535 hg422.size
                have hk538 := (((hk375.grown hg405 (fun k hk => ltl (hx530 k hk) hz373) nb).grown hg400 hx533 (rowne ap532)).grown hg432 hx534 nb).grown hg427 hx537 (rowne ap536)
                have hk539 := hk376.grown hg391 (fun _ h => h.elim) nb
                have ap540 : ¬ (fun k => blk a181 = some k) b393 := fun hx => nl ((lowb hbe397) _ rfl) ((fun k (hk : blk a181 = some k) => hk539.lt k hk) _ hx)
                have hk541 := ((hk539.grown hg395 (fun _ h => h.elim) nb).grown hg400 (fun _ h => h.elim) (rdnn (rowne ap540))).grown hg418 (fun _ h => h.elim) nb
                have ap542 : ¬ (fun k => blk a181 = some k) b420 := fun hx => nl ((lowb hbe424) _ rfl) ((fun k (hk : blk a181 = some k) => hk541.lt k hk) _ hx)
                have hk543 := (((hk376.grown hg405 (fun _ h => h.elim) nb).grown hg400 (fun _ h => h.elim) (rdnn (rowne ap540))).grown hg432 (fun _ h => h.elim) nb).grown hg427 (fun _ h => h.elim) (rdnn (rowne ap542))
                have hx544 := ltx hx409 hg400.size
                have hx545 := ltx hx544 hg418.size
                have ap546 : ¬ X220 b420 := fun hx => nl ((lowb hbe424) _ rfl) (hx545 _ hx)
                have hx547 := ltx hx545 hg422.size
                have hk548 := (hk410.grown hg432 hx544 nb).grown hg427 hx547 (rowne ap546)
                exact ⟨hB515, (Nat.le_refl _), hk528, hk538, hk543, hk548, hd, hs, ok_pick [1, 5, 7, 9, 14, 19, 70, 71, 72, 142] hok (by kernel_rfl)⟩
             ·rintro a w431 ⟨hB549, hz550, hk551, hk552, hk553, hk554, hd, hs, hok⟩
              refine gv_in ?_ hd hs hok
              clear hd hs hok
              have hz555 := (nt (nt (nt (nt (nt (nt hg391.size hg395.size) hg400.size) hg418.size) hg422.size) hg427.size) hz550)
              clear hz429 hb428 hz425 hbe424 hb423 hB416 hlo415 hB414 hB413 hr412 hk410 ap408 hx407 hx406 hg405 hx404 hz402 hb401 hz398 hbe397 hb396 hr389 hx387 hc385 hc379 hk377 hk376 hk375 hk374 hB372 hx222
              refine gv_cond (b := j430) (by kernel_rfl) (fun hc556 => ?_) (fun hc556 => ?_)
              ·replace h3 := ite_t hc556 h3
               refine gv_seq <| gv_region <| gv_pureN 1 [4] [(4, (.bool false))] (by kernel_rfl) ?_
               refine gv_nil <| gv_cret ?_
               have e := sj h3; subst e
               replace h2 := cont_inr h2
               have e := sj h2; subst e
               replace h1 := congrArg some (hR2 _ rfl)
               have e := sj h1; subst e
               replace h0 := cont_inr h0
               have e := sj h0; subst e
               refine gv_ret (gv_done [(.bool false)] rfl ⟨(by kernel_rfl), trivial⟩ ?_)
               exact ⟨grown_of_below hB549, rfl⟩
              ·replace h3 := ite_f hc556 h3
               refine gv_skip ?_
               have e := sj h3; subst e
               refine gv_goal fun a hd hs hok => ?_
               have hz557 := hz555
               exact ⟨(), rfl, hB549, hz557, hk551, hk552, hk553, hk554, hd, hs, ok_pick [1, 5, 7, 9, 14, 19, 70, 71, 72] hok (by kernel_rfl)⟩
            ·replace h3 := ite_f hc385 h3
             refine gv_skip ?_
             have e := sj h3; subst e
             refine gv_goal fun a hd hs hok => ?_
             exact ⟨(), rfl, hB372, (Nat.le_refl _), hk374, hk375, hk376, hk377, hd, hs, ok_pick [1, 5, 7, 9, 14, 19, 70, 71, 72] hok (by kernel_rfl)⟩
           ·rintro a w384 ⟨s383, e, hB558, hz559, hk560, hk561, hk562, hk563, hd, hs, hok⟩
            subst e
            refine gv_in ?_ hd hs hok
            clear hd hs hok
            replace h2 := cont_inl h2
            have hz564 := (nt hz378 hz559)
            clear hc379 hz378 hk377 hk376 hk375 hk374 hB372
            refine gv_region <| gv_pureN 2 [143, 144] [(143, (.slice a181 (List.length s177.1) c182)), (144, (.slice a217 (List.length r207.1) c218))] (by kernel_rfl) ?_
            refine bindE h2 ?_; clear h2; intro l565 hx566 h2
            refine gv_append sE (t := 22) (ty := 22) (e := 9) (a := a181) (ax := a217) (cap := c182) (cx := c218) (xs := s177.1) (ys := r207.1) l565 (X := (fun _ => False)) (Y := X220) (by decide) rfl rfl (by kernel_rfl) (by kernel_rfl) Tryd.underlying22 info9 hk562 hk563 hx566 (.inr fun _ _ _ _ _ h => h) (fun _ h => h.elim) ?_
            intro a567 c568 w569 hg570 ho571 hk572
            refine ⟨(fun e => by cases e), ?_⟩
            have hl573 : ∀ g, blk a567 = some g → w0.heap.size ≤ g := blk_step hk572 hl184 hB558.size
            have hg575 := (grown_trans (grown_trans hg31 hg42) hg53)
            have hx576 := ltx (ltx (ltx (ltx hx11 hg15.size) hg20.size) hg575.size) hg58.size
            have hg577 := (grown_trans hg195 hg199)
            have hg578 := (grown_trans hg215 hg226)
            have hx579 := ltx (ltx (ltx (ltx (fun k hk => ltl ((fun k hk => ltl (hx576 k hk) hz171) k hk) hz180) hg577.size) hg204.size) hg578.size) hg231.size
            have ap574 : ∀ g, blk a567 = some g → ¬ X9 g := blk_neX hk572 ap185 (fun k hk => ltl ((fun k hk => ltl (hx579 k hk) hz373) k hk) hz559)
            have hx581 := ltx (ltx hx49 hg53.size) hg58.size
            have hx582 := ltx (ltx (ltx (ltx (fun k hk => ltl ((fun k hk => ltl (hx581 k hk) hz171) k hk) hz180) hg577.size) hg204.size) hg578.size) hg231.size
            have ap580 : ∀ g, blk a567 = some g → ¬ X47 g := blk_neX hk572 ap186 (fun k hk => ltl ((fun k hk => ltl (hx582 k hk) hz373) k hk) hz559)
            have hk584 := ho183.grown hg195 (fun _ h => h.elim) nb
            have ap585 : ¬ (fun k => blk a181 = some k) b197 := fun hx => nl ((lowb hbe201) _ rfl) ((fun k (hk : blk a181 = some k) => hk584.lt k hk) _ hx)
            have hk586 := (ho183.grown hg577 (fun _ h => h.elim) nb).grown hg204 (fun _ h => h.elim) (rdnn (rowne ap585))
            have ap587 : ∀ g, blk a181 = some g → ¬ X220 g := fun g e h => ((hx221 _ h).2.elim (fun h => (h).elim (fun h => ((fun g (e : blk a181 = some g) (hx : X0 g) => nl (hl184 g e) (hX0 _ hx))) g e h) (fun h => ((fun g (e : blk a181 = some g) (hx : X0 g) => nl (hl184 g e) (hX0 _ hx))) g e h)) (fun h => nl h (hk586.lt g e)))
            have hx588 := ltx (ltx hx222 hg226.size) hg231.size
            have ap583 : ∀ g, blk a567 = some g → ¬ X220 g := blk_neX hk572 ap587 (fun k hk => ltl ((fun k hk => ltl (hx588 k hk) hz373) k hk) hz559)
            refine gv_pureN 1 [14] [(14, (.slice a567 (List.length l565) c568))] (by kernel_rfl) ?_
            refine gv_nil <| gv_blk <| gv_region <| gv_pureN 2 [72, 146] [(72, (.int .i64 (IntKind.i64.wrap (s177.2 + 1))))] (by kernel_rfl) ?_
            refine gv_nil ?_
            have e := sj h2; subst e
            refine gv_goal fun a hd hs hok => ?_
            have hB589 := bg hB558 hg570 hl184
            have hz590 := (nt hz564 hg570.size)
            have hk591 := hk560.grown hg570 (fun k hk => ltl ((fun k hk => ltl (hx579 k hk) hz373) k hk) hz559) ap185
            have hk592 := hk561.grown hg570 (fun k hk => ltl ((fun k hk => ltl (hx582 k hk) hz373) k hk) hz559) ap186
            exact ⟨(l565, (IntKind.i64.wrap (s177.2 + 1))), rfl, a567, c568, hB589, hz590, ho571, hl573, ap574, ap580, hk591, hk592, hd, hs, ok_pick [1, 5, 7, 9, 14, 70, 71, 72] hok (by kernel_rfl)⟩
       ·replace h2 := ite_f hc189 h2
        refine gv_cexit <| gv_exit rfl ?_
        have e := sj h2; subst e
        replace h1 := congrArg some (hR2 _ rfl)
        have e := sj h1; subst e
        refine gv_goal fun a hd hs hok => ?_
        have hz593 := hz180
        exact ⟨s177.1, rfl, a181, c182, hB179, hz593, ho183, hl184, ap186, hk188, hd, hs, ok_pick [7, 9, 14] hok (by kernel_rfl)⟩
     ·rintro a w176 ⟨s175, e, a596, c597, hB594, hz595, ho598, hl599, ap600, hk601, hd, hs, hok⟩
      subst e
      refine gv_in ?_ hd hs hok
      clear hd hs hok
      replace h0 := cont_inl h0
      clear hk173 hk172 hB170 hg42 hg31 hg20 hg15 hx12 hx11
      refine gv_seq <| gv_region <| bindE h0 ?_; clear h0; intro j602 h1 h0
      refine gv_cut_ops (J := fun a w603 => Below w0.heap.size w0 w603 ∧ w176.heap.size ≤ w603.heap.size ∧ a.defers = [] ∧ a.tmps.size = 153 ∧ Ok [(4, (.bool j602))] a.tmps) ?_ ?_
      ·skip
       refine gv_pureN 2 [147, 148] [(148, (.bool j67))] (by kernel_rfl) ?_
       refine gv_split (s := 148) (g := j67) (by kernel_rfl) (fun hc604 => ?_) (fun hc604 => ?_)
       ·skip
        replace h1 := ite_t hc604 h1
        refine gv_pureN 5 [4, 149, 150, 151, 152] [(4, (.bool true))] (by kernel_rfl) ?_
        refine gv_nil ?_
        have e := sj h1; subst e
        refine gv_goal fun a hd hs hok => ?_
        exact ⟨hB594, (Nat.le_refl _), hd, hs, ok_pick [4] hok (by kernel_rfl)⟩
       ·skip
        replace h1 := ite_f hc604 h1
        refine gv_pureN 2 [149, 150] [(149, (.slice a596 (List.length s175) c597)), (150, (.slice a44 (List.length r38.1) c45))] (by kernel_rfl) ?_
        refine bindE h1 ?_; clear h1; intro r605 hr606 h1
        have hx607 := ltx (ltx hx49 hg53.size) hg58.size
        refine gv_call0 (by kernel_rfl) rfl (by kernel_rfl) enters18 (ref4_SameTexts_ok fuel a596 c597 s175 a44 c45 r38.1 w176 (fun k => (fun k => blk a596 = some k) k ∨ X47 k) (fun k hk => (hk).elim (fun h => (fun k (hk : blk a596 = some k) => ho598.lt k hk) k h) (fun h => (fun k hk => ltl ((fun k hk => ltl (hx607 k hk) hz171) k hk) hz595) k h)) ((ho598.rd (Y := fun k => blk a596 = some k) (fun _ h => h.elim) (fun g e => e)).wide (fun k hk => (.inl hk))) (hk601.wide (fun k hk => (.inr hk))) r605 hr606) ?_
        rintro v610 w608 ⟨hg609, rfl⟩
        clear hx607 hr606 hc604 hk601 ap600 hl599 ho598 hz595 hz171 hg58 hg53 hx50 hx49
        refine gv_pureN 2 [4, 152] [(4, (.bool r605))] (by kernel_rfl) ?_
        refine gv_nil ?_
        have e := sj h1; subst e
        refine gv_goal fun a hd hs hok => ?_
        have hB611 := bg hB594 hg609 nb
        have hz612 := hg609.size
        exact ⟨hB611, hz612, hd, hs, ok_pick [4] hok (by kernel_rfl)⟩
      ·rintro a w603 ⟨hB613, hz614, hd, hs, hok⟩
       refine gv_in ?_ hd hs hok
       clear hd hs hok
       clear hz614 hk601 ap600 hl599 ho598 hz595 hB594 hz171 hg58 hg53 hx50 hx49
       refine gv_cret ?_
       have e := sj h0; subst e
       refine gv_ret (gv_done [(.bool j602)] rfl ⟨(by kernel_rfl), trivial⟩ ?_)
       exact ⟨grown_of_below hB613, rfl⟩

end Go.Proofs.YtkmcegicngjhbaaDoor
