import Derived.Test.YtkmcegicngjhbaaDoorP1
set_option linter.all false
set_option maxHeartbeats 4000000
set_option maxRecDepth 100000
/- Own work, printed by a program of mine: the walk of each function: a call returns what the plain function says. -/
namespace Go.Proofs.YtkmcegicngjhbaaDoor
open Go.Gv Go.Gv.D Go.RowKit
theorem enters15 : Go.Gv.Enters Tryd.prog 15 := ⟨Tryd.f15, Tryd.func15, by kernel_rfl, by kernel_rfl⟩
theorem enters17 : Go.Gv.Enters Tryd.prog 17 := ⟨Tryd.f17, Tryd.func17, by kernel_rfl, by kernel_rfl⟩
theorem enters24 : Go.Gv.Enters Tryd.prog 24 := ⟨Tryd.f24, Tryd.func24, by kernel_rfl, by kernel_rfl⟩
theorem enters31 : Go.Gv.Enters Tryd.prog 31 := ⟨Tryd.f31, Tryd.func31, by kernel_rfl, by kernel_rfl⟩
theorem enters35 : Go.Gv.Enters Tryd.prog 35 := ⟨Tryd.f35, Tryd.func35, by kernel_rfl, by kernel_rfl⟩
theorem enters61 : Go.Gv.Enters Tryd.prog 61 := ⟨Tryd.f61, Tryd.func61, by kernel_rfl, by kernel_rfl⟩
theorem enters67 : Go.Gv.Enters Tryd.prog 67 := ⟨Tryd.f67, Tryd.func67, by kernel_rfl, by kernel_rfl⟩
theorem enters92 : Go.Gv.Enters Tryd.prog 92 := ⟨Tryd.f92, Tryd.func92, by kernel_rfl, by kernel_rfl⟩
theorem info3 : InfoOk Tryd.prog 3 1 := infoOk (z := (.int .i64 0)) (bytes := 8) (by kernel_rfl) (by kernel_rfl) (by kernel_rfl) (by kernel_rfl)

theorem textstr_Points_ok (fuel : Nat) (s_0 : ByteArray) (w0 : World) (X0 : Nat → Prop) (hX0 : ∀ k, X0 k → k < w0.heap.size) (hG1 : Rd bE w0 X0 (some ⟨1, 0, none⟩) 256 utf8First) (hG2 : Rd (prE (iE .u8) (iE .u8)) w0 X0 (some ⟨2, 0, none⟩) 16 utf8Acc) (r0 : ((List Int) × (Int × Int))) (h0 : textstr_Points fuel s_0 = some r0) :
    Calls Tryd.prog 61 ([(.string s_0)] : List Value).toArray w0 (Ret fun v w' => w0.grownBy w' none ∧ ∃ (a0_0r : Option Addr) (c0_0r : Nat), v = tup [(.slice a0_0r (List.length r0.1) c0_0r), (.agg #[(.int .i64 r0.2.1), (.int .i64 r0.2.2)])] ∧ Gv.Own (iE .i64) 3 w' (fun _ => False) a0_0r c0_0r r0.1 ∧ (∀ g, blk a0_0r = some g → w0.heap.size ≤ g)) := by
 have hB0 : Below w0.heap.size w0 w0 := Below.refl _ _
 unfold textstr_Points at h0
 refine calls_run Tryd.func61 rfl Tryd.ntmps61 (by kernel_rfl) ?_
 refine gv_sub [0] (σ' := [(0, (.string s_0))]) (by kernel_rfl) ?_
 refine gv_seq <| gv_region <| gv_pureN 1 [2] [] (by kernel_rfl) ?_
 refine gv_new0 (fun b => .pointer (some ⟨b, 0, none⟩)) #[(.int .i64 0), (.int .i64 0)] 24 (by kernel_rfl) (by kernel_rfl) ?_
 intro b1 w2 hg3 hb4 hbe5 hz6
 refine gv_nil <| gv_seq <| gv_seq <| gv_region <| gv_pureN 1 [8] [(8, (.string s_0))] (by kernel_rfl) ?_
 refine gv_new0 (fun b => .slice (some ⟨b, 0, none⟩) 1 1) #[(.string s_0)] 9 (by kernel_rfl) (by kernel_rfl) ?_
 intro b7 w8 hg9 hb10 hbe11 hz12
 have ho13 : Gv.Own sE 9 w8 (fun _ => False) (some ⟨b7, 0, none⟩) 1 ([s_0] : List ByteArray) := Box.ownE hb10 ⟨[(.string s_0)], [], rfl, rfl, rfl⟩ (show 1 ≤ maxLen by decide) (fun h => h)
 have hB18 := bg hB0 hg3 nb
 have hl14 : ∀ g, blk (some ⟨b7, 0, none⟩) = some g → w0.heap.size ≤ g := loo hbe11 hB18.size
 refine bindE h0 ?_; clear h0; intro r19 hr20 h0
 have hB21 := bg hB18 hg9 nb
 refine gv_call0 (by kernel_rfl) rfl (by kernel_rfl) enters58 (textstr_check_ok fuel (some ⟨b7, 0, none⟩) 1 ([s_0] : List ByteArray) w8 (fun k => (fun k => blk (some ⟨b7, 0, none⟩) = some k) k ∨ X0 k ∨ X0 k) (fun k hk => (hk).elim (fun h => (fun k (hk : blk (some ⟨b7, 0, none⟩) = some k) => ho13.lt k hk) k h) (fun h => (h).elim (fun h => (fun k (hk : X0 k) => ltl (hX0 k hk) hB21.size) k h) (fun h => (fun k (hk : X0 k) => ltl (hX0 k hk) hB21.size) k h))) ((ho13.rd (Y := fun k => blk (some ⟨b7, 0, none⟩) = some k) (fun _ h => h.elim) (fun g e => e)).wide (fun k hk => (.inl hk))) ((hG1.below hB21 hX0).wide (fun k hk => (.inr (.inl hk)))) ((hG2.below hB21 hX0).wide (fun k hk => (.inr (.inr hk)))) r19 hr20) ?_
 rintro v24 w22 ⟨hg23, rfl⟩
 refine gv_new0 (fun b => .pointer (some ⟨b, 0, none⟩)) #[(.int .i64 0), (.int .i64 0)] 24 (by kernel_rfl) (by kernel_rfl) ?_
 intro b25 w26 hg27 hb28 hbe29 hz30
 refine gv_store0 24 0 (.agg #[(.int .i64 r19.1), (.int .i64 r19.2)]) #[(.int .i64 r19.1), (.int .i64 r19.2)] hb28 (by kernel_rfl) (by kernel_rfl) (by kernel_rfl) ?_
 intro w31 hg32 hb33 hz34
 refine gv_nil <| gv_seq <| gv_region <| gv_pureN 1 [11] [(11, (bp b25))] (by kernel_rfl) ?_
 refine gv_load (t := 3) (A := ⟨b25, 0, none⟩) (.int .i64 r19.1) [] (fun e => by cases e) rfl rfl rfl (by kernel_rfl) (by kernel_rfl) (by kernel_rfl) (inw0 (hb33.cell 0 rfl)) rfl ?_
 refine gv_pureN 1 [13] [(13, (.bool (r19.1 != 0)))] (by kernel_rfl) ?_
 refine gv_nil <| gv_cond (b := (r19.1 != 0)) (by kernel_rfl) (fun hc35 => ?_) (fun hc35 => ?_)
 ·replace h0 := ite_t hc35 h0
  refine gv_seq <| gv_drawA (by kernel_rfl) ?_
  intro w36 hg37
  refine gv_pre [1] (bA 3 [1]) 2 (by kernel_rfl) (by kernel_rfl) ?_
  refine gv_pureN 1 [2] [(2, (.slice none (List.length ([] : List Int)) 0))] (by kernel_rfl) ?_
  refine gv_nil <| gv_goA ?_
  refine gv_stage (Cls w36 []) [0, 1] [(0, some true)] (bA 3 [0, 1]) 1 (by kernel_rfl) (by kernel_rfl) (Cls.refl _ _) ?_
  have hC38 := Cls.refl w36 []
  have hk39 := hb33.grown hg37 nb
  refine gv_loadBox (t := 24) (b := b25) (t' := 24) (fr := (0, 0)) #[(.int .i64 r19.1), (.int .i64 r19.2)] [] (fun e => by cases e) rfl rfl rfl (by kernel_rfl) (by kernel_rfl) (by kernel_rfl) (by kernel_rfl) (inw1 fun w' hC' => (hC'.box hk39 nm_nil)) rfl ?_
  refine gv_nil <| gv_goA ?_
  refine gv_stage (fun _ => True) [0, 1, 2] [(2, some false)] (bA 3 [0, 1, 2]) 0 (by kernel_rfl) (by kernel_rfl) trivial ?_
  have hg44 := (grown_trans (grown_trans hg9 hg23) hg27)
  have hg45 := (grown_trans hg9 hg23)
  have hk46 := hb4.grown hg45 nb
  have lt47 := ltl ((ltb hk46) _ rfl) ((lowb hbe29) _ rfl)
  have hk48 := ((hb4.grown hg44 nb).grown hg32 (rowne (ng lt47))).grown hg37 nb
  refine gv_store (t := 24) (b := b1) (off := 0) (v := (.agg #[(.int .i64 r19.1), (.int .i64 r19.2)])) (t' := 24) (cs := #[(.int .i64 0), (.int .i64 0)]) #[(.int .i64 r19.1), (.int .i64 r19.2)] (by decide) rfl rfl (by kernel_rfl) (by kernel_rfl) (by kernel_rfl) (by intro u hu; simp [Value.cells] at hu; rcases hu with rfl | rfl <;> rfl) (show 0 + 2 ≤ 2 by decide) (by rfl) hk48 ?_
  intro w40 hg41 hb42 hz43
  refine ⟨(fun _ => trivial), ?_⟩
  refine gv_nil <| gv_goA ?_
  refine gv_stageE (by kernel_rfl) ?_
  refine gv_cret ?_
  have e := sj h0; subst e
  refine gv_ret (gv_done [(.slice none (List.length ([] : List Int)) 0), (.agg #[(.int .i64 r19.1), (.int .i64 r19.2)])] rfl ⟨(by kernel_rfl), ⟨⟨b1, 0, none⟩, (by kernel_rfl), run_loadVar_row w40 b1 _ 24 _ _ _ hb42 Tryd.underlying24 rfl (by kernel_rfl)⟩, trivial⟩ ?_)
  have hg49 := (grown_trans hg23 hg27)
  have hB50 := bg hB21 hg49 nb
  have hB51 := bg hB21 hg23 nb
  have hlo52 : w0.heap.size ≤ b25 := lob hbe29 hB51.size
  have hB53 := bg hB50 hg32 (rowlo hlo52)
  have hB54 := bg hB53 hg37 nb
  have hlo55 : w0.heap.size ≤ b1 := lob hbe5 hB0.size
  have hB56 := bg hB54 hg41 (rowlo hlo55)
  exact ⟨grown_of_below hB56, none, 0, rfl, (Gv.Own.nil (iE .i64) 3 w40 (fun _ => False)), (fun _ h => by cases h)⟩
 ·replace h0 := ite_f hc35 h0
  refine gv_skip <| gv_seq <| gv_region <| gv_pureN 1 [5] [(5, (.slice none (List.length ([] : List Int)) 0))] (by kernel_rfl) ?_
  refine gv_nil <| gv_seq <| gv_seq <| gv_region <| gv_pureN 1 [15] [(15, (.string s_0))] (by kernel_rfl) ?_
  refine gv_range (t := 9) (s := s_0) (by kernel_rfl) (by kernel_rfl) Tryd.underlying9 ?_
  intro b57 w58 hg59 hb60 hbe61 hz62
  clear hz62 hc35 hz34 hz30 hb28 hr20 hB18 hz12 hb10 hz6 hg3
  refine gv_nil <| bindE h0 ?_; clear h0; intro j63 h1 h0
  refine gv_cut_code (J := fun a w64 => ∃ (a5_0j : Option Addr) (c5_0j : Nat), Below w0.heap.size w0 w64 ∧ w58.heap.size ≤ w64.heap.size ∧ Gv.Own (iE .i64) 3 w64 (fun _ => False) a5_0j c5_0j j63 ∧ (∀ g, blk a5_0j = some g → w0.heap.size ≤ g) ∧ (∀ g, blk a5_0j = some g → ¬ (· = b1) g) ∧ ¬ (fun k => blk a5_0j = some k) b1 ∧ Box w64 b1 24 #[(.int .i64 0), (.int .i64 0)] ∧ a.defers = [] ∧ a.tmps.size = 27 ∧ Ok [(3, (bp b1)), (5, (.slice a5_0j (List.length j63) c5_0j))] a.tmps) ?_ ?_
  ·skip
   refine gv_block <| gv_loop (A := fun (s65 : ((List Int) × Nat)) a w66 => ∃ (a5_0j : Option Addr) (c5_0j : Nat), Below w0.heap.size w0 w66 ∧ w58.heap.size ≤ w66.heap.size ∧ Gv.Own (iE .i64) 3 w66 (fun _ => False) a5_0j c5_0j s65.1 ∧ (∀ g, blk a5_0j = some g → w0.heap.size ≤ g) ∧ (∀ g, blk a5_0j = some g → ¬ (· = b1) g) ∧ (∀ g, blk a5_0j = some g → ¬ (· = b57) g) ∧ ¬ (fun k => blk a5_0j = some k) b1 ∧ ¬ (fun k => blk a5_0j = some k) b57 ∧ Box w66 b1 24 #[(.int .i64 0), (.int .i64 0)] ∧ At w66 b57 (.stringIter s_0 s65.2) ∧ a.defers = [] ∧ a.tmps.size = 27 ∧ Ok [(3, (bp b1)), (5, (.slice a5_0j (List.length s65.1) c5_0j)), (16, (bp b57))] a.tmps) h1 ?_ ?_
   ·intro a hd hs hok
    have hg67 := (grown_trans hg23 hg27)
    have hB68 := bg hB21 hg67 nb
    have hB69 := bg hB21 hg23 nb
    have hlo70 : w0.heap.size ≤ b25 := lob hbe29 hB69.size
    have hB71 := bg hB68 hg32 (rowlo hlo70)
    have hB72 := bg hB71 hg59 nb
    have hg73 := (grown_trans hg9 hg67)
    have hg74 := (grown_trans hg9 hg23)
    have hk75 := hb4.grown hg74 nb
    have lt76 := ltl ((ltb hk75) _ rfl) ((lowb hbe29) _ rfl)
    have hk77 := ((hb4.grown hg73 nb).grown hg32 (rowne (ng lt76))).grown hg59 nb
    exact ⟨none, 0, hB72, (Nat.le_refl _), (Gv.Own.nil (iE .i64) 3 w58 (fun _ => False)), (fun _ h => by cases h), (fun _ h => by cases h), (fun _ h => by cases h), (fun h => by cases h), (fun h => by cases h), hk77, hb60, hd, hs, ok_pick [3, 5, 16] hok (by kernel_rfl)⟩
   ·rintro s65 r2 h2 hR2 a w66 ⟨a80, c81, hB78, hz79, ho82, hl83, ap84, ap85, ap86, ap87, hb88, hb89, hd, hs, hok⟩
    refine gv_in ?_ hd hs hok
    clear hd hs hok
    clear hb60 hg59 hl14 ho13 hbe11
    refine gv_seq <| gv_region <| gv_next (b := b57) (s := s_0) (pos := s65.2) (ty := 0) (by kernel_rfl) (by kernel_rfl) hb89 (fun hc90 => ?_) (fun hc90 => ?_)
    ·skip
     replace h2 := ite_t hc90 h2
     intro w91 hg92 hb93 hz94
     refine gv_pureN 1 [18] [(18, (.bool true))] (by kernel_rfl) ?_
     refine gv_nil <| gv_seq <| gv_cond (b := true) (by kernel_rfl) (fun hc => ?_) (fun hc => ?_)
     rotate_left; · cases hc
     clear hc
     refine gv_skip <| gv_block <| gv_seq <| gv_region <| gv_pureN 2 [7, 19] [(7, (.int .i32 (runeI s_0 s65.2)))] (by kernel_rfl) ?_
     refine gv_nil <| gv_region <| gv_pureN 3 [20, 21, 22] [(20, (.slice a80 (List.length s65.1) c81)), (22, (.int .i64 (IntKind.i64.wrap ((runeI s_0 s65.2)))))] (by kernel_rfl) ?_
     refine gv_new0 (fun b => .slice (some ⟨b, 0, none⟩) 1 1) #[(.int .i64 (IntKind.i64.wrap ((runeI s_0 s65.2))))] 3 (by kernel_rfl) (by kernel_rfl) ?_
     intro b95 w96 hg97 hb98 hbe99 hz100
     have ho101 : Gv.Own (iE .i64) 3 w96 (fun _ => False) (some ⟨b95, 0, none⟩) 1 ([(IntKind.i64.wrap ((runeI s_0 s65.2)))] : List Int) := Box.ownE hb98 ⟨[(.int .i64 (IntKind.i64.wrap ((runeI s_0 s65.2))))], [], rfl, rfl, rfl⟩ (show 1 ≤ maxLen by decide) (fun h => h)
     have hg106 := (grown_trans hg23 hg27)
     have hB107 := bg hB21 hg106 nb
     have hB108 := bg hB21 hg23 nb
     have hlo109 : w0.heap.size ≤ b25 := lob hbe29 hB108.size
     have hB110 := bg hB107 hg32 (rowlo hlo109)
     have hlo111 : w0.heap.size ≤ b57 := lob hbe61 hB110.size
     have hB112 := bg hB78 hg92 (rowlo hlo111)
     have hl102 : ∀ g, blk (some ⟨b95, 0, none⟩) = some g → w0.heap.size ≤ g := loo hbe99 hB112.size
     refine bindE h2 ?_; clear h2; intro l113 hx114 h2
     have hk121 := (ho82.grown hg92 (fun _ h => h.elim) (rdnn (rowne ap87))).grown hg97 (fun _ h => h.elim) nb
     refine gv_append (iE .i64) (t := 38) (ty := 38) (e := 3) (a := a80) (ax := (some ⟨b95, 0, none⟩)) (cap := c81) (cx := 1) (xs := s65.1) (ys := ([(IntKind.i64.wrap ((runeI s_0 s65.2)))] : List Int)) l113 (X := (fun _ => False)) (Y := (fun k => blk (some ⟨b95, 0, none⟩) = some k)) (by decide) rfl rfl (by kernel_rfl) (by kernel_rfl) Tryd.underlying38 info3 hk121 (ho101.rd (Y := fun k => blk (some ⟨b95, 0, none⟩) = some k) (fun _ h => h.elim) (fun g e => e)) hx114 (.inr fun _ _ _ _ _ h => h) (fun _ h => h.elim) ?_
     intro a115 c116 w117 hg118 ho119 hk120
     refine ⟨(fun e => by cases e), ?_⟩
     have hB123 := bg hB112 hg97 nb
     have hl122 : ∀ g, blk a115 = some g → w0.heap.size ≤ g := blk_step hk120 hl83 hB123.size
     have hg125 := (grown_trans hg9 hg23)
     have hk126 := hb4.grown hg125 nb
     have lt127 := ltl ((ltb hk126) _ rfl) ((lowb hbe29) _ rfl)
     have lt128 := ltl ((ltb hb33) _ rfl) ((lowb hbe61) _ rfl)
     have lt129 := ltt lt127 lt128
     have hk130 := (hb88.grown hg92 (rowne (ng lt129))).grown hg97 nb
     have ap124 : ∀ g, blk a115 = some g → ¬ (· = b1) g := blk_neX hk120 ap84 (ltb hk130)
     have ap131 : ¬ (fun k => blk a115 = some k) b1 := fun h => blk_rev hk120 (fun h => (ap86) h) (hk130.lt) h
     have hk133 := hb93.grown hg97 nb
     have ap132 : ∀ g, blk a115 = some g → ¬ (· = b57) g := blk_neX hk120 ap85 (ltA hk133)
     have ap134 : ¬ (fun k => blk a115 = some k) b57 := fun h => blk_rev hk120 (fun h => (ap87) h) (hk133.lt) h
     have hk136 := ho82.grown hg92 (fun _ h => h.elim) (rdnn (rowne ap87))
     have ap137 : ∀ g, blk a80 = some g → ¬ (fun k => blk (some ⟨b95, 0, none⟩) = some k) g := fun g e hx => nl ((lowo hbe99) _ hx) ((fun k (hk : blk a80 = some k) => hk136.lt k hk) g e)
     have ap135 : ∀ g, blk a115 = some g → ¬ (fun k => blk (some ⟨b95, 0, none⟩) = some k) g := blk_neX hk120 ap137 (fun k (hk : blk (some ⟨b95, 0, none⟩) = some k) => ho101.lt k hk)
     have ap139 : ∀ g, blk (some ⟨b95, 0, none⟩) = some g → ¬ (fun k => blk a80 = some k) g := fun g e hx => nl ((lowo hbe99) g e) ((fun k (hk : blk a80 = some k) => hk136.lt k hk) _ hx)
     have ap138 : ∀ g, blk (some ⟨b95, 0, none⟩) = some g → ¬ (fun k => blk a115 = some k) g := fun g e h => blk_rev hk120 (fun h => ((ap139) g e) h) (ho101.lt g e) h
     refine gv_pureN 1 [5] [(5, (.slice a115 (List.length l113) c116))] (by kernel_rfl) ?_
     refine gv_nil <| gv_blk ?_
     have e := sj h2; subst e
     refine gv_goal fun a hd hs hok => ?_
     have hB140 := bg hB123 hg118 hl83
     have hz141 := (nt (nt (nt hz79 hg92.size) hg97.size) hg118.size)
     have hk142 := hk130.grown hg118 ap84
     have hk143 := hk133.grown hg118 ap85
     exact ⟨(l113, (s65.2 + runeN s_0 s65.2)), rfl, a115, c116, hB140, hz141, ho119, hl122, ap124, ap132, ap131, ap134, hk142, hk143, hd, hs, ok_pick [3, 5, 16] hok (by kernel_rfl)⟩
    ·skip
     replace h2 := ite_f hc90 h2
     refine gv_pureN 1 [18] [(18, (.bool false))] (by kernel_rfl) ?_
     refine gv_nil <| gv_seq <| gv_cond (b := false) (by kernel_rfl) (fun hc => ?_) (fun hc => ?_)
     ·cases hc
     clear hc
     refine gv_cexit <| gv_exit rfl ?_
     have e := sj h2; subst e
     replace h1 := congrArg some (hR2 _ rfl)
     have e := sj h1; subst e
     refine gv_goal fun a hd hs hok => ?_
     have hz144 := hz79
     exact ⟨a80, c81, hB78, hz144, ho82, hl83, ap84, ap86, hb88, hd, hs, ok_pick [3, 5] hok (by kernel_rfl)⟩
  ·rintro a w64 ⟨a147, c148, hB145, hz146, ho149, hl150, ap151, ap152, hb153, hd, hs, hok⟩
   refine gv_in ?_ hd hs hok
   clear hd hs hok
   clear hz146 hbe61 hb60 hg59 hb33 hg32 hbe29 hg27 hg23 hB21 hl14 ho13 hbe11 hg9 hb4
   refine gv_seq <| gv_region <| gv_pureN 3 [2, 25, 26] [(2, (.slice a147 (List.length j63) c148)), (26, (.agg #[(.int .i64 0), (.int .i64 0)]))] (by kernel_rfl) ?_
   refine gv_store0 24 0 (.agg #[(.int .i64 0), (.int .i64 0)]) #[(.int .i64 0), (.int .i64 0)] hb153 (by kernel_rfl) (by kernel_rfl) (by kernel_rfl) ?_
   intro w154 hg155 hb156 hz157
   refine gv_nil <| gv_cret ?_
   have e := sj h0; subst e
   refine gv_ret (gv_done [(.slice a147 (List.length j63) c148), (.agg #[(.int .i64 0), (.int .i64 0)])] rfl ⟨(by kernel_rfl), ⟨⟨b1, 0, none⟩, (by kernel_rfl), run_loadVar_row w154 b1 _ 24 _ _ _ hb156 Tryd.underlying24 rfl (by kernel_rfl)⟩, trivial⟩ ?_)
   have hlo158 : w0.heap.size ≤ b1 := lob hbe5 hB0.size
   have hB159 := bg hB145 hg155 (rowlo hlo158)
   have hk160 := ho149.grown hg155 (fun _ h => h.elim) (rdnn (rowne ap152))
   exact ⟨grown_of_below hB159, a147, c148, rfl, hk160, hl150⟩

theorem textstr_Length_ok (fuel : Nat) (s_0 : ByteArray) (w0 : World) (X0 : Nat → Prop) (hX0 : ∀ k, X0 k → k < w0.heap.size) (hG1 : Rd bE w0 X0 (some ⟨1, 0, none⟩) 256 utf8First) (hG2 : Rd (prE (iE .u8) (iE .u8)) w0 X0 (some ⟨2, 0, none⟩) 16 utf8Acc) (r0 : (Int × (Int × Int))) (h0 : textstr_Length fuel s_0 = some r0) :
    Calls Tryd.prog 17 ([(.string s_0)] : List Value).toArray w0 (Ret fun v w' => w0.grownBy w' none ∧ v = tup [(.int .i64 r0.1), (.agg #[(.int .i64 r0.2.1), (.int .i64 r0.2.2)])]) := by
 have hB0 : Below w0.heap.size w0 w0 := Below.refl _ _
 unfold textstr_Length at h0
 refine calls_run Tryd.func17 rfl Tryd.ntmps17 (by kernel_rfl) ?_
 refine gv_sub [0] (σ' := [(0, (.string s_0))]) (by kernel_rfl) ?_
 refine gv_seq <| gv_region <| gv_pureN 1 [2] [] (by kernel_rfl) ?_
 refine gv_new0 (fun b => .pointer (some ⟨b, 0, none⟩)) #[(.int .i64 0), (.int .i64 0)] 24 (by kernel_rfl) (by kernel_rfl) ?_
 intro b1 w2 hg3 hb4 hbe5 hz6
 refine gv_nil <| gv_seq <| gv_region <| gv_pureN 1 [7] [(7, (.string s_0))] (by kernel_rfl) ?_
 refine bindE h0 ?_; clear h0; intro r7 hr8 h0
 have hB9 := bg hB0 hg3 nb
 refine gv_call0 (by kernel_rfl) rfl (by kernel_rfl) enters61 (textstr_Points_ok fuel s_0 w2 (fun k => X0 k ∨ X0 k) (fun k hk => (hk).elim (fun h => (fun k (hk : X0 k) => ltl (hX0 k hk) hB9.size) k h) (fun h => (fun k (hk : X0 k) => ltl (hX0 k hk) hB9.size) k h)) ((hG1.below hB9 hX0).wide (fun k hk => (.inl hk))) ((hG2.below hB9 hX0).wide (fun k hk => (.inr hk))) r7 hr8) ?_
 rintro v12 w10 ⟨hg11, a13, c14, rfl, ho15, hl16⟩
 have hl17 : ∀ g, blk a13 = some g → w0.heap.size ≤ g := fun g e => Nat.le_trans hB9.size (hl16 g e)
 refine gv_pureN 3 [6, 9, 10] [(9, (.slice a13 (List.length r7.1) c14)), (10, (.agg #[(.int .i64 r7.2.1), (.int .i64 r7.2.2)]))] (by kernel_rfl) ?_
 refine gv_new0 (fun b => .pointer (some ⟨b, 0, none⟩)) #[(.int .i64 0), (.int .i64 0)] 24 (by kernel_rfl) (by kernel_rfl) ?_
 intro b18 w19 hg20 hb21 hbe22 hz23
 refine gv_pureN 1 [4] [(4, (.slice a13 (List.length r7.1) c14))] (by kernel_rfl) ?_
 refine gv_store0 24 0 (.agg #[(.int .i64 r7.2.1), (.int .i64 r7.2.2)]) #[(.int .i64 r7.2.1), (.int .i64 r7.2.2)] hb21 (by kernel_rfl) (by kernel_rfl) (by kernel_rfl) ?_
 intro w24 hg25 hb26 hz27
 refine gv_nil <| gv_seq <| gv_drawA (by kernel_rfl) ?_
 intro w28 hg29
 refine gv_pre [0, 1, 3] (bA 5 [0, 1, 3]) 2 (by kernel_rfl) (by kernel_rfl) ?_
 refine gv_pureN 3 [2, 11, 12] [(2, (.int .i64 ((List.length r7.1 : Nat) : Int)))] (by kernel_rfl) ?_
 refine gv_nil <| gv_goA ?_
 refine gv_stage (Cls w28 []) [0, 1, 2, 3] [(2, some true)] (bA 5 [0, 1, 2, 3]) 1 (by kernel_rfl) (by kernel_rfl) (Cls.refl _ _) ?_
 have hC30 := Cls.refl w28 []
 have hk31 := hb26.grown hg29 nb
 refine gv_loadBox (t := 24) (b := b18) (t' := 24) (fr := (0, 0)) #[(.int .i64 r7.2.1), (.int .i64 r7.2.2)] [] (fun e => by cases e) rfl rfl rfl (by kernel_rfl) (by kernel_rfl) (by kernel_rfl) (by kernel_rfl) (inw1 fun w' hC' => (hC'.box hk31 nm_nil)) rfl ?_
 refine gv_nil <| gv_goA ?_
 refine gv_stage (fun _ => True) [0, 1, 2, 3, 4] [(4, some false)] (bA 5 [0, 1, 2, 3, 4]) 0 (by kernel_rfl) (by kernel_rfl) trivial ?_
 have hg36 := (grown_trans hg11 hg20)
 have hk37 := hb4.grown hg11 nb
 have lt38 := ltl ((ltb hk37) _ rfl) ((lowb hbe22) _ rfl)
 have hk39 := ((hb4.grown hg36 nb).grown hg25 (rowne (ng lt38))).grown hg29 nb
 refine gv_store (t := 24) (b := b1) (off := 0) (v := (.agg #[(.int .i64 r7.2.1), (.int .i64 r7.2.2)])) (t' := 24) (cs := #[(.int .i64 0), (.int .i64 0)]) #[(.int .i64 r7.2.1), (.int .i64 r7.2.2)] (by decide) rfl rfl (by kernel_rfl) (by kernel_rfl) (by kernel_rfl) (by intro u hu; simp [Value.cells] at hu; rcases hu with rfl | rfl <;> rfl) (show 0 + 2 ≤ 2 by decide) (by rfl) hk39 ?_
 intro w32 hg33 hb34 hz35
 refine ⟨(fun _ => trivial), ?_⟩
 refine gv_nil <| gv_goA ?_
 refine gv_stageE (by kernel_rfl) ?_
 refine gv_cret ?_
 have e := sj h0; subst e
 refine gv_ret (gv_done [(.int .i64 ((List.length r7.1 : Nat) : Int)), (.agg #[(.int .i64 r7.2.1), (.int .i64 r7.2.2)])] rfl ⟨(by kernel_rfl), ⟨⟨b1, 0, none⟩, (by kernel_rfl), run_loadVar_row w32 b1 _ 24 _ _ _ hb34 Tryd.underlying24 rfl (by kernel_rfl)⟩, trivial⟩ ?_)
 have hB40 := bg hB9 hg36 nb
 have hB41 := bg hB9 hg11 nb
 have hlo42 : w0.heap.size ≤ b18 := lob hbe22 hB41.size
 have hB43 := bg hB40 hg25 (rowlo hlo42)
 have hB44 := bg hB43 hg29 nb
 have hlo45 : w0.heap.size ≤ b1 := lob hbe5 hB0.size
 have hB46 := bg hB44 hg33 (rowlo hlo45)
 exact ⟨grown_of_below hB46, rfl⟩

theorem ref4_behind_ok (fuel : Nat) (pa0_0 : Option Addr) (pc0_0 : Nat) (s_0 : (List UInt8)) (i_1 : Int) (w0 : World) (X0 : Nat → Prop) (hX0 : ∀ k, X0 k → k < w0.heap.size) (hpa0_0 : Rd bE w0 X0 pa0_0 pc0_0 s_0) (r0 : Int) (h0 : ref4_behind fuel s_0 i_1 = some r0) :
    Calls Tryd.prog 92 ([(.slice pa0_0 (List.length s_0) pc0_0), (.int .i64 i_1)] : List Value).toArray w0 (Ret fun v w' => w0.grownBy w' none ∧ v = tup [(.int .i64 r0)]) := by
 have hB0 : Below w0.heap.size w0 w0 := Below.refl _ _
 unfold ref4_behind at h0
 refine calls_run Tryd.func92 rfl Tryd.ntmps92 (by kernel_rfl) ?_
 refine gv_sub [0, 1] (σ' := [(0, (.slice pa0_0 (List.length s_0) pc0_0)), (1, (.int .i64 i_1))]) (by kernel_rfl) ?_
 refine gv_seq <| gv_region <| gv_pureN 1 [4] [] (by kernel_rfl) ?_
 refine gv_nil <| gv_seq <| gv_seq <| gv_region <| bindE h0 ?_; clear h0; intro j1 h1 h0
 refine gv_cut_ops (J := fun a w2 => Below w0.heap.size w0 w2 ∧ w0.heap.size ≤ w2.heap.size ∧ a.defers = [] ∧ a.tmps.size = 29 ∧ Ok [(0, (.slice pa0_0 (List.length s_0) pc0_0)), (1, (.int .i64 i_1)), (22, (.bool j1))] a.tmps) ?_ ?_
 ·skip
  refine gv_pureN 5 [5, 6, 7, 8, 9] [(9, (.bool (decide (i_1 < ((List.length s_0 : Nat) : Int)))))] (by kernel_rfl) ?_
  refine gv_split (s := 9) (g := (decide (i_1 < ((List.length s_0 : Nat) : Int)))) (by kernel_rfl) (fun hc3 => ?_) (fun hc3 => ?_)
  ·skip
   replace h1 := ite_t hc3 h1
   refine gv_pureN 2 [10, 11] [(10, (.slice pa0_0 (List.length s_0) pc0_0)), (11, (.int .i64 i_1))] (by kernel_rfl) ?_
   refine bindE h1 ?_; clear h1; intro x4 hx5 h1
   refine gv_idxaddr (t := 82) (e := 5) (a := pa0_0) (len := List.length s_0) (cap := pc0_0) (kk := .i64) (i := i_1) (sz := 1) [] (fun e => by cases e) rfl rfl rfl (by kernel_rfl) (by kernel_rfl) Tryd.underlying82 (by kernel_rfl) ((hpa0_0.below hB0 hX0).has hx5) (idx_spec hx5).1 (idx_spec hx5).2.1 rfl ?_
   refine gv_load (t := 5) (A := (elemAddr pa0_0 ((i_1 : Int).toNat * 1))) (.int .u8 ((x4).toNat : Int)) [] (fun e => by cases e) rfl rfl rfl (by kernel_rfl) (by kernel_rfl) (by kernel_rfl) (inw0 ((hpa0_0.below hB0 hX0).cell hx5)) rfl ?_
   refine gv_pureN 3 [14, 15, 16] [(16, (.bool (decide (((x4).toNat : Int) ≥ 128))))] (by kernel_rfl) ?_
   refine gv_split (s := 16) (g := (decide (((x4).toNat : Int) ≥ 128))) (by kernel_rfl) (fun hc6 => ?_) (fun hc6 => ?_)
   ·skip
    replace h1 := ite_t hc6 h1
    refine gv_pureN 2 [17, 18] [(17, (.slice pa0_0 (List.length s_0) pc0_0)), (18, (.int .i64 i_1))] (by kernel_rfl) ?_
    refine bindE h1 ?_; clear h1; intro x7 hx8 h1
    refine gv_idxaddr (t := 82) (e := 5) (a := pa0_0) (len := List.length s_0) (cap := pc0_0) (kk := .i64) (i := i_1) (sz := 1) [] (fun e => by cases e) rfl rfl rfl (by kernel_rfl) (by kernel_rfl) Tryd.underlying82 (by kernel_rfl) ((hpa0_0.below hB0 hX0).has hx8) (idx_spec hx8).1 (idx_spec hx8).2.1 rfl ?_
    refine gv_load (t := 5) (A := (elemAddr pa0_0 ((i_1 : Int).toNat * 1))) (.int .u8 ((x7).toNat : Int)) [] (fun e => by cases e) rfl rfl rfl (by kernel_rfl) (by kernel_rfl) (by kernel_rfl) (inw0 ((hpa0_0.below hB0 hX0).cell hx8)) rfl ?_
    refine gv_pureN 2 [21, 22] [(22, (.bool (decide (((x7).toNat : Int) < 192))))] (by kernel_rfl) ?_
    refine gv_nil ?_
    have e := sj h1; subst e
    refine gv_goal fun a hd hs hok => ?_
    exact ⟨hB0, (Nat.le_refl _), hd, hs, ok_pick [0, 1, 22] hok (by kernel_rfl)⟩
   ·skip
    replace h1 := ite_f hc6 h1
    refine gv_pureN 6 [17, 18, 19, 20, 21, 22] [(22, (.bool false))] (by kernel_rfl) ?_
    refine gv_nil ?_
    have e := sj h1; subst e
    refine gv_goal fun a hd hs hok => ?_
    exact ⟨hB0, (Nat.le_refl _), hd, hs, ok_pick [0, 1, 22] hok (by kernel_rfl)⟩
  ·skip
   replace h1 := ite_f hc3 h1
   refine gv_pureN 13 [10, 11, 12, 13, 14, 15, 16, 17, 18, 19, 20, 21, 22] [(22, (.bool false))] (by kernel_rfl) ?_
   refine gv_nil ?_
   have e := sj h1; subst e
   refine gv_goal fun a hd hs hok => ?_
   exact ⟨hB0, (Nat.le_refl _), hd, hs, ok_pick [0, 1, 22] hok (by kernel_rfl)⟩
 ·rintro a w2 ⟨hB9, hz10, hd, hs, hok⟩
  refine gv_in ?_ hd hs hok
  clear hd hs hok
  refine gv_cond (b := j1) (by kernel_rfl) (fun hc11 => ?_) (fun hc11 => ?_)
  ·replace h0 := ite_t hc11 h0
   refine gv_seq <| gv_region <| gv_pureN 2 [23, 24] [(23, (.slice pa0_0 (List.length s_0) pc0_0)), (24, (.int .i64 i_1))] (by kernel_rfl) ?_
   refine bindE h0 ?_; clear h0; intro x12 hx13 h0
   refine gv_idxaddr (t := 82) (e := 5) (a := pa0_0) (len := List.length s_0) (cap := pc0_0) (kk := .i64) (i := i_1) (sz := 1) [] (fun e => by cases e) rfl rfl rfl (by kernel_rfl) (by kernel_rfl) Tryd.underlying82 (by kernel_rfl) ((hpa0_0.below hB9 hX0).has hx13) (idx_spec hx13).1 (idx_spec hx13).2.1 rfl ?_
   refine gv_load (t := 5) (A := (elemAddr pa0_0 ((i_1 : Int).toNat * 1))) (.int .u8 ((x12).toNat : Int)) [] (fun e => by cases e) rfl rfl rfl (by kernel_rfl) (by kernel_rfl) (by kernel_rfl) (inw0 ((hpa0_0.below hB9 hX0).cell hx13)) rfl ?_
   refine gv_pureN 3 [4, 27, 28] [(4, (.int .i64 (IntKind.i64.wrap ((IntKind.i64.wrap (((x12).toNat : Int))) - 128))))] (by kernel_rfl) ?_
   refine bindE h0 ?_; clear h0; intro n14 hn15 h0
   refine gv_name (s := 4) (v := (.int .i64 (IntKind.i64.wrap ((IntKind.i64.wrap (((x12).toNat : Int))) - 128)))) (v' := (.int .i64 n14)) (by kernel_rfl) (congrArg (Value.int .i64) (sj hn15)) ?_
   refine gv_nil <| gv_cret ?_
   have e := sj h0; subst e
   refine gv_ret (gv_done [(.int .i64 n14)] rfl ⟨(by kernel_rfl), trivial⟩ ?_)
   exact ⟨grown_of_below hB9, rfl⟩
  ·replace h0 := ite_f hc11 h0
   refine gv_skip <| gv_seq <| gv_region <| gv_pureN 1 [4] [(4, (.int .i64 (-1)))] (by kernel_rfl) ?_
   refine gv_nil <| gv_cret ?_
   have e := sj h0; subst e
   refine gv_ret (gv_done [(.int .i64 (-1))] rfl ⟨(by kernel_rfl), trivial⟩ ?_)
   exact ⟨grown_of_below hB9, rfl⟩

theorem ref4_unit_ok (fuel : Nat) (pa0_0 : Option Addr) (pc0_0 : Nat) (s_0 : (List UInt8)) (at_1 : Int) (w0 : World) (X0 : Nat → Prop) (hX0 : ∀ k, X0 k → k < w0.heap.size) (hpa0_0 : Rd bE w0 X0 pa0_0 pc0_0 s_0) (r0 : (Int × Int)) (h0 : ref4_unit fuel s_0 at_1 = some r0) :
    Calls Tryd.prog 67 ([(.slice pa0_0 (List.length s_0) pc0_0), (.int .i64 at_1)] : List Value).toArray w0 (Ret fun v w' => w0.grownBy w' none ∧ v = tup [(.int .i64 r0.1), (.int .i64 r0.2)]) := by
 have hB0 : Below w0.heap.size w0 w0 := Below.refl _ _
 unfold ref4_unit at h0
 refine calls_run Tryd.func67 rfl Tryd.ntmps67 (by kernel_rfl) ?_
 refine gv_sub [0, 1] (σ' := [(0, (.slice pa0_0 (List.length s_0) pc0_0)), (1, (.int .i64 at_1))]) (by kernel_rfl) ?_
 refine gv_seq <| gv_region <| gv_pureN 2 [4, 5] [] (by kernel_rfl) ?_
 refine gv_nil <| gv_seq <| gv_drawA (by kernel_rfl) ?_
 intro w1 hg2
 refine gv_pre [0, 1, 2, 5, 6, 7, 9, 10, 11, 13, 14, 15] (bA 21 [0, 1, 2, 5, 6, 7, 9, 10, 11, 13, 14, 15]) 9 (by kernel_rfl) (by kernel_rfl) ?_
 refine gv_pureN 2 [12, 13] [(12, (.slice pa0_0 (List.length s_0) pc0_0)), (13, (.int .i64 at_1))] (by kernel_rfl) ?_
 refine bindE h0 ?_; clear h0; intro x3 hx4 h0
 have hB5 := bg hB0 hg2 nb
 refine gv_idxaddr (t := 82) (e := 5) (a := pa0_0) (len := List.length s_0) (cap := pc0_0) (kk := .i64) (i := at_1) (sz := 1) [] (fun e => by cases e) rfl rfl rfl (by kernel_rfl) (by kernel_rfl) Tryd.underlying82 (by kernel_rfl) ((hpa0_0.below hB5 hX0).has hx4) (idx_spec hx4).1 (idx_spec hx4).2.1 rfl ?_
 refine gv_pureN 9 [17, 18, 19, 21, 22, 23, 25, 26, 27] [(17, (.slice pa0_0 (List.length s_0) pc0_0)), (19, (.int .i64 (IntKind.i64.wrap (at_1 + 1)))), (21, (.slice pa0_0 (List.length s_0) pc0_0)), (23, (.int .i64 (IntKind.i64.wrap (at_1 + 2)))), (25, (.slice pa0_0 (List.length s_0) pc0_0)), (27, (.int .i64 (IntKind.i64.wrap (at_1 + 3))))] (by kernel_rfl) ?_
 refine gv_nil <| gv_goA ?_
 refine gv_stage (Cls w1 []) [0, 1, 2, 3, 4, 5, 6, 7, 8, 9, 10, 11, 12, 13, 14, 15, 16] [(3, some true), (4, some true), (8, some false), (12, some false), (16, some false)] (bA 21 [0, 1, 2, 3, 4, 5, 6, 7, 8, 9, 10, 11, 12, 13, 14, 15, 16]) 4 (by kernel_rfl) (by kernel_rfl) (Cls.refl _ _) ?_
 have hC6 := Cls.refl w1 []
 refine gv_load (t := 5) (A := (elemAddr pa0_0 ((at_1 : Int).toNat * 1))) (.int .u8 ((x3).toNat : Int)) [] (fun e => by cases e) rfl rfl rfl (by kernel_rfl) (by kernel_rfl) (by kernel_rfl) (inw1 fun w' hC' => ((hC'.rd (hpa0_0.below hB5 hX0) (fun k (hk : X0 k) => ltl (hX0 k hk) hB5.size) nmx_nil).cell hx4)) rfl ?_
 refine gv_pureN 1 [16] [(16, (.int .i64 (IntKind.i64.wrap (((x3).toNat : Int)))))] (by kernel_rfl) ?_
 refine bindE h0 ?_; clear h0; intro r7 hr8 h0
 refine gv_call (f := 92) (vs := [(.slice pa0_0 (List.length s_0) pc0_0), (.int .i64 (IntKind.i64.wrap (at_1 + 1)))]) (cap := []) _ (by decide) rfl rfl rfl (by kernel_rfl) (by kernel_rfl) enters92 (ref4_behind_ok fuel pa0_0 pc0_0 s_0 (IntKind.i64.wrap (at_1 + 1)) w1 (fun k => X0 k) (fun k hk => (fun k (hk : X0 k) => ltl (hX0 k hk) hB5.size) k hk) ((hpa0_0.below hB5 hX0).wide (fun k hk => hk)) r7 hr8) ?_
 rintro v11 w9 ⟨hg10, rfl⟩
 refine ⟨(fun _ => hC6.grown hg10 nb), ?_⟩
 refine bindE h0 ?_; clear h0; intro r12 hr13 h0
 have hB14 := bg hB5 hg10 nb
 refine gv_call (f := 92) (vs := [(.slice pa0_0 (List.length s_0) pc0_0), (.int .i64 (IntKind.i64.wrap (at_1 + 2)))]) (cap := []) _ (by decide) rfl rfl rfl (by kernel_rfl) (by kernel_rfl) enters92 (ref4_behind_ok fuel pa0_0 pc0_0 s_0 (IntKind.i64.wrap (at_1 + 2)) w9 (fun k => X0 k) (fun k hk => (fun k (hk : X0 k) => ltl (hX0 k hk) hB14.size) k hk) ((hpa0_0.below hB14 hX0).wide (fun k hk => hk)) r12 hr13) ?_
 rintro v17 w15 ⟨hg16, rfl⟩
 have hC18 := hC6.grown hg10 nb
 refine ⟨(fun _ => hC18.grown hg16 nb), ?_⟩
 refine bindE h0 ?_; clear h0; intro r19 hr20 h0
 have hB21 := bg hB14 hg16 nb
 refine gv_call (f := 92) (vs := [(.slice pa0_0 (List.length s_0) pc0_0), (.int .i64 (IntKind.i64.wrap (at_1 + 3)))]) (cap := []) _ (by decide) rfl rfl rfl (by kernel_rfl) (by kernel_rfl) enters92 (ref4_behind_ok fuel pa0_0 pc0_0 s_0 (IntKind.i64.wrap (at_1 + 3)) w15 (fun k => X0 k) (fun k hk => (fun k (hk : X0 k) => ltl (hX0 k hk) hB21.size) k hk) ((hpa0_0.below hB21 hX0).wide (fun k hk => hk)) r19 hr20) ?_
 rintro v24 w22 ⟨hg23, rfl⟩
 have hC25 := hC18.grown hg16 nb
 refine ⟨(fun _ => hC25.grown hg23 nb), ?_⟩
 refine gv_nil <| gv_goA ?_
 refine gv_pre [17, 18, 19, 20] (bA 21 [0, 1, 2, 3, 4, 5, 6, 7, 8, 9, 10, 11, 12, 13, 14, 15, 16, 17, 18, 19, 20]) 0 (by kernel_rfl) (by kernel_rfl) ?_
 refine gv_pureN 4 [6, 7, 8, 9] [(6, (.int .i64 (IntKind.i64.wrap (((x3).toNat : Int))))), (7, (.int .i64 r7)), (8, (.int .i64 r12)), (9, (.int .i64 r19))] (by kernel_rfl) ?_
 refine gv_nil <| gv_goA ?_
 refine gv_stageE (by kernel_rfl) ?_
 refine gv_seq <| gv_block <| gv_seq <| gv_region <| gv_pureN 3 [29, 30, 31] [(29, (.bool (decide ((IntKind.i64.wrap (((x3).toNat : Int))) < 128))))] (by kernel_rfl) ?_
 refine bindE h0 ?_; clear h0; intro n26 hn27 h0
 refine gv_name (s := 29) (v := (.bool (decide ((IntKind.i64.wrap (((x3).toNat : Int))) < 128)))) (v' := (.bool n26)) (by kernel_rfl) (congrArg (Value.bool) (sj hn27)) ?_
 refine gv_nil <| gv_cond (b := n26) (by kernel_rfl) (fun hc28 => ?_) (fun hc28 => ?_)
 ·replace h0 := ite_t hc28 h0
  refine gv_seq <| gv_region <| gv_pureN 3 [4, 5, 32] [(4, (.int .i64 (IntKind.i64.wrap (((x3).toNat : Int))))), (5, (.int .i64 1))] (by kernel_rfl) ?_
  refine gv_nil <| gv_cret ?_
  have e := sj h0; subst e
  refine gv_ret (gv_done [(.int .i64 (IntKind.i64.wrap (((x3).toNat : Int)))), (.int .i64 1)] rfl ⟨(by kernel_rfl), (by kernel_rfl), trivial⟩ ?_)
  have hB29 := bg hB21 hg23 nb
  exact ⟨grown_of_below hB29, rfl⟩
 ·replace h0 := ite_f hc28 h0
  refine gv_seq <| gv_region <| gv_cut_ops (J := fun a w30 => w22 = w30 ∧ a.defers = [] ∧ a.tmps.size = 120 ∧ Ok [(6, (.int .i64 (IntKind.i64.wrap (((x3).toNat : Int))))), (7, (.int .i64 r7)), (8, (.int .i64 r12)), (9, (.int .i64 r19)), (33, (.bool ((decide ((IntKind.i64.wrap (((x3).toNat : Int))) ≥ 194)) && ((decide ((IntKind.i64.wrap (((x3).toNat : Int))) < 224)) && (decide (r7 ≥ 0))))))] a.tmps) ?_ ?_
  ·skip
   refine gv_pureN 3 [34, 35, 36] [(36, (.bool (decide ((IntKind.i64.wrap (((x3).toNat : Int))) ≥ 194))))] (by kernel_rfl) ?_
   refine gv_split (s := 36) (g := (decide ((IntKind.i64.wrap (((x3).toNat : Int))) ≥ 194))) (by kernel_rfl) (fun hc31 => ?_) (fun hc31 => ?_)
   ·skip
    refine gv_pureN 4 [37, 38, 39, 40] [(40, (.bool (decide ((IntKind.i64.wrap (((x3).toNat : Int))) < 224))))] (by kernel_rfl) ?_
    refine gv_split (s := 40) (g := (decide ((IntKind.i64.wrap (((x3).toNat : Int))) < 224))) (by kernel_rfl) (fun hc32 => ?_) (fun hc32 => ?_)
    ·skip
     refine gv_pureN 4 [33, 41, 42, 43] [(33, (.bool (decide (r7 ≥ 0))))] (by kernel_rfl) ?_
     refine gv_sub [6, 7, 8, 9, 33] (σ' := [(6, (.int .i64 (IntKind.i64.wrap (((x3).toNat : Int))))), (7, (.int .i64 r7)), (8, (.int .i64 r12)), (9, (.int .i64 r19)), (33, (.bool (decide (r7 ≥ 0))))]) (by kernel_rfl) ?_
     refine gv_nil <| gv_sub [6, 7, 8, 9, 33] (σ' := [(6, (.int .i64 (IntKind.i64.wrap (((x3).toNat : Int))))), (7, (.int .i64 r7)), (8, (.int .i64 r12)), (9, (.int .i64 r19)), (33, (.bool (decide (r7 ≥ 0))))]) (by kernel_rfl) ?_
     refine gv_goal fun a hd hs hok => ⟨rfl, hd, hs, ?_⟩
     obtain ⟨q6, q7, q8, q9, q33, _⟩ := hok
     exact ⟨q6, q7, q8, q9, (by rw [hc31, hc32]; exact q33), trivial⟩
    ·skip
     refine gv_pureN 4 [33, 41, 42, 43] [(33, (.bool false))] (by kernel_rfl) ?_
     refine gv_sub [6, 7, 8, 9, 33] (σ' := [(6, (.int .i64 (IntKind.i64.wrap (((x3).toNat : Int))))), (7, (.int .i64 r7)), (8, (.int .i64 r12)), (9, (.int .i64 r19)), (33, (.bool false))]) (by kernel_rfl) ?_
     refine gv_nil <| gv_sub [6, 7, 8, 9, 33] (σ' := [(6, (.int .i64 (IntKind.i64.wrap (((x3).toNat : Int))))), (7, (.int .i64 r7)), (8, (.int .i64 r12)), (9, (.int .i64 r19)), (33, (.bool false))]) (by kernel_rfl) ?_
     refine gv_goal fun a hd hs hok => ⟨rfl, hd, hs, ?_⟩
     obtain ⟨q6, q7, q8, q9, q33, _⟩ := hok
     exact ⟨q6, q7, q8, q9, (by rw [hc31, hc32]; exact q33), trivial⟩
   ·skip
    refine gv_pureN 8 [33, 37, 38, 39, 40, 41, 42, 43] [(33, (.bool false))] (by kernel_rfl) ?_
    refine gv_nil <| gv_sub [6, 7, 8, 9, 33] (σ' := [(6, (.int .i64 (IntKind.i64.wrap (((x3).toNat : Int))))), (7, (.int .i64 r7)), (8, (.int .i64 r12)), (9, (.int .i64 r19)), (33, (.bool false))]) (by kernel_rfl) ?_
    refine gv_goal fun a hd hs hok => ⟨rfl, hd, hs, ?_⟩
    obtain ⟨q6, q7, q8, q9, q33, _⟩ := hok
    exact ⟨q6, q7, q8, q9, (by rw [hc31]; exact q33), trivial⟩
  ·rintro a w30 ⟨e, hd, hs, hok⟩; subst e
   refine gv_in ?_ hd hs hok
   clear hd hs hok
   refine gv_cond (b := ((decide ((IntKind.i64.wrap (((x3).toNat : Int))) ≥ 194)) && ((decide ((IntKind.i64.wrap (((x3).toNat : Int))) < 224)) && (decide (r7 ≥ 0))))) (by kernel_rfl) (fun hc33 => ?_) (fun hc33 => ?_)
   ·replace h0 := ite_t hc33 h0
    refine gv_seq <| gv_region <| gv_pureN 7 [4, 5, 44, 45, 46, 47, 48] [(4, (.int .i64 (IntKind.i64.wrap ((IntKind.i64.wrap ((IntKind.i64.wrap ((IntKind.i64.wrap (((x3).toNat : Int))) - 192)) * 64)) + r7)))), (5, (.int .i64 2))] (by kernel_rfl) ?_
    refine bindE h0 ?_; clear h0; intro n34 hn35 h0
    refine gv_name (s := 4) (v := (.int .i64 (IntKind.i64.wrap ((IntKind.i64.wrap ((IntKind.i64.wrap ((IntKind.i64.wrap (((x3).toNat : Int))) - 192)) * 64)) + r7)))) (v' := (.int .i64 n34)) (by kernel_rfl) (congrArg (Value.int .i64) (sj hn35)) ?_
    refine gv_nil <| gv_cret ?_
    have e := sj h0; subst e
    refine gv_ret (gv_done [(.int .i64 n34), (.int .i64 2)] rfl ⟨(by kernel_rfl), (by kernel_rfl), trivial⟩ ?_)
    have hB36 := bg hB21 hg23 nb
    exact ⟨grown_of_below hB36, rfl⟩
   ·replace h0 := ite_f hc33 h0
    refine gv_seq <| gv_region <| gv_cut_ops (J := fun a w37 => w22 = w37 ∧ a.defers = [] ∧ a.tmps.size = 120 ∧ Ok [(6, (.int .i64 (IntKind.i64.wrap (((x3).toNat : Int))))), (7, (.int .i64 r7)), (8, (.int .i64 r12)), (9, (.int .i64 r19)), (49, (.bool ((decide ((IntKind.i64.wrap (((x3).toNat : Int))) ≥ 224)) && ((decide ((IntKind.i64.wrap (((x3).toNat : Int))) < 240)) && ((decide (r7 ≥ 0)) && (decide (r12 ≥ 0)))))))] a.tmps) ?_ ?_
    ·skip
     refine gv_pureN 3 [50, 51, 52] [(52, (.bool (decide ((IntKind.i64.wrap (((x3).toNat : Int))) ≥ 224))))] (by kernel_rfl) ?_
     refine gv_split (s := 52) (g := (decide ((IntKind.i64.wrap (((x3).toNat : Int))) ≥ 224))) (by kernel_rfl) (fun hc38 => ?_) (fun hc38 => ?_)
     ·skip
      refine gv_pureN 4 [53, 54, 55, 56] [(56, (.bool (decide ((IntKind.i64.wrap (((x3).toNat : Int))) < 240))))] (by kernel_rfl) ?_
      refine gv_split (s := 56) (g := (decide ((IntKind.i64.wrap (((x3).toNat : Int))) < 240))) (by kernel_rfl) (fun hc39 => ?_) (fun hc39 => ?_)
      ·skip
       refine gv_pureN 4 [57, 58, 59, 60] [(60, (.bool (decide (r7 ≥ 0))))] (by kernel_rfl) ?_
       refine gv_sub [6, 7, 8, 9, 60] (σ' := [(6, (.int .i64 (IntKind.i64.wrap (((x3).toNat : Int))))), (7, (.int .i64 r7)), (8, (.int .i64 r12)), (9, (.int .i64 r19)), (60, (.bool (decide (r7 ≥ 0))))]) (by kernel_rfl) ?_
       refine gv_split (s := 60) (g := (decide (r7 ≥ 0))) (by kernel_rfl) (fun hc40 => ?_) (fun hc40 => ?_)
       ·skip
        refine gv_pureN 4 [49, 61, 62, 63] [(49, (.bool (decide (r12 ≥ 0))))] (by kernel_rfl) ?_
        refine gv_nil <| gv_sub [6, 7, 8, 9, 49] (σ' := [(6, (.int .i64 (IntKind.i64.wrap (((x3).toNat : Int))))), (7, (.int .i64 r7)), (8, (.int .i64 r12)), (9, (.int .i64 r19)), (49, (.bool (decide (r12 ≥ 0))))]) (by kernel_rfl) ?_
        refine gv_goal fun a hd hs hok => ⟨rfl, hd, hs, ?_⟩
        obtain ⟨q6, q7, q8, q9, q49, _⟩ := hok
        exact ⟨q6, q7, q8, q9, (by rw [hc38, hc39, hc40]; exact q49), trivial⟩
       ·skip
        refine gv_pureN 4 [49, 61, 62, 63] [(49, (.bool false))] (by kernel_rfl) ?_
        refine gv_nil <| gv_sub [6, 7, 8, 9, 49] (σ' := [(6, (.int .i64 (IntKind.i64.wrap (((x3).toNat : Int))))), (7, (.int .i64 r7)), (8, (.int .i64 r12)), (9, (.int .i64 r19)), (49, (.bool false))]) (by kernel_rfl) ?_
        refine gv_goal fun a hd hs hok => ⟨rfl, hd, hs, ?_⟩
        obtain ⟨q6, q7, q8, q9, q49, _⟩ := hok
        exact ⟨q6, q7, q8, q9, (by rw [hc38, hc39, hc40]; exact q49), trivial⟩
      ·skip
       refine gv_pureN 8 [49, 57, 58, 59, 60, 61, 62, 63] [(49, (.bool false))] (by kernel_rfl) ?_
       refine gv_sub [6, 7, 8, 9, 49] (σ' := [(6, (.int .i64 (IntKind.i64.wrap (((x3).toNat : Int))))), (7, (.int .i64 r7)), (8, (.int .i64 r12)), (9, (.int .i64 r19)), (49, (.bool false))]) (by kernel_rfl) ?_
       refine gv_nil <| gv_sub [6, 7, 8, 9, 49] (σ' := [(6, (.int .i64 (IntKind.i64.wrap (((x3).toNat : Int))))), (7, (.int .i64 r7)), (8, (.int .i64 r12)), (9, (.int .i64 r19)), (49, (.bool false))]) (by kernel_rfl) ?_
       refine gv_goal fun a hd hs hok => ⟨rfl, hd, hs, ?_⟩
       obtain ⟨q6, q7, q8, q9, q49, _⟩ := hok
       exact ⟨q6, q7, q8, q9, (by rw [hc38, hc39]; exact q49), trivial⟩
     ·skip
      refine gv_pureN 12 [49, 53, 54, 55, 56, 57, 58, 59, 60, 61, 62, 63] [(49, (.bool false))] (by kernel_rfl) ?_
      refine gv_nil <| gv_sub [6, 7, 8, 9, 49] (σ' := [(6, (.int .i64 (IntKind.i64.wrap (((x3).toNat : Int))))), (7, (.int .i64 r7)), (8, (.int .i64 r12)), (9, (.int .i64 r19)), (49, (.bool false))]) (by kernel_rfl) ?_
      refine gv_goal fun a hd hs hok => ⟨rfl, hd, hs, ?_⟩
      obtain ⟨q6, q7, q8, q9, q49, _⟩ := hok
      exact ⟨q6, q7, q8, q9, (by rw [hc38]; exact q49), trivial⟩
    ·rintro a w37 ⟨e, hd, hs, hok⟩; subst e
     refine gv_in ?_ hd hs hok
     clear hd hs hok
     refine bindE h0 ?_; clear h0; intro j41 h1 h0
     refine gv_cut_code (J := fun a w43 => ∃ s42 : Unit, j41 = .inl s42 ∧ Below w0.heap.size w0 w43 ∧ w22.heap.size ≤ w43.heap.size ∧ a.defers = [] ∧ a.tmps.size = 120 ∧ Ok [] a.tmps) ?_ ?_
     ·skip
      refine gv_cond (b := ((decide ((IntKind.i64.wrap (((x3).toNat : Int))) ≥ 224)) && ((decide ((IntKind.i64.wrap (((x3).toNat : Int))) < 240)) && ((decide (r7 ≥ 0)) && (decide (r12 ≥ 0)))))) (by kernel_rfl) (fun hc44 => ?_) (fun hc44 => ?_)
      ·replace h1 := ite_t hc44 h1
       refine gv_seq <| gv_region <| gv_pureN 9 [10, 64, 65, 66, 67, 68, 69, 70, 71] [(10, (.int .i64 (IntKind.i64.wrap ((IntKind.i64.wrap ((IntKind.i64.wrap ((IntKind.i64.wrap ((IntKind.i64.wrap (((x3).toNat : Int))) - 224)) * 4096)) + (IntKind.i64.wrap (r7 * 64)))) + r12))))] (by kernel_rfl) ?_
       refine bindE h1 ?_; clear h1; intro n45 hn46 h1
       refine gv_name (s := 10) (v := (.int .i64 (IntKind.i64.wrap ((IntKind.i64.wrap ((IntKind.i64.wrap ((IntKind.i64.wrap ((IntKind.i64.wrap (((x3).toNat : Int))) - 224)) * 4096)) + (IntKind.i64.wrap (r7 * 64)))) + r12)))) (v' := (.int .i64 n45)) (by kernel_rfl) (congrArg (Value.int .i64) (sj hn46)) ?_
       refine gv_nil <| gv_seq <| gv_region <| gv_cut_ops (J := fun a w47 => w22 = w47 ∧ a.defers = [] ∧ a.tmps.size = 120 ∧ Ok [(10, (.int .i64 n45)), (81, (.bool ((decide (n45 ≥ 2048)) && ((decide (n45 < 55296)) || (decide (n45 > 57343))))))] a.tmps) ?_ ?_
       ·skip
        refine gv_pureN 3 [72, 73, 74] [(74, (.bool (decide (n45 ≥ 2048))))] (by kernel_rfl) ?_
        refine gv_split (s := 74) (g := (decide (n45 ≥ 2048))) (by kernel_rfl) (fun hc48 => ?_) (fun hc48 => ?_)
        ·skip
         refine gv_pureN 3 [75, 76, 77] [(77, (.bool (decide (n45 < 55296))))] (by kernel_rfl) ?_
         refine gv_sub [10, 74, 77] (σ' := [(10, (.int .i64 n45)), (74, (.bool true)), (77, (.bool (decide (n45 < 55296))))]) (by kernel_rfl) ?_
         refine gv_split (s := 77) (g := (decide (n45 < 55296))) (by kernel_rfl) (fun hc49 => ?_) (fun hc49 => ?_)
         ·skip
          refine gv_pureN 4 [78, 79, 80, 81] [(81, (.bool true))] (by kernel_rfl) ?_
          refine gv_nil <| gv_sub [10, 81] (σ' := [(10, (.int .i64 n45)), (81, (.bool true))]) (by kernel_rfl) ?_
          refine gv_goal fun a hd hs hok => ⟨rfl, hd, hs, ?_⟩
          obtain ⟨q10, q81, _⟩ := hok
          exact ⟨q10, (by rw [hc48, hc49]; exact q81), trivial⟩
         ·skip
          refine gv_pureN 4 [78, 79, 80, 81] [(81, (.bool (decide (n45 > 57343))))] (by kernel_rfl) ?_
          refine gv_nil <| gv_sub [10, 81] (σ' := [(10, (.int .i64 n45)), (81, (.bool (decide (n45 > 57343))))]) (by kernel_rfl) ?_
          refine gv_goal fun a hd hs hok => ⟨rfl, hd, hs, ?_⟩
          obtain ⟨q10, q81, _⟩ := hok
          exact ⟨q10, (by rw [hc48, hc49]; exact q81), trivial⟩
        ·skip
         refine gv_pureN 7 [75, 76, 77, 78, 79, 80, 81] [(81, (.bool false))] (by kernel_rfl) ?_
         refine gv_sub [10, 81] (σ' := [(10, (.int .i64 n45)), (81, (.bool false))]) (by kernel_rfl) ?_
         refine gv_nil <| gv_sub [10, 81] (σ' := [(10, (.int .i64 n45)), (81, (.bool false))]) (by kernel_rfl) ?_
         refine gv_goal fun a hd hs hok => ⟨rfl, hd, hs, ?_⟩
         obtain ⟨q10, q81, _⟩ := hok
         exact ⟨q10, (by rw [hc48]; exact q81), trivial⟩
       ·rintro a w47 ⟨e, hd, hs, hok⟩; subst e
        refine gv_in ?_ hd hs hok
        clear hd hs hok
        refine gv_cond (b := ((decide (n45 ≥ 2048)) && ((decide (n45 < 55296)) || (decide (n45 > 57343))))) (by kernel_rfl) (fun hc50 => ?_) (fun hc50 => ?_)
        ·replace h1 := ite_t hc50 h1
         refine gv_seq <| gv_region <| gv_pureN 3 [4, 5, 82] [(4, (.int .i64 n45)), (5, (.int .i64 3))] (by kernel_rfl) ?_
         refine gv_nil <| gv_cret ?_
         have e := sj h1; subst e
         replace h0 := cont_inr h0
         have e := sj h0; subst e
         refine gv_ret (gv_done [(.int .i64 n45), (.int .i64 3)] rfl ⟨(by kernel_rfl), (by kernel_rfl), trivial⟩ ?_)
         have hB51 := bg hB21 hg23 nb
         exact ⟨grown_of_below hB51, rfl⟩
        ·replace h1 := ite_f hc50 h1
         refine gv_skip ?_
         have e := sj h1; subst e
         refine gv_goal fun a hd hs hok => ?_
         have hB52 := bg hB21 hg23 nb
         exact ⟨(), rfl, hB52, (Nat.le_refl _), hd, hs, ok_pick [] hok (by kernel_rfl)⟩
      ·replace h1 := ite_f hc44 h1
       refine gv_seq <| gv_region <| gv_cut_ops (J := fun a w53 => w22 = w53 ∧ a.defers = [] ∧ a.tmps.size = 120 ∧ Ok [(6, (.int .i64 (IntKind.i64.wrap (((x3).toNat : Int))))), (7, (.int .i64 r7)), (8, (.int .i64 r12)), (9, (.int .i64 r19)), (83, (.bool ((decide ((IntKind.i64.wrap (((x3).toNat : Int))) ≥ 240)) && ((decide ((IntKind.i64.wrap (((x3).toNat : Int))) < 245)) && ((decide (r7 ≥ 0)) && ((decide (r12 ≥ 0)) && (decide (r19 ≥ 0))))))))] a.tmps) ?_ ?_
       ·skip
        refine gv_pureN 3 [84, 85, 86] [(86, (.bool (decide ((IntKind.i64.wrap (((x3).toNat : Int))) ≥ 240))))] (by kernel_rfl) ?_
        refine gv_split (s := 86) (g := (decide ((IntKind.i64.wrap (((x3).toNat : Int))) ≥ 240))) (by kernel_rfl) (fun hc54 => ?_) (fun hc54 => ?_)
        ·skip
         refine gv_pureN 4 [87, 88, 89, 90] [(90, (.bool (decide ((IntKind.i64.wrap (((x3).toNat : Int))) < 245))))] (by kernel_rfl) ?_
         refine gv_split (s := 90) (g := (decide ((IntKind.i64.wrap (((x3).toNat : Int))) < 245))) (by kernel_rfl) (fun hc55 => ?_) (fun hc55 => ?_)
         ·skip
          refine gv_pureN 4 [91, 92, 93, 94] [(94, (.bool (decide (r7 ≥ 0))))] (by kernel_rfl) ?_
          refine gv_sub [6, 7, 8, 9, 94] (σ' := [(6, (.int .i64 (IntKind.i64.wrap (((x3).toNat : Int))))), (7, (.int .i64 r7)), (8, (.int .i64 r12)), (9, (.int .i64 r19)), (94, (.bool (decide (r7 ≥ 0))))]) (by kernel_rfl) ?_
          refine gv_split (s := 94) (g := (decide (r7 ≥ 0))) (by kernel_rfl) (fun hc56 => ?_) (fun hc56 => ?_)
          ·skip
           refine gv_pureN 4 [95, 96, 97, 98] [(98, (.bool (decide (r12 ≥ 0))))] (by kernel_rfl) ?_
           refine gv_split (s := 98) (g := (decide (r12 ≥ 0))) (by kernel_rfl) (fun hc57 => ?_) (fun hc57 => ?_)
           ·skip
            refine gv_pureN 4 [83, 99, 100, 101] [(83, (.bool (decide (r19 ≥ 0))))] (by kernel_rfl) ?_
            refine gv_nil <| gv_sub [6, 7, 8, 9, 83] (σ' := [(6, (.int .i64 (IntKind.i64.wrap (((x3).toNat : Int))))), (7, (.int .i64 r7)), (8, (.int .i64 r12)), (9, (.int .i64 r19)), (83, (.bool (decide (r19 ≥ 0))))]) (by kernel_rfl) ?_
            refine gv_goal fun a hd hs hok => ⟨rfl, hd, hs, ?_⟩
            obtain ⟨q6, q7, q8, q9, q83, _⟩ := hok
            exact ⟨q6, q7, q8, q9, (by rw [hc54, hc55, hc56, hc57]; exact q83), trivial⟩
           ·skip
            refine gv_pureN 4 [83, 99, 100, 101] [(83, (.bool false))] (by kernel_rfl) ?_
            refine gv_nil <| gv_sub [6, 7, 8, 9, 83] (σ' := [(6, (.int .i64 (IntKind.i64.wrap (((x3).toNat : Int))))), (7, (.int .i64 r7)), (8, (.int .i64 r12)), (9, (.int .i64 r19)), (83, (.bool false))]) (by kernel_rfl) ?_
            refine gv_goal fun a hd hs hok => ⟨rfl, hd, hs, ?_⟩
            obtain ⟨q6, q7, q8, q9, q83, _⟩ := hok
            exact ⟨q6, q7, q8, q9, (by rw [hc54, hc55, hc56, hc57]; exact q83), trivial⟩
          ·skip
           refine gv_pureN 8 [83, 95, 96, 97, 98, 99, 100, 101] [(83, (.bool false))] (by kernel_rfl) ?_
           refine gv_nil <| gv_sub [6, 7, 8, 9, 83] (σ' := [(6, (.int .i64 (IntKind.i64.wrap (((x3).toNat : Int))))), (7, (.int .i64 r7)), (8, (.int .i64 r12)), (9, (.int .i64 r19)), (83, (.bool false))]) (by kernel_rfl) ?_
           refine gv_goal fun a hd hs hok => ⟨rfl, hd, hs, ?_⟩
           obtain ⟨q6, q7, q8, q9, q83, _⟩ := hok
           exact ⟨q6, q7, q8, q9, (by rw [hc54, hc55, hc56]; exact q83), trivial⟩
         ·skip
          refine gv_pureN 12 [83, 91, 92, 93, 94, 95, 96, 97, 98, 99, 100, 101] [(83, (.bool false))] (by kernel_rfl) ?_
          refine gv_sub [6, 7, 8, 9, 83] (σ' := [(6, (.int .i64 (IntKind.i64.wrap (((x3).toNat : Int))))), (7, (.int .i64 r7)), (8, (.int .i64 r12)), (9, (.int .i64 r19)), (83, (.bool false))]) (by kernel_rfl) ?_
          refine gv_nil <| gv_sub [6, 7, 8, 9, 83] (σ' := [(6, (.int .i64 (IntKind.i64.wrap (((x3).toNat : Int))))), (7, (.int .i64 r7)), (8, (.int .i64 r12)), (9, (.int .i64 r19)), (83, (.bool false))]) (by kernel_rfl) ?_
          refine gv_goal fun a hd hs hok => ⟨rfl, hd, hs, ?_⟩
          obtain ⟨q6, q7, q8, q9, q83, _⟩ := hok
          exact ⟨q6, q7, q8, q9, (by rw [hc54, hc55]; exact q83), trivial⟩
        ·skip
         refine gv_pureN 16 [83, 87, 88, 89, 90, 91, 92, 93, 94, 95, 96, 97, 98, 99, 100, 101] [(83, (.bool false))] (by kernel_rfl) ?_
         refine gv_nil <| gv_sub [6, 7, 8, 9, 83] (σ' := [(6, (.int .i64 (IntKind.i64.wrap (((x3).toNat : Int))))), (7, (.int .i64 r7)), (8, (.int .i64 r12)), (9, (.int .i64 r19)), (83, (.bool false))]) (by kernel_rfl) ?_
         refine gv_goal fun a hd hs hok => ⟨rfl, hd, hs, ?_⟩
         obtain ⟨q6, q7, q8, q9, q83, _⟩ := hok
         exact ⟨q6, q7, q8, q9, (by rw [hc54]; exact q83), trivial⟩
       ·rintro a w53 ⟨e, hd, hs, hok⟩; subst e
        refine gv_in ?_ hd hs hok
        clear hd hs hok
        refine gv_cond (b := ((decide ((IntKind.i64.wrap (((x3).toNat : Int))) ≥ 240)) && ((decide ((IntKind.i64.wrap (((x3).toNat : Int))) < 245)) && ((decide (r7 ≥ 0)) && ((decide (r12 ≥ 0)) && (decide (r19 ≥ 0))))))) (by kernel_rfl) (fun hc58 => ?_) (fun hc58 => ?_)
        ·replace h1 := ite_t hc58 h1
         refine gv_seq <| gv_region <| gv_pureN 12 [11, 102, 103, 104, 105, 106, 107, 108, 109, 110, 111, 112] [(11, (.int .i64 (IntKind.i64.wrap ((IntKind.i64.wrap ((IntKind.i64.wrap ((IntKind.i64.wrap ((IntKind.i64.wrap ((IntKind.i64.wrap (((x3).toNat : Int))) - 240)) * 262144)) + (IntKind.i64.wrap (r7 * 4096)))) + (IntKind.i64.wrap (r12 * 64)))) + r19))))] (by kernel_rfl) ?_
         refine bindE h1 ?_; clear h1; intro n59 hn60 h1
         refine gv_name (s := 11) (v := (.int .i64 (IntKind.i64.wrap ((IntKind.i64.wrap ((IntKind.i64.wrap ((IntKind.i64.wrap ((IntKind.i64.wrap ((IntKind.i64.wrap (((x3).toNat : Int))) - 240)) * 262144)) + (IntKind.i64.wrap (r7 * 4096)))) + (IntKind.i64.wrap (r12 * 64)))) + r19)))) (v' := (.int .i64 n59)) (by kernel_rfl) (congrArg (Value.int .i64) (sj hn60)) ?_
         refine gv_nil <| gv_seq <| gv_region <| gv_cut_ops (J := fun a w61 => w22 = w61 ∧ a.defers = [] ∧ a.tmps.size = 120 ∧ Ok [(11, (.int .i64 n59)), (118, (.bool ((decide (n59 ≥ 65536)) && (decide (n59 ≤ 1114111)))))] a.tmps) ?_ ?_
         ·skip
          refine gv_pureN 3 [113, 114, 115] [(115, (.bool (decide (n59 ≥ 65536))))] (by kernel_rfl) ?_
          refine gv_split (s := 115) (g := (decide (n59 ≥ 65536))) (by kernel_rfl) (fun hc62 => ?_) (fun hc62 => ?_)
          ·skip
           refine gv_pureN 3 [116, 117, 118] [(118, (.bool (decide (n59 ≤ 1114111))))] (by kernel_rfl) ?_
           refine gv_sub [11, 118] (σ' := [(11, (.int .i64 n59)), (118, (.bool (decide (n59 ≤ 1114111))))]) (by kernel_rfl) ?_
           refine gv_nil <| gv_sub [11, 118] (σ' := [(11, (.int .i64 n59)), (118, (.bool (decide (n59 ≤ 1114111))))]) (by kernel_rfl) ?_
           refine gv_goal fun a hd hs hok => ⟨rfl, hd, hs, ?_⟩
           obtain ⟨q11, q118, _⟩ := hok
           exact ⟨q11, (by rw [hc62]; exact q118), trivial⟩
          ·skip
           refine gv_pureN 3 [116, 117, 118] [(118, (.bool false))] (by kernel_rfl) ?_
           refine gv_sub [11, 118] (σ' := [(11, (.int .i64 n59)), (118, (.bool false))]) (by kernel_rfl) ?_
           refine gv_nil <| gv_sub [11, 118] (σ' := [(11, (.int .i64 n59)), (118, (.bool false))]) (by kernel_rfl) ?_
           refine gv_goal fun a hd hs hok => ⟨rfl, hd, hs, ?_⟩
           obtain ⟨q11, q118, _⟩ := hok
           exact ⟨q11, (by rw [hc62]; exact q118), trivial⟩
         ·rintro a w61 ⟨e, hd, hs, hok⟩; subst e
          refine gv_in ?_ hd hs hok
          clear hd hs hok
          refine gv_cond (b := ((decide (n59 ≥ 65536)) && (decide (n59 ≤ 1114111)))) (by kernel_rfl) (fun hc63 => ?_) (fun hc63 => ?_)
          ·replace h1 := ite_t hc63 h1
           refine gv_seq <| gv_region <| gv_pureN 3 [4, 5, 119] [(4, (.int .i64 n59)), (5, (.int .i64 4))] (by kernel_rfl) ?_
           refine gv_nil <| gv_cret ?_
           have e := sj h1; subst e
           replace h0 := cont_inr h0
           have e := sj h0; subst e
           refine gv_ret (gv_done [(.int .i64 n59), (.int .i64 4)] rfl ⟨(by kernel_rfl), (by kernel_rfl), trivial⟩ ?_)
           have hB64 := bg hB21 hg23 nb
           exact ⟨grown_of_below hB64, rfl⟩
          ·replace h1 := ite_f hc63 h1
           refine gv_skip ?_
           have e := sj h1; subst e
           refine gv_goal fun a hd hs hok => ?_
           have hB65 := bg hB21 hg23 nb
           exact ⟨(), rfl, hB65, (Nat.le_refl _), hd, hs, ok_pick [] hok (by kernel_rfl)⟩
        ·replace h1 := ite_f hc58 h1
         refine gv_skip ?_
         have e := sj h1; subst e
         refine gv_goal fun a hd hs hok => ?_
         have hB66 := bg hB21 hg23 nb
         exact ⟨(), rfl, hB66, (Nat.le_refl _), hd, hs, ok_pick [] hok (by kernel_rfl)⟩
     ·rintro a w43 ⟨s42, e, hB67, hz68, hd, hs, hok⟩
      subst e
      refine gv_in ?_ hd hs hok
      clear hd hs hok
      replace h0 := cont_inl h0
      clear hc33 hc28 hn27 hC25 hg23 hB21 hr20 hC18 hg16 hB14 hr13 hg10 hr8 hC6 hB5 hx4 hg2
      refine gv_blk <| gv_seq <| gv_region <| gv_pureN 2 [4, 5] [(4, (.int .i64 0)), (5, (.int .i64 0))] (by kernel_rfl) ?_
      refine gv_nil <| gv_cret ?_
      have e := sj h0; subst e
      refine gv_ret (gv_done [(.int .i64 0), (.int .i64 0)] rfl ⟨(by kernel_rfl), (by kernel_rfl), trivial⟩ ?_)
      exact ⟨grown_of_below hB67, rfl⟩

theorem ref4_Points_ok (fuel : Nat) (s_0 : ByteArray) (w0 : World)  (r0 : ((List Int) × Bool)) (h0 : ref4_Points fuel s_0 = some r0) :
    Calls Tryd.prog 24 ([(.string s_0)] : List Value).toArray w0 (Ret fun v w' => w0.grownBy w' none ∧ ∃ (a0_0r : Option Addr) (c0_0r : Nat), v = tup [(.slice a0_0r (List.length r0.1) c0_0r), (.bool r0.2)] ∧ Gv.Own (iE .i64) 3 w' (fun _ => False) a0_0r c0_0r r0.1 ∧ (∀ g, blk a0_0r = some g → w0.heap.size ≤ g)) := by
 have hB0 : Below w0.heap.size w0 w0 := Below.refl _ _
 unfold ref4_Points at h0
 refine calls_run Tryd.func24 rfl Tryd.ntmps24 (by kernel_rfl) ?_
 refine gv_sub [0] (σ' := [(0, (.string s_0))]) (by kernel_rfl) ?_
 refine gv_seq <| gv_region <| gv_pureN 2 [2, 3] [] (by kernel_rfl) ?_
 refine gv_nil <| gv_seq <| gv_region <| gv_pureN 1 [4] [(4, (.slice none (List.length ([] : List Int)) 0))] (by kernel_rfl) ?_
 refine gv_nil <| gv_seq <| gv_seq <| gv_region <| gv_pureN 1 [5] [(5, (.int .i64 0))] (by kernel_rfl) ?_
 refine gv_nil <| bindE h0 ?_; clear h0; intro j1 h1 h0
 refine gv_cut_code (J := fun a w3 => ∃ s2 : (List Int), j1 = .inl s2 ∧ ∃ (a4_0j : Option Addr) (c4_0j : Nat), Below w0.heap.size w0 w3 ∧ w0.heap.size ≤ w3.heap.size ∧ Gv.Own (iE .i64) 3 w3 (fun _ => False) a4_0j c4_0j s2 ∧ (∀ g, blk a4_0j = some g → w0.heap.size ≤ g) ∧ a.defers = [] ∧ a.tmps.size = 29 ∧ Ok [(4, (.slice a4_0j (List.length s2) c4_0j))] a.tmps) ?_ ?_
 ·skip
  refine gv_block <| gv_loop (A := fun (s4 : ((List Int) × Int)) a w5 => ∃ (a4_0j : Option Addr) (c4_0j : Nat), Below w0.heap.size w0 w5 ∧ w0.heap.size ≤ w5.heap.size ∧ Gv.Own (iE .i64) 3 w5 (fun _ => False) a4_0j c4_0j s4.1 ∧ (∀ g, blk a4_0j = some g → w0.heap.size ≤ g) ∧ a.defers = [] ∧ a.tmps.size = 29 ∧ Ok [(0, (.string s_0)), (4, (.slice a4_0j (List.length s4.1) c4_0j)), (5, (.int .i64 s4.2))] a.tmps) h1 ?_ ?_
  ·intro a hd hs hok
   exact ⟨none, 0, hB0, (Nat.le_refl _), (Gv.Own.nil (iE .i64) 3 w0 (fun _ => False)), (fun _ h => by cases h), hd, hs, ok_pick [0, 4, 5] hok (by kernel_rfl)⟩
  ·rintro s4 r2 h2 hR2 a w5 ⟨a8, c9, hB6, hz7, ho10, hl11, hd, hs, hok⟩
   refine gv_in ?_ hd hs hok
   clear hd hs hok
   refine gv_seq <| gv_seq <| gv_region <| gv_pureN 4 [8, 9, 10, 11] [(11, (.bool (decide (s4.2 < ((ByteArray.size s_0 : Nat) : Int)))))] (by kernel_rfl) ?_
   refine gv_nil <| gv_cond (b := (decide (s4.2 < ((ByteArray.size s_0 : Nat) : Int)))) (by kernel_rfl) (fun hc12 => ?_) (fun hc12 => ?_)
   ·replace h2 := ite_t hc12 h2
    refine gv_skip <| gv_block <| gv_seq <| gv_region <| gv_pureN 1 [13] [(13, (.string s_0))] (by kernel_rfl) ?_
    refine gv_s2b (src := 9) (dst := 82) (e := 5) (s := s_0) (by decide) rfl rfl (by kernel_rfl) (by kernel_rfl) Tryd.underlying9 Tryd.underlying82 Tryd.underlying5 ?_
    rintro a13 c14 w15 hg16 hr17 hz19
    refine ⟨(fun e => by cases e), ?_⟩
    have hx20 : ∀ k, k = w5.heap.size → k < w15.heap.size := lts hz19
    have hx21 : ∀ k, k = w5.heap.size → (fun _ => False) k ∨ w0.heap.size ≤ k := fun k hk => .inr (lowe hB6.size k hk)
    refine gv_pureN 1 [15] [(15, (.int .i64 s4.2))] (by kernel_rfl) ?_
    refine bindE h2 ?_; clear h2; intro r22 hr23 h2
    refine gv_call0 (by kernel_rfl) rfl (by kernel_rfl) enters67 (ref4_unit_ok fuel a13 c14 (bytesOf s_0) s4.2 w15 (fun k => (· = w5.heap.size) k) (fun k hk => hx20 k hk) (hr17.wide (fun k hk => hk)) r22 hr23) ?_
    rintro v26 w24 ⟨hg25, rfl⟩
    refine gv_pureN 5 [6, 7, 12, 17, 18] [(6, (.int .i64 r22.1)), (7, (.int .i64 r22.2))] (by kernel_rfl) ?_
    refine gv_nil <| gv_seq <| gv_seq <| gv_region <| gv_pureN 2 [19, 20] [(20, (.bool (r22.2 == 0)))] (by kernel_rfl) ?_
    refine gv_nil <| gv_cond (b := (r22.2 == 0)) (by kernel_rfl) (fun hc27 => ?_) (fun hc27 => ?_)
    ·replace h2 := ite_t hc27 h2
     refine gv_seq <| gv_region <| gv_pureN 2 [2, 3] [(2, (.slice none (List.length ([] : List Int)) 0)), (3, (.bool false))] (by kernel_rfl) ?_
     refine gv_nil <| gv_cret ?_
     have e := sj h2; subst e
     replace h1 := congrArg some (hR2 _ rfl)
     have e := sj h1; subst e
     replace h0 := cont_inr h0
     have e := sj h0; subst e
     refine gv_ret (gv_done [(.slice none (List.length ([] : List Int)) 0), (.bool false)] rfl ⟨(by kernel_rfl), (by kernel_rfl), trivial⟩ ?_)
     have hg28 := (grown_trans hg16 hg25)
     have hB29 := bg hB6 hg28 nb
     exact ⟨grown_of_below hB29, none, 0, rfl, (Gv.Own.nil (iE .i64) 3 w24 (fun _ => False)), (fun _ h => by cases h)⟩
    ·replace h2 := ite_f hc27 h2
     refine gv_skip <| gv_seq <| gv_region <| gv_pureN 2 [21, 22] [(21, (.slice a8 (List.length s4.1) c9)), (22, (.int .i64 r22.1))] (by kernel_rfl) ?_
     refine gv_new0 (fun b => .slice (some ⟨b, 0, none⟩) 1 1) #[(.int .i64 r22.1)] 3 (by kernel_rfl) (by kernel_rfl) ?_
     intro b30 w31 hg32 hb33 hbe34 hz35
     have ho36 : Gv.Own (iE .i64) 3 w31 (fun _ => False) (some ⟨b30, 0, none⟩) 1 ([r22.1] : List Int) := Box.ownE hb33 ⟨[(.int .i64 r22.1)], [], rfl, rfl, rfl⟩ (show 1 ≤ maxLen by decide) (fun h => h)
     have hg41 := (grown_trans hg16 hg25)
     have hB42 := bg hB6 hg41 nb
     have hl37 : ∀ g, blk (some ⟨b30, 0, none⟩) = some g → w0.heap.size ≤ g := loo hbe34 hB42.size
     refine bindE h2 ?_; clear h2; intro l43 hx44 h2
     have hg51 := (grown_trans hg41 hg32)
     have hk52 := ho10.grown hg51 (fun _ h => h.elim) nb
     refine gv_append (iE .i64) (t := 38) (ty := 38) (e := 3) (a := a8) (ax := (some ⟨b30, 0, none⟩)) (cap := c9) (cx := 1) (xs := s4.1) (ys := ([r22.1] : List Int)) l43 (X := (fun _ => False)) (Y := (fun k => blk (some ⟨b30, 0, none⟩) = some k)) (by decide) rfl rfl (by kernel_rfl) (by kernel_rfl) Tryd.underlying38 info3 hk52 (ho36.rd (Y := fun k => blk (some ⟨b30, 0, none⟩) = some k) (fun _ h => h.elim) (fun g e => e)) hx44 (.inr fun _ _ _ _ _ h => h) (fun _ h => h.elim) ?_
     intro a45 c46 w47 hg48 ho49 hk50
     refine ⟨(fun e => by cases e), ?_⟩
     have hB54 := bg hB42 hg32 nb
     have hl53 : ∀ g, blk a45 = some g → w0.heap.size ≤ g := blk_step hk50 hl11 hB54.size
     have ap56 : ∀ g, blk a8 = some g → ¬ (· = w5.heap.size) g := fun g e hx => nl ((lowe (Nat.le_refl w5.heap.size)) _ hx) ((fun k (hk : blk a8 = some k) => ho10.lt k hk) g e)
     have hg57 := (grown_trans hg25 hg32)
     have hx58 := ltx hx20 hg57.size
     have ap55 : ∀ g, blk a45 = some g → ¬ (· = w5.heap.size) g := blk_neX hk50 ap56 hx58
     have hk60 := ho10.grown hg41 (fun _ h => h.elim) nb
     have ap61 : ∀ g, blk a8 = some g → ¬ (fun k => blk (some ⟨b30, 0, none⟩) = some k) g := fun g e hx => nl ((lowo hbe34) _ hx) ((fun k (hk : blk a8 = some k) => hk60.lt k hk) g e)
     have ap59 : ∀ g, blk a45 = some g → ¬ (fun k => blk (some ⟨b30, 0, none⟩) = some k) g := blk_neX hk50 ap61 (fun k (hk : blk (some ⟨b30, 0, none⟩) = some k) => ho36.lt k hk)
     have ap63 : ∀ g, blk (some ⟨b30, 0, none⟩) = some g → ¬ (fun k => blk a8 = some k) g := fun g e hx => nl ((lowo hbe34) g e) ((fun k (hk : blk a8 = some k) => hk60.lt k hk) _ hx)
     have ap62 : ∀ g, blk (some ⟨b30, 0, none⟩) = some g → ¬ (fun k => blk a45 = some k) g := fun g e h => blk_rev hk50 (fun h => ((ap63) g e) h) (ho36.lt g e) h
     refine gv_pureN 1 [4] [(4, (.slice a45 (List.length l43) c46))] (by kernel_rfl) ?_
     refine gv_nil <| gv_region <| gv_pureN 4 [5, 25, 26, 27] [(5, (.int .i64 (IntKind.i64.wrap (s4.2 + r22.2))))] (by kernel_rfl) ?_
     refine gv_nil <| gv_blk ?_
     have e := sj h2; subst e
     refine gv_goal fun a hd hs hok => ?_
     have hB64 := bg hB54 hg48 hl11
     have hz65 := (nt (nt (nt (nt hz7 hg16.size) hg25.size) hg32.size) hg48.size)
     exact ⟨(l43, (IntKind.i64.wrap (s4.2 + r22.2))), rfl, a45, c46, hB64, hz65, ho49, hl53, hd, hs, ok_pick [0, 4, 5] hok (by kernel_rfl)⟩
   ·replace h2 := ite_f hc12 h2
    refine gv_cexit <| gv_exit rfl ?_
    have e := sj h2; subst e
    replace h1 := congrArg some (hR2 _ rfl)
    have e := sj h1; subst e
    refine gv_goal fun a hd hs hok => ?_
    have hz66 := hz7
    exact ⟨s4.1, rfl, a8, c9, hB6, hz66, ho10, hl11, hd, hs, ok_pick [4] hok (by kernel_rfl)⟩
 ·rintro a w3 ⟨s2, e, a69, c70, hB67, hz68, ho71, hl72, hd, hs, hok⟩
  subst e
  refine gv_in ?_ hd hs hok
  clear hd hs hok
  replace h0 := cont_inl h0
  refine gv_seq <| gv_region <| gv_pureN 3 [2, 3, 28] [(2, (.slice a69 (List.length s2) c70)), (3, (.bool true))] (by kernel_rfl) ?_
  refine gv_nil <| gv_cret ?_
  have e := sj h0; subst e
  refine gv_ret (gv_done [(.slice a69 (List.length s2) c70), (.bool true)] rfl ⟨(by kernel_rfl), (by kernel_rfl), trivial⟩ ?_)
  exact ⟨grown_of_below hB67, a69, c70, rfl, ho71, hl72⟩

theorem ref4_TextOk_ok (fuel : Nat) (s_0 : ByteArray) (w0 : World)  (r0 : Bool) (h0 : ref4_TextOk fuel s_0 = some r0) :
    Calls Tryd.prog 31 ([(.string s_0)] : List Value).toArray w0 (Ret fun v w' => w0.grownBy w' none ∧ v = tup [(.bool r0)]) := by
 have hB0 : Below w0.heap.size w0 w0 := Below.refl _ _
 unfold ref4_TextOk at h0
 refine calls_run Tryd.func31 rfl Tryd.ntmps31 (by kernel_rfl) ?_
 refine gv_sub [0] (σ' := [(0, (.string s_0))]) (by kernel_rfl) ?_
 refine gv_seq <| gv_region <| gv_pureN 1 [2] [] (by kernel_rfl) ?_
 refine gv_nil <| gv_seq <| gv_region <| gv_pureN 1 [6] [(6, (.string s_0))] (by kernel_rfl) ?_
 refine bindE h0 ?_; clear h0; intro r1 hr2 h0
 refine gv_call0 (by kernel_rfl) rfl (by kernel_rfl) enters24 (ref4_Points_ok fuel s_0 w0  r1 hr2) ?_
 rintro v5 w3 ⟨hg4, a6, c7, rfl, ho8, hl9⟩
 have hl10 : ∀ g, blk a6 = some g → w0.heap.size ≤ g := fun g e => Nat.le_trans hB0.size (hl9 g e)
 refine gv_pureN 5 [3, 4, 5, 8, 9] [(4, (.bool r1.2))] (by kernel_rfl) ?_
 refine gv_nil <| gv_seq <| gv_region <| gv_cut_ops (J := fun a w11 => w3 = w11 ∧ a.defers = [] ∧ a.tmps.size = 16 ∧ Ok [(2, (.bool (r1.2 && (decide (((ByteArray.size s_0 : Nat) : Int) ≤ 4000)))))] a.tmps) ?_ ?_
 ·skip
  refine gv_pureN 2 [10, 11] [(11, (.bool r1.2))] (by kernel_rfl) ?_
  refine gv_split (s := 11) (g := r1.2) (by kernel_rfl) (fun hc12 => ?_) (fun hc12 => ?_)
  ·skip
   refine gv_pureN 5 [2, 12, 13, 14, 15] [(2, (.bool (decide (((ByteArray.size s_0 : Nat) : Int) ≤ 4000))))] (by kernel_rfl) ?_
   refine gv_nil <| gv_sub [2] (σ' := [(2, (.bool (decide (((ByteArray.size s_0 : Nat) : Int) ≤ 4000))))]) (by kernel_rfl) ?_
   refine gv_goal fun a hd hs hok => ⟨rfl, hd, hs, ?_⟩
   obtain ⟨q2, _⟩ := hok
   exact ⟨(by rw [hc12]; exact q2), trivial⟩
  ·skip
   refine gv_pureN 5 [2, 12, 13, 14, 15] [(2, (.bool false))] (by kernel_rfl) ?_
   refine gv_nil <| gv_sub [2] (σ' := [(2, (.bool false))]) (by kernel_rfl) ?_
   refine gv_goal fun a hd hs hok => ⟨rfl, hd, hs, ?_⟩
   obtain ⟨q2, _⟩ := hok
   exact ⟨(by rw [hc12]; exact q2), trivial⟩
 ·rintro a w11 ⟨e, hd, hs, hok⟩; subst e
  refine gv_in ?_ hd hs hok
  clear hd hs hok
  refine gv_cret ?_
  have e := sj h0; subst e
  refine gv_ret (gv_done [(.bool (r1.2 && (decide (((ByteArray.size s_0 : Nat) : Int) ≤ 4000))))] rfl ⟨(by kernel_rfl), trivial⟩ ?_)
  have hB13 := bg hB0 hg4 nb
  exact ⟨grown_of_below hB13, rfl⟩

theorem textstr_Distance_ok (fuel : Nat) (a_0 : ByteArray) (b_1 : ByteArray) (w0 : World) (X0 : Nat → Prop) (hX0 : ∀ k, X0 k → k < w0.heap.size) (hG1 : Rd bE w0 X0 (some ⟨1, 0, none⟩) 256 utf8First) (hG2 : Rd (prE (iE .u8) (iE .u8)) w0 X0 (some ⟨2, 0, none⟩) 16 utf8Acc) (r0 : (Int × (Int × Int))) (h0 : textstr_Distance fuel a_0 b_1 = some r0) :
    Calls Tryd.prog 35 ([(.string a_0), (.string b_1)] : List Value).toArray w0 (Ret fun v w' => w0.grownBy w' none ∧ v = tup [(.int .i64 r0.1), (.agg #[(.int .i64 r0.2.1), (.int .i64 r0.2.2)])]) := by
 have hB0 : Below w0.heap.size w0 w0 := Below.refl _ _
 unfold textstr_Distance at h0
 refine calls_run Tryd.func35 rfl Tryd.ntmps35 (by kernel_rfl) ?_
 refine gv_sub [0, 1] (σ' := [(0, (.string a_0)), (1, (.string b_1))]) (by kernel_rfl) ?_
 refine gv_seq <| gv_region <| gv_pureN 1 [4] [] (by kernel_rfl) ?_
 refine gv_new0 (fun b => .pointer (some ⟨b, 0, none⟩)) #[(.int .i64 0), (.int .i64 0)] 24 (by kernel_rfl) (by kernel_rfl) ?_
 intro b1 w2 hg3 hb4 hbe5 hz6
 refine gv_nil <| gv_seq <| gv_seq <| gv_region <| gv_pureN 2 [17, 18] [(17, (.string a_0)), (18, (.string b_1))] (by kernel_rfl) ?_
 refine gv_new0 (fun b => .slice (some ⟨b, 0, none⟩) 2 2) #[(.string a_0), (.string b_1)] 9 (by kernel_rfl) (by kernel_rfl) ?_
 intro b7 w8 hg9 hb10 hbe11 hz12
 have ho13 : Gv.Own sE 9 w8 (fun _ => False) (some ⟨b7, 0, none⟩) 2 ([a_0, b_1] : List ByteArray) := Box.ownE hb10 ⟨[(.string a_0)], [(.string b_1)], rfl, rfl, ⟨[(.string b_1)], [], rfl, rfl, rfl⟩⟩ (show 2 ≤ maxLen by decide) (fun h => h)
 have hB18 := bg hB0 hg3 nb
 have hl14 : ∀ g, blk (some ⟨b7, 0, none⟩) = some g → w0.heap.size ≤ g := loo hbe11 hB18.size
 refine bindE h0 ?_; clear h0; intro r19 hr20 h0
 have hB21 := bg hB18 hg9 nb
 refine gv_call0 (by kernel_rfl) rfl (by kernel_rfl) enters58 (textstr_check_ok fuel (some ⟨b7, 0, none⟩) 2 ([a_0, b_1] : List ByteArray) w8 (fun k => (fun k => blk (some ⟨b7, 0, none⟩) = some k) k ∨ X0 k ∨ X0 k) (fun k hk => (hk).elim (fun h => (fun k (hk : blk (some ⟨b7, 0, none⟩) = some k) => ho13.lt k hk) k h) (fun h => (h).elim (fun h => (fun k (hk : X0 k) => ltl (hX0 k hk) hB21.size) k h) (fun h => (fun k (hk : X0 k) => ltl (hX0 k hk) hB21.size) k h))) ((ho13.rd (Y := fun k => blk (some ⟨b7, 0, none⟩) = some k) (fun _ h => h.elim) (fun g e => e)).wide (fun k hk => (.inl hk))) ((hG1.below hB21 hX0).wide (fun k hk => (.inr (.inl hk)))) ((hG2.below hB21 hX0).wide (fun k hk => (.inr (.inr hk)))) r19 hr20) ?_
 rintro v24 w22 ⟨hg23, rfl⟩
 refine gv_new0 (fun b => .pointer (some ⟨b, 0, none⟩)) #[(.int .i64 0), (.int .i64 0)] 24 (by kernel_rfl) (by kernel_rfl) ?_
 intro b25 w26 hg27 hb28 hbe29 hz30
 refine gv_store0 24 0 (.agg #[(.int .i64 r19.1), (.int .i64 r19.2)]) #[(.int .i64 r19.1), (.int .i64 r19.2)] hb28 (by kernel_rfl) (by kernel_rfl) (by kernel_rfl) ?_
 intro w31 hg32 hb33 hz34
 refine gv_nil <| gv_seq <| gv_region <| gv_pureN 1 [21] [(21, (bp b25))] (by kernel_rfl) ?_
 refine gv_load (t := 3) (A := ⟨b25, 0, none⟩) (.int .i64 r19.1) [] (fun e => by cases e) rfl rfl rfl (by kernel_rfl) (by kernel_rfl) (by kernel_rfl) (inw0 (hb33.cell 0 rfl)) rfl ?_
 refine gv_pureN 1 [23] [(23, (.bool (r19.1 != 0)))] (by kernel_rfl) ?_
 refine gv_nil <| gv_cond (b := (r19.1 != 0)) (by kernel_rfl) (fun hc35 => ?_) (fun hc35 => ?_)
 ·replace h0 := ite_t hc35 h0
  refine gv_seq <| gv_drawA (by kernel_rfl) ?_
  intro w36 hg37
  refine gv_pre [1] (bA 3 [1]) 2 (by kernel_rfl) (by kernel_rfl) ?_
  refine gv_pureN 1 [4] [(4, (.int .i64 0))] (by kernel_rfl) ?_
  refine gv_nil <| gv_goA ?_
  refine gv_stage (Cls w36 []) [0, 1] [(0, some true)] (bA 3 [0, 1]) 1 (by kernel_rfl) (by kernel_rfl) (Cls.refl _ _) ?_
  have hC38 := Cls.refl w36 []
  have hk39 := hb33.grown hg37 nb
  refine gv_loadBox (t := 24) (b := b25) (t' := 24) (fr := (0, 0)) #[(.int .i64 r19.1), (.int .i64 r19.2)] [] (fun e => by cases e) rfl rfl rfl (by kernel_rfl) (by kernel_rfl) (by kernel_rfl) (by kernel_rfl) (inw1 fun w' hC' => (hC'.box hk39 nm_nil)) rfl ?_
  refine gv_nil <| gv_goA ?_
  refine gv_stage (fun _ => True) [0, 1, 2] [(2, some false)] (bA 3 [0, 1, 2]) 0 (by kernel_rfl) (by kernel_rfl) trivial ?_
  have hg44 := (grown_trans (grown_trans hg9 hg23) hg27)
  have hg45 := (grown_trans hg9 hg23)
  have hk46 := hb4.grown hg45 nb
  have lt47 := ltl ((ltb hk46) _ rfl) ((lowb hbe29) _ rfl)
  have hk48 := ((hb4.grown hg44 nb).grown hg32 (rowne (ng lt47))).grown hg37 nb
  refine gv_store (t := 24) (b := b1) (off := 0) (v := (.agg #[(.int .i64 r19.1), (.int .i64 r19.2)])) (t' := 24) (cs := #[(.int .i64 0), (.int .i64 0)]) #[(.int .i64 r19.1), (.int .i64 r19.2)] (by decide) rfl rfl (by kernel_rfl) (by kernel_rfl) (by kernel_rfl) (by intro u hu; simp [Value.cells] at hu; rcases hu with rfl | rfl <;> rfl) (show 0 + 2 ≤ 2 by decide) (by rfl) hk48 ?_
  intro w40 hg41 hb42 hz43
  refine ⟨(fun _ => trivial), ?_⟩
  refine gv_nil <| gv_goA ?_
  refine gv_stageE (by kernel_rfl) ?_
  refine gv_cret ?_
  have e := sj h0; subst e
  refine gv_ret (gv_done [(.int .i64 0), (.agg #[(.int .i64 r19.1), (.int .i64 r19.2)])] rfl ⟨(by kernel_rfl), ⟨⟨b1, 0, none⟩, (by kernel_rfl), run_loadVar_row w40 b1 _ 24 _ _ _ hb42 Tryd.underlying24 rfl (by kernel_rfl)⟩, trivial⟩ ?_)
  have hg49 := (grown_trans hg23 hg27)
  have hB50 := bg hB21 hg49 nb
  have hB51 := bg hB21 hg23 nb
  have hlo52 : w0.heap.size ≤ b25 := lob hbe29 hB51.size
  have hB53 := bg hB50 hg32 (rowlo hlo52)
  have hB54 := bg hB53 hg37 nb
  have hlo55 : w0.heap.size ≤ b1 := lob hbe5 hB0.size
  have hB56 := bg hB54 hg41 (rowlo hlo55)
  exact ⟨grown_of_below hB56, rfl⟩
 ·replace h0 := ite_f hc35 h0
  refine gv_skip <| gv_seq <| gv_region <| gv_pureN 1 [25] [(25, (.string a_0))] (by kernel_rfl) ?_
  refine bindE h0 ?_; clear h0; intro l64 hx65 h0
  refine gv_s2r (src := 9) (dst := 72) (e := 21) (s := a_0) (by decide) rfl rfl (by kernel_rfl) (by kernel_rfl) Tryd.underlying9 Tryd.underlying72 Tryd.underlying21 hx65 ?_
  rintro a57 c58 w59 hg60 hr61 hz63
  refine ⟨(fun e => by cases e), ?_⟩
  have hx66 : ∀ k, k = w31.heap.size → k < w59.heap.size := lts hz63
  have hg68 := (grown_trans hg23 hg27)
  have hB69 := bg hB21 hg68 nb
  have hB70 := bg hB21 hg23 nb
  have hlo71 : w0.heap.size ≤ b25 := lob hbe29 hB70.size
  have hB72 := bg hB69 hg32 (rowlo hlo71)
  have hx67 : ∀ k, k = w31.heap.size → X0 k ∨ w0.heap.size ≤ k := fun k hk => .inr (lowe hB72.size k hk)
  clear hlo71 hB70 hB69 hg68 hz63 hx65 hc35 hz34 hb33 hz30 hb28 hB21 hr20 hl14 hB18 ho13 hz12 hbe11 hb10 hz6 hg3
  refine gv_pureN 1 [27] [(27, (.string b_1))] (by kernel_rfl) ?_
  refine bindE h0 ?_; clear h0; intro l80 hx81 h0
  refine gv_s2r (src := 9) (dst := 72) (e := 21) (s := b_1) (by decide) rfl rfl (by kernel_rfl) (by kernel_rfl) Tryd.underlying9 Tryd.underlying72 Tryd.underlying21 hx81 ?_
  rintro a73 c74 w75 hg76 hr77 hz79
  refine ⟨(fun e => by cases e), ?_⟩
  have hx82 : ∀ k, k = w59.heap.size → k < w75.heap.size := lts hz79
  have hB84 := bg hB72 hg60 nb
  have hx83 : ∀ k, k = w59.heap.size → X0 k ∨ w0.heap.size ≤ k := fun k hk => .inr (lowe hB84.size k hk)
  refine gv_pureN 2 [7, 8] [(7, (.slice a57 (List.length l64) c58)), (8, (.slice a73 (List.length l80) c74))] (by kernel_rfl) ?_
  refine gv_sub [5, 7, 8] (σ' := [(5, (bp b1)), (7, (.slice a57 (List.length l64) c58)), (8, (.slice a73 (List.length l80) c74))]) (by kernel_rfl) ?_
  refine gv_nil <| gv_seq <| gv_region <| gv_pureN 3 [29, 30, 31] [(31, (.int .i64 (IntKind.i64.wrap (((List.length l80 : Nat) : Int) + 1))))] (by kernel_rfl) ?_
  refine bindE h0 ?_; clear h0; intro l85 hx86 h0
  refine gv_makeC (f := (fun n : Int => Value.int .i64 n)) (hf := fun _ => rfl) (t := 38) (e := 3) (kl := .i64) (kc := .i64) (l := (IntKind.i64.wrap (((List.length l80 : Nat) : Int) + 1))) (c := (IntKind.i64.wrap (((List.length l80 : Nat) : Int) + 1))) (bytes := 8) 0 l85 (by decide) rfl rfl (by kernel_rfl) (by kernel_rfl) Tryd.underlying38 (by kernel_rfl) (by decide) hx86 ?_
  intro b87 w88 hg89 ho90 hbe91 hz92
  refine ⟨(fun e => by cases e), ?_⟩
  have hB94 := bg hB84 hg76 nb
  have hl93 : ∀ g, blk (some ⟨b87, 0, none⟩) = some g → w0.heap.size ≤ g := loo hbe91 hB94.size
  refine gv_pureN 1 [9] [(9, (.slice (some ⟨b87, 0, none⟩) (List.length l85) ((IntKind.i64.wrap (((List.length l80 : Nat) : Int) + 1))).toNat))] (by kernel_rfl) ?_
  refine gv_nil <| gv_seq <| gv_seq <| gv_region <| gv_pureN 3 [33, 34, 35] [(34, (.int .i64 ((List.length l85 : Nat) : Int))), (35, (.int .i64 0))] (by kernel_rfl) ?_
  refine gv_nil <| bindE h0 ?_; clear h0; intro j95 h1 h0
  refine gv_cut_code (J := fun a w96 => ∃ (a9_0j : Option Addr) (c9_0j : Nat), Below w0.heap.size w0 w96 ∧ w88.heap.size ≤ w96.heap.size ∧ Gv.Own (iE .i64) 3 w96 (fun _ => False) a9_0j c9_0j j95 ∧ (∀ g, blk a9_0j = some g → w0.heap.size ≤ g) ∧ (∀ g, blk a9_0j = some g → ¬ (· = b1) g) ∧ (∀ g, blk a9_0j = some g → ¬ (· = w31.heap.size) g) ∧ (∀ g, blk a9_0j = some g → ¬ (· = w59.heap.size) g) ∧ ¬ (fun k => blk a9_0j = some k) b1 ∧ Box w96 b1 24 #[(.int .i64 0), (.int .i64 0)] ∧ Rd (iE .i32) w96 (· = w31.heap.size) a57 c58 l64 ∧ Rd (iE .i32) w96 (· = w59.heap.size) a73 c74 l80 ∧ a.defers = [] ∧ a.tmps.size = 98 ∧ Ok [(5, (bp b1)), (7, (.slice a57 (List.length l64) c58)), (8, (.slice a73 (List.length l80) c74)), (9, (.slice a9_0j (List.length j95) c9_0j))] a.tmps) ?_ ?_
  ·skip
   refine gv_block <| gv_loop (A := fun (s97 : ((List Int) × Int)) a w98 => ∃ (a9_0j : Option Addr) (c9_0j : Nat), Below w0.heap.size w0 w98 ∧ w88.heap.size ≤ w98.heap.size ∧ Gv.Own (iE .i64) 3 w98 (fun _ => False) a9_0j c9_0j s97.1 ∧ (∀ g, blk a9_0j = some g → w0.heap.size ≤ g) ∧ (∀ g, blk a9_0j = some g → ¬ (· = b1) g) ∧ (∀ g, blk a9_0j = some g → ¬ (· = w31.heap.size) g) ∧ (∀ g, blk a9_0j = some g → ¬ (· = w59.heap.size) g) ∧ ¬ (fun k => blk a9_0j = some k) b1 ∧ Box w98 b1 24 #[(.int .i64 0), (.int .i64 0)] ∧ Rd (iE .i32) w98 (· = w31.heap.size) a57 c58 l64 ∧ Rd (iE .i32) w98 (· = w59.heap.size) a73 c74 l80 ∧ a.defers = [] ∧ a.tmps.size = 98 ∧ Ok [(5, (bp b1)), (7, (.slice a57 (List.length l64) c58)), (8, (.slice a73 (List.length l80) c74)), (9, (.slice a9_0j (List.length s97.1) c9_0j)), (34, (.int .i64 ((List.length l85 : Nat) : Int))), (35, (.int .i64 s97.2))] a.tmps) h1 ?_ ?_
   ·intro a hd hs hok
    have hB99 := bg hB94 hg89 nb
    have hg100 := (grown_trans (grown_trans hg9 hg23) hg27)
    have hg101 := (grown_trans hg9 hg23)
    have hk102 := hb4.grown hg101 nb
    have lt103 := ltl ((ltb hk102) _ rfl) ((lowb hbe29) _ rfl)
    have hg104 := (grown_trans hg60 hg76)
    have hk105 := ((hb4.grown hg100 nb).grown hg32 (rowne (ng lt103))).grown hg104 nb
    have ap106 : ∀ g, blk (some ⟨b87, 0, none⟩) = some g → ¬ (· = b1) g := fun g e hx => nl ((lowo hbe91) g e) ((ltb hk105) _ hx)
    have hx107 := ltx hx66 hg76.size
    have ap108 : ∀ g, blk (some ⟨b87, 0, none⟩) = some g → ¬ (· = w31.heap.size) g := fun g e hx => nl ((lowo hbe91) g e) (hx107 _ hx)
    have ap109 : ∀ g, blk (some ⟨b87, 0, none⟩) = some g → ¬ (· = w59.heap.size) g := fun g e hx => nl ((lowo hbe91) g e) (hx82 _ hx)
    have ap110 : ¬ (fun k => blk (some ⟨b87, 0, none⟩) = some k) b1 := fun hx => nl ((lowo hbe91) _ hx) ((ltb hk105) _ rfl)
    have hk111 := hk105.grown hg89 nb
    have hg112 := (grown_trans hg76 hg89)
    have hk113 := hr61.grown hg112 hx66 nb
    have hk114 := hr77.grown hg89 hx82 nb
    exact ⟨(some ⟨b87, 0, none⟩), ((IntKind.i64.wrap (((List.length l80 : Nat) : Int) + 1))).toNat, hB99, (Nat.le_refl _), ho90, hl93, ap106, ap108, ap109, ap110, hk111, hk113, hk114, hd, hs, ok_pick [5, 7, 8, 9, 34, 35] hok (by kernel_rfl)⟩
   ·rintro s97 r2 h2 hR2 a w98 ⟨a117, c118, hB115, hz116, ho119, hl120, ap121, ap122, ap123, ap124, hb125, hk126, hk127, hd, hs, hok⟩
    refine gv_in ?_ hd hs hok
    clear hd hs hok
    clear hl93 hB94 hz92 hbe91 ho90 hx86 hB84 hz79 hr77 hx81 hB72 hr61
    refine gv_seq <| gv_region <| gv_pureN 1 [36] [(36, (.bool (decide (s97.2 < ((List.length l85 : Nat) : Int)))))] (by kernel_rfl) ?_
    refine gv_nil <| gv_seq <| gv_cond (b := (decide (s97.2 < ((List.length l85 : Nat) : Int)))) (by kernel_rfl) (fun hc128 => ?_) (fun hc128 => ?_)
    ·replace h2 := ite_t hc128 h2
     refine gv_skip <| gv_seq <| gv_block <| gv_seq <| gv_region <| gv_pureN 2 [10, 37] [(10, (.int .i64 s97.2))] (by kernel_rfl) ?_
     refine gv_nil <| gv_region <| gv_pureN 3 [38, 39, 40] [(38, (.slice a117 (List.length s97.1) c118)), (39, (.int .i64 s97.2)), (40, (.int .i64 s97.2))] (by kernel_rfl) ?_
     refine bindE h2 ?_; clear h2; intro x129 hx130 h2
     refine gv_idxaddr (t := 38) (e := 3) (a := a117) (len := List.length s97.1) (cap := c118) (kk := .i64) (i := s97.2) (sz := 1) [] (fun e => by cases e) rfl rfl rfl (by kernel_rfl) (by kernel_rfl) Tryd.underlying38 (by kernel_rfl) ((ho119.rd (Y := fun k => blk a117 = some k) (fun _ h => h.elim) (fun g e => e)).has hx130) (idx_spec hx130).1 (idx_spec hx130).2.1 rfl ?_
     refine bindE h2 ?_; clear h2; intro l131 hx132 h2
     refine gv_upd (f := (fun n : Int => Value.int .i64 n)) (hf := fun _ => rfl) (t := 3) (e := 3) (a := a117) (cap := c118) (xs := s97.1) (i := s97.2) s97.2 l131 (by decide) rfl rfl (by kernel_rfl) rfl (by kernel_rfl) (by kernel_rfl) ho119 hx132 ?_
     intro w133 hg134 ho135 hz136
     refine ⟨(fun e => by cases e), ?_⟩
     have hln137 : List.length s97.1 = List.length l131 := by obtain ⟨_, _, e⟩ := upd_spec hx132; rw [e, List.length_set]
     refine gv_name (s := 9) (v := (.slice a117 (List.length s97.1) c118)) (v' := (.slice a117 (List.length l131) c118)) (by kernel_rfl) (by rw [hln137]) ?_
     refine gv_nil <| gv_blk <| gv_region <| gv_pureN 2 [35, 42] [(35, (.int .i64 (IntKind.i64.wrap (s97.2 + 1))))] (by kernel_rfl) ?_
     refine gv_nil ?_
     have e := sj h2; subst e
     refine gv_goal fun a hd hs hok => ?_
     have hB138 := bg hB115 hg134 hl120
     have hz139 := (nt hz116 hg134.size)
     have hk140 := hb125.grown hg134 ap121
     have hg141 := (grown_trans hg76 hg89)
     have hx142 := ltx hx66 hg141.size
     have hk143 := hk126.grown hg134 (fun k hk => ltl (hx142 k hk) hz116) ap122
     have hx144 := ltx hx82 hg89.size
     have hk145 := hk127.grown hg134 (fun k hk => ltl (hx144 k hk) hz116) ap123
     exact ⟨(l131, (IntKind.i64.wrap (s97.2 + 1))), rfl, a117, c118, hB138, hz139, ho135, hl120, ap121, ap122, ap123, ap124, hk140, hk143, hk145, hd, hs, ok_pick [5, 7, 8, 9, 34, 35] hok (by kernel_rfl)⟩
    ·replace h2 := ite_f hc128 h2
     refine gv_cexit <| gv_exit rfl ?_
     have e := sj h2; subst e
     replace h1 := congrArg some (hR2 _ rfl)
     have e := sj h1; subst e
     refine gv_goal fun a hd hs hok => ?_
     have hz146 := hz116
     exact ⟨a117, c118, hB115, hz146, ho119, hl120, ap121, ap122, ap123, ap124, hb125, hk126, hk127, hd, hs, ok_pick [5, 7, 8, 9] hok (by kernel_rfl)⟩
  ·rintro a w96 ⟨a149, c150, hB147, hz148, ho151, hl152, ap153, ap154, ap155, ap156, hb157, hk158, hk159, hd, hs, hok⟩
   refine gv_in ?_ hd hs hok
   clear hd hs hok
   clear hl93 hB94 hz92 hbe91 ho90 hx86 hB84 hz79 hr77 hx81 hB72 hr61
   refine gv_seq <| gv_seq <| gv_region <| gv_pureN 3 [43, 44, 45] [(43, (.slice a57 (List.length l64) c58)), (44, (.int .i64 ((List.length l64 : Nat) : Int))), (45, (.int .i64 0))] (by kernel_rfl) ?_
   refine gv_nil <| bindE h0 ?_; clear h0; intro j160 h1 h0
   refine gv_cut_code (J := fun a w161 => ∃ (a9_0j : Option Addr) (c9_0j : Nat), Below w0.heap.size w0 w161 ∧ w96.heap.size ≤ w161.heap.size ∧ Gv.Own (iE .i64) 3 w161 (fun _ => False) a9_0j c9_0j j160 ∧ (∀ g, blk a9_0j = some g → w0.heap.size ≤ g) ∧ (∀ g, blk a9_0j = some g → ¬ (· = b1) g) ∧ (∀ g, blk a9_0j = some g → ¬ (· = w59.heap.size) g) ∧ ¬ (fun k => blk a9_0j = some k) b1 ∧ Box w161 b1 24 #[(.int .i64 0), (.int .i64 0)] ∧ Rd (iE .i32) w161 (· = w59.heap.size) a73 c74 l80 ∧ a.defers = [] ∧ a.tmps.size = 98 ∧ Ok [(5, (bp b1)), (8, (.slice a73 (List.length l80) c74)), (9, (.slice a9_0j (List.length j160) c9_0j))] a.tmps) ?_ ?_
   ·skip
    refine gv_block <| gv_loop (A := fun (s162 : ((List Int) × Int)) a w163 => ∃ (a9_0j : Option Addr) (c9_0j : Nat), Below w0.heap.size w0 w163 ∧ w96.heap.size ≤ w163.heap.size ∧ Gv.Own (iE .i64) 3 w163 (fun _ => False) a9_0j c9_0j s162.1 ∧ (∀ g, blk a9_0j = some g → w0.heap.size ≤ g) ∧ (∀ g, blk a9_0j = some g → ¬ (· = b1) g) ∧ (∀ g, blk a9_0j = some g → ¬ (· = w59.heap.size) g) ∧ (∀ g, blk a9_0j = some g → ¬ (· = w31.heap.size) g) ∧ ¬ (fun k => blk a9_0j = some k) b1 ∧ Box w163 b1 24 #[(.int .i64 0), (.int .i64 0)] ∧ Rd (iE .i32) w163 (· = w59.heap.size) a73 c74 l80 ∧ Rd (iE .i32) w163 (· = w31.heap.size) a57 c58 l64 ∧ a.defers = [] ∧ a.tmps.size = 98 ∧ Ok [(5, (bp b1)), (8, (.slice a73 (List.length l80) c74)), (9, (.slice a9_0j (List.length s162.1) c9_0j)), (43, (.slice a57 (List.length l64) c58)), (44, (.int .i64 ((List.length l64 : Nat) : Int))), (45, (.int .i64 s162.2))] a.tmps) h1 ?_ ?_
    ·intro a hd hs hok
     exact ⟨a149, c150, hB147, (Nat.le_refl _), ho151, hl152, ap153, ap155, ap154, ap156, hb157, hk159, hk158, hd, hs, ok_pick [5, 8, 9, 43, 44, 45] hok (by kernel_rfl)⟩
    ·rintro s162 r2 h2 hR2 a w163 ⟨a166, c167, hB164, hz165, ho168, hl169, ap170, ap171, ap172, ap173, hb174, hk175, hk176, hd, hs, hok⟩
     refine gv_in ?_ hd hs hok
     clear hd hs hok
     clear hk159 hk158 hb157 ap156 ap155 ap154 ap153 hl152 ho151 hB147
     refine gv_seq <| gv_region <| gv_pureN 1 [46] [(46, (.bool (decide (s162.2 < ((List.length l64 : Nat) : Int)))))] (by kernel_rfl) ?_
     refine gv_nil <| gv_seq <| gv_cond (b := (decide (s162.2 < ((List.length l64 : Nat) : Int)))) (by kernel_rfl) (fun hc177 => ?_) (fun hc177 => ?_)
     ·replace h2 := ite_t hc177 h2
      refine gv_skip <| gv_seq <| gv_block <| gv_seq <| gv_region <| gv_pureN 1 [47] [(47, (.int .i64 s162.2))] (by kernel_rfl) ?_
      refine bindE h2 ?_; clear h2; intro x178 hx179 h2
      refine gv_idxaddr (t := 72) (e := 21) (a := a57) (len := List.length l64) (cap := c58) (kk := .i64) (i := s162.2) (sz := 1) [] (fun e => by cases e) rfl rfl rfl (by kernel_rfl) (by kernel_rfl) Tryd.underlying72 (by kernel_rfl) (hk176.has hx179) (idx_spec hx179).1 (idx_spec hx179).2.1 rfl ?_
      refine gv_load (t := 21) (A := (elemAddr a57 ((s162.2 : Int).toNat * 1))) (.int .i32 x178) [] (fun e => by cases e) rfl rfl rfl (by kernel_rfl) (by kernel_rfl) (by kernel_rfl) (inw0 (hk176.cell hx179)) rfl ?_
      refine gv_pureN 2 [11, 12] [(11, (.int .i64 s162.2)), (12, (.int .i32 x178))] (by kernel_rfl) ?_
      refine gv_nil <| gv_seq <| gv_region <| gv_pureN 1 [50] [(50, (.slice a166 (List.length s162.1) c167))] (by kernel_rfl) ?_
      refine bindE h2 ?_; clear h2; intro x180 hx181 h2
      refine gv_idxaddr (t := 38) (e := 3) (a := a166) (len := List.length s162.1) (cap := c167) (kk := .i64) (i := 0) (sz := 1) [] (fun e => by cases e) rfl rfl rfl (by kernel_rfl) (by kernel_rfl) Tryd.underlying38 (by kernel_rfl) ((ho168.rd (Y := fun k => blk a166 = some k) (fun _ h => h.elim) (fun g e => e)).has hx181) (idx_spec hx181).1 (idx_spec hx181).2.1 rfl ?_
      refine gv_load (t := 3) (A := (elemAddr a166 ((0 : Int).toNat * 1))) (.int .i64 x180) [] (fun e => by cases e) rfl rfl rfl (by kernel_rfl) (by kernel_rfl) (by kernel_rfl) (inw0 ((ho168.rd (Y := fun k => blk a166 = some k) (fun _ h => h.elim) (fun g e => e)).cell hx181)) rfl ?_
      refine gv_pureN 1 [13] [(13, (.int .i64 x180))] (by kernel_rfl) ?_
      refine gv_nil <| gv_seq <| gv_region <| gv_pureN 3 [53, 54, 55] [(53, (.slice a166 (List.length s162.1) c167)), (55, (.int .i64 (IntKind.i64.wrap (s162.2 + 1))))] (by kernel_rfl) ?_
      refine bindE h2 ?_; clear h2; intro x182 hx183 h2
      refine gv_idxaddr (t := 38) (e := 3) (a := a166) (len := List.length s162.1) (cap := c167) (kk := .i64) (i := 0) (sz := 1) [] (fun e => by cases e) rfl rfl rfl (by kernel_rfl) (by kernel_rfl) Tryd.underlying38 (by kernel_rfl) ((ho168.rd (Y := fun k => blk a166 = some k) (fun _ h => h.elim) (fun g e => e)).has hx183) (idx_spec hx183).1 (idx_spec hx183).2.1 rfl ?_
      refine bindE h2 ?_; clear h2; intro l184 hx185 h2
      refine gv_upd (f := (fun n : Int => Value.int .i64 n)) (hf := fun _ => rfl) (t := 3) (e := 3) (a := a166) (cap := c167) (xs := s162.1) (i := 0) (IntKind.i64.wrap (s162.2 + 1)) l184 (by decide) rfl rfl (by kernel_rfl) rfl (by kernel_rfl) (by kernel_rfl) ho168 hx185 ?_
      intro w186 hg187 ho188 hz189
      refine ⟨(fun e => by cases e), ?_⟩
      have hln190 : List.length s162.1 = List.length l184 := by obtain ⟨_, _, e⟩ := upd_spec hx185; rw [e, List.length_set]
      refine gv_name (s := 9) (v := (.slice a166 (List.length s162.1) c167)) (v' := (.slice a166 (List.length l184) c167)) (by kernel_rfl) (by rw [hln190]) ?_
      refine gv_nil <| gv_seq <| gv_region <| gv_pureN 3 [57, 58, 59] [(57, (.slice a73 (List.length l80) c74)), (58, (.int .i64 ((List.length l80 : Nat) : Int))), (59, (.int .i64 0))] (by kernel_rfl) ?_
      refine gv_nil <| bindE h2 ?_; clear h2; intro j191 h3 h2
      refine gv_cut_code (J := fun a w192 => ∃ (a9_0j : Option Addr) (c9_0j : Nat), Below w0.heap.size w0 w192 ∧ w186.heap.size ≤ w192.heap.size ∧ Gv.Own (iE .i64) 3 w192 (fun _ => False) a9_0j c9_0j j191 ∧ (∀ g, blk a9_0j = some g → w0.heap.size ≤ g) ∧ (∀ g, blk a9_0j = some g → ¬ (· = b1) g) ∧ (∀ g, blk a9_0j = some g → ¬ (· = w59.heap.size) g) ∧ (∀ g, blk a9_0j = some g → ¬ (· = w31.heap.size) g) ∧ ¬ (fun k => blk a9_0j = some k) b1 ∧ Box w192 b1 24 #[(.int .i64 0), (.int .i64 0)] ∧ Rd (iE .i32) w192 (· = w59.heap.size) a73 c74 l80 ∧ Rd (iE .i32) w192 (· = w31.heap.size) a57 c58 l64 ∧ a.defers = [] ∧ a.tmps.size = 98 ∧ Ok [(5, (bp b1)), (8, (.slice a73 (List.length l80) c74)), (9, (.slice a9_0j (List.length j191) c9_0j)), (43, (.slice a57 (List.length l64) c58)), (44, (.int .i64 ((List.length l64 : Nat) : Int))), (45, (.int .i64 s162.2))] a.tmps) ?_ ?_
      ·skip
       refine gv_block <| gv_loop (A := fun (s193 : ((List Int) × Int × Int)) a w194 => ∃ (a9_0j : Option Addr) (c9_0j : Nat), Below w0.heap.size w0 w194 ∧ w186.heap.size ≤ w194.heap.size ∧ Gv.Own (iE .i64) 3 w194 (fun _ => False) a9_0j c9_0j s193.1 ∧ (∀ g, blk a9_0j = some g → w0.heap.size ≤ g) ∧ (∀ g, blk a9_0j = some g → ¬ (· = b1) g) ∧ (∀ g, blk a9_0j = some g → ¬ (· = w59.heap.size) g) ∧ (∀ g, blk a9_0j = some g → ¬ (· = w31.heap.size) g) ∧ ¬ (fun k => blk a9_0j = some k) b1 ∧ Box w194 b1 24 #[(.int .i64 0), (.int .i64 0)] ∧ Rd (iE .i32) w194 (· = w59.heap.size) a73 c74 l80 ∧ Rd (iE .i32) w194 (· = w31.heap.size) a57 c58 l64 ∧ a.defers = [] ∧ a.tmps.size = 98 ∧ Ok [(5, (bp b1)), (8, (.slice a73 (List.length l80) c74)), (9, (.slice a9_0j (List.length s193.1) c9_0j)), (12, (.int .i32 x178)), (13, (.int .i64 s193.2.1)), (43, (.slice a57 (List.length l64) c58)), (44, (.int .i64 ((List.length l64 : Nat) : Int))), (45, (.int .i64 s162.2)), (57, (.slice a73 (List.length l80) c74)), (58, (.int .i64 ((List.length l80 : Nat) : Int))), (59, (.int .i64 s193.2.2))] a.tmps) h3 ?_ ?_
       ·intro a hd hs hok
        have hB195 := bg hB164 hg187 hl169
        have hk196 := hb174.grown hg187 ap170
        have hx197 := ltx hx82 hg89.size
        have hk198 := hk175.grown hg187 (fun k hk => ltl ((fun k hk => ltl (hx197 k hk) hz148) k hk) hz165) ap171
        have hg199 := (grown_trans hg76 hg89)
        have hx200 := ltx hx66 hg199.size
        have hk201 := hk176.grown hg187 (fun k hk => ltl ((fun k hk => ltl (hx200 k hk) hz148) k hk) hz165) ap172
        exact ⟨a166, c167, hB195, (Nat.le_refl _), ho188, hl169, ap170, ap171, ap172, ap173, hk196, hk198, hk201, hd, hs, ok_pick [5, 8, 9, 12, 13, 43, 44, 45, 57, 58, 59] hok (by kernel_rfl)⟩
       ·rintro s193 r4 h4 hR4 a w194 ⟨a204, c205, hB202, hz203, ho206, hl207, ap208, ap209, ap210, ap211, hb212, hk213, hk214, hd, hs, hok⟩
        refine gv_in ?_ hd hs hok
        clear hd hs hok
        have hz215 := (nt hz165 hg187.size)
        clear hln190 hz189 ho188 hx185 hx183 hx181 hx179 hc177 hk176 hk175 hb174 ap173 ap172 ap171 ap170 hl169 ho168 hB164
        refine gv_seq <| gv_region <| gv_pureN 1 [60] [(60, (.bool (decide (s193.2.2 < ((List.length l80 : Nat) : Int)))))] (by kernel_rfl) ?_
        refine gv_nil <| gv_seq <| gv_cond (b := (decide (s193.2.2 < ((List.length l80 : Nat) : Int)))) (by kernel_rfl) (fun hc216 => ?_) (fun hc216 => ?_)
        ·replace h4 := ite_t hc216 h4
         refine gv_skip <| gv_seq <| gv_block <| gv_seq <| gv_region <| gv_pureN 1 [61] [(61, (.int .i64 s193.2.2))] (by kernel_rfl) ?_
         refine bindE h4 ?_; clear h4; intro x217 hx218 h4
         refine gv_idxaddr (t := 72) (e := 21) (a := a73) (len := List.length l80) (cap := c74) (kk := .i64) (i := s193.2.2) (sz := 1) [] (fun e => by cases e) rfl rfl rfl (by kernel_rfl) (by kernel_rfl) Tryd.underlying72 (by kernel_rfl) (hk213.has hx218) (idx_spec hx218).1 (idx_spec hx218).2.1 rfl ?_
         refine gv_load (t := 21) (A := (elemAddr a73 ((s193.2.2 : Int).toNat * 1))) (.int .i32 x217) [] (fun e => by cases e) rfl rfl rfl (by kernel_rfl) (by kernel_rfl) (by kernel_rfl) (inw0 (hk213.cell hx218)) rfl ?_
         refine gv_pureN 2 [14, 15] [(14, (.int .i64 s193.2.2)), (15, (.int .i32 x217))] (by kernel_rfl) ?_
         refine gv_nil <| gv_seq <| gv_region <| gv_pureN 2 [16, 64] [(16, (.int .i64 s193.2.1))] (by kernel_rfl) ?_
         refine gv_nil <| gv_seq <| gv_seq <| gv_region <| gv_pureN 3 [65, 66, 67] [(67, (.bool (x178 != x217)))] (by kernel_rfl) ?_
         refine gv_nil <| bindE h4 ?_; clear h4; intro j219 h5 h4
         refine gv_cut_code (J := fun a w220 => Below w0.heap.size w0 w220 ∧ w194.heap.size ≤ w220.heap.size ∧ Box w220 b1 24 #[(.int .i64 0), (.int .i64 0)] ∧ Rd (iE .i32) w220 (· = w59.heap.size) a73 c74 l80 ∧ Gv.Own (iE .i64) 3 w220 (fun _ => False) a204 c205 s193.1 ∧ Rd (iE .i32) w220 (· = w31.heap.size) a57 c58 l64 ∧ a.defers = [] ∧ a.tmps.size = 98 ∧ Ok [(5, (bp b1)), (8, (.slice a73 (List.length l80) c74)), (9, (.slice a204 (List.length s193.1) c205)), (12, (.int .i32 x178)), (14, (.int .i64 s193.2.2)), (16, (.int .i64 j219)), (43, (.slice a57 (List.length l64) c58)), (44, (.int .i64 ((List.length l64 : Nat) : Int))), (45, (.int .i64 s162.2)), (57, (.slice a73 (List.length l80) c74)), (58, (.int .i64 ((List.length l80 : Nat) : Int))), (59, (.int .i64 s193.2.2))] a.tmps) ?_ ?_
         ·skip
          refine gv_cond (b := (x178 != x217)) (by kernel_rfl) (fun hc221 => ?_) (fun hc221 => ?_)
          ·replace h5 := ite_t hc221 h5
           refine gv_drawA (by kernel_rfl) ?_
           intro w222 hg223
           refine gv_pre [0, 1, 2, 3, 5, 6, 7, 8] (bA 13 [0, 1, 2, 3, 5, 6, 7, 8]) 5 (by kernel_rfl) (by kernel_rfl) ?_
           refine gv_pureN 3 [68, 69, 70] [(68, (.int .i64 s193.2.1)), (69, (.slice a204 (List.length s193.1) c205)), (70, (.int .i64 s193.2.2))] (by kernel_rfl) ?_
           refine bindE h5 ?_; clear h5; intro x224 hx225 h5
           have hk226 := ho206.grown hg223 (fun _ h => h.elim) nb
           refine gv_idxaddr (t := 38) (e := 3) (a := a204) (len := List.length s193.1) (cap := c205) (kk := .i64) (i := s193.2.2) (sz := 1) [] (fun e => by cases e) rfl rfl rfl (by kernel_rfl) (by kernel_rfl) Tryd.underlying38 (by kernel_rfl) ((hk226.rd (Y := fun k => blk a204 = some k) (fun _ h => h.elim) (fun g e => e)).has hx225) (idx_spec hx225).1 (idx_spec hx225).2.1 rfl ?_
           refine gv_pureN 3 [73, 74, 75] [(73, (.slice a204 (List.length s193.1) c205)), (75, (.int .i64 (IntKind.i64.wrap (s193.2.2 + 1))))] (by kernel_rfl) ?_
           refine bindE h5 ?_; clear h5; intro x227 hx228 h5
           refine gv_idxaddr (t := 38) (e := 3) (a := a204) (len := List.length s193.1) (cap := c205) (kk := .i64) (i := (IntKind.i64.wrap (s193.2.2 + 1))) (sz := 1) [] (fun e => by cases e) rfl rfl rfl (by kernel_rfl) (by kernel_rfl) Tryd.underlying38 (by kernel_rfl) ((hk226.rd (Y := fun k => blk a204 = some k) (fun _ h => h.elim) (fun g e => e)).has hx228) (idx_spec hx228).1 (idx_spec hx228).2.1 rfl ?_
           refine gv_nil <| gv_goA ?_
           refine gv_stage (Cls w222 []) [0, 1, 2, 3, 4, 5, 6, 7, 8, 9] [(4, some true), (9, some true)] (bA 13 [0, 1, 2, 3, 4, 5, 6, 7, 8, 9]) 3 (by kernel_rfl) (by kernel_rfl) (Cls.refl _ _) ?_
           have hC229 := Cls.refl w222 []
           refine gv_load (t := 3) (A := (elemAddr a204 ((s193.2.2 : Int).toNat * 1))) (.int .i64 x224) [] (fun e => by cases e) rfl rfl rfl (by kernel_rfl) (by kernel_rfl) (by kernel_rfl) (inw1 fun w' hC' => ((hC'.rd (hk226.rd (Y := fun k => blk a204 = some k) (fun _ h => h.elim) (fun g e => e)) (fun k (hk : blk a204 = some k) => hk226.lt k hk) nmx_nil).cell hx225)) rfl ?_
           refine gv_load (t := 3) (A := (elemAddr a204 (((IntKind.i64.wrap (s193.2.2 + 1)) : Int).toNat * 1))) (.int .i64 x227) [] (fun e => by cases e) rfl rfl rfl (by kernel_rfl) (by kernel_rfl) (by kernel_rfl) (inw1 fun w' hC' => ((hC'.rd (hk226.rd (Y := fun k => blk a204 = some k) (fun _ h => h.elim) (fun g e => e)) (fun k (hk : blk a204 = some k) => hk226.lt k hk) nmx_nil).cell hx228)) rfl ?_
           refine gv_nil <| gv_goA ?_
           refine gv_pre [10, 11, 12] (bA 13 [0, 1, 2, 3, 4, 5, 6, 7, 8, 9, 10, 11, 12]) 0 (by kernel_rfl) (by kernel_rfl) ?_
           refine gv_pureN 3 [16, 78, 79] [(16, (.int .i64 (IntKind.i64.wrap ((if x227 < (if x224 < s193.2.1 then x224 else s193.2.1) then x227 else (if x224 < s193.2.1 then x224 else s193.2.1)) + 1))))] (by kernel_rfl) ?_
           refine gv_sub [5, 8, 9, 12, 14, 16, 43, 44, 45, 57, 58, 59] (σ' := [(5, (bp b1)), (8, (.slice a73 (List.length l80) c74)), (9, (.slice a204 (List.length s193.1) c205)), (12, (.int .i32 x178)), (14, (.int .i64 s193.2.2)), (16, (.int .i64 (IntKind.i64.wrap ((if x227 < (if x224 < s193.2.1 then x224 else s193.2.1) then x227 else (if x224 < s193.2.1 then x224 else s193.2.1)) + 1)))), (43, (.slice a57 (List.length l64) c58)), (44, (.int .i64 ((List.length l64 : Nat) : Int))), (45, (.int .i64 s162.2)), (57, (.slice a73 (List.length l80) c74)), (58, (.int .i64 ((List.length l80 : Nat) : Int))), (59, (.int .i64 s193.2.2))]) (by kernel_rfl) ?_
           refine bindE h5 ?_; clear h5; intro n230 hn231 h5
           refine gv_name (s := 16) (v := (.int .i64 (IntKind.i64.wrap ((if x227 < (if x224 < s193.2.1 then x224 else s193.2.1) then x227 else (if x224 < s193.2.1 then x224 else s193.2.1)) + 1)))) (v' := (.int .i64 n230)) (by kernel_rfl) (congrArg (Value.int .i64) (sj hn231)) ?_
           refine gv_nil <| gv_goA ?_
           refine gv_stageE (by kernel_rfl) ?_
           have e := sj h5; subst e
           refine gv_goal fun a hd hs hok => ?_
           have hB232 := bg hB202 hg223 nb
           have hz233 := hg223.size
           have hk234 := hb212.grown hg223 nb
           have hx235 := ltx hx82 hg89.size
           have hx236 := ltx (fun k hk => ltl ((fun k hk => ltl (hx235 k hk) hz148) k hk) hz165) hg187.size
           have hk237 := hk213.grown hg223 (fun k hk => ltl (hx236 k hk) hz203) nb
           have hg238 := (grown_trans hg76 hg89)
           have hx239 := ltx hx66 hg238.size
           have hx240 := ltx (fun k hk => ltl ((fun k hk => ltl (hx239 k hk) hz148) k hk) hz165) hg187.size
           have hk241 := hk214.grown hg223 (fun k hk => ltl (hx240 k hk) hz203) nb
           exact ⟨hB232, hz233, hk234, hk237, hk226, hk241, hd, hs, ok_pick [5, 8, 9, 12, 14, 16, 43, 44, 45, 57, 58, 59] hok (by kernel_rfl)⟩
          ·replace h5 := ite_f hc221 h5
           refine gv_skip ?_
           have e := sj h5; subst e
           refine gv_goal fun a hd hs hok => ?_
           exact ⟨hB202, (Nat.le_refl _), hb212, hk213, ho206, hk214, hd, hs, ok_pick [5, 8, 9, 12, 14, 16, 43, 44, 45, 57, 58, 59] hok (by kernel_rfl)⟩
         ·rintro a w220 ⟨hB242, hz243, hb244, hk245, hk246, hk247, hd, hs, hok⟩
          refine gv_in ?_ hd hs hok
          clear hd hs hok
          have hz248 := (nt hz203 hz243)
          clear hx218 hc216 hk214 hk213 hb212 ho206 hB202
          refine gv_region <| gv_pureN 6 [80, 81, 82, 83, 84, 85] [(80, (.slice a204 (List.length s193.1) c205)), (82, (.int .i64 (IntKind.i64.wrap (s193.2.2 + 1)))), (83, (.slice a204 (List.length s193.1) c205)), (85, (.int .i64 (IntKind.i64.wrap (s193.2.2 + 1))))] (by kernel_rfl) ?_
          refine bindE h4 ?_; clear h4; intro x249 hx250 h4
          refine gv_idxaddr (t := 38) (e := 3) (a := a204) (len := List.length s193.1) (cap := c205) (kk := .i64) (i := (IntKind.i64.wrap (s193.2.2 + 1))) (sz := 1) [] (fun e => by cases e) rfl rfl rfl (by kernel_rfl) (by kernel_rfl) Tryd.underlying38 (by kernel_rfl) ((hk246.rd (Y := fun k => blk a204 = some k) (fun _ h => h.elim) (fun g e => e)).has hx250) (idx_spec hx250).1 (idx_spec hx250).2.1 rfl ?_
          refine gv_load (t := 3) (A := (elemAddr a204 (((IntKind.i64.wrap (s193.2.2 + 1)) : Int).toNat * 1))) (.int .i64 x249) [] (fun e => by cases e) rfl rfl rfl (by kernel_rfl) (by kernel_rfl) (by kernel_rfl) (inw0 ((hk246.rd (Y := fun k => blk a204 = some k) (fun _ h => h.elim) (fun g e => e)).cell hx250)) rfl ?_
          refine gv_pureN 2 [13, 88] [(13, (.int .i64 x249)), (88, (.int .i64 j219))] (by kernel_rfl) ?_
          refine bindE h4 ?_; clear h4; intro x251 hx252 h4
          refine gv_idxaddr (t := 38) (e := 3) (a := a204) (len := List.length s193.1) (cap := c205) (kk := .i64) (i := (IntKind.i64.wrap (s193.2.2 + 1))) (sz := 1) [] (fun e => by cases e) rfl rfl rfl (by kernel_rfl) (by kernel_rfl) Tryd.underlying38 (by kernel_rfl) ((hk246.rd (Y := fun k => blk a204 = some k) (fun _ h => h.elim) (fun g e => e)).has hx252) (idx_spec hx252).1 (idx_spec hx252).2.1 rfl ?_
          refine bindE h4 ?_; clear h4; intro l253 hx254 h4
          refine gv_upd (f := (fun n : Int => Value.int .i64 n)) (hf := fun _ => rfl) (t := 3) (e := 3) (a := a204) (cap := c205) (xs := s193.1) (i := (IntKind.i64.wrap (s193.2.2 + 1))) j219 l253 (by decide) rfl rfl (by kernel_rfl) rfl (by kernel_rfl) (by kernel_rfl) hk246 hx254 ?_
          intro w255 hg256 ho257 hz258
          refine ⟨(fun e => by cases e), ?_⟩
          have hln259 : List.length s193.1 = List.length l253 := by obtain ⟨_, _, e⟩ := upd_spec hx254; rw [e, List.length_set]
          refine gv_name (s := 9) (v := (.slice a204 (List.length s193.1) c205)) (v' := (.slice a204 (List.length l253) c205)) (by kernel_rfl) (by rw [hln259]) ?_
          refine gv_nil <| gv_blk <| gv_region <| gv_pureN 2 [59, 90] [(59, (.int .i64 (IntKind.i64.wrap (s193.2.2 + 1))))] (by kernel_rfl) ?_
          refine gv_nil ?_
          have e := sj h4; subst e
          refine gv_goal fun a hd hs hok => ?_
          have hB260 := bg hB242 hg256 hl207
          have hz261 := (nt hz248 hg256.size)
          have hk262 := hb244.grown hg256 ap208
          have hx263 := ltx hx82 hg89.size
          have hx264 := ltx (fun k hk => ltl ((fun k hk => ltl (hx263 k hk) hz148) k hk) hz165) hg187.size
          have hk265 := hk245.grown hg256 (fun k hk => ltl ((fun k hk => ltl (hx264 k hk) hz203) k hk) hz243) ap209
          have hg266 := (grown_trans hg76 hg89)
          have hx267 := ltx hx66 hg266.size
          have hx268 := ltx (fun k hk => ltl ((fun k hk => ltl (hx267 k hk) hz148) k hk) hz165) hg187.size
          have hk269 := hk247.grown hg256 (fun k hk => ltl ((fun k hk => ltl (hx268 k hk) hz203) k hk) hz243) ap210
          exact ⟨(l253, x249, (IntKind.i64.wrap (s193.2.2 + 1))), rfl, a204, c205, hB260, hz261, ho257, hl207, ap208, ap209, ap210, ap211, hk262, hk265, hk269, hd, hs, ok_pick [5, 8, 9, 12, 13, 43, 44, 45, 57, 58, 59] hok (by kernel_rfl)⟩
        ·replace h4 := ite_f hc216 h4
         refine gv_cexit <| gv_exit rfl ?_
         have e := sj h4; subst e
         replace h3 := congrArg some (hR4 _ rfl)
         have e := sj h3; subst e
         refine gv_goal fun a hd hs hok => ?_
         have hz270 := hz203
         exact ⟨a204, c205, hB202, hz270, ho206, hl207, ap208, ap209, ap210, ap211, hb212, hk213, hk214, hd, hs, ok_pick [5, 8, 9, 43, 44, 45] hok (by kernel_rfl)⟩
      ·rintro a w192 ⟨a273, c274, hB271, hz272, ho275, hl276, ap277, ap278, ap279, ap280, hb281, hk282, hk283, hd, hs, hok⟩
       refine gv_in ?_ hd hs hok
       clear hd hs hok
       have hz284 := (nt (nt hz165 hg187.size) hz272)
       clear hln190 hz189 ho188 hx185 hx183 hx181 hx179 hc177 hk176 hk175 hb174 ap173 ap172 ap171 ap170 hl169 ho168 hB164
       refine gv_blk <| gv_region <| gv_pureN 2 [45, 91] [(45, (.int .i64 (IntKind.i64.wrap (s162.2 + 1))))] (by kernel_rfl) ?_
       refine gv_nil ?_
       have e := sj h2; subst e
       refine gv_goal fun a hd hs hok => ?_
       have hz285 := hz284
       exact ⟨(j191, (IntKind.i64.wrap (s162.2 + 1))), rfl, a273, c274, hB271, hz285, ho275, hl276, ap277, ap278, ap279, ap280, hb281, hk282, hk283, hd, hs, ok_pick [5, 8, 9, 43, 44, 45] hok (by kernel_rfl)⟩
     ·replace h2 := ite_f hc177 h2
      refine gv_cexit <| gv_exit rfl ?_
      have e := sj h2; subst e
      replace h1 := congrArg some (hR2 _ rfl)
      have e := sj h1; subst e
      refine gv_goal fun a hd hs hok => ?_
      have hz286 := hz165
      exact ⟨a166, c167, hB164, hz286, ho168, hl169, ap170, ap171, ap173, hb174, hk175, hd, hs, ok_pick [5, 8, 9] hok (by kernel_rfl)⟩
   ·rintro a w161 ⟨a289, c290, hB287, hz288, ho291, hl292, ap293, ap294, ap295, hb296, hk297, hd, hs, hok⟩
    refine gv_in ?_ hd hs hok
    clear hd hs hok
    clear hk159 hk158 hb157 ap156 ap155 ap154 ap153 hl152 ho151 hB147 hg76 hx67 hx66
    refine gv_seq <| gv_region <| gv_pureN 3 [92, 93, 94] [(92, (.slice a289 (List.length j160) c290)), (94, (.int .i64 ((List.length l80 : Nat) : Int)))] (by kernel_rfl) ?_
    refine bindE h0 ?_; clear h0; intro x298 hx299 h0
    refine gv_idxaddr (t := 38) (e := 3) (a := a289) (len := List.length j160) (cap := c290) (kk := .i64) (i := ((List.length l80 : Nat) : Int)) (sz := 1) [] (fun e => by cases e) rfl rfl rfl (by kernel_rfl) (by kernel_rfl) Tryd.underlying38 (by kernel_rfl) ((ho291.rd (Y := fun k => blk a289 = some k) (fun _ h => h.elim) (fun g e => e)).has hx299) (idx_spec hx299).1 (idx_spec hx299).2.1 rfl ?_
    refine gv_load (t := 3) (A := (elemAddr a289 ((((List.length l80 : Nat) : Int) : Int).toNat * 1))) (.int .i64 x298) [] (fun e => by cases e) rfl rfl rfl (by kernel_rfl) (by kernel_rfl) (by kernel_rfl) (inw0 ((ho291.rd (Y := fun k => blk a289 = some k) (fun _ h => h.elim) (fun g e => e)).cell hx299)) rfl ?_
    refine gv_pureN 2 [4, 97] [(4, (.int .i64 x298)), (97, (.agg #[(.int .i64 0), (.int .i64 0)]))] (by kernel_rfl) ?_
    refine gv_store0 24 0 (.agg #[(.int .i64 0), (.int .i64 0)]) #[(.int .i64 0), (.int .i64 0)] hb296 (by kernel_rfl) (by kernel_rfl) (by kernel_rfl) ?_
    intro w300 hg301 hb302 hz303
    refine gv_nil <| gv_cret ?_
    have e := sj h0; subst e
    refine gv_ret (gv_done [(.int .i64 x298), (.agg #[(.int .i64 0), (.int .i64 0)])] rfl ⟨(by kernel_rfl), ⟨⟨b1, 0, none⟩, (by kernel_rfl), run_loadVar_row w300 b1 _ 24 _ _ _ hb302 Tryd.underlying24 rfl (by kernel_rfl)⟩, trivial⟩ ?_)
    have hlo304 : w0.heap.size ≤ b1 := lob hbe5 hB0.size
    have hB305 := bg hB287 hg301 (rowlo hlo304)
    exact ⟨grown_of_below hB305, rfl⟩

theorem law4_TextstrNearer_ok (fuel : Nat) (a_0 : ByteArray) (b_1 : ByteArray) (c_2 : ByteArray) (w0 : World) (X0 : Nat → Prop) (hX0 : ∀ k, X0 k → k < w0.heap.size) {gmx : Int} (hG0 : Rd (iE .i64) w0 X0 (some ⟨0, 0, none⟩) 1 [gmx]) (hG1 : Rd bE w0 X0 (some ⟨1, 0, none⟩) 256 utf8First) (hG2 : Rd (prE (iE .u8) (iE .u8)) w0 X0 (some ⟨2, 0, none⟩) 16 utf8Acc) (r0 : Bool) (h0 : law4_TextstrNearer fuel a_0 b_1 c_2 = some r0) :
    Calls Tryd.prog 7 ([(.string a_0), (.string b_1), (.string c_2)] : List Value).toArray w0 (Ret fun v w' => w0.grownBy w' none ∧ v = tup [(.bool r0)]) := by
 have hB0 : Below w0.heap.size w0 w0 := Below.refl _ _
 unfold law4_TextstrNearer at h0
 refine calls_run Tryd.func7 rfl Tryd.ntmps7 (by kernel_rfl) ?_
 refine gv_sub [0, 1, 2] (σ' := [(0, (.string a_0)), (1, (.string b_1)), (2, (.string c_2))]) (by kernel_rfl) ?_
 refine gv_seq <| gv_region <| gv_pureN 1 [6] [] (by kernel_rfl) ?_
 refine gv_nil <| gv_seq <| gv_seq <| gv_region <| bindE h0 ?_; clear h0; intro j1 h1 h0
 refine gv_cut_ops (J := fun a w2 => Below w0.heap.size w0 w2 ∧ w0.heap.size ≤ w2.heap.size ∧ a.defers = [] ∧ a.tmps.size = 159 ∧ Ok [(0, (.string a_0)), (1, (.string b_1)), (2, (.string c_2)), (50, (.bool j1))] a.tmps) ?_ ?_
 ·skip
  refine bindE h1 ?_; clear h1; intro r3 hr4 h1
  refine gv_call0 (by kernel_rfl) rfl (by kernel_rfl) enters15 (law4_letters_ok fuel  w0 (fun k => X0 k ∨ X0 k ∨ X0 k) (fun k hk => (hk).elim (fun h => (fun k (hk : X0 k) => ltl (hX0 k hk) hB0.size) k h) (fun h => (h).elim (fun h => (fun k (hk : X0 k) => ltl (hX0 k hk) hB0.size) k h) (fun h => (fun k (hk : X0 k) => ltl (hX0 k hk) hB0.size) k h))) ((hG0.below hB0 hX0).wide (fun k hk => (.inl hk))) ((hG1.below hB0 hX0).wide (fun k hk => (.inr (.inl hk)))) ((hG2.below hB0 hX0).wide (fun k hk => (.inr (.inr hk)))) r3 hr4) ?_
  rintro v7 w5 ⟨hg6, rfl⟩
  refine gv_pureN 2 [20, 21] [(21, (.bool (!r3)))] (by kernel_rfl) ?_
  refine gv_split (s := 21) (g := (!r3)) (by kernel_rfl) (fun hc8 => ?_) (fun hc8 => ?_)
  ·skip
   replace h1 := ite_t hc8 h1
   refine gv_pureN 29 [22, 23, 24, 25, 26, 27, 28, 29, 30, 31, 32, 33, 34, 35, 36, 37, 38, 39, 40, 41, 42, 43, 44, 45, 46, 47, 48, 49, 50] [(50, (.bool true))] (by kernel_rfl) ?_
   refine gv_nil ?_
   have e := sj h1; subst e
   refine gv_goal fun a hd hs hok => ?_
   have hB9 := bg hB0 hg6 nb
   have hz10 := hg6.size
   exact ⟨hB9, hz10, hd, hs, ok_pick [0, 1, 2, 50] hok (by kernel_rfl)⟩
  ·skip
   replace h1 := ite_f hc8 h1
   refine gv_pureN 1 [22] [(22, (.string a_0))] (by kernel_rfl) ?_
   refine bindE h1 ?_; clear h1; intro r11 hr12 h1
   refine gv_call0 (by kernel_rfl) rfl (by kernel_rfl) enters31 (ref4_TextOk_ok fuel a_0 w5  r11 hr12) ?_
   rintro v15 w13 ⟨hg14, rfl⟩
   refine gv_pureN 3 [24, 25, 26] [(26, (.bool (!r11)))] (by kernel_rfl) ?_
   refine gv_split (s := 26) (g := (!r11)) (by kernel_rfl) (fun hc16 => ?_) (fun hc16 => ?_)
   ·skip
    replace h1 := ite_t hc16 h1
    refine gv_pureN 24 [27, 28, 29, 30, 31, 32, 33, 34, 35, 36, 37, 38, 39, 40, 41, 42, 43, 44, 45, 46, 47, 48, 49, 50] [(50, (.bool true))] (by kernel_rfl) ?_
    refine gv_nil ?_
    have e := sj h1; subst e
    refine gv_goal fun a hd hs hok => ?_
    have hg17 := (grown_trans hg6 hg14)
    have hB18 := bg hB0 hg17 nb
    have hz19 := (nt hg6.size hg14.size)
    exact ⟨hB18, hz19, hd, hs, ok_pick [0, 1, 2, 50] hok (by kernel_rfl)⟩
   ·skip
    replace h1 := ite_f hc16 h1
    refine gv_pureN 1 [27] [(27, (.string b_1))] (by kernel_rfl) ?_
    refine bindE h1 ?_; clear h1; intro r20 hr21 h1
    refine gv_call0 (by kernel_rfl) rfl (by kernel_rfl) enters31 (ref4_TextOk_ok fuel b_1 w13  r20 hr21) ?_
    rintro v24 w22 ⟨hg23, rfl⟩
    refine gv_pureN 3 [29, 30, 31] [(31, (.bool (!r20)))] (by kernel_rfl) ?_
    refine gv_split (s := 31) (g := (!r20)) (by kernel_rfl) (fun hc25 => ?_) (fun hc25 => ?_)
    ·skip
     replace h1 := ite_t hc25 h1
     refine gv_pureN 19 [32, 33, 34, 35, 36, 37, 38, 39, 40, 41, 42, 43, 44, 45, 46, 47, 48, 49, 50] [(50, (.bool true))] (by kernel_rfl) ?_
     refine gv_nil ?_
     have e := sj h1; subst e
     refine gv_goal fun a hd hs hok => ?_
     have hg26 := (grown_trans (grown_trans hg6 hg14) hg23)
     have hB27 := bg hB0 hg26 nb
     have hz28 := (nt (nt hg6.size hg14.size) hg23.size)
     exact ⟨hB27, hz28, hd, hs, ok_pick [0, 1, 2, 50] hok (by kernel_rfl)⟩
    ·skip
     replace h1 := ite_f hc25 h1
     refine gv_pureN 1 [32] [(32, (.string c_2))] (by kernel_rfl) ?_
     refine bindE h1 ?_; clear h1; intro r29 hr30 h1
     refine gv_call0 (by kernel_rfl) rfl (by kernel_rfl) enters31 (ref4_TextOk_ok fuel c_2 w22  r29 hr30) ?_
     rintro v33 w31 ⟨hg32, rfl⟩
     refine gv_pureN 3 [34, 35, 36] [(36, (.bool (!r29)))] (by kernel_rfl) ?_
     refine gv_split (s := 36) (g := (!r29)) (by kernel_rfl) (fun hc34 => ?_) (fun hc34 => ?_)
     ·skip
      replace h1 := ite_t hc34 h1
      refine gv_pureN 14 [37, 38, 39, 40, 41, 42, 43, 44, 45, 46, 47, 48, 49, 50] [(50, (.bool true))] (by kernel_rfl) ?_
      refine gv_nil ?_
      have e := sj h1; subst e
      refine gv_goal fun a hd hs hok => ?_
      have hg35 := (grown_trans (grown_trans (grown_trans hg6 hg14) hg23) hg32)
      have hB36 := bg hB0 hg35 nb
      have hz37 := (nt (nt (nt hg6.size hg14.size) hg23.size) hg32.size)
      exact ⟨hB36, hz37, hd, hs, ok_pick [0, 1, 2, 50] hok (by kernel_rfl)⟩
     ·skip
      replace h1 := ite_f hc34 h1
      refine gv_pureN 5 [37, 38, 39, 40, 41] [(41, (.bool (decide (((ByteArray.size a_0 : Nat) : Int) > 800))))] (by kernel_rfl) ?_
      refine gv_split (s := 41) (g := (decide (((ByteArray.size a_0 : Nat) : Int) > 800))) (by kernel_rfl) (fun hc38 => ?_) (fun hc38 => ?_)
      ·skip
       replace h1 := ite_t hc38 h1
       refine gv_pureN 9 [42, 43, 44, 45, 46, 47, 48, 49, 50] [(50, (.bool true))] (by kernel_rfl) ?_
       refine gv_sub [0, 1, 2, 50] (σ' := [(0, (.string a_0)), (1, (.string b_1)), (2, (.string c_2)), (50, (.bool true))]) (by kernel_rfl) ?_
       refine gv_nil ?_
       have e := sj h1; subst e
       refine gv_goal fun a hd hs hok => ?_
       have hg39 := (grown_trans (grown_trans (grown_trans hg6 hg14) hg23) hg32)
       have hB40 := bg hB0 hg39 nb
       have hz41 := (nt (nt (nt hg6.size hg14.size) hg23.size) hg32.size)
       exact ⟨hB40, hz41, hd, hs, ok_pick [0, 1, 2, 50] hok (by kernel_rfl)⟩
      ·skip
       replace h1 := ite_f hc38 h1
       refine gv_pureN 5 [42, 43, 44, 45, 46] [(46, (.bool (decide (((ByteArray.size b_1 : Nat) : Int) > 800))))] (by kernel_rfl) ?_
       refine gv_sub [0, 1, 2, 46] (σ' := [(0, (.string a_0)), (1, (.string b_1)), (2, (.string c_2)), (46, (.bool (decide (((ByteArray.size b_1 : Nat) : Int) > 800))))]) (by kernel_rfl) ?_
       refine gv_split (s := 46) (g := (decide (((ByteArray.size b_1 : Nat) : Int) > 800))) (by kernel_rfl) (fun hc42 => ?_) (fun hc42 => ?_)
       ·skip
        replace h1 := ite_t hc42 h1
        refine gv_pureN 4 [47, 48, 49, 50] [(50, (.bool true))] (by kernel_rfl) ?_
        refine gv_nil ?_
        have e := sj h1; subst e
        refine gv_goal fun a hd hs hok => ?_
        have hg43 := (grown_trans (grown_trans (grown_trans hg6 hg14) hg23) hg32)
        have hB44 := bg hB0 hg43 nb
        have hz45 := (nt (nt (nt hg6.size hg14.size) hg23.size) hg32.size)
        exact ⟨hB44, hz45, hd, hs, ok_pick [0, 1, 2, 50] hok (by kernel_rfl)⟩
       ·skip
        replace h1 := ite_f hc42 h1
        refine gv_pureN 4 [47, 48, 49, 50] [(50, (.bool (decide (((ByteArray.size c_2 : Nat) : Int) > 800))))] (by kernel_rfl) ?_
        refine gv_nil ?_
        have e := sj h1; subst e
        refine gv_goal fun a hd hs hok => ?_
        have hg46 := (grown_trans (grown_trans (grown_trans hg6 hg14) hg23) hg32)
        have hB47 := bg hB0 hg46 nb
        have hz48 := (nt (nt (nt hg6.size hg14.size) hg23.size) hg32.size)
        exact ⟨hB47, hz48, hd, hs, ok_pick [0, 1, 2, 50] hok (by kernel_rfl)⟩
 ·rintro a w2 ⟨hB49, hz50, hd, hs, hok⟩
  refine gv_in ?_ hd hs hok
  clear hd hs hok
  refine gv_cond (b := j1) (by kernel_rfl) (fun hc51 => ?_) (fun hc51 => ?_)
  ·replace h0 := ite_t hc51 h0
   refine gv_seq <| gv_region <| bindE h0 ?_; clear h0; intro r52 hr53 h0
   refine gv_call0 (by kernel_rfl) rfl (by kernel_rfl) enters15 (law4_letters_ok fuel  w2 (fun k => X0 k ∨ X0 k ∨ X0 k) (fun k hk => (hk).elim (fun h => (fun k (hk : X0 k) => ltl (hX0 k hk) hB49.size) k h) (fun h => (h).elim (fun h => (fun k (hk : X0 k) => ltl (hX0 k hk) hB49.size) k h) (fun h => (fun k (hk : X0 k) => ltl (hX0 k hk) hB49.size) k h))) ((hG0.below hB49 hX0).wide (fun k hk => (.inl hk))) ((hG1.below hB49 hX0).wide (fun k hk => (.inr (.inl hk)))) ((hG2.below hB49 hX0).wide (fun k hk => (.inr (.inr hk)))) r52 hr53) ?_
   rintro v56 w54 ⟨hg55, rfl⟩
   refine gv_pureN 1 [6] [(6, (.bool r52))] (by kernel_rfl) ?_
   refine gv_nil <| gv_cret ?_
   have e := sj h0; subst e
   refine gv_ret (gv_done [(.bool r52)] rfl ⟨(by kernel_rfl), trivial⟩ ?_)
   have hB57 := bg hB49 hg55 nb
   exact ⟨grown_of_below hB57, rfl⟩
  ·replace h0 := ite_f hc51 h0
   refine gv_skip <| gv_seq <| gv_region <| gv_pureN 2 [53, 54] [(53, (.string a_0)), (54, (.string b_1))] (by kernel_rfl) ?_
   refine bindE h0 ?_; clear h0; intro r58 hr59 h0
   refine gv_call0 (by kernel_rfl) rfl (by kernel_rfl) enters35 (textstr_Distance_ok fuel a_0 b_1 w2 (fun k => X0 k ∨ X0 k) (fun k hk => (hk).elim (fun h => (fun k (hk : X0 k) => ltl (hX0 k hk) hB49.size) k h) (fun h => (fun k (hk : X0 k) => ltl (hX0 k hk) hB49.size) k h)) ((hG1.below hB49 hX0).wide (fun k hk => (.inl hk))) ((hG2.below hB49 hX0).wide (fun k hk => (.inr hk))) r58 hr59) ?_
   rintro v62 w60 ⟨hg61, rfl⟩
   refine gv_pureN 3 [52, 56, 57] [(56, (.int .i64 r58.1)), (57, (.agg #[(.int .i64 r58.2.1), (.int .i64 r58.2.2)]))] (by kernel_rfl) ?_
   refine gv_new0 (fun b => .pointer (some ⟨b, 0, none⟩)) #[(.int .i64 0), (.int .i64 0)] 24 (by kernel_rfl) (by kernel_rfl) ?_
   intro b63 w64 hg65 hb66 hbe67 hz68
   refine gv_pureN 1 [7] [(7, (.int .i64 r58.1))] (by kernel_rfl) ?_
   refine gv_store0 24 0 (.agg #[(.int .i64 r58.2.1), (.int .i64 r58.2.2)]) #[(.int .i64 r58.2.1), (.int .i64 r58.2.2)] hb66 (by kernel_rfl) (by kernel_rfl) (by kernel_rfl) ?_
   intro w69 hg70 hb71 hz72
   clear hz72 hz68 hb66 hr59 hc51 hz50
   refine gv_nil <| gv_seq <| gv_region <| gv_pureN 2 [59, 60] [(59, (.string b_1)), (60, (.string c_2))] (by kernel_rfl) ?_
   refine bindE h0 ?_; clear h0; intro r73 hr74 h0
   have hg75 := (grown_trans hg61 hg65)
   have hB76 := bg hB49 hg75 nb
   have hB77 := bg hB49 hg61 nb
   have hlo78 : w0.heap.size ≤ b63 := lob hbe67 hB77.size
   have hB79 := bg hB76 hg70 (rowlo hlo78)
   refine gv_call0 (by kernel_rfl) rfl (by kernel_rfl) enters35 (textstr_Distance_ok fuel b_1 c_2 w69 (fun k => X0 k ∨ X0 k) (fun k hk => (hk).elim (fun h => (fun k (hk : X0 k) => ltl (hX0 k hk) hB79.size) k h) (fun h => (fun k (hk : X0 k) => ltl (hX0 k hk) hB79.size) k h)) ((hG1.below hB79 hX0).wide (fun k hk => (.inl hk))) ((hG2.below hB79 hX0).wide (fun k hk => (.inr hk))) r73 hr74) ?_
   rintro v82 w80 ⟨hg81, rfl⟩
   refine gv_pureN 3 [58, 62, 63] [(62, (.int .i64 r73.1)), (63, (.agg #[(.int .i64 r73.2.1), (.int .i64 r73.2.2)]))] (by kernel_rfl) ?_
   refine gv_new0 (fun b => .pointer (some ⟨b, 0, none⟩)) #[(.int .i64 0), (.int .i64 0)] 24 (by kernel_rfl) (by kernel_rfl) ?_
   intro b83 w84 hg85 hb86 hbe87 hz88
   refine gv_pureN 1 [9] [(9, (.int .i64 r73.1))] (by kernel_rfl) ?_
   refine gv_store0 24 0 (.agg #[(.int .i64 r73.2.1), (.int .i64 r73.2.2)]) #[(.int .i64 r73.2.1), (.int .i64 r73.2.2)] hb86 (by kernel_rfl) (by kernel_rfl) (by kernel_rfl) ?_
   intro w89 hg90 hb91 hz92
   refine gv_nil <| gv_seq <| gv_region <| gv_pureN 2 [65, 66] [(65, (.string a_0)), (66, (.string c_2))] (by kernel_rfl) ?_
   refine bindE h0 ?_; clear h0; intro r93 hr94 h0
   have hg95 := (grown_trans hg81 hg85)
   have hB96 := bg hB79 hg95 nb
   have hB97 := bg hB79 hg81 nb
   have hlo98 : w0.heap.size ≤ b83 := lob hbe87 hB97.size
   have hB99 := bg hB96 hg90 (rowlo hlo98)
   refine gv_call0 (by kernel_rfl) rfl (by kernel_rfl) enters35 (textstr_Distance_ok fuel a_0 c_2 w89 (fun k => X0 k ∨ X0 k) (fun k hk => (hk).elim (fun h => (fun k (hk : X0 k) => ltl (hX0 k hk) hB99.size) k h) (fun h => (fun k (hk : X0 k) => ltl (hX0 k hk) hB99.size) k h)) ((hG1.below hB99 hX0).wide (fun k hk => (.inl hk))) ((hG2.below hB99 hX0).wide (fun k hk => (.inr hk))) r93 hr94) ?_
   rintro v102 w100 ⟨hg101, rfl⟩
   refine gv_pureN 3 [64, 68, 69] [(68, (.int .i64 r93.1)), (69, (.agg #[(.int .i64 r93.2.1), (.int .i64 r93.2.2)]))] (by kernel_rfl) ?_
   refine gv_sub [0, 1, 7, 8, 9, 10, 68, 69] (σ' := [(0, (.string a_0)), (1, (.string b_1)), (7, (.int .i64 r58.1)), (8, (bp b63)), (9, (.int .i64 r73.1)), (10, (bp b83)), (68, (.int .i64 r93.1)), (69, (.agg #[(.int .i64 r93.2.1), (.int .i64 r93.2.2)]))]) (by kernel_rfl) ?_
   refine gv_new0 (fun b => .pointer (some ⟨b, 0, none⟩)) #[(.int .i64 0), (.int .i64 0)] 24 (by kernel_rfl) (by kernel_rfl) ?_
   intro b103 w104 hg105 hb106 hbe107 hz108
   refine gv_pureN 1 [11] [(11, (.int .i64 r93.1))] (by kernel_rfl) ?_
   refine gv_store0 24 0 (.agg #[(.int .i64 r93.2.1), (.int .i64 r93.2.2)]) #[(.int .i64 r93.2.1), (.int .i64 r93.2.2)] hb106 (by kernel_rfl) (by kernel_rfl) (by kernel_rfl) ?_
   intro w109 hg110 hb111 hz112
   refine gv_nil <| gv_seq <| gv_region <| gv_pureN 2 [71, 72] [(71, (.string b_1)), (72, (.string a_0))] (by kernel_rfl) ?_
   refine bindE h0 ?_; clear h0; intro r113 hr114 h0
   have hg115 := (grown_trans hg101 hg105)
   have hB116 := bg hB99 hg115 nb
   have hB117 := bg hB99 hg101 nb
   have hlo118 : w0.heap.size ≤ b103 := lob hbe107 hB117.size
   have hB119 := bg hB116 hg110 (rowlo hlo118)
   refine gv_call0 (by kernel_rfl) rfl (by kernel_rfl) enters35 (textstr_Distance_ok fuel b_1 a_0 w109 (fun k => X0 k ∨ X0 k) (fun k hk => (hk).elim (fun h => (fun k (hk : X0 k) => ltl (hX0 k hk) hB119.size) k h) (fun h => (fun k (hk : X0 k) => ltl (hX0 k hk) hB119.size) k h)) ((hG1.below hB119 hX0).wide (fun k hk => (.inl hk))) ((hG2.below hB119 hX0).wide (fun k hk => (.inr hk))) r113 hr114) ?_
   rintro v122 w120 ⟨hg121, rfl⟩
   refine gv_pureN 3 [70, 74, 75] [(74, (.int .i64 r113.1)), (75, (.agg #[(.int .i64 r113.2.1), (.int .i64 r113.2.2)]))] (by kernel_rfl) ?_
   refine gv_new0 (fun b => .pointer (some ⟨b, 0, none⟩)) #[(.int .i64 0), (.int .i64 0)] 24 (by kernel_rfl) (by kernel_rfl) ?_
   intro b123 w124 hg125 hb126 hbe127 hz128
   clear hz128 hB117 hB116 hg115 hr114 hz112 hz108 hb106 hB99 hB97 hB96 hg95 hr94 hz92 hz88 hb86 hB79 hB77 hB76 hg75 hr74 hg70 hbe67 hg65 hg61 hB49
   refine gv_pureN 1 [13] [(13, (.int .i64 r113.1))] (by kernel_rfl) ?_
   refine gv_store0 24 0 (.agg #[(.int .i64 r113.2.1), (.int .i64 r113.2.2)]) #[(.int .i64 r113.2.1), (.int .i64 r113.2.2)] hb126 (by kernel_rfl) (by kernel_rfl) (by kernel_rfl) ?_
   intro w129 hg130 hb131 hz132
   refine gv_nil <| gv_seq <| gv_region <| gv_pureN 1 [77] [(77, (.string a_0))] (by kernel_rfl) ?_
   refine bindE h0 ?_; clear h0; intro r133 hr134 h0
   have hg135 := (grown_trans hg121 hg125)
   have hB136 := bg hB119 hg135 nb
   have hB137 := bg hB119 hg121 nb
   have hlo138 : w0.heap.size ≤ b123 := lob hbe127 hB137.size
   have hB139 := bg hB136 hg130 (rowlo hlo138)
   refine gv_call0 (by kernel_rfl) rfl (by kernel_rfl) enters17 (textstr_Length_ok fuel a_0 w129 (fun k => X0 k ∨ X0 k) (fun k hk => (hk).elim (fun h => (fun k (hk : X0 k) => ltl (hX0 k hk) hB139.size) k h) (fun h => (fun k (hk : X0 k) => ltl (hX0 k hk) hB139.size) k h)) ((hG1.below hB139 hX0).wide (fun k hk => (.inl hk))) ((hG2.below hB139 hX0).wide (fun k hk => (.inr hk))) r133 hr134) ?_
   rintro v142 w140 ⟨hg141, rfl⟩
   refine gv_pureN 3 [76, 79, 80] [(79, (.int .i64 r133.1)), (80, (.agg #[(.int .i64 r133.2.1), (.int .i64 r133.2.2)]))] (by kernel_rfl) ?_
   refine gv_new0 (fun b => .pointer (some ⟨b, 0, none⟩)) #[(.int .i64 0), (.int .i64 0)] 24 (by kernel_rfl) (by kernel_rfl) ?_
   intro b143 w144 hg145 hb146 hbe147 hz148
   refine gv_pureN 1 [15] [(15, (.int .i64 r133.1))] (by kernel_rfl) ?_
   refine gv_sub [0, 1, 7, 8, 9, 10, 11, 12, 13, 14, 15, 16, 80] (σ' := [(0, (.string a_0)), (1, (.string b_1)), (7, (.int .i64 r58.1)), (8, (bp b63)), (9, (.int .i64 r73.1)), (10, (bp b83)), (11, (.int .i64 r93.1)), (12, (bp b103)), (13, (.int .i64 r113.1)), (14, (bp b123)), (15, (.int .i64 r133.1)), (16, (bp b143)), (80, (.agg #[(.int .i64 r133.2.1), (.int .i64 r133.2.2)]))]) (by kernel_rfl) ?_
   refine gv_store0 24 0 (.agg #[(.int .i64 r133.2.1), (.int .i64 r133.2.2)]) #[(.int .i64 r133.2.1), (.int .i64 r133.2.2)] hb146 (by kernel_rfl) (by kernel_rfl) (by kernel_rfl) ?_
   intro w149 hg150 hb151 hz152
   refine gv_nil <| gv_seq <| gv_region <| gv_pureN 1 [82] [(82, (.string b_1))] (by kernel_rfl) ?_
   refine bindE h0 ?_; clear h0; intro r153 hr154 h0
   have hg155 := (grown_trans hg141 hg145)
   have hB156 := bg hB139 hg155 nb
   have hB157 := bg hB139 hg141 nb
   have hlo158 : w0.heap.size ≤ b143 := lob hbe147 hB157.size
   have hB159 := bg hB156 hg150 (rowlo hlo158)
   refine gv_call0 (by kernel_rfl) rfl (by kernel_rfl) enters17 (textstr_Length_ok fuel b_1 w149 (fun k => X0 k ∨ X0 k) (fun k hk => (hk).elim (fun h => (fun k (hk : X0 k) => ltl (hX0 k hk) hB159.size) k h) (fun h => (fun k (hk : X0 k) => ltl (hX0 k hk) hB159.size) k h)) ((hG1.below hB159 hX0).wide (fun k hk => (.inl hk))) ((hG2.below hB159 hX0).wide (fun k hk => (.inr hk))) r153 hr154) ?_
   rintro v162 w160 ⟨hg161, rfl⟩
   refine gv_pureN 3 [81, 84, 85] [(84, (.int .i64 r153.1)), (85, (.agg #[(.int .i64 r153.2.1), (.int .i64 r153.2.2)]))] (by kernel_rfl) ?_
   refine gv_new0 (fun b => .pointer (some ⟨b, 0, none⟩)) #[(.int .i64 0), (.int .i64 0)] 24 (by kernel_rfl) (by kernel_rfl) ?_
   intro b163 w164 hg165 hb166 hbe167 hz168
   refine gv_pureN 1 [17] [(17, (.int .i64 r153.1))] (by kernel_rfl) ?_
   refine gv_store0 24 0 (.agg #[(.int .i64 r153.2.1), (.int .i64 r153.2.2)]) #[(.int .i64 r153.2.1), (.int .i64 r153.2.2)] hb166 (by kernel_rfl) (by kernel_rfl) (by kernel_rfl) ?_
   intro w169 hg170 hb171 hz172
   refine gv_nil <| gv_seq <| gv_region <| bindE h0 ?_; clear h0; intro j173 h1 h0
   refine gv_cut_ops (J := fun a w174 => Below w0.heap.size w0 w174 ∧ w169.heap.size ≤ w174.heap.size ∧ a.defers = [] ∧ a.tmps.size = 159 ∧ Ok [(6, (.bool j173))] a.tmps) ?_ ?_
   ·skip
    refine gv_pureN 1 [86] [(86, (bp b63))] (by kernel_rfl) ?_
    have hg175 := (grown_trans hg81 hg85)
    have hk176 := hb71.grown hg81 nb
    have lt177 := ltl ((ltb hk176) _ rfl) ((lowb hbe87) _ rfl)
    have hg178 := (grown_trans hg101 hg105)
    have hk179 := hb91.grown hg101 nb
    have lt180 := ltl ((ltb hk179) _ rfl) ((lowb hbe107) _ rfl)
    have lt181 := ltt lt177 lt180
    have hk182 := hb111.grown hg121 nb
    have lt183 := ltl ((ltb hk182) _ rfl) ((lowb hbe127) _ rfl)
    have lt184 := ltt lt181 lt183
    have hk185 := hb131.grown hg141 nb
    have lt186 := ltl ((ltb hk185) _ rfl) ((lowb hbe147) _ rfl)
    have lt187 := ltt lt184 lt186
    have hg188 := (grown_trans hg161 hg165)
    have hk189 := hb151.grown hg161 nb
    have lt190 := ltl ((ltb hk189) _ rfl) ((lowb hbe167) _ rfl)
    have lt191 := ltt lt187 lt190
    have hk192 := (((((((((hb71.grown hg175 nb).grown hg90 (rowne (ng lt177))).grown hg178 nb).grown hg110 (rowne (ng lt181))).grown hg135 nb).grown hg130 (rowne (ng lt184))).grown hg155 nb).grown hg150 (rowne (ng lt187))).grown hg188 nb).grown hg170 (rowne (ng lt191))
    refine gv_load (t := 3) (A := ⟨b63, 0, none⟩) (.int .i64 r58.2.1) [] (fun e => by cases e) rfl rfl rfl (by kernel_rfl) (by kernel_rfl) (by kernel_rfl) (inw0 (hk192.cell 0 rfl)) rfl ?_
    refine gv_pureN 2 [88, 89] [(89, (.bool (r58.2.1 == 0)))] (by kernel_rfl) ?_
    refine gv_split (s := 89) (g := (r58.2.1 == 0)) (by kernel_rfl) (fun hc193 => ?_) (fun hc193 => ?_)
    ·skip
     replace h1 := ite_t hc193 h1
     refine gv_pureN 1 [90] [(90, (bp b83))] (by kernel_rfl) ?_
     have lt194 := ltt lt180 lt183
     have lt195 := ltt lt194 lt186
     have lt196 := ltt lt195 lt190
     have hk197 := (((((((hk179.grown hg105 nb).grown hg110 (rowne (ng lt180))).grown hg135 nb).grown hg130 (rowne (ng lt194))).grown hg155 nb).grown hg150 (rowne (ng lt195))).grown hg188 nb).grown hg170 (rowne (ng lt196))
     refine gv_load (t := 3) (A := ⟨b83, 0, none⟩) (.int .i64 r73.2.1) [] (fun e => by cases e) rfl rfl rfl (by kernel_rfl) (by kernel_rfl) (by kernel_rfl) (inw0 (hk197.cell 0 rfl)) rfl ?_
     refine gv_pureN 3 [92, 93, 94] [(94, (.bool (r73.2.1 == 0)))] (by kernel_rfl) ?_
     refine gv_split (s := 94) (g := (r73.2.1 == 0)) (by kernel_rfl) (fun hc198 => ?_) (fun hc198 => ?_)
     ·skip
      replace h1 := ite_t hc198 h1
      refine gv_pureN 1 [95] [(95, (bp b103))] (by kernel_rfl) ?_
      refine gv_sub [0, 1, 7, 9, 11, 13, 14, 15, 16, 17, 18, 94, 95] (σ' := [(0, (.string a_0)), (1, (.string b_1)), (7, (.int .i64 r58.1)), (9, (.int .i64 r73.1)), (11, (.int .i64 r93.1)), (13, (.int .i64 r113.1)), (14, (bp b123)), (15, (.int .i64 r133.1)), (16, (bp b143)), (17, (.int .i64 r153.1)), (18, (bp b163)), (94, (.bool true)), (95, (bp b103))]) (by kernel_rfl) ?_
      have lt199 := ltt lt183 lt186
      have lt200 := ltt lt199 lt190
      have hk201 := (((((hk182.grown hg125 nb).grown hg130 (rowne (ng lt183))).grown hg155 nb).grown hg150 (rowne (ng lt199))).grown hg188 nb).grown hg170 (rowne (ng lt200))
      refine gv_load (t := 3) (A := ⟨b103, 0, none⟩) (.int .i64 r93.2.1) [] (fun e => by cases e) rfl rfl rfl (by kernel_rfl) (by kernel_rfl) (by kernel_rfl) (inw0 (hk201.cell 0 rfl)) rfl ?_
      refine gv_pureN 3 [97, 98, 99] [(99, (.bool (r93.2.1 == 0)))] (by kernel_rfl) ?_
      refine gv_split (s := 99) (g := (r93.2.1 == 0)) (by kernel_rfl) (fun hc202 => ?_) (fun hc202 => ?_)
      ·skip
       replace h1 := ite_t hc202 h1
       refine gv_pureN 1 [100] [(100, (bp b123))] (by kernel_rfl) ?_
       have lt203 := ltt lt186 lt190
       have hk204 := (((hk185.grown hg145 nb).grown hg150 (rowne (ng lt186))).grown hg188 nb).grown hg170 (rowne (ng lt203))
       refine gv_load (t := 3) (A := ⟨b123, 0, none⟩) (.int .i64 r113.2.1) [] (fun e => by cases e) rfl rfl rfl (by kernel_rfl) (by kernel_rfl) (by kernel_rfl) (inw0 (hk204.cell 0 rfl)) rfl ?_
       refine gv_pureN 3 [102, 103, 104] [(104, (.bool (r113.2.1 == 0)))] (by kernel_rfl) ?_
       refine gv_split (s := 104) (g := (r113.2.1 == 0)) (by kernel_rfl) (fun hc205 => ?_) (fun hc205 => ?_)
       ·skip
        replace h1 := ite_t hc205 h1
        refine gv_pureN 1 [105] [(105, (bp b143))] (by kernel_rfl) ?_
        have hk206 := (hk189.grown hg165 nb).grown hg170 (rowne (ng lt190))
        refine gv_load (t := 3) (A := ⟨b143, 0, none⟩) (.int .i64 r133.2.1) [] (fun e => by cases e) rfl rfl rfl (by kernel_rfl) (by kernel_rfl) (by kernel_rfl) (inw0 (hk206.cell 0 rfl)) rfl ?_
        refine gv_pureN 3 [107, 108, 109] [(109, (.bool (r133.2.1 == 0)))] (by kernel_rfl) ?_
        refine gv_split (s := 109) (g := (r133.2.1 == 0)) (by kernel_rfl) (fun hc207 => ?_) (fun hc207 => ?_)
        ·skip
         replace h1 := ite_t hc207 h1
         refine gv_pureN 1 [110] [(110, (bp b163))] (by kernel_rfl) ?_
         refine gv_load (t := 3) (A := ⟨b163, 0, none⟩) (.int .i64 r153.2.1) [] (fun e => by cases e) rfl rfl rfl (by kernel_rfl) (by kernel_rfl) (by kernel_rfl) (inw0 (hb171.cell 0 rfl)) rfl ?_
         refine gv_pureN 3 [112, 113, 114] [(114, (.bool (r153.2.1 == 0)))] (by kernel_rfl) ?_
         refine gv_split (s := 114) (g := (r153.2.1 == 0)) (by kernel_rfl) (fun hc208 => ?_) (fun hc208 => ?_)
         ·skip
          replace h1 := ite_t hc208 h1
          refine gv_pureN 5 [115, 116, 117, 118, 119] [(119, (.bool (r58.1 == r113.1)))] (by kernel_rfl) ?_
          refine gv_split (s := 119) (g := (r58.1 == r113.1)) (by kernel_rfl) (fun hc209 => ?_) (fun hc209 => ?_)
          ·skip
           replace h1 := ite_t hc209 h1
           refine gv_pureN 7 [120, 121, 122, 123, 124, 125, 126] [(126, (.bool (decide (r93.1 ≤ (IntKind.i64.wrap (r58.1 + r73.1))))))] (by kernel_rfl) ?_
           refine gv_split (s := 126) (g := (decide (r93.1 ≤ (IntKind.i64.wrap (r58.1 + r73.1))))) (by kernel_rfl) (fun hc210 => ?_) (fun hc210 => ?_)
           ·skip
            replace h1 := ite_t hc210 h1
            refine gv_pureN 7 [127, 128, 129, 130, 131, 132, 133] [(133, (.bool (decide (r58.1 ≥ (IntKind.i64.wrap (r133.1 - r153.1))))))] (by kernel_rfl) ?_
            refine gv_sub [0, 1, 7, 15, 17, 133] (σ' := [(0, (.string a_0)), (1, (.string b_1)), (7, (.int .i64 r58.1)), (15, (.int .i64 r133.1)), (17, (.int .i64 r153.1)), (133, (.bool (decide (r58.1 ≥ (IntKind.i64.wrap (r133.1 - r153.1))))))]) (by kernel_rfl) ?_
            refine gv_split (s := 133) (g := (decide (r58.1 ≥ (IntKind.i64.wrap (r133.1 - r153.1))))) (by kernel_rfl) (fun hc211 => ?_) (fun hc211 => ?_)
            ·skip
             replace h1 := ite_t hc211 h1
             refine gv_pureN 7 [134, 135, 136, 137, 138, 139, 140] [(140, (.bool (decide (r58.1 ≥ (IntKind.i64.wrap (r153.1 - r133.1))))))] (by kernel_rfl) ?_
             refine gv_split (s := 140) (g := (decide (r58.1 ≥ (IntKind.i64.wrap (r153.1 - r133.1))))) (by kernel_rfl) (fun hc212 => ?_) (fun hc212 => ?_)
             ·skip
              replace h1 := ite_t hc212 h1
              refine gv_pureN 4 [141, 142, 143, 144] [(144, (.bool (decide (r58.1 > r133.1))))] (by kernel_rfl) ?_
              refine gv_split (s := 144) (g := (decide (r58.1 > r133.1))) (by kernel_rfl) (fun hc213 => ?_) (fun hc213 => ?_)
              ·skip
               replace h1 := ite_t hc213 h1
               refine gv_pureN 7 [145, 146, 147, 148, 149, 150, 151] [(151, (.bool ((decide (r58.1 > r153.1)) == false)))] (by kernel_rfl) ?_
               refine gv_split (s := 151) (g := ((decide (r58.1 > r153.1)) == false)) (by kernel_rfl) (fun hc214 => ?_) (fun hc214 => ?_)
               ·skip
                replace h1 := ite_t hc214 h1
                refine gv_pureN 8 [6, 152, 153, 154, 155, 156, 157, 158] [(6, (.bool ((r58.1 == 0) == (a_0.toList == b_1.toList))))] (by kernel_rfl) ?_
                refine bindE h1 ?_; clear h1; intro n215 hn216 h1
                refine gv_name (s := 6) (v := (.bool ((r58.1 == 0) == (a_0.toList == b_1.toList)))) (v' := (.bool n215)) (by kernel_rfl) (congrArg (Value.bool) (sj hn216)) ?_
                refine gv_nil ?_
                have e := sj h1; subst e
                refine gv_goal fun a hd hs hok => ?_
                have hB217 := bg hB159 hg188 nb
                have hB218 := bg hB159 hg161 nb
                have hlo219 : w0.heap.size ≤ b163 := lob hbe167 hB218.size
                have hB220 := bg hB217 hg170 (rowlo hlo219)
                exact ⟨hB220, (Nat.le_refl _), hd, hs, ok_pick [6] hok (by kernel_rfl)⟩
               ·skip
                replace h1 := ite_f hc214 h1
                refine gv_pureN 8 [6, 152, 153, 154, 155, 156, 157, 158] [(6, (.bool false))] (by kernel_rfl) ?_
                refine gv_nil ?_
                have e := sj h1; subst e
                refine gv_goal fun a hd hs hok => ?_
                have hB221 := bg hB159 hg188 nb
                have hB222 := bg hB159 hg161 nb
                have hlo223 : w0.heap.size ≤ b163 := lob hbe167 hB222.size
                have hB224 := bg hB221 hg170 (rowlo hlo223)
                exact ⟨hB224, (Nat.le_refl _), hd, hs, ok_pick [6] hok (by kernel_rfl)⟩
              ·skip
               replace h1 := ite_f hc213 h1
               refine gv_pureN 7 [145, 146, 147, 148, 149, 150, 151] [(151, (.bool (false == false)))] (by kernel_rfl) ?_
               refine gv_split (s := 151) (g := (false == false)) (by kernel_rfl) (fun hc225 => ?_) (fun hc225 => ?_)
               ·skip
                replace h1 := ite_t hc225 h1
                refine gv_pureN 8 [6, 152, 153, 154, 155, 156, 157, 158] [(6, (.bool ((r58.1 == 0) == (a_0.toList == b_1.toList))))] (by kernel_rfl) ?_
                refine bindE h1 ?_; clear h1; intro n226 hn227 h1
                refine gv_name (s := 6) (v := (.bool ((r58.1 == 0) == (a_0.toList == b_1.toList)))) (v' := (.bool n226)) (by kernel_rfl) (congrArg (Value.bool) (sj hn227)) ?_
                refine gv_nil ?_
                have e := sj h1; subst e
                refine gv_goal fun a hd hs hok => ?_
                have hB228 := bg hB159 hg188 nb
                have hB229 := bg hB159 hg161 nb
                have hlo230 : w0.heap.size ≤ b163 := lob hbe167 hB229.size
                have hB231 := bg hB228 hg170 (rowlo hlo230)
                exact ⟨hB231, (Nat.le_refl _), hd, hs, ok_pick [6] hok (by kernel_rfl)⟩
               ·skip
                replace h1 := ite_f hc225 h1
                refine gv_pureN 8 [6, 152, 153, 154, 155, 156, 157, 158] [(6, (.bool false))] (by kernel_rfl) ?_
                refine gv_nil ?_
                have e := sj h1; subst e
                refine gv_goal fun a hd hs hok => ?_
                have hB232 := bg hB159 hg188 nb
                have hB233 := bg hB159 hg161 nb
                have hlo234 : w0.heap.size ≤ b163 := lob hbe167 hB233.size
                have hB235 := bg hB232 hg170 (rowlo hlo234)
                exact ⟨hB235, (Nat.le_refl _), hd, hs, ok_pick [6] hok (by kernel_rfl)⟩
             ·skip
              replace h1 := ite_f hc212 h1
              refine gv_pureN 19 [6, 141, 142, 143, 144, 145, 146, 147, 148, 149, 150, 151, 152, 153, 154, 155, 156, 157, 158] [(6, (.bool false))] (by kernel_rfl) ?_
              refine gv_nil ?_
              have e := sj h1; subst e
              refine gv_goal fun a hd hs hok => ?_
              have hB236 := bg hB159 hg188 nb
              have hB237 := bg hB159 hg161 nb
              have hlo238 : w0.heap.size ≤ b163 := lob hbe167 hB237.size
              have hB239 := bg hB236 hg170 (rowlo hlo238)
              exact ⟨hB239, (Nat.le_refl _), hd, hs, ok_pick [6] hok (by kernel_rfl)⟩
            ·skip
             replace h1 := ite_f hc211 h1
             refine gv_pureN 26 [6, 134, 135, 136, 137, 138, 139, 140, 141, 142, 143, 144, 145, 146, 147, 148, 149, 150, 151, 152, 153, 154, 155, 156, 157, 158] [(6, (.bool false))] (by kernel_rfl) ?_
             refine gv_nil ?_
             have e := sj h1; subst e
             refine gv_goal fun a hd hs hok => ?_
             have hB240 := bg hB159 hg188 nb
             have hB241 := bg hB159 hg161 nb
             have hlo242 : w0.heap.size ≤ b163 := lob hbe167 hB241.size
             have hB243 := bg hB240 hg170 (rowlo hlo242)
             exact ⟨hB243, (Nat.le_refl _), hd, hs, ok_pick [6] hok (by kernel_rfl)⟩
           ·skip
            replace h1 := ite_f hc210 h1
            refine gv_pureN 33 [6, 127, 128, 129, 130, 131, 132, 133, 134, 135, 136, 137, 138, 139, 140, 141, 142, 143, 144, 145, 146, 147, 148, 149, 150, 151, 152, 153, 154, 155, 156, 157, 158] [(6, (.bool false))] (by kernel_rfl) ?_
            refine gv_sub [6] (σ' := [(6, (.bool false))]) (by kernel_rfl) ?_
            refine gv_nil ?_
            have e := sj h1; subst e
            refine gv_goal fun a hd hs hok => ?_
            have hB244 := bg hB159 hg188 nb
            have hB245 := bg hB159 hg161 nb
            have hlo246 : w0.heap.size ≤ b163 := lob hbe167 hB245.size
            have hB247 := bg hB244 hg170 (rowlo hlo246)
            exact ⟨hB247, (Nat.le_refl _), hd, hs, ok_pick [6] hok (by kernel_rfl)⟩
          ·skip
           replace h1 := ite_f hc209 h1
           refine gv_pureN 40 [6, 120, 121, 122, 123, 124, 125, 126, 127, 128, 129, 130, 131, 132, 133, 134, 135, 136, 137, 138, 139, 140, 141, 142, 143, 144, 145, 146, 147, 148, 149, 150, 151, 152, 153, 154, 155, 156, 157, 158] [(6, (.bool false))] (by kernel_rfl) ?_
           refine gv_nil ?_
           have e := sj h1; subst e
           refine gv_goal fun a hd hs hok => ?_
           have hB248 := bg hB159 hg188 nb
           have hB249 := bg hB159 hg161 nb
           have hlo250 : w0.heap.size ≤ b163 := lob hbe167 hB249.size
           have hB251 := bg hB248 hg170 (rowlo hlo250)
           exact ⟨hB251, (Nat.le_refl _), hd, hs, ok_pick [6] hok (by kernel_rfl)⟩
         ·skip
          replace h1 := ite_f hc208 h1
          refine gv_pureN 45 [6, 115, 116, 117, 118, 119, 120, 121, 122, 123, 124, 125, 126, 127, 128, 129, 130, 131, 132, 133, 134, 135, 136, 137, 138, 139, 140, 141, 142, 143, 144, 145, 146, 147, 148, 149, 150, 151, 152, 153, 154, 155, 156, 157, 158] [(6, (.bool false))] (by kernel_rfl) ?_
          refine gv_nil ?_
          have e := sj h1; subst e
          refine gv_goal fun a hd hs hok => ?_
          have hB252 := bg hB159 hg188 nb
          have hB253 := bg hB159 hg161 nb
          have hlo254 : w0.heap.size ≤ b163 := lob hbe167 hB253.size
          have hB255 := bg hB252 hg170 (rowlo hlo254)
          exact ⟨hB255, (Nat.le_refl _), hd, hs, ok_pick [6] hok (by kernel_rfl)⟩
        ·skip
         replace h1 := ite_f hc207 h1
         refine gv_pureN 50 [6, 110, 111, 112, 113, 114, 115, 116, 117, 118, 119, 120, 121, 122, 123, 124, 125, 126, 127, 128, 129, 130, 131, 132, 133, 134, 135, 136, 137, 138, 139, 140, 141, 142, 143, 144, 145, 146, 147, 148, 149, 150, 151, 152, 153, 154, 155, 156, 157, 158] [(6, (.bool false))] (by kernel_rfl) ?_
         refine gv_nil ?_
         have e := sj h1; subst e
         refine gv_goal fun a hd hs hok => ?_
         have hB256 := bg hB159 hg188 nb
         have hB257 := bg hB159 hg161 nb
         have hlo258 : w0.heap.size ≤ b163 := lob hbe167 hB257.size
         have hB259 := bg hB256 hg170 (rowlo hlo258)
         exact ⟨hB259, (Nat.le_refl _), hd, hs, ok_pick [6] hok (by kernel_rfl)⟩
       ·skip
        replace h1 := ite_f hc205 h1
        refine gv_pureN 55 [6, 105, 106, 107, 108, 109, 110, 111, 112, 113, 114, 115, 116, 117, 118, 119, 120, 121, 122, 123, 124, 125, 126, 127, 128, 129, 130, 131, 132, 133, 134, 135, 136, 137, 138, 139, 140, 141, 142, 143, 144, 145, 146, 147, 148, 149, 150, 151, 152, 153, 154, 155, 156, 157, 158] [(6, (.bool false))] (by kernel_rfl) ?_
        refine gv_nil ?_
        have e := sj h1; subst e
        refine gv_goal fun a hd hs hok => ?_
        have hB260 := bg hB159 hg188 nb
        have hB261 := bg hB159 hg161 nb
        have hlo262 : w0.heap.size ≤ b163 := lob hbe167 hB261.size
        have hB263 := bg hB260 hg170 (rowlo hlo262)
        exact ⟨hB263, (Nat.le_refl _), hd, hs, ok_pick [6] hok (by kernel_rfl)⟩
      ·skip
       replace h1 := ite_f hc202 h1
       refine gv_pureN 60 [6, 100, 101, 102, 103, 104, 105, 106, 107, 108, 109, 110, 111, 112, 113, 114, 115, 116, 117, 118, 119, 120, 121, 122, 123, 124, 125, 126, 127, 128, 129, 130, 131, 132, 133, 134, 135, 136, 137, 138, 139, 140, 141, 142, 143, 144, 145, 146, 147, 148, 149, 150, 151, 152, 153, 154, 155, 156, 157, 158] [(6, (.bool false))] (by kernel_rfl) ?_
       refine gv_nil ?_
       have e := sj h1; subst e
       refine gv_goal fun a hd hs hok => ?_
       have hB264 := bg hB159 hg188 nb
       have hB265 := bg hB159 hg161 nb
       have hlo266 : w0.heap.size ≤ b163 := lob hbe167 hB265.size
       have hB267 := bg hB264 hg170 (rowlo hlo266)
       exact ⟨hB267, (Nat.le_refl _), hd, hs, ok_pick [6] hok (by kernel_rfl)⟩
     ·skip
      replace h1 := ite_f hc198 h1
      refine gv_pureN 65 [6, 95, 96, 97, 98, 99, 100, 101, 102, 103, 104, 105, 106, 107, 108, 109, 110, 111, 112, 113, 114, 115, 116, 117, 118, 119, 120, 121, 122, 123, 124, 125, 126, 127, 128, 129, 130, 131, 132, 133, 134, 135, 136, 137, 138, 139, 140, 141, 142, 143, 144, 145, 146, 147, 148, 149, 150, 151, 152, 153, 154, 155, 156, 157, 158] [(6, (.bool false))] (by kernel_rfl) ?_
      refine gv_sub [6] (σ' := [(6, (.bool false))]) (by kernel_rfl) ?_
      refine gv_nil ?_
      have e := sj h1; subst e
      refine gv_goal fun a hd hs hok => ?_
      have hB268 := bg hB159 hg188 nb
      have hB269 := bg hB159 hg161 nb
      have hlo270 : w0.heap.size ≤ b163 := lob hbe167 hB269.size
      have hB271 := bg hB268 hg170 (rowlo hlo270)
      exact ⟨hB271, (Nat.le_refl _), hd, hs, ok_pick [6] hok (by kernel_rfl)⟩
    ·skip
     replace h1 := ite_f hc193 h1
     refine gv_pureN 70 [6, 90, 91, 92, 93, 94, 95, 96, 97, 98, 99, 100, 101, 102, 103, 104, 105, 106, 107, 108, 109, 110, 111, 112, 113, 114, 115, 116, 117, 118, 119, 120, 121, 122, 123, 124, 125, 126, 127, 128, 129, 130, 131, 132, 133, 134, 135, 136, 137, 138, 139, 140, 141, 142, 143, 144, 145, 146, 147, 148, 149, 150, 151, 152, 153, 154, 155, 156, 157, 158] [(6, (.bool false))] (by kernel_rfl) ?_
     refine gv_nil ?_
     have e := sj h1; subst e
     refine gv_goal fun a hd hs hok => ?_
     have hB272 := bg hB159 hg188 nb
     have hB273 := bg hB159 hg161 nb
     have hlo274 : w0.heap.size ≤ b163 := lob hbe167 hB273.size
     have hB275 := bg hB272 hg170 (rowlo hlo274)
     exact ⟨hB275, (Nat.le_refl _), hd, hs, ok_pick [6] hok (by kernel_rfl)⟩
   ·rintro a w174 ⟨hB276, hz277, hd, hs, hok⟩
    refine gv_in ?_ hd hs hok
    clear hd hs hok
    clear hz277 hz172 hb171 hg170 hz168 hbe167 hb166 hg165 hg161 hB159 hlo158 hB157 hB156 hg155 hr154 hz152 hb151 hg150 hz148 hbe147 hb146 hg145 hg141 hB139 hlo138 hB137 hB136 hg135 hr134 hz132 hb131 hg130 hbe127 hb126 hg125 hg121 hB119 hlo118 hb111 hg110 hbe107 hg105 hg101 hlo98 hb91 hg90 hbe87 hg85 hg81 hlo78 hb71
    refine gv_cret ?_
    have e := sj h0; subst e
    refine gv_ret (gv_done [(.bool j173)] rfl ⟨(by kernel_rfl), trivial⟩ ?_)
    exact ⟨grown_of_below hB276, rfl⟩

end Go.Proofs.YtkmcegicngjhbaaDoor
