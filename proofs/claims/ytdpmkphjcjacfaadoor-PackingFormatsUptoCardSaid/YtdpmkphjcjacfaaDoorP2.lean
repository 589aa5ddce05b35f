import Derived.Test.YtdpmkphjcjacfaaDoorP1
set_option linter.all false
set_option maxHeartbeats 4000000
set_option maxRecDepth 100000
/- Own work, printed by a program of mine: the walk of each function: a call returns what the plain function says. -/
namespace Go.Proofs.YtdpmkphjcjacfaaDoor
open Go.Gv Go.Gv.D Go.RowKit
theorem ref4_FieldsRead_ok (fuel : Nat) (s_0 : ByteArray) (w0 : World)  (r0 : ((List (Int × Int × Bool)) × (Int × Int))) (h0 : ref4_FieldsRead fuel s_0 = some r0) :
    Calls Tryd.prog 12 ([(.string s_0)] : List Value).toArray w0 (Ret fun v w' => w0.grownBy w' none ∧ ∃ (a0_0r : Option Addr) (c0_0r : Nat), v = tup [(.slice a0_0r (List.length r0.1) c0_0r), (.agg #[(.int .i64 r0.2.1), (.int .i64 r0.2.2)])] ∧ Gv.Own (prE (iE .u8) (prE (iE .i64) tE)) 31 w' (fun _ => False) a0_0r c0_0r r0.1 ∧ (∀ g, blk a0_0r = some g → w0.heap.size ≤ g)) := by
 have hB0 : Below w0.heap.size w0 w0 := Below.refl _ _
 unfold ref4_FieldsRead at h0
 refine calls_run Tryd.func12 rfl Tryd.ntmps12 (by kernel_rfl) ?_
 refine gv_sub [0] (σ' := [(0, (.string s_0))]) (by kernel_rfl) ?_
 refine gv_seq <| gv_region <| gv_pureN 1 [2] [] (by kernel_rfl) ?_
 refine gv_new0 (fun b => .pointer (some ⟨b, 0, none⟩)) #[(.int .i64 0), (.int .i64 0)] 26 (by kernel_rfl) (by kernel_rfl) ?_
 intro b1 w2 hg3 hb4 hbe5 hz6
 refine gv_nil <| gv_seq <| gv_seq <| gv_region <| gv_pureN 3 [14, 15, 16] [(16, (.bool (decide (((ByteArray.size s_0 : Nat) : Int) > 60))))] (by kernel_rfl) ?_
 refine gv_nil <| gv_cond (b := (decide (((ByteArray.size s_0 : Nat) : Int) > 60))) (by kernel_rfl) (fun hc7 => ?_) (fun hc7 => ?_)
 ·replace h0 := ite_t hc7 h0
  refine gv_seq <| gv_region <| bindE h0 ?_; clear h0; intro r8 hr9 h0
  refine gv_call0 (by kernel_rfl) rfl (by kernel_rfl) enters19 (ref4_At_ok fuel 3 (-1) w2  r8 hr9) ?_
  rintro v12 w10 ⟨hg11, rfl⟩
  refine gv_pureN 1 [2] [(2, (.slice none (List.length ([] : List (Int × Int × Bool))) 0))] (by kernel_rfl) ?_
  have hk17 := hb4.grown hg11 nb
  refine gv_store0 26 0 (.agg #[(.int .i64 r8.1), (.int .i64 r8.2)]) #[(.int .i64 r8.1), (.int .i64 r8.2)] hk17 (by kernel_rfl) (by kernel_rfl) (by kernel_rfl) ?_
  intro w13 hg14 hb15 hz16
  refine gv_nil <| gv_cret ?_
  have e := sj h0; subst e
  refine gv_ret (gv_done [(.slice none (List.length ([] : List (Int × Int × Bool))) 0), (.agg #[(.int .i64 r8.1), (.int .i64 r8.2)])] rfl ⟨(by kernel_rfl), ⟨⟨b1, 0, none⟩, (by kernel_rfl), run_loadVar_row w13 b1 _ 26 _ _ _ hb15 Tryd.underlying26 rfl (by kernel_rfl)⟩, trivial⟩ ?_)
  have hg18 := (grown_trans hg3 hg11)
  have hB19 := bg hB0 hg18 nb
  have hlo20 : w0.heap.size ≤ b1 := lob hbe5 hB0.size
  have hB21 := bg hB19 hg14 (rowlo hlo20)
  exact ⟨grown_of_below hB21, none, 0, rfl, (Gv.Own.nil (prE (iE .u8) (prE (iE .i64) tE)) 31 w13 (fun _ => False)), (fun _ h => by cases h)⟩
 ·replace h0 := ite_f hc7 h0
  refine gv_skip <| gv_seq <| gv_region <| gv_pureN 1 [4] [(4, (.slice none (List.length ([] : List Int)) 0))] (by kernel_rfl) ?_
  refine gv_nil <| gv_seq <| gv_seq <| gv_region <| gv_pureN 1 [5] [(5, (.int .i64 0))] (by kernel_rfl) ?_
  refine gv_nil <| bindE h0 ?_; clear h0; intro j22 h1 h0
  refine gv_cut_code (J := fun a w23 => ∃ (a4_0j : Option Addr) (c4_0j : Nat), Below w0.heap.size w0 w23 ∧ w2.heap.size ≤ w23.heap.size ∧ Gv.Own (iE .i64) 3 w23 (fun _ => False) a4_0j c4_0j j22 ∧ (∀ g, blk a4_0j = some g → w0.heap.size ≤ g) ∧ (∀ g, blk a4_0j = some g → ¬ (· = b1) g) ∧ ¬ (fun k => blk a4_0j = some k) b1 ∧ Box w23 b1 26 #[(.int .i64 0), (.int .i64 0)] ∧ a.defers = [] ∧ a.tmps.size = 172 ∧ Ok [(3, (bp b1)), (4, (.slice a4_0j (List.length j22) c4_0j))] a.tmps) ?_ ?_
  ·skip
   refine gv_block <| gv_loop (A := fun (s24 : ((List Int) × Int)) a w25 => ∃ (a4_0j : Option Addr) (c4_0j : Nat), Below w0.heap.size w0 w25 ∧ w2.heap.size ≤ w25.heap.size ∧ Gv.Own (iE .i64) 3 w25 (fun _ => False) a4_0j c4_0j s24.1 ∧ (∀ g, blk a4_0j = some g → w0.heap.size ≤ g) ∧ (∀ g, blk a4_0j = some g → ¬ (· = b1) g) ∧ ¬ (fun k => blk a4_0j = some k) b1 ∧ Box w25 b1 26 #[(.int .i64 0), (.int .i64 0)] ∧ a.defers = [] ∧ a.tmps.size = 172 ∧ Ok [(0, (.string s_0)), (3, (bp b1)), (4, (.slice a4_0j (List.length s24.1) c4_0j)), (5, (.int .i64 s24.2))] a.tmps) h1 ?_ ?_
   ·intro a hd hs hok
    have hB26 := bg hB0 hg3 nb
    exact ⟨none, 0, hB26, (Nat.le_refl _), (Gv.Own.nil (iE .i64) 3 w2 (fun _ => False)), (fun _ h => by cases h), (fun _ h => by cases h), (fun h => by cases h), hb4, hd, hs, ok_pick [0, 3, 4, 5] hok (by kernel_rfl)⟩
   ·rintro s24 r2 h2 hR2 a w25 ⟨a29, c30, hB27, hz28, ho31, hl32, ap33, ap34, hb35, hd, hs, hok⟩
    refine gv_in ?_ hd hs hok
    clear hd hs hok
    clear hc7 hz6 hb4 hg3
    refine gv_seq <| gv_seq <| gv_region <| gv_pureN 4 [18, 19, 20, 21] [(21, (.bool (decide (s24.2 < ((ByteArray.size s_0 : Nat) : Int)))))] (by kernel_rfl) ?_
    refine gv_nil <| gv_cond (b := (decide (s24.2 < ((ByteArray.size s_0 : Nat) : Int)))) (by kernel_rfl) (fun hc36 => ?_) (fun hc36 => ?_)
    ·replace h2 := ite_t hc36 h2
     refine gv_skip <| gv_seq <| gv_block <| gv_region <| gv_pureN 3 [24, 25, 26] [(24, (.slice a29 (List.length s24.1) c30)), (25, (.string s_0)), (26, (.int .i64 s24.2))] (by kernel_rfl) ?_
     refine bindE h2 ?_; clear h2; intro x37 hx38 h2
     refine gv_sindex (t := 9) (s := s_0) (kk := .i64) (i := s24.2) x37 [] (fun e => by cases e) rfl rfl rfl (by kernel_rfl) (by kernel_rfl) Tryd.underlying9 hx38 rfl ?_
     refine gv_pureN 1 [28] [(28, (.int .i64 (IntKind.i64.wrap (x37))))] (by kernel_rfl) ?_
     refine gv_new0 (fun b => .slice (some ⟨b, 0, none⟩) 1 1) #[(.int .i64 (IntKind.i64.wrap (x37)))] 3 (by kernel_rfl) (by kernel_rfl) ?_
     intro b39 w40 hg41 hb42 hbe43 hz44
     have ho45 : Gv.Own (iE .i64) 3 w40 (fun _ => False) (some ⟨b39, 0, none⟩) 1 ([(IntKind.i64.wrap (x37))] : List Int) := Box.ownE hb42 ⟨[(.int .i64 (IntKind.i64.wrap (x37)))], [], rfl, rfl, rfl⟩ (show 1 ≤ maxLen by decide) (fun h => h)
     have hl46 : ∀ g, blk (some ⟨b39, 0, none⟩) = some g → w0.heap.size ≤ g := loo hbe43 hB27.size
     refine bindE h2 ?_; clear h2; intro l50 hx51 h2
     have hk58 := ho31.grown hg41 (fun _ h => h.elim) nb
     refine gv_append (iE .i64) (t := 65) (ty := 65) (e := 3) (a := a29) (ax := (some ⟨b39, 0, none⟩)) (cap := c30) (cx := 1) (xs := s24.1) (ys := ([(IntKind.i64.wrap (x37))] : List Int)) l50 (X := (fun _ => False)) (Y := (fun k => blk (some ⟨b39, 0, none⟩) = some k)) (by decide) rfl rfl (by kernel_rfl) (by kernel_rfl) Tryd.underlying65 info3 hk58 (ho45.rd (Y := fun k => blk (some ⟨b39, 0, none⟩) = some k) (fun _ h => h.elim) (fun g e => e)) hx51 (.inr fun _ _ _ _ _ h => h) (fun _ h => h.elim) ?_
     intro a52 c53 w54 hg55 ho56 hk57
     refine ⟨(fun e => by cases e), ?_⟩
     have hB60 := bg hB27 hg41 nb
     have hl59 : ∀ g, blk a52 = some g → w0.heap.size ≤ g := blk_step hk57 hl32 hB60.size
     have hk62 := hb35.grown hg41 nb
     have ap61 : ∀ g, blk a52 = some g → ¬ (· = b1) g := blk_neX hk57 ap33 (ltb hk62)
     have ap63 : ¬ (fun k => blk a52 = some k) b1 := fun h => blk_rev hk57 (fun h => (ap34) h) (hk62.lt) h
     have ap65 : ∀ g, blk a29 = some g → ¬ (fun k => blk (some ⟨b39, 0, none⟩) = some k) g := fun g e hx => nl ((lowo hbe43) _ hx) ((fun k (hk : blk a29 = some k) => ho31.lt k hk) g e)
     have ap64 : ∀ g, blk a52 = some g → ¬ (fun k => blk (some ⟨b39, 0, none⟩) = some k) g := blk_neX hk57 ap65 (fun k (hk : blk (some ⟨b39, 0, none⟩) = some k) => ho45.lt k hk)
     have ap67 : ∀ g, blk (some ⟨b39, 0, none⟩) = some g → ¬ (fun k => blk a29 = some k) g := fun g e hx => nl ((lowo hbe43) g e) ((fun k (hk : blk a29 = some k) => ho31.lt k hk) _ hx)
     have ap66 : ∀ g, blk (some ⟨b39, 0, none⟩) = some g → ¬ (fun k => blk a52 = some k) g := fun g e h => blk_rev hk57 (fun h => ((ap67) g e) h) (ho45.lt g e) h
     refine gv_pureN 1 [4] [(4, (.slice a52 (List.length l50) c53))] (by kernel_rfl) ?_
     refine gv_nil <| gv_blk <| gv_region <| gv_pureN 3 [5, 22, 23] [(5, (.int .i64 (IntKind.i64.wrap (s24.2 + 1))))] (by kernel_rfl) ?_
     refine gv_nil ?_
     have e := sj h2; subst e
     refine gv_goal fun a hd hs hok => ?_
     have hB68 := bg hB60 hg55 hl32
     have hz69 := (nt (nt hz28 hg41.size) hg55.size)
     have hk70 := hk62.grown hg55 ap33
     exact ⟨(l50, (IntKind.i64.wrap (s24.2 + 1))), rfl, a52, c53, hB68, hz69, ho56, hl59, ap61, ap63, hk70, hd, hs, ok_pick [0, 3, 4, 5] hok (by kernel_rfl)⟩
    ·replace h2 := ite_f hc36 h2
     refine gv_cexit <| gv_exit rfl ?_
     have e := sj h2; subst e
     replace h1 := congrArg some (hR2 _ rfl)
     have e := sj h1; subst e
     refine gv_goal fun a hd hs hok => ?_
     have hz71 := hz28
     exact ⟨a29, c30, hB27, hz71, ho31, hl32, ap33, ap34, hb35, hd, hs, ok_pick [3, 4] hok (by kernel_rfl)⟩
  ·rintro a w23 ⟨a74, c75, hB72, hz73, ho76, hl77, ap78, ap79, hb80, hd, hs, hok⟩
   refine gv_in ?_ hd hs hok
   clear hd hs hok
   clear hz73 hc7 hz6 hb4 hg3
   refine gv_seq <| gv_region <| gv_pureN 1 [6] [(6, (.int .i64 0))] (by kernel_rfl) ?_
   refine gv_nil <| gv_seq <| gv_region <| bindE h0 ?_; clear h0; intro j81 h1 h0
   refine gv_cut_ops (J := fun a w82 => Below w0.heap.size w0 w82 ∧ w23.heap.size ≤ w82.heap.size ∧ Box w82 b1 26 #[(.int .i64 0), (.int .i64 0)] ∧ Gv.Own (iE .i64) 3 w82 (fun _ => False) a74 c75 j22 ∧ a.defers = [] ∧ a.tmps.size = 172 ∧ Ok [(3, (bp b1)), (4, (.slice a74 (List.length j22) c75)), (6, (.int .i64 0)), (7, (.bool j81))] a.tmps) ?_ ?_
   ·skip
    refine gv_pureN 5 [31, 32, 33, 34, 35] [(35, (.bool (decide (0 < ((List.length j22 : Nat) : Int)))))] (by kernel_rfl) ?_
    refine gv_split (s := 35) (g := (decide (0 < ((List.length j22 : Nat) : Int)))) (by kernel_rfl) (fun hc83 => ?_) (fun hc83 => ?_)
    ·skip
     replace h1 := ite_t hc83 h1
     refine gv_pureN 2 [36, 37] [(36, (.slice a74 (List.length j22) c75)), (37, (.int .i64 0))] (by kernel_rfl) ?_
     refine bindE h1 ?_; clear h1; intro x84 hx85 h1
     refine gv_idxaddr (t := 65) (e := 3) (a := a74) (len := List.length j22) (cap := c75) (kk := .i64) (i := 0) (sz := 1) [] (fun e => by cases e) rfl rfl rfl (by kernel_rfl) (by kernel_rfl) Tryd.underlying65 (by kernel_rfl) ((ho76.rd (Y := fun k => blk a74 = some k) (fun _ h => h.elim) (fun g e => e)).has hx85) (idx_spec hx85).1 (idx_spec hx85).2.1 rfl ?_
     refine gv_load (t := 3) (A := (elemAddr a74 ((0 : Int).toNat * 1))) (.int .i64 x84) [] (fun e => by cases e) rfl rfl rfl (by kernel_rfl) (by kernel_rfl) (by kernel_rfl) (inw0 ((ho76.rd (Y := fun k => blk a74 = some k) (fun _ h => h.elim) (fun g e => e)).cell hx85)) rfl ?_
     refine gv_pureN 3 [7, 40, 41] [(7, (.bool (x84 == 62)))] (by kernel_rfl) ?_
     refine gv_nil ?_
     have e := sj h1; subst e
     refine gv_goal fun a hd hs hok => ?_
     exact ⟨hB72, (Nat.le_refl _), hb80, ho76, hd, hs, ok_pick [3, 4, 6, 7] hok (by kernel_rfl)⟩
    ·skip
     replace h1 := ite_f hc83 h1
     refine gv_pureN 7 [7, 36, 37, 38, 39, 40, 41] [(7, (.bool false))] (by kernel_rfl) ?_
     refine gv_nil ?_
     have e := sj h1; subst e
     refine gv_goal fun a hd hs hok => ?_
     exact ⟨hB72, (Nat.le_refl _), hb80, ho76, hd, hs, ok_pick [3, 4, 6, 7] hok (by kernel_rfl)⟩
   ·rintro a w82 ⟨hB86, hz87, hb88, hk89, hd, hs, hok⟩
    refine gv_in ?_ hd hs hok
    clear hd hs hok
    clear hz87 hb80 ho76 hB72
    refine gv_seq <| gv_seq <| gv_region <| bindE h0 ?_; clear h0; intro j90 h1 h0
    refine gv_cut_ops (J := fun a w91 => Below w0.heap.size w0 w91 ∧ w82.heap.size ≤ w91.heap.size ∧ Box w91 b1 26 #[(.int .i64 0), (.int .i64 0)] ∧ Gv.Own (iE .i64) 3 w91 (fun _ => False) a74 c75 j22 ∧ a.defers = [] ∧ a.tmps.size = 172 ∧ Ok [(3, (bp b1)), (4, (.slice a74 (List.length j22) c75)), (6, (.int .i64 0)), (7, (.bool j81)), (59, (.bool j90))] a.tmps) ?_ ?_
    ·skip
     refine gv_pureN 5 [42, 43, 44, 45, 46] [(46, (.bool (decide (0 < ((List.length j22 : Nat) : Int)))))] (by kernel_rfl) ?_
     refine gv_split (s := 46) (g := (decide (0 < ((List.length j22 : Nat) : Int)))) (by kernel_rfl) (fun hc92 => ?_) (fun hc92 => ?_)
     ·skip
      replace h1 := ite_t hc92 h1
      refine gv_pureN 2 [47, 48] [(47, (.slice a74 (List.length j22) c75)), (48, (.int .i64 0))] (by kernel_rfl) ?_
      refine bindE h1 ?_; clear h1; intro x93 hx94 h1
      refine gv_idxaddr (t := 65) (e := 3) (a := a74) (len := List.length j22) (cap := c75) (kk := .i64) (i := 0) (sz := 1) [] (fun e => by cases e) rfl rfl rfl (by kernel_rfl) (by kernel_rfl) Tryd.underlying65 (by kernel_rfl) ((hk89.rd (Y := fun k => blk a74 = some k) (fun _ h => h.elim) (fun g e => e)).has hx94) (idx_spec hx94).1 (idx_spec hx94).2.1 rfl ?_
      refine gv_load (t := 3) (A := (elemAddr a74 ((0 : Int).toNat * 1))) (.int .i64 x93) [] (fun e => by cases e) rfl rfl rfl (by kernel_rfl) (by kernel_rfl) (by kernel_rfl) (inw0 ((hk89.rd (Y := fun k => blk a74 = some k) (fun _ h => h.elim) (fun g e => e)).cell hx94)) rfl ?_
      refine gv_pureN 2 [51, 52] [(52, (.bool (x93 == 60)))] (by kernel_rfl) ?_
      refine gv_split (s := 52) (g := (x93 == 60)) (by kernel_rfl) (fun hc95 => ?_) (fun hc95 => ?_)
      ·skip
       replace h1 := ite_t hc95 h1
       refine gv_pureN 7 [53, 54, 55, 56, 57, 58, 59] [(59, (.bool true))] (by kernel_rfl) ?_
       refine gv_nil ?_
       have e := sj h1; subst e
       refine gv_goal fun a hd hs hok => ?_
       exact ⟨hB86, (Nat.le_refl _), hb88, hk89, hd, hs, ok_pick [3, 4, 6, 7, 59] hok (by kernel_rfl)⟩
      ·skip
       replace h1 := ite_f hc95 h1
       refine gv_pureN 2 [53, 54] [(53, (.slice a74 (List.length j22) c75)), (54, (.int .i64 0))] (by kernel_rfl) ?_
       refine bindE h1 ?_; clear h1; intro x96 hx97 h1
       refine gv_idxaddr (t := 65) (e := 3) (a := a74) (len := List.length j22) (cap := c75) (kk := .i64) (i := 0) (sz := 1) [] (fun e => by cases e) rfl rfl rfl (by kernel_rfl) (by kernel_rfl) Tryd.underlying65 (by kernel_rfl) ((hk89.rd (Y := fun k => blk a74 = some k) (fun _ h => h.elim) (fun g e => e)).has hx97) (idx_spec hx97).1 (idx_spec hx97).2.1 rfl ?_
       refine gv_load (t := 3) (A := (elemAddr a74 ((0 : Int).toNat * 1))) (.int .i64 x96) [] (fun e => by cases e) rfl rfl rfl (by kernel_rfl) (by kernel_rfl) (by kernel_rfl) (inw0 ((hk89.rd (Y := fun k => blk a74 = some k) (fun _ h => h.elim) (fun g e => e)).cell hx97)) rfl ?_
       refine gv_pureN 3 [57, 58, 59] [(59, (.bool (x96 == 62)))] (by kernel_rfl) ?_
       refine gv_nil ?_
       have e := sj h1; subst e
       refine gv_goal fun a hd hs hok => ?_
       exact ⟨hB86, (Nat.le_refl _), hb88, hk89, hd, hs, ok_pick [3, 4, 6, 7, 59] hok (by kernel_rfl)⟩
     ·skip
      replace h1 := ite_f hc92 h1
      refine gv_pureN 13 [47, 48, 49, 50, 51, 52, 53, 54, 55, 56, 57, 58, 59] [(59, (.bool false))] (by kernel_rfl) ?_
      refine gv_nil ?_
      have e := sj h1; subst e
      refine gv_goal fun a hd hs hok => ?_
      exact ⟨hB86, (Nat.le_refl _), hb88, hk89, hd, hs, ok_pick [3, 4, 6, 7, 59] hok (by kernel_rfl)⟩
    ·rintro a w91 ⟨hB98, hz99, hb100, hk101, hd, hs, hok⟩
     refine gv_in ?_ hd hs hok
     clear hd hs hok
     clear hz99 hk89 hb88 hB86
     refine bindE h0 ?_; clear h0; intro j102 h1 h0
     refine gv_cut_code (J := fun a w103 => Below w0.heap.size w0 w103 ∧ w91.heap.size ≤ w103.heap.size ∧ Box w103 b1 26 #[(.int .i64 0), (.int .i64 0)] ∧ Gv.Own (iE .i64) 3 w103 (fun _ => False) a74 c75 j22 ∧ a.defers = [] ∧ a.tmps.size = 172 ∧ Ok [(3, (bp b1)), (4, (.slice a74 (List.length j22) c75)), (6, (.int .i64 j102)), (7, (.bool j81))] a.tmps) ?_ ?_
     ·skip
      refine gv_cond (b := j90) (by kernel_rfl) (fun hc104 => ?_) (fun hc104 => ?_)
      ·replace h1 := ite_t hc104 h1
       refine gv_region <| gv_pureN 3 [6, 60, 61] [(6, (.int .i64 (IntKind.i64.wrap (0 + 1))))] (by kernel_rfl) ?_
       refine gv_nil ?_
       have e := sj h1; subst e
       refine gv_goal fun a hd hs hok => ?_
       exact ⟨hB98, (Nat.le_refl _), hb100, hk101, hd, hs, ok_pick [3, 4, 6, 7] hok (by kernel_rfl)⟩
      ·replace h1 := ite_f hc104 h1
       refine gv_skip ?_
       have e := sj h1; subst e
       refine gv_goal fun a hd hs hok => ?_
       exact ⟨hB98, (Nat.le_refl _), hb100, hk101, hd, hs, ok_pick [3, 4, 6, 7] hok (by kernel_rfl)⟩
     ·rintro a w103 ⟨hB105, hz106, hb107, hk108, hd, hs, hok⟩
      refine gv_in ?_ hd hs hok
      clear hd hs hok
      clear hz106 hk101 hb100 hB98
      refine gv_seq <| gv_region <| gv_pureN 1 [8] [(8, (.slice none (List.length ([] : List (Int × Int × Bool))) 0))] (by kernel_rfl) ?_
      refine gv_nil <| gv_seq <| gv_region <| gv_pureN 2 [9, 10] [(9, (.bool false)), (10, (.bool false))] (by kernel_rfl) ?_
      refine gv_nil <| gv_seq <| bindE h0 ?_; clear h0; intro j109 h1 h0
      refine gv_cut_code (J := fun a w111 => ∃ s110 : ((List (Int × Int × Bool)) × Bool × Bool × (Int × Int)), j109 = .inl s110 ∧ ∃ (a8_0j : Option Addr) (c8_0j : Nat), Below w0.heap.size w0 w111 ∧ w103.heap.size ≤ w111.heap.size ∧ Gv.Own (prE (iE .u8) (prE (iE .i64) tE)) 31 w111 (fun _ => False) a8_0j c8_0j s110.1 ∧ (∀ g, blk a8_0j = some g → w0.heap.size ≤ g) ∧ (∀ g, blk a8_0j = some g → ¬ (· = b1) g) ∧ ¬ (fun k => blk a8_0j = some k) b1 ∧ Box w111 b1 26 #[(.int .i64 s110.2.2.2.1), (.int .i64 s110.2.2.2.2)] ∧ a.defers = [] ∧ a.tmps.size = 172 ∧ Ok [(3, (bp b1)), (8, (.slice a8_0j (List.length s110.1) c8_0j)), (9, (.bool s110.2.1)), (10, (.bool s110.2.2.1))] a.tmps) ?_ ?_
      ·skip
       refine gv_block <| gv_loop (A := fun (s112 : (Int × (List (Int × Int × Bool)) × Bool × Bool × (Int × Int))) a w113 => ∃ (a8_0j : Option Addr) (c8_0j : Nat), Below w0.heap.size w0 w113 ∧ w103.heap.size ≤ w113.heap.size ∧ Gv.Own (prE (iE .u8) (prE (iE .i64) tE)) 31 w113 (fun _ => False) a8_0j c8_0j s112.2.1 ∧ (∀ g, blk a8_0j = some g → w0.heap.size ≤ g) ∧ (∀ g, blk a8_0j = some g → ¬ (· = b1) g) ∧ (∀ g, blk a8_0j = some g → ¬ (fun k => blk a74 = some k) g) ∧ ¬ (fun k => blk a8_0j = some k) b1 ∧ (∀ g, blk a74 = some g → ¬ (fun k => blk a8_0j = some k) g) ∧ Box w113 b1 26 #[(.int .i64 s112.2.2.2.2.1), (.int .i64 s112.2.2.2.2.2)] ∧ Gv.Own (iE .i64) 3 w113 (fun _ => False) a74 c75 j22 ∧ a.defers = [] ∧ a.tmps.size = 172 ∧ Ok [(3, (bp b1)), (4, (.slice a74 (List.length j22) c75)), (6, (.int .i64 s112.1)), (7, (.bool j81)), (8, (.slice a8_0j (List.length s112.2.1) c8_0j)), (9, (.bool s112.2.2.1)), (10, (.bool s112.2.2.2.1))] a.tmps) h1 ?_ ?_
       ·intro a hd hs hok
        exact ⟨none, 0, hB105, (Nat.le_refl _), (Gv.Own.nil (prE (iE .u8) (prE (iE .i64) tE)) 31 w103 (fun _ => False)), (fun _ h => by cases h), (fun _ h => by cases h), (fun _ h => by cases h), (fun h => by cases h), (fun _ _ h => by cases h), hb107, hk108, hd, hs, ok_pick [3, 4, 6, 7, 8, 9, 10] hok (by kernel_rfl)⟩
       ·rintro s112 r2 h2 hR2 a w113 ⟨a116, c117, hB114, hz115, ho118, hl119, ap120, ap121, ap122, ap123, hb124, hk125, hd, hs, hok⟩
        refine gv_in ?_ hd hs hok
        clear hd hs hok
        refine gv_seq <| gv_seq <| gv_region <| gv_pureN 4 [62, 63, 64, 65] [(65, (.bool (decide (s112.1 < ((List.length j22 : Nat) : Int)))))] (by kernel_rfl) ?_
        refine gv_nil <| gv_cond (b := (decide (s112.1 < ((List.length j22 : Nat) : Int)))) (by kernel_rfl) (fun hc126 => ?_) (fun hc126 => ?_)
        ·replace h2 := ite_t hc126 h2
         refine gv_skip <| gv_block <| gv_seq <| gv_region <| gv_pureN 2 [67, 68] [(67, (.slice a74 (List.length j22) c75)), (68, (.int .i64 s112.1))] (by kernel_rfl) ?_
         refine bindE h2 ?_; clear h2; intro r127 hr128 h2
         refine gv_call0 (by kernel_rfl) rfl (by kernel_rfl) enters30 (ref4_digitsAt_ok fuel a74 c75 j22 s112.1 w113 (fun k => (fun k => blk a74 = some k) k) (fun k hk => (fun k (hk : blk a74 = some k) => hk125.lt k hk) k hk) ((hk125.rd (Y := fun k => blk a74 = some k) (fun _ h => h.elim) (fun g e => e)).wide (fun k hk => hk)) r127 hr128) ?_
         rintro v131 w129 ⟨hg130, rfl⟩
         refine gv_pureN 5 [11, 12, 66, 70, 71] [(11, (.int .i64 r127.1)), (12, (.int .i64 r127.2))] (by kernel_rfl) ?_
         refine gv_nil <| gv_seq <| gv_seq <| gv_region <| bindE h2 ?_; clear h2; intro j132 h3 h2
         refine gv_cut_ops (J := fun a w133 => Below w0.heap.size w0 w133 ∧ w129.heap.size ≤ w133.heap.size ∧ Box w133 b1 26 #[(.int .i64 s112.2.2.2.2.1), (.int .i64 s112.2.2.2.2.2)] ∧ Gv.Own (iE .i64) 3 w133 (fun _ => False) a74 c75 j22 ∧ Gv.Own (prE (iE .u8) (prE (iE .i64) tE)) 31 w133 (fun _ => False) a116 c117 s112.2.1 ∧ a.defers = [] ∧ a.tmps.size = 172 ∧ Ok [(3, (bp b1)), (4, (.slice a74 (List.length j22) c75)), (6, (.int .i64 s112.1)), (7, (.bool j81)), (8, (.slice a116 (List.length s112.2.1) c117)), (9, (.bool s112.2.2.1)), (10, (.bool s112.2.2.2.1)), (11, (.int .i64 r127.1)), (12, (.int .i64 r127.2)), (117, (.bool j132))] a.tmps) ?_ ?_
         ·skip
          refine gv_pureN 3 [72, 73, 74] [(74, (.bool (decide (r127.2 > 1))))] (by kernel_rfl) ?_
          refine gv_split (s := 74) (g := (decide (r127.2 > 1))) (by kernel_rfl) (fun hc134 => ?_) (fun hc134 => ?_)
          ·skip
           replace h3 := ite_t hc134 h3
           refine gv_pureN 2 [75, 76] [(75, (.slice a74 (List.length j22) c75)), (76, (.int .i64 s112.1))] (by kernel_rfl) ?_
           refine bindE h3 ?_; clear h3; intro x135 hx136 h3
           have hk137 := hk125.grown hg130 (fun _ h => h.elim) nb
           refine gv_idxaddr (t := 65) (e := 3) (a := a74) (len := List.length j22) (cap := c75) (kk := .i64) (i := s112.1) (sz := 1) [] (fun e => by cases e) rfl rfl rfl (by kernel_rfl) (by kernel_rfl) Tryd.underlying65 (by kernel_rfl) ((hk137.rd (Y := fun k => blk a74 = some k) (fun _ h => h.elim) (fun g e => e)).has hx136) (idx_spec hx136).1 (idx_spec hx136).2.1 rfl ?_
           refine gv_load (t := 3) (A := (elemAddr a74 ((s112.1 : Int).toNat * 1))) (.int .i64 x135) [] (fun e => by cases e) rfl rfl rfl (by kernel_rfl) (by kernel_rfl) (by kernel_rfl) (inw0 ((hk137.rd (Y := fun k => blk a74 = some k) (fun _ h => h.elim) (fun g e => e)).cell hx136)) rfl ?_
           refine gv_pureN 3 [79, 80, 81] [(81, (.bool (x135 == 48)))] (by kernel_rfl) ?_
           refine gv_split (s := 81) (g := (x135 == 48)) (by kernel_rfl) (fun hc138 => ?_) (fun hc138 => ?_)
           ·skip
            replace h3 := ite_t hc138 h3
            refine gv_pureN 36 [82, 83, 84, 85, 86, 87, 88, 89, 90, 91, 92, 93, 94, 95, 96, 97, 98, 99, 100, 101, 102, 103, 104, 105, 106, 107, 108, 109, 110, 111, 112, 113, 114, 115, 116, 117] [(117, (.bool true))] (by kernel_rfl) ?_
            refine gv_nil ?_
            have e := sj h3; subst e
            refine gv_goal fun a hd hs hok => ?_
            have hB139 := bg hB114 hg130 nb
            have hk140 := hb124.grown hg130 nb
            have hk141 := ho118.grown hg130 (fun _ h => h.elim) nb
            exact ⟨hB139, (Nat.le_refl _), hk140, hk137, hk141, hd, hs, ok_pick [3, 4, 6, 7, 8, 9, 10, 11, 12, 117] hok (by kernel_rfl)⟩
           ·skip
            replace h3 := ite_f hc138 h3
            refine gv_pureN 8 [82, 83, 84, 85, 86, 87, 88, 89] [(89, (.bool (decide ((IntKind.i64.wrap (s112.1 + r127.2)) ≥ ((List.length j22 : Nat) : Int)))))] (by kernel_rfl) ?_
            refine gv_split (s := 89) (g := (decide ((IntKind.i64.wrap (s112.1 + r127.2)) ≥ ((List.length j22 : Nat) : Int)))) (by kernel_rfl) (fun hc142 => ?_) (fun hc142 => ?_)
            ·skip
             replace h3 := ite_t hc142 h3
             refine gv_pureN 28 [90, 91, 92, 93, 94, 95, 96, 97, 98, 99, 100, 101, 102, 103, 104, 105, 106, 107, 108, 109, 110, 111, 112, 113, 114, 115, 116, 117] [(117, (.bool true))] (by kernel_rfl) ?_
             refine gv_nil ?_
             have e := sj h3; subst e
             refine gv_goal fun a hd hs hok => ?_
             have hB143 := bg hB114 hg130 nb
             have hk144 := hb124.grown hg130 nb
             have hk145 := ho118.grown hg130 (fun _ h => h.elim) nb
             exact ⟨hB143, (Nat.le_refl _), hk144, hk137, hk145, hd, hs, ok_pick [3, 4, 6, 7, 8, 9, 10, 11, 12, 117] hok (by kernel_rfl)⟩
            ·skip
             replace h3 := ite_f hc142 h3
             refine gv_pureN 4 [90, 91, 92, 93] [(90, (.slice a74 (List.length j22) c75)), (93, (.int .i64 (IntKind.i64.wrap (s112.1 + r127.2))))] (by kernel_rfl) ?_
             refine bindE h3 ?_; clear h3; intro x146 hx147 h3
             refine gv_idxaddr (t := 65) (e := 3) (a := a74) (len := List.length j22) (cap := c75) (kk := .i64) (i := (IntKind.i64.wrap (s112.1 + r127.2))) (sz := 1) [] (fun e => by cases e) rfl rfl rfl (by kernel_rfl) (by kernel_rfl) Tryd.underlying65 (by kernel_rfl) ((hk137.rd (Y := fun k => blk a74 = some k) (fun _ h => h.elim) (fun g e => e)).has hx147) (idx_spec hx147).1 (idx_spec hx147).2.1 rfl ?_
             refine gv_load (t := 3) (A := (elemAddr a74 (((IntKind.i64.wrap (s112.1 + r127.2)) : Int).toNat * 1))) (.int .i64 x146) [] (fun e => by cases e) rfl rfl rfl (by kernel_rfl) (by kernel_rfl) (by kernel_rfl) (inw0 ((hk137.rd (Y := fun k => blk a74 = some k) (fun _ h => h.elim) (fun g e => e)).cell hx147)) rfl ?_
             refine gv_pureN 3 [96, 97, 98] [(98, (.bool (x146 == 0)))] (by kernel_rfl) ?_
             refine gv_sub [3, 4, 6, 7, 8, 9, 10, 11, 12, 98] (σ' := [(3, (bp b1)), (4, (.slice a74 (List.length j22) c75)), (6, (.int .i64 s112.1)), (7, (.bool j81)), (8, (.slice a116 (List.length s112.2.1) c117)), (9, (.bool s112.2.2.1)), (10, (.bool s112.2.2.2.1)), (11, (.int .i64 r127.1)), (12, (.int .i64 r127.2)), (98, (.bool (x146 == 0)))]) (by kernel_rfl) ?_
             refine gv_split (s := 98) (g := (x146 == 0)) (by kernel_rfl) (fun hc148 => ?_) (fun hc148 => ?_)
             ·skip
              replace h3 := ite_t hc148 h3
              refine gv_pureN 19 [99, 100, 101, 102, 103, 104, 105, 106, 107, 108, 109, 110, 111, 112, 113, 114, 115, 116, 117] [(117, (.bool true))] (by kernel_rfl) ?_
              refine gv_nil ?_
              have e := sj h3; subst e
              refine gv_goal fun a hd hs hok => ?_
              have hB149 := bg hB114 hg130 nb
              have hk150 := hb124.grown hg130 nb
              have hk151 := ho118.grown hg130 (fun _ h => h.elim) nb
              exact ⟨hB149, (Nat.le_refl _), hk150, hk137, hk151, hd, hs, ok_pick [3, 4, 6, 7, 8, 9, 10, 11, 12, 117] hok (by kernel_rfl)⟩
             ·skip
              replace h3 := ite_f hc148 h3
              refine gv_pureN 4 [99, 100, 101, 102] [(99, (.slice a74 (List.length j22) c75)), (102, (.int .i64 (IntKind.i64.wrap (s112.1 + r127.2))))] (by kernel_rfl) ?_
              refine bindE h3 ?_; clear h3; intro x152 hx153 h3
              refine gv_idxaddr (t := 65) (e := 3) (a := a74) (len := List.length j22) (cap := c75) (kk := .i64) (i := (IntKind.i64.wrap (s112.1 + r127.2))) (sz := 1) [] (fun e => by cases e) rfl rfl rfl (by kernel_rfl) (by kernel_rfl) Tryd.underlying65 (by kernel_rfl) ((hk137.rd (Y := fun k => blk a74 = some k) (fun _ h => h.elim) (fun g e => e)).has hx153) (idx_spec hx153).1 (idx_spec hx153).2.1 rfl ?_
              refine gv_load (t := 3) (A := (elemAddr a74 (((IntKind.i64.wrap (s112.1 + r127.2)) : Int).toNat * 1))) (.int .i64 x152) [] (fun e => by cases e) rfl rfl rfl (by kernel_rfl) (by kernel_rfl) (by kernel_rfl) (inw0 ((hk137.rd (Y := fun k => blk a74 = some k) (fun _ h => h.elim) (fun g e => e)).cell hx153)) rfl ?_
              refine gv_pureN 3 [105, 106, 107] [(107, (.bool (decide (x152 > 127))))] (by kernel_rfl) ?_
              refine gv_split (s := 107) (g := (decide (x152 > 127))) (by kernel_rfl) (fun hc154 => ?_) (fun hc154 => ?_)
              ·skip
               replace h3 := ite_t hc154 h3
               refine gv_pureN 10 [108, 109, 110, 111, 112, 113, 114, 115, 116, 117] [(117, (.bool true))] (by kernel_rfl) ?_
               refine gv_nil ?_
               have e := sj h3; subst e
               refine gv_goal fun a hd hs hok => ?_
               have hB155 := bg hB114 hg130 nb
               have hk156 := hb124.grown hg130 nb
               have hk157 := ho118.grown hg130 (fun _ h => h.elim) nb
               exact ⟨hB155, (Nat.le_refl _), hk156, hk137, hk157, hd, hs, ok_pick [3, 4, 6, 7, 8, 9, 10, 11, 12, 117] hok (by kernel_rfl)⟩
              ·skip
               replace h3 := ite_f hc154 h3
               refine gv_pureN 4 [108, 109, 110, 111] [(108, (.slice a74 (List.length j22) c75)), (111, (.int .i64 (IntKind.i64.wrap (s112.1 + r127.2))))] (by kernel_rfl) ?_
               refine bindE h3 ?_; clear h3; intro x158 hx159 h3
               refine gv_idxaddr (t := 65) (e := 3) (a := a74) (len := List.length j22) (cap := c75) (kk := .i64) (i := (IntKind.i64.wrap (s112.1 + r127.2))) (sz := 1) [] (fun e => by cases e) rfl rfl rfl (by kernel_rfl) (by kernel_rfl) Tryd.underlying65 (by kernel_rfl) ((hk137.rd (Y := fun k => blk a74 = some k) (fun _ h => h.elim) (fun g e => e)).has hx159) (idx_spec hx159).1 (idx_spec hx159).2.1 rfl ?_
               refine gv_load (t := 3) (A := (elemAddr a74 (((IntKind.i64.wrap (s112.1 + r127.2)) : Int).toNat * 1))) (.int .i64 x158) [] (fun e => by cases e) rfl rfl rfl (by kernel_rfl) (by kernel_rfl) (by kernel_rfl) (inw0 ((hk137.rd (Y := fun k => blk a74 = some k) (fun _ h => h.elim) (fun g e => e)).cell hx159)) rfl ?_
               refine gv_pureN 1 [114] [(114, (.int .u8 (IntKind.u8.wrap (x158))))] (by kernel_rfl) ?_
               refine bindE h3 ?_; clear h3; intro r160 hr161 h3
               refine gv_call0 (by kernel_rfl) rfl (by kernel_rfl) enters31 (ref4_oneOf_ok fuel (IntKind.u8.wrap (x158)) (strOf [98, 66, 104, 72, 105, 73, 113, 81, 118, 115, 112, 120, 63]) w129  r160 hr161) ?_
               rintro v164 w162 ⟨hg163, rfl⟩
               refine gv_pureN 2 [116, 117] [(117, (.bool (!r160)))] (by kernel_rfl) ?_
               refine gv_nil ?_
               have e := sj h3; subst e
               refine gv_goal fun a hd hs hok => ?_
               have hg165 := (grown_trans hg130 hg163)
               have hB166 := bg hB114 hg165 nb
               have hz167 := hg163.size
               have hk168 := hb124.grown hg165 nb
               have hk169 := hk137.grown hg163 (fun _ h => h.elim) nb
               have hk170 := ho118.grown hg165 (fun _ h => h.elim) nb
               exact ⟨hB166, hz167, hk168, hk169, hk170, hd, hs, ok_pick [3, 4, 6, 7, 8, 9, 10, 11, 12, 117] hok (by kernel_rfl)⟩
          ·skip
           replace h3 := ite_f hc134 h3
           refine gv_pureN 15 [75, 76, 77, 78, 79, 80, 81, 82, 83, 84, 85, 86, 87, 88, 89] [(89, (.bool (decide ((IntKind.i64.wrap (s112.1 + r127.2)) ≥ ((List.length j22 : Nat) : Int)))))] (by kernel_rfl) ?_
           refine gv_split (s := 89) (g := (decide ((IntKind.i64.wrap (s112.1 + r127.2)) ≥ ((List.length j22 : Nat) : Int)))) (by kernel_rfl) (fun hc171 => ?_) (fun hc171 => ?_)
           ·skip
            replace h3 := ite_t hc171 h3
            refine gv_pureN 28 [90, 91, 92, 93, 94, 95, 96, 97, 98, 99, 100, 101, 102, 103, 104, 105, 106, 107, 108, 109, 110, 111, 112, 113, 114, 115, 116, 117] [(117, (.bool true))] (by kernel_rfl) ?_
            refine gv_nil ?_
            have e := sj h3; subst e
            refine gv_goal fun a hd hs hok => ?_
            have hB172 := bg hB114 hg130 nb
            have hk173 := hb124.grown hg130 nb
            have hk174 := hk125.grown hg130 (fun _ h => h.elim) nb
            have hk175 := ho118.grown hg130 (fun _ h => h.elim) nb
            exact ⟨hB172, (Nat.le_refl _), hk173, hk174, hk175, hd, hs, ok_pick [3, 4, 6, 7, 8, 9, 10, 11, 12, 117] hok (by kernel_rfl)⟩
           ·skip
            replace h3 := ite_f hc171 h3
            refine gv_pureN 4 [90, 91, 92, 93] [(90, (.slice a74 (List.length j22) c75)), (93, (.int .i64 (IntKind.i64.wrap (s112.1 + r127.2))))] (by kernel_rfl) ?_
            refine bindE h3 ?_; clear h3; intro x176 hx177 h3
            have hk178 := hk125.grown hg130 (fun _ h => h.elim) nb
            refine gv_idxaddr (t := 65) (e := 3) (a := a74) (len := List.length j22) (cap := c75) (kk := .i64) (i := (IntKind.i64.wrap (s112.1 + r127.2))) (sz := 1) [] (fun e => by cases e) rfl rfl rfl (by kernel_rfl) (by kernel_rfl) Tryd.underlying65 (by kernel_rfl) ((hk178.rd (Y := fun k => blk a74 = some k) (fun _ h => h.elim) (fun g e => e)).has hx177) (idx_spec hx177).1 (idx_spec hx177).2.1 rfl ?_
            refine gv_load (t := 3) (A := (elemAddr a74 (((IntKind.i64.wrap (s112.1 + r127.2)) : Int).toNat * 1))) (.int .i64 x176) [] (fun e => by cases e) rfl rfl rfl (by kernel_rfl) (by kernel_rfl) (by kernel_rfl) (inw0 ((hk178.rd (Y := fun k => blk a74 = some k) (fun _ h => h.elim) (fun g e => e)).cell hx177)) rfl ?_
            refine gv_pureN 3 [96, 97, 98] [(98, (.bool (x176 == 0)))] (by kernel_rfl) ?_
            refine gv_split (s := 98) (g := (x176 == 0)) (by kernel_rfl) (fun hc179 => ?_) (fun hc179 => ?_)
            ·skip
             replace h3 := ite_t hc179 h3
             refine gv_pureN 19 [99, 100, 101, 102, 103, 104, 105, 106, 107, 108, 109, 110, 111, 112, 113, 114, 115, 116, 117] [(117, (.bool true))] (by kernel_rfl) ?_
             refine gv_nil ?_
             have e := sj h3; subst e
             refine gv_goal fun a hd hs hok => ?_
             have hB180 := bg hB114 hg130 nb
             have hk181 := hb124.grown hg130 nb
             have hk182 := ho118.grown hg130 (fun _ h => h.elim) nb
             exact ⟨hB180, (Nat.le_refl _), hk181, hk178, hk182, hd, hs, ok_pick [3, 4, 6, 7, 8, 9, 10, 11, 12, 117] hok (by kernel_rfl)⟩
            ·skip
             replace h3 := ite_f hc179 h3
             refine gv_pureN 4 [99, 100, 101, 102] [(99, (.slice a74 (List.length j22) c75)), (102, (.int .i64 (IntKind.i64.wrap (s112.1 + r127.2))))] (by kernel_rfl) ?_
             refine bindE h3 ?_; clear h3; intro x183 hx184 h3
             refine gv_idxaddr (t := 65) (e := 3) (a := a74) (len := List.length j22) (cap := c75) (kk := .i64) (i := (IntKind.i64.wrap (s112.1 + r127.2))) (sz := 1) [] (fun e => by cases e) rfl rfl rfl (by kernel_rfl) (by kernel_rfl) Tryd.underlying65 (by kernel_rfl) ((hk178.rd (Y := fun k => blk a74 = some k) (fun _ h => h.elim) (fun g e => e)).has hx184) (idx_spec hx184).1 (idx_spec hx184).2.1 rfl ?_
             refine gv_load (t := 3) (A := (elemAddr a74 (((IntKind.i64.wrap (s112.1 + r127.2)) : Int).toNat * 1))) (.int .i64 x183) [] (fun e => by cases e) rfl rfl rfl (by kernel_rfl) (by kernel_rfl) (by kernel_rfl) (inw0 ((hk178.rd (Y := fun k => blk a74 = some k) (fun _ h => h.elim) (fun g e => e)).cell hx184)) rfl ?_
             refine gv_pureN 3 [105, 106, 107] [(107, (.bool (decide (x183 > 127))))] (by kernel_rfl) ?_
             refine gv_sub [3, 4, 6, 7, 8, 9, 10, 11, 12, 107] (σ' := [(3, (bp b1)), (4, (.slice a74 (List.length j22) c75)), (6, (.int .i64 s112.1)), (7, (.bool j81)), (8, (.slice a116 (List.length s112.2.1) c117)), (9, (.bool s112.2.2.1)), (10, (.bool s112.2.2.2.1)), (11, (.int .i64 r127.1)), (12, (.int .i64 r127.2)), (107, (.bool (decide (x183 > 127))))]) (by kernel_rfl) ?_
             refine gv_split (s := 107) (g := (decide (x183 > 127))) (by kernel_rfl) (fun hc185 => ?_) (fun hc185 => ?_)
             ·skip
              replace h3 := ite_t hc185 h3
              refine gv_pureN 10 [108, 109, 110, 111, 112, 113, 114, 115, 116, 117] [(117, (.bool true))] (by kernel_rfl) ?_
              refine gv_nil ?_
              have e := sj h3; subst e
              refine gv_goal fun a hd hs hok => ?_
              have hB186 := bg hB114 hg130 nb
              have hk187 := hb124.grown hg130 nb
              have hk188 := ho118.grown hg130 (fun _ h => h.elim) nb
              exact ⟨hB186, (Nat.le_refl _), hk187, hk178, hk188, hd, hs, ok_pick [3, 4, 6, 7, 8, 9, 10, 11, 12, 117] hok (by kernel_rfl)⟩
             ·skip
              replace h3 := ite_f hc185 h3
              refine gv_pureN 4 [108, 109, 110, 111] [(108, (.slice a74 (List.length j22) c75)), (111, (.int .i64 (IntKind.i64.wrap (s112.1 + r127.2))))] (by kernel_rfl) ?_
              refine bindE h3 ?_; clear h3; intro x189 hx190 h3
              refine gv_idxaddr (t := 65) (e := 3) (a := a74) (len := List.length j22) (cap := c75) (kk := .i64) (i := (IntKind.i64.wrap (s112.1 + r127.2))) (sz := 1) [] (fun e => by cases e) rfl rfl rfl (by kernel_rfl) (by kernel_rfl) Tryd.underlying65 (by kernel_rfl) ((hk178.rd (Y := fun k => blk a74 = some k) (fun _ h => h.elim) (fun g e => e)).has hx190) (idx_spec hx190).1 (idx_spec hx190).2.1 rfl ?_
              refine gv_load (t := 3) (A := (elemAddr a74 (((IntKind.i64.wrap (s112.1 + r127.2)) : Int).toNat * 1))) (.int .i64 x189) [] (fun e => by cases e) rfl rfl rfl (by kernel_rfl) (by kernel_rfl) (by kernel_rfl) (inw0 ((hk178.rd (Y := fun k => blk a74 = some k) (fun _ h => h.elim) (fun g e => e)).cell hx190)) rfl ?_
              refine gv_pureN 1 [114] [(114, (.int .u8 (IntKind.u8.wrap (x189))))] (by kernel_rfl) ?_
              refine bindE h3 ?_; clear h3; intro r191 hr192 h3
              refine gv_call0 (by kernel_rfl) rfl (by kernel_rfl) enters31 (ref4_oneOf_ok fuel (IntKind.u8.wrap (x189)) (strOf [98, 66, 104, 72, 105, 73, 113, 81, 118, 115, 112, 120, 63]) w129  r191 hr192) ?_
              rintro v195 w193 ⟨hg194, rfl⟩
              have hz196 := (nt hz115 hg130.size)
              clear hr192 hx190 hc185 hx184 hc179 hx177 hc171 hc134 hr128 hc126 hk125 hz115 hk108 hb107 hB105
              refine gv_pureN 2 [116, 117] [(117, (.bool (!r191)))] (by kernel_rfl) ?_
              refine gv_nil ?_
              have e := sj h3; subst e
              refine gv_goal fun a hd hs hok => ?_
              have hg197 := (grown_trans hg130 hg194)
              have hB198 := bg hB114 hg197 nb
              have hz199 := hg194.size
              have hk200 := hb124.grown hg197 nb
              have hk201 := hk178.grown hg194 (fun _ h => h.elim) nb
              have hk202 := ho118.grown hg197 (fun _ h => h.elim) nb
              exact ⟨hB198, hz199, hk200, hk201, hk202, hd, hs, ok_pick [3, 4, 6, 7, 8, 9, 10, 11, 12, 117] hok (by kernel_rfl)⟩
         ·rintro a w133 ⟨hB203, hz204, hb205, hk206, hk207, hd, hs, hok⟩
          refine gv_in ?_ hd hs hok
          clear hd hs hok
          have hz208 := (nt (nt hz115 hg130.size) hz204)
          clear hz204 hg130 hr128 hc126 hk125 hb124 ho118 hz115 hB114 hk108 hb107 hB105
          refine gv_cond (b := j132) (by kernel_rfl) (fun hc209 => ?_) (fun hc209 => ?_)
          ·replace h2 := ite_t hc209 h2
           refine gv_seq <| gv_region <| bindE h2 ?_; clear h2; intro r210 hr211 h2
           refine gv_call0 (by kernel_rfl) rfl (by kernel_rfl) enters19 (ref4_At_ok fuel 1 (-1) w133  r210 hr211) ?_
           rintro v214 w212 ⟨hg213, rfl⟩
           refine gv_pureN 1 [2] [(2, (.slice none (List.length ([] : List (Int × Int × Bool))) 0))] (by kernel_rfl) ?_
           have hk219 := hb205.grown hg213 nb
           refine gv_store0 26 0 (.agg #[(.int .i64 r210.1), (.int .i64 r210.2)]) #[(.int .i64 r210.1), (.int .i64 r210.2)] hk219 (by kernel_rfl) (by kernel_rfl) (by kernel_rfl) ?_
           intro w215 hg216 hb217 hz218
           refine gv_nil <| gv_cret ?_
           have e := sj h2; subst e
           replace h1 := congrArg some (hR2 _ rfl)
           have e := sj h1; subst e
           replace h0 := cont_inr h0
           have e := sj h0; subst e
           refine gv_ret (gv_done [(.slice none (List.length ([] : List (Int × Int × Bool))) 0), (.agg #[(.int .i64 r210.1), (.int .i64 r210.2)])] rfl ⟨(by kernel_rfl), ⟨⟨b1, 0, none⟩, (by kernel_rfl), run_loadVar_row w215 b1 _ 26 _ _ _ hb217 Tryd.underlying26 rfl (by kernel_rfl)⟩, trivial⟩ ?_)
           have hB220 := bg hB203 hg213 nb
           have hlo221 : w0.heap.size ≤ b1 := lob hbe5 hB0.size
           have hB222 := bg hB220 hg216 (rowlo hlo221)
           exact ⟨grown_of_below hB222, none, 0, rfl, (Gv.Own.nil (prE (iE .u8) (prE (iE .i64) tE)) 31 w215 (fun _ => False)), (fun _ h => by cases h)⟩
          ·replace h2 := ite_f hc209 h2
           refine gv_skip <| gv_seq <| gv_region <| gv_pureN 4 [119, 120, 121, 122] [(119, (.slice a74 (List.length j22) c75)), (122, (.int .i64 (IntKind.i64.wrap (s112.1 + r127.2))))] (by kernel_rfl) ?_
           refine bindE h2 ?_; clear h2; intro x223 hx224 h2
           refine gv_idxaddr (t := 65) (e := 3) (a := a74) (len := List.length j22) (cap := c75) (kk := .i64) (i := (IntKind.i64.wrap (s112.1 + r127.2))) (sz := 1) [] (fun e => by cases e) rfl rfl rfl (by kernel_rfl) (by kernel_rfl) Tryd.underlying65 (by kernel_rfl) ((hk206.rd (Y := fun k => blk a74 = some k) (fun _ h => h.elim) (fun g e => e)).has hx224) (idx_spec hx224).1 (idx_spec hx224).2.1 rfl ?_
           refine gv_load (t := 3) (A := (elemAddr a74 (((IntKind.i64.wrap (s112.1 + r127.2)) : Int).toNat * 1))) (.int .i64 x223) [] (fun e => by cases e) rfl rfl rfl (by kernel_rfl) (by kernel_rfl) (by kernel_rfl) (inw0 ((hk206.rd (Y := fun k => blk a74 = some k) (fun _ h => h.elim) (fun g e => e)).cell hx224)) rfl ?_
           refine gv_pureN 3 [125, 126, 127] [(127, (.agg #[(.int .u8 (IntKind.u8.wrap (x223))), (.int .i64 1), (.bool j81)]))] (by kernel_rfl) ?_
           refine gv_new0 (fun b => .pointer (some ⟨b, 0, none⟩)) #[(.int .u8 0), (.int .i64 0), (.bool false)] 31 (by kernel_rfl) (by kernel_rfl) ?_
           intro b225 w226 hg227 hb228 hbe229 hz230
           refine gv_store0 31 0 (.agg #[(.int .u8 (IntKind.u8.wrap (x223))), (.int .i64 1), (.bool j81)]) #[(.int .u8 (IntKind.u8.wrap (x223))), (.int .i64 1), (.bool j81)] hb228 (by kernel_rfl) (by kernel_rfl) (by kernel_rfl) ?_
           intro w231 hg232 hb233 hz234
           refine gv_nil <| gv_seq <| gv_seq <| gv_region <| gv_pureN 2 [128, 129] [(129, (.bool (r127.2 == 0)))] (by kernel_rfl) ?_
           refine gv_nil <| bindE h2 ?_; clear h2; intro j235 h3 h2
           refine gv_cut_code (J := fun a w236 => Below w0.heap.size w0 w236 ∧ w231.heap.size ≤ w236.heap.size ∧ Box w236 b1 26 #[(.int .i64 s112.2.2.2.2.1), (.int .i64 s112.2.2.2.2.2)] ∧ Box w236 b225 31 #[(.int .u8 (IntKind.u8.wrap (x223))), (.int .i64 1), (.bool j81)] ∧ Gv.Own (iE .i64) 3 w236 (fun _ => False) a74 c75 j22 ∧ Gv.Own (prE (iE .u8) (prE (iE .i64) tE)) 31 w236 (fun _ => False) a116 c117 s112.2.1 ∧ a.defers = [] ∧ a.tmps.size = 172 ∧ Ok [(3, (bp b1)), (4, (.slice a74 (List.length j22) c75)), (6, (.int .i64 s112.1)), (7, (.bool j81)), (8, (.slice a116 (List.length s112.2.1) c117)), (9, (.bool s112.2.2.1)), (10, (.bool s112.2.2.2.1)), (11, (.int .i64 j235)), (12, (.int .i64 r127.2)), (13, (bp b225))] a.tmps) ?_ ?_
           ·skip
            refine gv_cond (b := (r127.2 == 0)) (by kernel_rfl) (fun hc237 => ?_) (fun hc237 => ?_)
            ·replace h3 := ite_t hc237 h3
             refine gv_region <| gv_pureN 1 [11] [(11, (.int .i64 1))] (by kernel_rfl) ?_
             refine gv_nil ?_
             have e := sj h3; subst e
             refine gv_goal fun a hd hs hok => ?_
             have hB238 := bg hB203 hg227 nb
             have hlo239 : w0.heap.size ≤ b225 := lob hbe229 hB203.size
             have hB240 := bg hB238 hg232 (rowlo hlo239)
             have lt241 := ltl ((ltb hb205) _ rfl) ((lowb hbe229) _ rfl)
             have hk242 := (hb205.grown hg227 nb).grown hg232 (rowne (ng lt241))
             have ap243 : ¬ (fun k => blk a74 = some k) b225 := fun hx => nl ((lowb hbe229) _ rfl) ((fun k (hk : blk a74 = some k) => hk206.lt k hk) _ hx)
             have hk244 := (hk206.grown hg227 (fun _ h => h.elim) nb).grown hg232 (fun _ h => h.elim) (rdnn (rowne ap243))
             have ap245 : ¬ (fun k => blk a116 = some k) b225 := fun hx => nl ((lowb hbe229) _ rfl) ((fun k (hk : blk a116 = some k) => hk207.lt k hk) _ hx)
             have hk246 := (hk207.grown hg227 (fun _ h => h.elim) nb).grown hg232 (fun _ h => h.elim) (rdnn (rowne ap245))
             exact ⟨hB240, (Nat.le_refl _), hk242, hb233, hk244, hk246, hd, hs, ok_pick [3, 4, 6, 7, 8, 9, 10, 11, 12, 13] hok (by kernel_rfl)⟩
            ·replace h3 := ite_f hc237 h3
             refine gv_skip ?_
             have e := sj h3; subst e
             refine gv_goal fun a hd hs hok => ?_
             have hB247 := bg hB203 hg227 nb
             have hlo248 : w0.heap.size ≤ b225 := lob hbe229 hB203.size
             have hB249 := bg hB247 hg232 (rowlo hlo248)
             have lt250 := ltl ((ltb hb205) _ rfl) ((lowb hbe229) _ rfl)
             have hk251 := (hb205.grown hg227 nb).grown hg232 (rowne (ng lt250))
             have ap252 : ¬ (fun k => blk a74 = some k) b225 := fun hx => nl ((lowb hbe229) _ rfl) ((fun k (hk : blk a74 = some k) => hk206.lt k hk) _ hx)
             have hk253 := (hk206.grown hg227 (fun _ h => h.elim) nb).grown hg232 (fun _ h => h.elim) (rdnn (rowne ap252))
             have ap254 : ¬ (fun k => blk a116 = some k) b225 := fun hx => nl ((lowb hbe229) _ rfl) ((fun k (hk : blk a116 = some k) => hk207.lt k hk) _ hx)
             have hk255 := (hk207.grown hg227 (fun _ h => h.elim) nb).grown hg232 (fun _ h => h.elim) (rdnn (rowne ap254))
             exact ⟨hB249, (Nat.le_refl _), hk251, hb233, hk253, hk255, hd, hs, ok_pick [3, 4, 6, 7, 8, 9, 10, 11, 12, 13] hok (by kernel_rfl)⟩
           ·rintro a w236 ⟨hB256, hz257, hb258, hb259, hk260, hk261, hd, hs, hok⟩
            refine gv_in ?_ hd hs hok
            clear hd hs hok
            have hz262 := (nt (nt (nt hz208 hg227.size) hg232.size) hz257)
            clear hz257 hz234 hb233 hg232 hz230 hb228 hg227 hx224 hc209 hz208
            refine gv_seq <| gv_region <| gv_cut_ops (J := fun a w263 => w236 = w263 ∧ a.defers = [] ∧ a.tmps.size = 172 ∧ Ok [(3, (bp b1)), (4, (.slice a74 (List.length j22) c75)), (6, (.int .i64 s112.1)), (7, (.bool j81)), (8, (.slice a116 (List.length s112.2.1) c117)), (9, (.bool (s112.2.2.1 || (decide (j235 > 100))))), (10, (.bool s112.2.2.2.1)), (11, (.int .i64 j235)), (12, (.int .i64 r127.2)), (13, (bp b225))] a.tmps) ?_ ?_
            ·skip
             refine gv_pureN 2 [130, 131] [(131, (.bool s112.2.2.1))] (by kernel_rfl) ?_
             refine gv_split (s := 131) (g := s112.2.2.1) (by kernel_rfl) (fun hc264 => ?_) (fun hc264 => ?_)
             ·skip
              refine gv_pureN 4 [9, 132, 133, 134] [(9, (.bool true))] (by kernel_rfl) ?_
              refine gv_nil <| gv_sub [3, 4, 6, 7, 8, 9, 10, 11, 12, 13] (σ' := [(3, (bp b1)), (4, (.slice a74 (List.length j22) c75)), (6, (.int .i64 s112.1)), (7, (.bool j81)), (8, (.slice a116 (List.length s112.2.1) c117)), (9, (.bool true)), (10, (.bool s112.2.2.2.1)), (11, (.int .i64 j235)), (12, (.int .i64 r127.2)), (13, (bp b225))]) (by kernel_rfl) ?_
              refine gv_goal fun a hd hs hok => ⟨rfl, hd, hs, ?_⟩
              obtain ⟨q3, q4, q6, q7, q8, q9, q10, q11, q12, q13, _⟩ := hok
              exact ⟨q3, q4, q6, q7, q8, (by rw [hc264]; exact q9), q10, q11, q12, q13, trivial⟩
             ·skip
              refine gv_pureN 4 [9, 132, 133, 134] [(9, (.bool (decide (j235 > 100))))] (by kernel_rfl) ?_
              refine gv_nil <| gv_sub [3, 4, 6, 7, 8, 9, 10, 11, 12, 13] (σ' := [(3, (bp b1)), (4, (.slice a74 (List.length j22) c75)), (6, (.int .i64 s112.1)), (7, (.bool j81)), (8, (.slice a116 (List.length s112.2.1) c117)), (9, (.bool (decide (j235 > 100)))), (10, (.bool s112.2.2.2.1)), (11, (.int .i64 j235)), (12, (.int .i64 r127.2)), (13, (bp b225))]) (by kernel_rfl) ?_
              refine gv_goal fun a hd hs hok => ⟨rfl, hd, hs, ?_⟩
              obtain ⟨q3, q4, q6, q7, q8, q9, q10, q11, q12, q13, _⟩ := hok
              exact ⟨q3, q4, q6, q7, q8, (by rw [hc264]; exact q9), q10, q11, q12, q13, trivial⟩
            ·rintro a w263 ⟨e, hd, hs, hok⟩; subst e
             refine gv_in ?_ hd hs hok
             clear hd hs hok
             refine gv_seq <| gv_seq <| gv_region <| bindE h2 ?_; clear h2; intro j265 h3 h2
             refine gv_cut_ops (J := fun a w266 => Below w0.heap.size w0 w266 ∧ w236.heap.size ≤ w266.heap.size ∧ Box w266 b1 26 #[(.int .i64 s112.2.2.2.2.1), (.int .i64 s112.2.2.2.2.2)] ∧ Box w266 b225 31 #[(.int .u8 (IntKind.u8.wrap (x223))), (.int .i64 1), (.bool j81)] ∧ Gv.Own (iE .i64) 3 w266 (fun _ => False) a74 c75 j22 ∧ Gv.Own (prE (iE .u8) (prE (iE .i64) tE)) 31 w266 (fun _ => False) a116 c117 s112.2.1 ∧ a.defers = [] ∧ a.tmps.size = 172 ∧ Ok [(3, (bp b1)), (4, (.slice a74 (List.length j22) c75)), (6, (.int .i64 s112.1)), (7, (.bool j81)), (8, (.slice a116 (List.length s112.2.1) c117)), (9, (.bool (s112.2.2.1 || (decide (j235 > 100))))), (10, (.bool s112.2.2.2.1)), (11, (.int .i64 j235)), (12, (.int .i64 r127.2)), (13, (bp b225)), (142, (.bool j265))] a.tmps) ?_ ?_
             ·skip
              refine gv_pureN 1 [135] [(135, (bp b225))] (by kernel_rfl) ?_
              refine gv_load (t := 5) (A := ⟨b225, 0, none⟩) (.int .u8 (IntKind.u8.wrap (x223))) [] (fun e => by cases e) rfl rfl rfl (by kernel_rfl) (by kernel_rfl) (by kernel_rfl) (inw0 (hb259.cell 0 rfl)) rfl ?_
              refine gv_pureN 2 [137, 138] [(138, (.bool ((IntKind.u8.wrap (x223)) == 115)))] (by kernel_rfl) ?_
              refine gv_split (s := 138) (g := ((IntKind.u8.wrap (x223)) == 115)) (by kernel_rfl) (fun hc267 => ?_) (fun hc267 => ?_)
              ·skip
               replace h3 := ite_t hc267 h3
               refine gv_pureN 4 [139, 140, 141, 142] [(142, (.bool true))] (by kernel_rfl) ?_
               refine gv_nil ?_
               have e := sj h3; subst e
               refine gv_goal fun a hd hs hok => ?_
               exact ⟨hB256, (Nat.le_refl _), hb258, hb259, hk260, hk261, hd, hs, ok_pick [3, 4, 6, 7, 8, 9, 10, 11, 12, 13, 142] hok (by kernel_rfl)⟩
              ·skip
               replace h3 := ite_f hc267 h3
               refine gv_pureN 1 [139] [(139, (bp b225))] (by kernel_rfl) ?_
               refine gv_load (t := 5) (A := ⟨b225, 0, none⟩) (.int .u8 (IntKind.u8.wrap (x223))) [] (fun e => by cases e) rfl rfl rfl (by kernel_rfl) (by kernel_rfl) (by kernel_rfl) (inw0 (hb259.cell 0 rfl)) rfl ?_
               refine gv_pureN 2 [141, 142] [(142, (.bool ((IntKind.u8.wrap (x223)) == 120)))] (by kernel_rfl) ?_
               refine gv_nil ?_
               have e := sj h3; subst e
               refine gv_goal fun a hd hs hok => ?_
               exact ⟨hB256, (Nat.le_refl _), hb258, hb259, hk260, hk261, hd, hs, ok_pick [3, 4, 6, 7, 8, 9, 10, 11, 12, 13, 142] hok (by kernel_rfl)⟩
             ·rintro a w266 ⟨hB268, hz269, hb270, hb271, hk272, hk273, hd, hs, hok⟩
              refine gv_in ?_ hd hs hok
              clear hd hs hok
              have hz274 := (nt hz262 hz269)
              clear hz269 hz262 hk261 hk260 hb259 hb258 hB256
              refine bindE h2 ?_; clear h2; intro j275 h3 h2
              refine gv_cut_code (J := fun a w276 => Below w0.heap.size w0 w276 ∧ w266.heap.size ≤ w276.heap.size ∧ Box w276 b1 26 #[(.int .i64 s112.2.2.2.2.1), (.int .i64 s112.2.2.2.2.2)] ∧ Box w276 b225 31 #[(.int .u8 j275.2.1), (.int .i64 j275.2.2.1), (.bool j275.2.2.2)] ∧ Gv.Own (iE .i64) 3 w276 (fun _ => False) a74 c75 j22 ∧ Gv.Own (prE (iE .u8) (prE (iE .i64) tE)) 31 w276 (fun _ => False) a116 c117 s112.2.1 ∧ a.defers = [] ∧ a.tmps.size = 172 ∧ Ok [(3, (bp b1)), (4, (.slice a74 (List.length j22) c75)), (6, (.int .i64 s112.1)), (7, (.bool j81)), (8, (.slice a116 (List.length s112.2.1) c117)), (9, (.bool (s112.2.2.1 || (decide (j235 > 100))))), (10, (.bool s112.2.2.2.1)), (11, (.int .i64 j275.1)), (12, (.int .i64 r127.2)), (13, (bp b225))] a.tmps) ?_ ?_
              ·skip
               refine gv_cond (b := j265) (by kernel_rfl) (fun hc277 => ?_) (fun hc277 => ?_)
               ·replace h3 := ite_t hc277 h3
                refine gv_region <| gv_pureN 2 [143, 144] [(143, (.int .i64 j235)), (144, (.pointer (some ⟨b225, 1, none⟩)))] (by kernel_rfl) ?_
                refine gv_store0 3 1 (.int .i64 j235) #[(.int .u8 (IntKind.u8.wrap (x223))), (.int .i64 j235), (.bool j81)] hb271 (by kernel_rfl) (by kernel_rfl) (by kernel_rfl) ?_
                intro w278 hg279 hb280 hz281
                refine gv_pureN 1 [11] [(11, (.int .i64 1))] (by kernel_rfl) ?_
                refine gv_nil ?_
                have e := sj h3; subst e
                refine gv_goal fun a hd hs hok => ?_
                have hlo282 : w0.heap.size ≤ b225 := lob hbe229 hB203.size
                have hB283 := bg hB268 hg279 (rowlo hlo282)
                have hz284 := hg279.size
                have lt285 := ltl ((ltb hb205) _ rfl) ((lowb hbe229) _ rfl)
                have hk286 := hb270.grown hg279 (rowne (ng lt285))
                have ap287 : ¬ (fun k => blk a74 = some k) b225 := fun hx => nl ((lowb hbe229) _ rfl) ((fun k (hk : blk a74 = some k) => hk206.lt k hk) _ hx)
                have hk288 := hk272.grown hg279 (fun _ h => h.elim) (rdnn (rowne ap287))
                have ap289 : ¬ (fun k => blk a116 = some k) b225 := fun hx => nl ((lowb hbe229) _ rfl) ((fun k (hk : blk a116 = some k) => hk207.lt k hk) _ hx)
                have hk290 := hk273.grown hg279 (fun _ h => h.elim) (rdnn (rowne ap289))
                exact ⟨hB283, hz284, hk286, hb280, hk288, hk290, hd, hs, ok_pick [3, 4, 6, 7, 8, 9, 10, 11, 12, 13] hok (by kernel_rfl)⟩
               ·replace h3 := ite_f hc277 h3
                refine gv_skip ?_
                have e := sj h3; subst e
                refine gv_goal fun a hd hs hok => ?_
                exact ⟨hB268, (Nat.le_refl _), hb270, hb271, hk272, hk273, hd, hs, ok_pick [3, 4, 6, 7, 8, 9, 10, 11, 12, 13] hok (by kernel_rfl)⟩
              ·rintro a w276 ⟨hB291, hz292, hb293, hb294, hk295, hk296, hd, hs, hok⟩
               refine gv_in ?_ hd hs hok
               clear hd hs hok
               have hz297 := (nt hz274 hz292)
               clear hz292 hz274 hk273 hk272 hb271 hb270 hB268
               refine gv_seq <| bindE h2 ?_; clear h2; intro j298 h3 h2
               refine gv_cut_code (J := fun a w299 => ∃ (a8_0j : Option Addr) (c8_0j : Nat), Below w0.heap.size w0 w299 ∧ w276.heap.size ≤ w299.heap.size ∧ Gv.Own (prE (iE .u8) (prE (iE .i64) tE)) 31 w299 (fun _ => False) a8_0j c8_0j j298.1 ∧ (∀ g, blk a8_0j = some g → w0.heap.size ≤ g) ∧ (∀ g, blk a8_0j = some g → ¬ (· = b1) g) ∧ (∀ g, blk a8_0j = some g → ¬ (fun k => blk a74 = some k) g) ∧ ¬ (fun k => blk a8_0j = some k) b1 ∧ (∀ g, blk a74 = some g → ¬ (fun k => blk a8_0j = some k) g) ∧ Box w299 b1 26 #[(.int .i64 s112.2.2.2.2.1), (.int .i64 s112.2.2.2.2.2)] ∧ Gv.Own (iE .i64) 3 w299 (fun _ => False) a74 c75 j22 ∧ a.defers = [] ∧ a.tmps.size = 172 ∧ Ok [(3, (bp b1)), (4, (.slice a74 (List.length j22) c75)), (6, (.int .i64 s112.1)), (7, (.bool j81)), (8, (.slice a8_0j (List.length j298.1) c8_0j)), (9, (.bool (s112.2.2.1 || (decide (j235 > 100))))), (10, (.bool j298.2)), (12, (.int .i64 r127.2))] a.tmps) ?_ ?_
               ·skip
                refine gv_block <| gv_loop (A := fun (s300 : ((List (Int × Int × Bool)) × Bool × Int)) a w301 => ∃ (a8_0j : Option Addr) (c8_0j : Nat), Below w0.heap.size w0 w301 ∧ w276.heap.size ≤ w301.heap.size ∧ Gv.Own (prE (iE .u8) (prE (iE .i64) tE)) 31 w301 (fun _ => False) a8_0j c8_0j s300.1 ∧ (∀ g, blk a8_0j = some g → w0.heap.size ≤ g) ∧ (∀ g, blk a8_0j = some g → ¬ (· = b1) g) ∧ (∀ g, blk a8_0j = some g → ¬ (· = b225) g) ∧ (∀ g, blk a8_0j = some g → ¬ (fun k => blk a74 = some k) g) ∧ ¬ (fun k => blk a8_0j = some k) b1 ∧ ¬ (fun k => blk a8_0j = some k) b225 ∧ (∀ g, blk a74 = some g → ¬ (fun k => blk a8_0j = some k) g) ∧ Box w301 b1 26 #[(.int .i64 s112.2.2.2.2.1), (.int .i64 s112.2.2.2.2.2)] ∧ Box w301 b225 31 #[(.int .u8 j275.2.1), (.int .i64 j275.2.2.1), (.bool j275.2.2.2)] ∧ Gv.Own (iE .i64) 3 w301 (fun _ => False) a74 c75 j22 ∧ a.defers = [] ∧ a.tmps.size = 172 ∧ Ok [(3, (bp b1)), (4, (.slice a74 (List.length j22) c75)), (6, (.int .i64 s112.1)), (7, (.bool j81)), (8, (.slice a8_0j (List.length s300.1) c8_0j)), (9, (.bool (s112.2.2.1 || (decide (j235 > 100))))), (10, (.bool s300.2.1)), (11, (.int .i64 s300.2.2)), (12, (.int .i64 r127.2)), (13, (bp b225))] a.tmps) h3 ?_ ?_
                ·intro a hd hs hok
                 have ap302 : ∀ g, blk a116 = some g → ¬ (· = b225) g := fun g e hx => nl ((lowb hbe229) _ hx) ((fun k (hk : blk a116 = some k) => hk207.lt k hk) g e)
                 have ap303 : ¬ (fun k => blk a116 = some k) b225 := fun hx => nl ((lowb hbe229) _ rfl) ((fun k (hk : blk a116 = some k) => hk207.lt k hk) _ hx)
                 exact ⟨a116, c117, hB291, (Nat.le_refl _), hk296, hl119, ap120, ap302, ap121, ap122, ap303, ap123, hb293, hb294, hk295, hd, hs, ok_pick [3, 4, 6, 7, 8, 9, 10, 11, 12, 13] hok (by kernel_rfl)⟩
                ·rintro s300 r4 h4 hR4 a w301 ⟨a306, c307, hB304, hz305, ho308, hl309, ap310, ap311, ap312, ap313, ap314, ap315, hb316, hb317, hk318, hd, hs, hok⟩
                 refine gv_in ?_ hd hs hok
                 clear hd hs hok
                 clear hk296 hk295 hb294 hb293 hB291 hk207 ap123 ap122 ap121 ap120 hl119
                 refine gv_seq <| gv_seq <| gv_region <| gv_cut_ops (J := fun a w319 => w301 = w319 ∧ a.defers = [] ∧ a.tmps.size = 172 ∧ Ok [(3, (bp b1)), (4, (.slice a74 (List.length j22) c75)), (6, (.int .i64 s112.1)), (7, (.bool j81)), (8, (.slice a306 (List.length s300.1) c307)), (9, (.bool (s112.2.2.1 || (decide (j235 > 100))))), (10, (.bool s300.2.1)), (11, (.int .i64 s300.2.2)), (12, (.int .i64 r127.2)), (13, (bp b225)), (150, (.bool ((decide (s300.2.2 > 0)) && (!(s112.2.2.1 || (decide (j235 > 100)))))))] a.tmps) ?_ ?_
                 ·skip
                  refine gv_pureN 3 [145, 146, 147] [(147, (.bool (decide (s300.2.2 > 0))))] (by kernel_rfl) ?_
                  refine gv_split (s := 147) (g := (decide (s300.2.2 > 0))) (by kernel_rfl) (fun hc320 => ?_) (fun hc320 => ?_)
                  ·skip
                   refine gv_pureN 3 [148, 149, 150] [(150, (.bool (!(s112.2.2.1 || (decide (j235 > 100))))))] (by kernel_rfl) ?_
                   refine gv_nil <| gv_sub [3, 4, 6, 7, 8, 9, 10, 11, 12, 13, 150] (σ' := [(3, (bp b1)), (4, (.slice a74 (List.length j22) c75)), (6, (.int .i64 s112.1)), (7, (.bool j81)), (8, (.slice a306 (List.length s300.1) c307)), (9, (.bool (s112.2.2.1 || (decide (j235 > 100))))), (10, (.bool s300.2.1)), (11, (.int .i64 s300.2.2)), (12, (.int .i64 r127.2)), (13, (bp b225)), (150, (.bool (!(s112.2.2.1 || (decide (j235 > 100))))))]) (by kernel_rfl) ?_
                   refine gv_goal fun a hd hs hok => ⟨rfl, hd, hs, ?_⟩
                   obtain ⟨q3, q4, q6, q7, q8, q9, q10, q11, q12, q13, q150, _⟩ := hok
                   exact ⟨q3, q4, q6, q7, q8, q9, q10, q11, q12, q13, (by rw [hc320]; exact q150), trivial⟩
                  ·skip
                   refine gv_pureN 3 [148, 149, 150] [(150, (.bool false))] (by kernel_rfl) ?_
                   refine gv_nil <| gv_sub [3, 4, 6, 7, 8, 9, 10, 11, 12, 13, 150] (σ' := [(3, (bp b1)), (4, (.slice a74 (List.length j22) c75)), (6, (.int .i64 s112.1)), (7, (.bool j81)), (8, (.slice a306 (List.length s300.1) c307)), (9, (.bool (s112.2.2.1 || (decide (j235 > 100))))), (10, (.bool s300.2.1)), (11, (.int .i64 s300.2.2)), (12, (.int .i64 r127.2)), (13, (bp b225)), (150, (.bool false))]) (by kernel_rfl) ?_
                   refine gv_goal fun a hd hs hok => ⟨rfl, hd, hs, ?_⟩
                   obtain ⟨q3, q4, q6, q7, q8, q9, q10, q11, q12, q13, q150, _⟩ := hok
                   exact ⟨q3, q4, q6, q7, q8, q9, q10, q11, q12, q13, (by rw [hc320]; exact q150), trivial⟩
                 ·rintro a w319 ⟨e, hd, hs, hok⟩; subst e
                  refine gv_in ?_ hd hs hok
                  clear hd hs hok
                  refine gv_cond (b := ((decide (s300.2.2 > 0)) && (!(s112.2.2.1 || (decide (j235 > 100)))))) (by kernel_rfl) (fun hc321 => ?_) (fun hc321 => ?_)
                  ·replace h4 := ite_t hc321 h4
                   refine gv_skip <| gv_seq <| gv_block <| gv_seq <| gv_seq <| gv_region <| gv_pureN 3 [153, 154, 155] [(155, (.bool (decide (((List.length s300.1 : Nat) : Int) ≥ 100))))] (by kernel_rfl) ?_
                   refine gv_nil <| gv_cond (b := (decide (((List.length s300.1 : Nat) : Int) ≥ 100))) (by kernel_rfl) (fun hc322 => ?_) (fun hc322 => ?_)
                   ·replace h4 := ite_t hc322 h4
                    refine gv_seq <| gv_region <| gv_pureN 1 [10] [(10, (.bool true))] (by kernel_rfl) ?_
                    refine gv_nil <| gv_cexit <| gv_exit rfl ?_
                    have e := sj h4; subst e
                    replace h3 := congrArg some (hR4 _ rfl)
                    have e := sj h3; subst e
                    refine gv_goal fun a hd hs hok => ?_
                    have hz323 := hz305
                    exact ⟨a306, c307, hB304, hz323, ho308, hl309, ap310, ap312, ap313, ap315, hb316, hk318, hd, hs, ok_pick [3, 4, 6, 7, 8, 9, 10, 12] hok (by kernel_rfl)⟩
                   ·replace h4 := ite_f hc322 h4
                    refine gv_skip <| gv_region <| gv_pureN 1 [156] [(156, (.slice a306 (List.length s300.1) c307))] (by kernel_rfl) ?_
                    refine gv_loadBox (t := 31) (b := b225) (t' := 31) (fr := (0, 0)) #[(.int .u8 j275.2.1), (.int .i64 j275.2.2.1), (.bool j275.2.2.2)] [] (fun e => by cases e) rfl rfl rfl (by kernel_rfl) (by kernel_rfl) (by kernel_rfl) (by kernel_rfl) (inw0 hb317) rfl ?_
                    refine gv_new0 (fun b => .slice (some ⟨b, 0, none⟩) 1 1) #[(.int .u8 j275.2.1), (.int .i64 j275.2.2.1), (.bool j275.2.2.2)] 31 (by kernel_rfl) (by kernel_rfl) ?_
                    intro b324 w325 hg326 hb327 hbe328 hz329
                    have ho330 : Gv.Own (prE (iE .u8) (prE (iE .i64) tE)) 31 w325 (fun _ => False) (some ⟨b324, 0, none⟩) 1 ([(j275.2.1, j275.2.2.1, j275.2.2.2)] : List (Int × Int × Bool)) := Box.ownE hb327 ⟨[(.int .u8 j275.2.1), (.int .i64 j275.2.2.1), (.bool j275.2.2.2)], [], rfl, ⟨[(.int .u8 j275.2.1)], [(.int .i64 j275.2.2.1), (.bool j275.2.2.2)], rfl, rfl, ⟨[(.int .i64 j275.2.2.1)], [(.bool j275.2.2.2)], rfl, rfl, rfl⟩⟩, rfl⟩ (show 1 ≤ maxLen by decide) (fun h => h)
                    have hl331 : ∀ g, blk (some ⟨b324, 0, none⟩) = some g → w0.heap.size ≤ g := loo hbe328 hB304.size
                    refine bindE h4 ?_; clear h4; intro l335 hx336 h4
                    have hk343 := ho308.grown hg326 (fun _ h => h.elim) nb
                    refine gv_append (prE (iE .u8) (prE (iE .i64) tE)) (t := 22) (ty := 22) (e := 31) (a := a306) (ax := (some ⟨b324, 0, none⟩)) (cap := c307) (cx := 1) (xs := s300.1) (ys := ([(j275.2.1, j275.2.2.1, j275.2.2.2)] : List (Int × Int × Bool))) l335 (X := (fun _ => False)) (Y := (fun k => blk (some ⟨b324, 0, none⟩) = some k)) (by decide) rfl rfl (by kernel_rfl) (by kernel_rfl) Tryd.underlying22 info31 hk343 (ho330.rd (Y := fun k => blk (some ⟨b324, 0, none⟩) = some k) (fun _ h => h.elim) (fun g e => e)) hx336 (.inr (rf_pr rf_flat (rf_pr rf_flat rf_flat))) (fun _ h => h.elim) ?_
                    intro a337 c338 w339 hg340 ho341 hk342
                    refine ⟨(fun e => by cases e), ?_⟩
                    have hB345 := bg hB304 hg326 nb
                    have hl344 : ∀ g, blk a337 = some g → w0.heap.size ≤ g := blk_step hk342 hl309 hB345.size
                    have hk347 := hb316.grown hg326 nb
                    have ap346 : ∀ g, blk a337 = some g → ¬ (· = b1) g := blk_neX hk342 ap310 (ltb hk347)
                    have ap348 : ¬ (fun k => blk a337 = some k) b1 := fun h => blk_rev hk342 (fun h => (ap313) h) (hk347.lt) h
                    have hk350 := hb317.grown hg326 nb
                    have ap349 : ∀ g, blk a337 = some g → ¬ (· = b225) g := blk_neX hk342 ap311 (ltb hk350)
                    have ap351 : ¬ (fun k => blk a337 = some k) b225 := fun h => blk_rev hk342 (fun h => (ap314) h) (hk350.lt) h
                    have hk353 := hk318.grown hg326 (fun _ h => h.elim) nb
                    have ap352 : ∀ g, blk a337 = some g → ¬ (fun k => blk a74 = some k) g := blk_neX hk342 ap312 (fun k (hk : blk a74 = some k) => hk353.lt k hk)
                    have ap354 : ∀ g, blk a74 = some g → ¬ (fun k => blk a337 = some k) g := fun g e h => blk_rev hk342 (fun h => ((ap315) g e) h) (hk353.lt g e) h
                    have ap356 : ∀ g, blk a306 = some g → ¬ (fun k => blk (some ⟨b324, 0, none⟩) = some k) g := fun g e hx => nl ((lowo hbe328) _ hx) ((fun k (hk : blk a306 = some k) => ho308.lt k hk) g e)
                    have ap355 : ∀ g, blk a337 = some g → ¬ (fun k => blk (some ⟨b324, 0, none⟩) = some k) g := blk_neX hk342 ap356 (fun k (hk : blk (some ⟨b324, 0, none⟩) = some k) => ho330.lt k hk)
                    have ap358 : ∀ g, blk (some ⟨b324, 0, none⟩) = some g → ¬ (fun k => blk a306 = some k) g := fun g e hx => nl ((lowo hbe328) g e) ((fun k (hk : blk a306 = some k) => ho308.lt k hk) _ hx)
                    have ap357 : ∀ g, blk (some ⟨b324, 0, none⟩) = some g → ¬ (fun k => blk a337 = some k) g := fun g e h => blk_rev hk342 (fun h => ((ap358) g e) h) (ho330.lt g e) h
                    refine gv_pureN 1 [8] [(8, (.slice a337 (List.length l335) c338))] (by kernel_rfl) ?_
                    refine gv_nil <| gv_blk <| gv_region <| gv_pureN 3 [11, 151, 152] [(11, (.int .i64 (IntKind.i64.wrap (s300.2.2 - 1))))] (by kernel_rfl) ?_
                    refine gv_nil ?_
                    have e := sj h4; subst e
                    refine gv_goal fun a hd hs hok => ?_
                    have hB359 := bg hB345 hg340 hl309
                    have hz360 := (nt (nt hz305 hg326.size) hg340.size)
                    have hk361 := hk347.grown hg340 ap310
                    have hk362 := hk350.grown hg340 ap311
                    have hk363 := hk353.grown hg340 (fun _ h => h.elim) (rdnn ap312)
                    exact ⟨(l335, s300.2.1, (IntKind.i64.wrap (s300.2.2 - 1))), rfl, a337, c338, hB359, hz360, ho341, hl344, ap346, ap349, ap352, ap348, ap351, ap354, hk361, hk362, hk363, hd, hs, ok_pick [3, 4, 6, 7, 8, 9, 10, 11, 12, 13] hok (by kernel_rfl)⟩
                  ·replace h4 := ite_f hc321 h4
                   refine gv_cexit <| gv_exit rfl ?_
                   have e := sj h4; subst e
                   replace h3 := congrArg some (hR4 _ rfl)
                   have e := sj h3; subst e
                   refine gv_goal fun a hd hs hok => ?_
                   have hz364 := hz305
                   exact ⟨a306, c307, hB304, hz364, ho308, hl309, ap310, ap312, ap313, ap315, hb316, hk318, hd, hs, ok_pick [3, 4, 6, 7, 8, 9, 10, 12] hok (by kernel_rfl)⟩
               ·rintro a w299 ⟨a367, c368, hB365, hz366, ho369, hl370, ap371, ap372, ap373, ap374, hb375, hk376, hd, hs, hok⟩
                refine gv_in ?_ hd hs hok
                clear hd hs hok
                have hz377 := (nt hz297 hz366)
                clear hz366 hz297 hk296 hk295 hb294 hb293 hB291 hbe229 hk207 hk206 hb205 hB203 ap123 ap122 ap121 ap120 hl119
                refine gv_region <| gv_pureN 5 [6, 160, 161, 162, 163] [(6, (.int .i64 (IntKind.i64.wrap (s112.1 + (IntKind.i64.wrap (r127.2 + 1))))))] (by kernel_rfl) ?_
                refine bindE h2 ?_; clear h2; intro n378 hn379 h2
                refine gv_name (s := 6) (v := (.int .i64 (IntKind.i64.wrap (s112.1 + (IntKind.i64.wrap (r127.2 + 1)))))) (v' := (.int .i64 n378)) (by kernel_rfl) (congrArg (Value.int .i64) (sj hn379)) ?_
                refine gv_nil <| gv_blk ?_
                have e := sj h2; subst e
                refine gv_goal fun a hd hs hok => ?_
                have hz380 := hz377
                exact ⟨(n378, j298.1, (s112.2.2.1 || (decide (j235 > 100))), j298.2, (s112.2.2.2.2.1, s112.2.2.2.2.2)), rfl, a367, c368, hB365, hz380, ho369, hl370, ap371, ap372, ap373, ap374, hb375, hk376, hd, hs, ok_pick [3, 4, 6, 7, 8, 9, 10] hok (by kernel_rfl)⟩
        ·replace h2 := ite_f hc126 h2
         refine gv_cexit <| gv_exit rfl ?_
         have e := sj h2; subst e
         replace h1 := congrArg some (hR2 _ rfl)
         have e := sj h1; subst e
         refine gv_goal fun a hd hs hok => ?_
         have hz381 := hz115
         exact ⟨(s112.2.1, s112.2.2.1, s112.2.2.2.1, (s112.2.2.2.2.1, s112.2.2.2.2.2)), rfl, a116, c117, hB114, hz381, ho118, hl119, ap120, ap122, hb124, hd, hs, ok_pick [3, 8, 9, 10] hok (by kernel_rfl)⟩
      ·rintro a w111 ⟨s110, e, a384, c385, hB382, hz383, ho386, hl387, ap388, ap389, hb390, hd, hs, hok⟩
       subst e
       refine gv_in ?_ hd hs hok
       clear hd hs hok
       replace h0 := cont_inl h0
       clear hz383 hk108 hb107 hB105 ap79 ap78 hl77
       refine gv_seq <| gv_block <| gv_seq <| gv_region <| gv_pureN 2 [164, 165] [(164, (.bool s110.2.1))] (by kernel_rfl) ?_
       refine gv_nil <| gv_cond (b := s110.2.1) (by kernel_rfl) (fun hc391 => ?_) (fun hc391 => ?_)
       ·replace h0 := ite_t hc391 h0
        refine gv_seq <| gv_region <| bindE h0 ?_; clear h0; intro r392 hr393 h0
        refine gv_call0 (by kernel_rfl) rfl (by kernel_rfl) enters19 (ref4_At_ok fuel 4 (-1) w111  r392 hr393) ?_
        rintro v396 w394 ⟨hg395, rfl⟩
        clear hr393 hc391 ap389 ap388 hl387 ho386
        refine gv_pureN 1 [2] [(2, (.slice none (List.length ([] : List (Int × Int × Bool))) 0))] (by kernel_rfl) ?_
        have hk401 := hb390.grown hg395 nb
        refine gv_store0 26 0 (.agg #[(.int .i64 r392.1), (.int .i64 r392.2)]) #[(.int .i64 r392.1), (.int .i64 r392.2)] hk401 (by kernel_rfl) (by kernel_rfl) (by kernel_rfl) ?_
        intro w397 hg398 hb399 hz400
        refine gv_nil <| gv_cret ?_
        have e := sj h0; subst e
        refine gv_ret (gv_done [(.slice none (List.length ([] : List (Int × Int × Bool))) 0), (.agg #[(.int .i64 r392.1), (.int .i64 r392.2)])] rfl ⟨(by kernel_rfl), ⟨⟨b1, 0, none⟩, (by kernel_rfl), run_loadVar_row w397 b1 _ 26 _ _ _ hb399 Tryd.underlying26 rfl (by kernel_rfl)⟩, trivial⟩ ?_)
        have hB402 := bg hB382 hg395 nb
        have hlo403 : w0.heap.size ≤ b1 := lob hbe5 hB0.size
        have hB404 := bg hB402 hg398 (rowlo hlo403)
        exact ⟨grown_of_below hB404, none, 0, rfl, (Gv.Own.nil (prE (iE .u8) (prE (iE .i64) tE)) 31 w397 (fun _ => False)), (fun _ h => by cases h)⟩
       ·replace h0 := ite_f hc391 h0
        refine gv_seq <| gv_region <| gv_pureN 2 [167, 168] [(167, (.bool s110.2.2.1))] (by kernel_rfl) ?_
        refine gv_nil <| gv_cond (b := s110.2.2.1) (by kernel_rfl) (fun hc405 => ?_) (fun hc405 => ?_)
        ·replace h0 := ite_t hc405 h0
         refine gv_seq <| gv_region <| bindE h0 ?_; clear h0; intro r406 hr407 h0
         refine gv_call0 (by kernel_rfl) rfl (by kernel_rfl) enters19 (ref4_At_ok fuel 2 (-1) w111  r406 hr407) ?_
         rintro v410 w408 ⟨hg409, rfl⟩
         refine gv_pureN 1 [2] [(2, (.slice none (List.length ([] : List (Int × Int × Bool))) 0))] (by kernel_rfl) ?_
         have hk415 := hb390.grown hg409 nb
         refine gv_store0 26 0 (.agg #[(.int .i64 r406.1), (.int .i64 r406.2)]) #[(.int .i64 r406.1), (.int .i64 r406.2)] hk415 (by kernel_rfl) (by kernel_rfl) (by kernel_rfl) ?_
         intro w411 hg412 hb413 hz414
         refine gv_nil <| gv_cret ?_
         have e := sj h0; subst e
         refine gv_ret (gv_done [(.slice none (List.length ([] : List (Int × Int × Bool))) 0), (.agg #[(.int .i64 r406.1), (.int .i64 r406.2)])] rfl ⟨(by kernel_rfl), ⟨⟨b1, 0, none⟩, (by kernel_rfl), run_loadVar_row w411 b1 _ 26 _ _ _ hb413 Tryd.underlying26 rfl (by kernel_rfl)⟩, trivial⟩ ?_)
         have hB416 := bg hB382 hg409 nb
         have hlo417 : w0.heap.size ≤ b1 := lob hbe5 hB0.size
         have hB418 := bg hB416 hg412 (rowlo hlo417)
         exact ⟨grown_of_below hB418, none, 0, rfl, (Gv.Own.nil (prE (iE .u8) (prE (iE .i64) tE)) 31 w411 (fun _ => False)), (fun _ h => by cases h)⟩
        ·replace h0 := ite_f hc405 h0
         refine gv_skip <| gv_blk <| gv_seq <| gv_region <| gv_pureN 3 [2, 170, 171] [(2, (.slice a384 (List.length s110.1) c385)), (171, (.agg #[(.int .i64 0), (.int .i64 0)]))] (by kernel_rfl) ?_
         refine gv_store0 26 0 (.agg #[(.int .i64 0), (.int .i64 0)]) #[(.int .i64 0), (.int .i64 0)] hb390 (by kernel_rfl) (by kernel_rfl) (by kernel_rfl) ?_
         intro w419 hg420 hb421 hz422
         refine gv_nil <| gv_cret ?_
         have e := sj h0; subst e
         refine gv_ret (gv_done [(.slice a384 (List.length s110.1) c385), (.agg #[(.int .i64 0), (.int .i64 0)])] rfl ⟨(by kernel_rfl), ⟨⟨b1, 0, none⟩, (by kernel_rfl), run_loadVar_row w419 b1 _ 26 _ _ _ hb421 Tryd.underlying26 rfl (by kernel_rfl)⟩, trivial⟩ ?_)
         have hlo423 : w0.heap.size ≤ b1 := lob hbe5 hB0.size
         have hB424 := bg hB382 hg420 (rowlo hlo423)
         have hk425 := ho386.grown hg420 (fun _ h => h.elim) (rdnn (rowne ap389))
         exact ⟨grown_of_below hB424, a384, c385, rfl, hk425, hl387⟩

theorem ref4_FieldsFault_ok (fuel : Nat) (pa0_0 : Option Addr) (pc0_0 : Nat) (l_0 : (List (Int × Int × Bool))) (w0 : World) (X0 : Nat → Prop) (hX0 : ∀ k, X0 k → k < w0.heap.size) (hpa0_0 : Rd (prE (iE .u8) (prE (iE .i64) tE)) w0 X0 pa0_0 pc0_0 l_0) (r0 : (Int × Int)) (h0 : ref4_FieldsFault fuel l_0 = some r0) :
    Calls Tryd.prog 13 ([(.slice pa0_0 (List.length l_0) pc0_0)] : List Value).toArray w0 (Ret fun v w' => w0.grownBy w' none ∧ v = tup [(.agg #[(.int .i64 r0.1), (.int .i64 r0.2)])]) := by
 have hB0 : Below w0.heap.size w0 w0 := Below.refl _ _
 unfold ref4_FieldsFault at h0
 refine calls_run Tryd.func13 rfl Tryd.ntmps13 (by kernel_rfl) ?_
 refine gv_sub [0] (σ' := [(0, (.slice pa0_0 (List.length l_0) pc0_0))]) (by kernel_rfl) ?_
 refine gv_seq <| gv_region <| gv_new0 (fun b => .pointer (some ⟨b, 0, none⟩)) #[(.int .i64 0), (.int .i64 0)] 26 (by kernel_rfl) (by kernel_rfl) ?_
 intro b1 w2 hg3 hb4 hbe5 hz6
 refine gv_nil <| gv_seq <| gv_seq <| gv_region <| gv_pureN 3 [5, 6, 7] [(7, (.bool (decide (((List.length l_0 : Nat) : Int) > 100))))] (by kernel_rfl) ?_
 refine gv_nil <| gv_cond (b := (decide (((List.length l_0 : Nat) : Int) > 100))) (by kernel_rfl) (fun hc7 => ?_) (fun hc7 => ?_)
 ·replace h0 := ite_t hc7 h0
  refine gv_seq <| gv_region <| bindE h0 ?_; clear h0; intro r8 hr9 h0
  refine gv_call0 (by kernel_rfl) rfl (by kernel_rfl) enters19 (ref4_At_ok fuel 2 (-1) w2  r8 hr9) ?_
  rintro v12 w10 ⟨hg11, rfl⟩
  have hk17 := hb4.grown hg11 nb
  refine gv_store0 26 0 (.agg #[(.int .i64 r8.1), (.int .i64 r8.2)]) #[(.int .i64 r8.1), (.int .i64 r8.2)] hk17 (by kernel_rfl) (by kernel_rfl) (by kernel_rfl) ?_
  intro w13 hg14 hb15 hz16
  refine gv_nil <| gv_cret ?_
  have e := sj h0; subst e
  refine gv_ret (gv_done [(.agg #[(.int .i64 r8.1), (.int .i64 r8.2)])] rfl ⟨⟨⟨b1, 0, none⟩, (by kernel_rfl), run_loadVar_row w13 b1 _ 26 _ _ _ hb15 Tryd.underlying26 rfl (by kernel_rfl)⟩, trivial⟩ ?_)
  have hg18 := (grown_trans hg3 hg11)
  have hB19 := bg hB0 hg18 nb
  have hlo20 : w0.heap.size ≤ b1 := lob hbe5 hB0.size
  have hB21 := bg hB19 hg14 (rowlo hlo20)
  exact ⟨grown_of_below hB21, rfl⟩
 ·replace h0 := ite_f hc7 h0
  refine gv_skip <| gv_seq <| gv_seq <| gv_region <| gv_pureN 1 [3] [(3, (.int .i64 0))] (by kernel_rfl) ?_
  refine gv_nil <| bindE h0 ?_; clear h0; intro j22 h1 h0
  refine gv_cut_code (J := fun a w24 => ∃ s23 : (Int × Int), j22 = .inl s23 ∧ Below w0.heap.size w0 w24 ∧ w2.heap.size ≤ w24.heap.size ∧ Box w24 b1 26 #[(.int .i64 s23.1), (.int .i64 s23.2)] ∧ a.defers = [] ∧ a.tmps.size = 93 ∧ Ok [(2, (bp b1))] a.tmps) ?_ ?_
  ·skip
   refine gv_block <| gv_loop (A := fun (s25 : (Int × (Int × Int))) a w26 => Below w0.heap.size w0 w26 ∧ w2.heap.size ≤ w26.heap.size ∧ Box w26 b1 26 #[(.int .i64 s25.2.1), (.int .i64 s25.2.2)] ∧ a.defers = [] ∧ a.tmps.size = 93 ∧ Ok [(0, (.slice pa0_0 (List.length l_0) pc0_0)), (2, (bp b1)), (3, (.int .i64 s25.1))] a.tmps) h1 ?_ ?_
   ·intro a hd hs hok
    have hB27 := bg hB0 hg3 nb
    exact ⟨hB27, (Nat.le_refl _), hb4, hd, hs, ok_pick [0, 2, 3] hok (by kernel_rfl)⟩
   ·rintro s25 r2 h2 hR2 a w26 ⟨hB28, hz29, hb30, hd, hs, hok⟩
    refine gv_in ?_ hd hs hok
    clear hd hs hok
    clear hc7 hz6 hb4 hg3
    refine gv_seq <| gv_seq <| gv_region <| gv_pureN 4 [9, 10, 11, 12] [(12, (.bool (decide (s25.1 < ((List.length l_0 : Nat) : Int)))))] (by kernel_rfl) ?_
    refine gv_nil <| gv_cond (b := (decide (s25.1 < ((List.length l_0 : Nat) : Int)))) (by kernel_rfl) (fun hc31 => ?_) (fun hc31 => ?_)
    ·replace h2 := ite_t hc31 h2
     refine gv_skip <| gv_seq <| gv_block <| gv_seq <| gv_region <| bindE h2 ?_; clear h2; intro j32 h3 h2
     refine gv_cut_ops (J := fun a w33 => Below w0.heap.size w0 w33 ∧ w26.heap.size ≤ w33.heap.size ∧ Box w33 b1 26 #[(.int .i64 s25.2.1), (.int .i64 s25.2.2)] ∧ a.defers = [] ∧ a.tmps.size = 93 ∧ Ok [(0, (.slice pa0_0 (List.length l_0) pc0_0)), (2, (bp b1)), (3, (.int .i64 s25.1)), (4, (.bool j32))] a.tmps) ?_ ?_
     ·skip
      refine gv_pureN 2 [15, 16] [(15, (.slice pa0_0 (List.length l_0) pc0_0)), (16, (.int .i64 s25.1))] (by kernel_rfl) ?_
      refine bindE h3 ?_; clear h3; intro x34 hx35 h3
      refine gv_idxaddr (t := 22) (e := 31) (a := pa0_0) (len := List.length l_0) (cap := pc0_0) (kk := .i64) (i := s25.1) (sz := 3) [] (fun e => by cases e) rfl rfl rfl (by kernel_rfl) (by kernel_rfl) Tryd.underlying22 (by kernel_rfl) ((hpa0_0.below hB28 hX0).has hx35) (idx_spec hx35).1 (idx_spec hx35).2.1 rfl ?_
      refine gv_pureN 1 [18] [(18, (.pointer (some (elemAddr pa0_0 ((s25.1 : Int).toNat * 3)))))] (by kernel_rfl) ?_
      obtain ⟨_, ⟨_, _, rfl, rfl, ⟨_, _, rfl, rfl, rfl⟩⟩, hc36⟩ := hpa0_0.cellsK hx35
      refine gv_load (t := 5) (A := (elemAddr pa0_0 ((s25.1 : Int).toNat * 3))) (.int .u8 x34.1) [] (fun e => by cases e) rfl rfl rfl (by kernel_rfl) (by kernel_rfl) (by kernel_rfl) (inw0 ((hc36 w26 (fun k hk => hB28.block k (hX0 k hk))).zero rfl)) rfl ?_
      refine gv_pureN 2 [20, 21] [(21, (.bool (x34.1 == 115)))] (by kernel_rfl) ?_
      refine gv_split (s := 21) (g := (x34.1 == 115)) (by kernel_rfl) (fun hc37 => ?_) (fun hc37 => ?_)
      ·skip
       replace h3 := ite_t hc37 h3
       refine gv_pureN 8 [4, 22, 23, 24, 25, 26, 27, 28] [(4, (.bool true))] (by kernel_rfl) ?_
       refine gv_nil ?_
       have e := sj h3; subst e
       refine gv_goal fun a hd hs hok => ?_
       exact ⟨hB28, (Nat.le_refl _), hb30, hd, hs, ok_pick [0, 2, 3, 4] hok (by kernel_rfl)⟩
      ·skip
       replace h3 := ite_f hc37 h3
       refine gv_pureN 2 [22, 23] [(22, (.slice pa0_0 (List.length l_0) pc0_0)), (23, (.int .i64 s25.1))] (by kernel_rfl) ?_
       refine bindE h3 ?_; clear h3; intro x38 hx39 h3
       refine gv_idxaddr (t := 22) (e := 31) (a := pa0_0) (len := List.length l_0) (cap := pc0_0) (kk := .i64) (i := s25.1) (sz := 3) [] (fun e => by cases e) rfl rfl rfl (by kernel_rfl) (by kernel_rfl) Tryd.underlying22 (by kernel_rfl) ((hpa0_0.below hB28 hX0).has hx39) (idx_spec hx39).1 (idx_spec hx39).2.1 rfl ?_
       refine gv_pureN 1 [25] [(25, (.pointer (some (elemAddr pa0_0 ((s25.1 : Int).toNat * 3)))))] (by kernel_rfl) ?_
       obtain ⟨_, ⟨_, _, rfl, rfl, ⟨_, _, rfl, rfl, rfl⟩⟩, hc40⟩ := hpa0_0.cellsK hx39
       refine gv_load (t := 5) (A := (elemAddr pa0_0 ((s25.1 : Int).toNat * 3))) (.int .u8 x38.1) [] (fun e => by cases e) rfl rfl rfl (by kernel_rfl) (by kernel_rfl) (by kernel_rfl) (inw0 ((hc40 w26 (fun k hk => hB28.block k (hX0 k hk))).zero rfl)) rfl ?_
       refine gv_pureN 3 [4, 27, 28] [(4, (.bool (x38.1 == 120)))] (by kernel_rfl) ?_
       refine gv_nil ?_
       have e := sj h3; subst e
       refine gv_goal fun a hd hs hok => ?_
       exact ⟨hB28, (Nat.le_refl _), hb30, hd, hs, ok_pick [0, 2, 3, 4] hok (by kernel_rfl)⟩
     ·rintro a w33 ⟨hB41, hz42, hb43, hd, hs, hok⟩
      refine gv_in ?_ hd hs hok
      clear hd hs hok
      have hz44 := (nt hz29 hz42)
      clear hz42 hc31 hb30 hz29 hB28
      refine gv_block <| gv_seq <| gv_region <| bindE h2 ?_; clear h2; intro j45 h3 h2
      refine gv_cut_ops (J := fun a w46 => Below w0.heap.size w0 w46 ∧ w33.heap.size ≤ w46.heap.size ∧ Box w46 b1 26 #[(.int .i64 s25.2.1), (.int .i64 s25.2.2)] ∧ a.defers = [] ∧ a.tmps.size = 93 ∧ Ok [(0, (.slice pa0_0 (List.length l_0) pc0_0)), (2, (bp b1)), (3, (.int .i64 s25.1)), (4, (.bool j32)), (29, (.bool j45))] a.tmps) ?_ ?_
      ·skip
       refine gv_pureN 2 [30, 31] [(30, (.slice pa0_0 (List.length l_0) pc0_0)), (31, (.int .i64 s25.1))] (by kernel_rfl) ?_
       refine bindE h3 ?_; clear h3; intro x47 hx48 h3
       refine gv_idxaddr (t := 22) (e := 31) (a := pa0_0) (len := List.length l_0) (cap := pc0_0) (kk := .i64) (i := s25.1) (sz := 3) [] (fun e => by cases e) rfl rfl rfl (by kernel_rfl) (by kernel_rfl) Tryd.underlying22 (by kernel_rfl) ((hpa0_0.below hB41 hX0).has hx48) (idx_spec hx48).1 (idx_spec hx48).2.1 rfl ?_
       refine gv_pureN 1 [33] [(33, (.pointer (some (elemAddr pa0_0 ((s25.1 : Int).toNat * 3)))))] (by kernel_rfl) ?_
       obtain ⟨_, ⟨_, _, rfl, rfl, ⟨_, _, rfl, rfl, rfl⟩⟩, hc49⟩ := hpa0_0.cellsK hx48
       refine gv_load (t := 5) (A := (elemAddr pa0_0 ((s25.1 : Int).toNat * 3))) (.int .u8 x47.1) [] (fun e => by cases e) rfl rfl rfl (by kernel_rfl) (by kernel_rfl) (by kernel_rfl) (inw0 ((hc49 w33 (fun k hk => hB41.block k (hX0 k hk))).zero rfl)) rfl ?_
       refine gv_pureN 2 [35, 36] [(36, (.bool (x47.1 == 0)))] (by kernel_rfl) ?_
       refine gv_split (s := 36) (g := (x47.1 == 0)) (by kernel_rfl) (fun hc50 => ?_) (fun hc50 => ?_)
       ·skip
        replace h3 := ite_t hc50 h3
        refine gv_pureN 9 [29, 37, 38, 39, 40, 41, 42, 43, 44] [(29, (.bool true))] (by kernel_rfl) ?_
        refine gv_nil ?_
        have e := sj h3; subst e
        refine gv_goal fun a hd hs hok => ?_
        exact ⟨hB41, (Nat.le_refl _), hb43, hd, hs, ok_pick [0, 2, 3, 4, 29] hok (by kernel_rfl)⟩
       ·skip
        replace h3 := ite_f hc50 h3
        refine gv_pureN 2 [37, 38] [(37, (.slice pa0_0 (List.length l_0) pc0_0)), (38, (.int .i64 s25.1))] (by kernel_rfl) ?_
        refine bindE h3 ?_; clear h3; intro x51 hx52 h3
        refine gv_idxaddr (t := 22) (e := 31) (a := pa0_0) (len := List.length l_0) (cap := pc0_0) (kk := .i64) (i := s25.1) (sz := 3) [] (fun e => by cases e) rfl rfl rfl (by kernel_rfl) (by kernel_rfl) Tryd.underlying22 (by kernel_rfl) ((hpa0_0.below hB41 hX0).has hx52) (idx_spec hx52).1 (idx_spec hx52).2.1 rfl ?_
        refine gv_pureN 1 [40] [(40, (.pointer (some (elemAddr pa0_0 ((s25.1 : Int).toNat * 3)))))] (by kernel_rfl) ?_
        obtain ⟨_, ⟨_, _, rfl, rfl, ⟨_, _, rfl, rfl, rfl⟩⟩, hc53⟩ := hpa0_0.cellsK hx52
        refine gv_load (t := 5) (A := (elemAddr pa0_0 ((s25.1 : Int).toNat * 3))) (.int .u8 x51.1) [] (fun e => by cases e) rfl rfl rfl (by kernel_rfl) (by kernel_rfl) (by kernel_rfl) (inw0 ((hc53 w33 (fun k hk => hB41.block k (hX0 k hk))).zero rfl)) rfl ?_
        refine bindE h3 ?_; clear h3; intro r54 hr55 h3
        refine gv_call0 (by kernel_rfl) rfl (by kernel_rfl) enters31 (ref4_oneOf_ok fuel x51.1 (strOf [98, 66, 104, 72, 105, 73, 113, 81, 118, 115, 112, 120, 63]) w33  r54 hr55) ?_
        rintro v58 w56 ⟨hg57, rfl⟩
        refine gv_pureN 3 [29, 43, 44] [(29, (.bool (!r54)))] (by kernel_rfl) ?_
        refine gv_nil ?_
        have e := sj h3; subst e
        refine gv_goal fun a hd hs hok => ?_
        have hB59 := bg hB41 hg57 nb
        have hz60 := hg57.size
        have hk61 := hb43.grown hg57 nb
        exact ⟨hB59, hz60, hk61, hd, hs, ok_pick [0, 2, 3, 4, 29] hok (by kernel_rfl)⟩
      ·rintro a w46 ⟨hB62, hz63, hb64, hd, hs, hok⟩
       refine gv_in ?_ hd hs hok
       clear hd hs hok
       have hz65 := (nt hz44 hz63)
       clear hz63 hz44 hb43 hB41
       refine gv_cond (b := j45) (by kernel_rfl) (fun hc66 => ?_) (fun hc66 => ?_)
       ·replace h2 := ite_t hc66 h2
        refine gv_seq <| gv_region <| gv_pureN 1 [45] [(45, (.int .i64 s25.1))] (by kernel_rfl) ?_
        refine bindE h2 ?_; clear h2; intro r67 hr68 h2
        refine gv_call0 (by kernel_rfl) rfl (by kernel_rfl) enters19 (ref4_At_ok fuel 5 s25.1 w46  r67 hr68) ?_
        rintro v71 w69 ⟨hg70, rfl⟩
        have hk76 := hb64.grown hg70 nb
        refine gv_store0 26 0 (.agg #[(.int .i64 r67.1), (.int .i64 r67.2)]) #[(.int .i64 r67.1), (.int .i64 r67.2)] hk76 (by kernel_rfl) (by kernel_rfl) (by kernel_rfl) ?_
        intro w72 hg73 hb74 hz75
        refine gv_nil <| gv_cret ?_
        have e := sj h2; subst e
        replace h1 := congrArg some (hR2 _ rfl)
        have e := sj h1; subst e
        replace h0 := cont_inr h0
        have e := sj h0; subst e
        refine gv_ret (gv_done [(.agg #[(.int .i64 r67.1), (.int .i64 r67.2)])] rfl ⟨⟨⟨b1, 0, none⟩, (by kernel_rfl), run_loadVar_row w72 b1 _ 26 _ _ _ hb74 Tryd.underlying26 rfl (by kernel_rfl)⟩, trivial⟩ ?_)
        have hB77 := bg hB62 hg70 nb
        have hlo78 : w0.heap.size ≤ b1 := lob hbe5 hB0.size
        have hB79 := bg hB77 hg73 (rowlo hlo78)
        exact ⟨grown_of_below hB79, rfl⟩
       ·replace h2 := ite_f hc66 h2
        refine gv_seq <| gv_region <| bindE h2 ?_; clear h2; intro j80 h3 h2
        refine gv_cut_ops (J := fun a w81 => Below w0.heap.size w0 w81 ∧ w46.heap.size ≤ w81.heap.size ∧ Box w81 b1 26 #[(.int .i64 s25.2.1), (.int .i64 s25.2.2)] ∧ a.defers = [] ∧ a.tmps.size = 93 ∧ Ok [(0, (.slice pa0_0 (List.length l_0) pc0_0)), (2, (bp b1)), (3, (.int .i64 s25.1)), (47, (.bool j80))] a.tmps) ?_ ?_
        ·skip
         refine gv_pureN 2 [48, 49] [(49, (.bool j32))] (by kernel_rfl) ?_
         refine gv_split (s := 49) (g := j32) (by kernel_rfl) (fun hc82 => ?_) (fun hc82 => ?_)
         ·skip
          replace h3 := ite_t hc82 h3
          refine gv_pureN 2 [50, 51] [(50, (.slice pa0_0 (List.length l_0) pc0_0)), (51, (.int .i64 s25.1))] (by kernel_rfl) ?_
          refine bindE h3 ?_; clear h3; intro x83 hx84 h3
          refine gv_idxaddr (t := 22) (e := 31) (a := pa0_0) (len := List.length l_0) (cap := pc0_0) (kk := .i64) (i := s25.1) (sz := 3) [] (fun e => by cases e) rfl rfl rfl (by kernel_rfl) (by kernel_rfl) Tryd.underlying22 (by kernel_rfl) ((hpa0_0.below hB62 hX0).has hx84) (idx_spec hx84).1 (idx_spec hx84).2.1 rfl ?_
          refine gv_pureN 1 [53] [(53, (.pointer (some (Addr.add (elemAddr pa0_0 ((s25.1 : Int).toNat * 3)) 1))))] (by kernel_rfl) ?_
          obtain ⟨_, ⟨_, _, rfl, rfl, ⟨_, _, rfl, rfl, rfl⟩⟩, hc85⟩ := hpa0_0.cellsK hx84
          refine gv_load (t := 3) (A := (Addr.add (elemAddr pa0_0 ((s25.1 : Int).toNat * 3)) 1)) (.int .i64 x83.2.1) [] (fun e => by cases e) rfl rfl rfl (by kernel_rfl) (by kernel_rfl) (by kernel_rfl) (inw0 ((hc85 w46 (fun k hk => hB62.block k (hX0 k hk))) 1 _ rfl)) rfl ?_
          refine gv_pureN 2 [55, 56] [(56, (.bool (decide (x83.2.1 < 0))))] (by kernel_rfl) ?_
          refine gv_split (s := 56) (g := (decide (x83.2.1 < 0))) (by kernel_rfl) (fun hc86 => ?_) (fun hc86 => ?_)
          ·skip
           replace h3 := ite_t hc86 h3
           refine gv_pureN 21 [47, 57, 58, 59, 60, 61, 62, 63, 64, 65, 66, 67, 68, 69, 70, 71, 72, 73, 74, 75, 76] [(47, (.bool true))] (by kernel_rfl) ?_
           refine gv_nil ?_
           have e := sj h3; subst e
           refine gv_goal fun a hd hs hok => ?_
           exact ⟨hB62, (Nat.le_refl _), hb64, hd, hs, ok_pick [0, 2, 3, 47] hok (by kernel_rfl)⟩
          ·skip
           replace h3 := ite_f hc86 h3
           refine gv_pureN 2 [57, 58] [(57, (.slice pa0_0 (List.length l_0) pc0_0)), (58, (.int .i64 s25.1))] (by kernel_rfl) ?_
           refine bindE h3 ?_; clear h3; intro x87 hx88 h3
           refine gv_idxaddr (t := 22) (e := 31) (a := pa0_0) (len := List.length l_0) (cap := pc0_0) (kk := .i64) (i := s25.1) (sz := 3) [] (fun e => by cases e) rfl rfl rfl (by kernel_rfl) (by kernel_rfl) Tryd.underlying22 (by kernel_rfl) ((hpa0_0.below hB62 hX0).has hx88) (idx_spec hx88).1 (idx_spec hx88).2.1 rfl ?_
           refine gv_pureN 1 [60] [(60, (.pointer (some (Addr.add (elemAddr pa0_0 ((s25.1 : Int).toNat * 3)) 1))))] (by kernel_rfl) ?_
           obtain ⟨_, ⟨_, _, rfl, rfl, ⟨_, _, rfl, rfl, rfl⟩⟩, hc89⟩ := hpa0_0.cellsK hx88
           refine gv_load (t := 3) (A := (Addr.add (elemAddr pa0_0 ((s25.1 : Int).toNat * 3)) 1)) (.int .i64 x87.2.1) [] (fun e => by cases e) rfl rfl rfl (by kernel_rfl) (by kernel_rfl) (by kernel_rfl) (inw0 ((hc89 w46 (fun k hk => hB62.block k (hX0 k hk))) 1 _ rfl)) rfl ?_
           refine gv_pureN 4 [62, 63, 64, 65] [(65, (.bool (decide (x87.2.1 > 100))))] (by kernel_rfl) ?_
           refine gv_split (s := 65) (g := (decide (x87.2.1 > 100))) (by kernel_rfl) (fun hc90 => ?_) (fun hc90 => ?_)
           ·skip
            replace h3 := ite_t hc90 h3
            refine gv_pureN 12 [47, 66, 67, 68, 69, 70, 71, 72, 73, 74, 75, 76] [(47, (.bool true))] (by kernel_rfl) ?_
            refine gv_nil ?_
            have e := sj h3; subst e
            refine gv_goal fun a hd hs hok => ?_
            exact ⟨hB62, (Nat.le_refl _), hb64, hd, hs, ok_pick [0, 2, 3, 47] hok (by kernel_rfl)⟩
           ·skip
            replace h3 := ite_f hc90 h3
            refine gv_pureN 3 [66, 67, 68] [(68, (.bool (!j32)))] (by kernel_rfl) ?_
            refine gv_split (s := 68) (g := (!j32)) (by kernel_rfl) (fun hc91 => ?_) (fun hc91 => ?_)
            ·skip
             replace h3 := ite_t hc91 h3
             refine gv_pureN 2 [69, 70] [(69, (.slice pa0_0 (List.length l_0) pc0_0)), (70, (.int .i64 s25.1))] (by kernel_rfl) ?_
             refine bindE h3 ?_; clear h3; intro x92 hx93 h3
             refine gv_idxaddr (t := 22) (e := 31) (a := pa0_0) (len := List.length l_0) (cap := pc0_0) (kk := .i64) (i := s25.1) (sz := 3) [] (fun e => by cases e) rfl rfl rfl (by kernel_rfl) (by kernel_rfl) Tryd.underlying22 (by kernel_rfl) ((hpa0_0.below hB62 hX0).has hx93) (idx_spec hx93).1 (idx_spec hx93).2.1 rfl ?_
             refine gv_pureN 1 [72] [(72, (.pointer (some (Addr.add (elemAddr pa0_0 ((s25.1 : Int).toNat * 3)) 1))))] (by kernel_rfl) ?_
             refine gv_sub [0, 2, 3, 65, 68, 72] (σ' := [(0, (.slice pa0_0 (List.length l_0) pc0_0)), (2, (bp b1)), (3, (.int .i64 s25.1)), (65, (.bool false)), (68, (.bool true)), (72, (.pointer (some (Addr.add (elemAddr pa0_0 ((s25.1 : Int).toNat * 3)) 1))))]) (by kernel_rfl) ?_
             obtain ⟨_, ⟨_, _, rfl, rfl, ⟨_, _, rfl, rfl, rfl⟩⟩, hc94⟩ := hpa0_0.cellsK hx93
             refine gv_load (t := 3) (A := (Addr.add (elemAddr pa0_0 ((s25.1 : Int).toNat * 3)) 1)) (.int .i64 x92.2.1) [] (fun e => by cases e) rfl rfl rfl (by kernel_rfl) (by kernel_rfl) (by kernel_rfl) (inw0 ((hc94 w46 (fun k hk => hB62.block k (hX0 k hk))) 1 _ rfl)) rfl ?_
             refine gv_pureN 4 [47, 74, 75, 76] [(47, (.bool (x92.2.1 != 1)))] (by kernel_rfl) ?_
             refine gv_nil ?_
             have e := sj h3; subst e
             refine gv_goal fun a hd hs hok => ?_
             exact ⟨hB62, (Nat.le_refl _), hb64, hd, hs, ok_pick [0, 2, 3, 47] hok (by kernel_rfl)⟩
            ·skip
             replace h3 := ite_f hc91 h3
             refine gv_pureN 9 [47, 69, 70, 71, 72, 73, 74, 75, 76] [(47, (.bool false))] (by kernel_rfl) ?_
             refine gv_nil ?_
             have e := sj h3; subst e
             refine gv_goal fun a hd hs hok => ?_
             exact ⟨hB62, (Nat.le_refl _), hb64, hd, hs, ok_pick [0, 2, 3, 47] hok (by kernel_rfl)⟩
         ·skip
          replace h3 := ite_f hc82 h3
          refine gv_pureN 19 [50, 51, 52, 53, 54, 55, 56, 57, 58, 59, 60, 61, 62, 63, 64, 65, 66, 67, 68] [(65, (.bool false)), (68, (.bool (!j32)))] (by kernel_rfl) ?_
          refine gv_split (s := 68) (g := (!j32)) (by kernel_rfl) (fun hc95 => ?_) (fun hc95 => ?_)
          ·skip
           replace h3 := ite_t hc95 h3
           refine gv_pureN 2 [69, 70] [(69, (.slice pa0_0 (List.length l_0) pc0_0)), (70, (.int .i64 s25.1))] (by kernel_rfl) ?_
           refine bindE h3 ?_; clear h3; intro x96 hx97 h3
           refine gv_idxaddr (t := 22) (e := 31) (a := pa0_0) (len := List.length l_0) (cap := pc0_0) (kk := .i64) (i := s25.1) (sz := 3) [] (fun e => by cases e) rfl rfl rfl (by kernel_rfl) (by kernel_rfl) Tryd.underlying22 (by kernel_rfl) ((hpa0_0.below hB62 hX0).has hx97) (idx_spec hx97).1 (idx_spec hx97).2.1 rfl ?_
           refine gv_pureN 1 [72] [(72, (.pointer (some (Addr.add (elemAddr pa0_0 ((s25.1 : Int).toNat * 3)) 1))))] (by kernel_rfl) ?_
           obtain ⟨_, ⟨_, _, rfl, rfl, ⟨_, _, rfl, rfl, rfl⟩⟩, hc98⟩ := hpa0_0.cellsK hx97
           refine gv_load (t := 3) (A := (Addr.add (elemAddr pa0_0 ((s25.1 : Int).toNat * 3)) 1)) (.int .i64 x96.2.1) [] (fun e => by cases e) rfl rfl rfl (by kernel_rfl) (by kernel_rfl) (by kernel_rfl) (inw0 ((hc98 w46 (fun k hk => hB62.block k (hX0 k hk))) 1 _ rfl)) rfl ?_
           refine gv_pureN 4 [47, 74, 75, 76] [(47, (.bool (x96.2.1 != 1)))] (by kernel_rfl) ?_
           refine gv_nil ?_
           have e := sj h3; subst e
           refine gv_goal fun a hd hs hok => ?_
           exact ⟨hB62, (Nat.le_refl _), hb64, hd, hs, ok_pick [0, 2, 3, 47] hok (by kernel_rfl)⟩
          ·skip
           replace h3 := ite_f hc95 h3
           refine gv_pureN 9 [47, 69, 70, 71, 72, 73, 74, 75, 76] [(47, (.bool false))] (by kernel_rfl) ?_
           refine gv_nil ?_
           have e := sj h3; subst e
           refine gv_goal fun a hd hs hok => ?_
           exact ⟨hB62, (Nat.le_refl _), hb64, hd, hs, ok_pick [0, 2, 3, 47] hok (by kernel_rfl)⟩
        ·rintro a w81 ⟨hB99, hz100, hb101, hd, hs, hok⟩
         refine gv_in ?_ hd hs hok
         clear hd hs hok
         have hz102 := (nt hz65 hz100)
         clear hz100 hc66 hz65 hb64 hB62
         refine gv_cond (b := j80) (by kernel_rfl) (fun hc103 => ?_) (fun hc103 => ?_)
         ·replace h2 := ite_t hc103 h2
          refine gv_seq <| gv_region <| gv_pureN 1 [77] [(77, (.int .i64 s25.1))] (by kernel_rfl) ?_
          refine bindE h2 ?_; clear h2; intro r104 hr105 h2
          refine gv_call0 (by kernel_rfl) rfl (by kernel_rfl) enters19 (ref4_At_ok fuel 4 s25.1 w81  r104 hr105) ?_
          rintro v108 w106 ⟨hg107, rfl⟩
          have hk113 := hb101.grown hg107 nb
          refine gv_store0 26 0 (.agg #[(.int .i64 r104.1), (.int .i64 r104.2)]) #[(.int .i64 r104.1), (.int .i64 r104.2)] hk113 (by kernel_rfl) (by kernel_rfl) (by kernel_rfl) ?_
          intro w109 hg110 hb111 hz112
          have hz114 := (nt (nt hz102 hg107.size) hg110.size)
          clear hz112 hk113 hr105 hc103 hz102 hb101
          refine gv_nil <| gv_cret ?_
          have e := sj h2; subst e
          replace h1 := congrArg some (hR2 _ rfl)
          have e := sj h1; subst e
          replace h0 := cont_inr h0
          have e := sj h0; subst e
          refine gv_ret (gv_done [(.agg #[(.int .i64 r104.1), (.int .i64 r104.2)])] rfl ⟨⟨⟨b1, 0, none⟩, (by kernel_rfl), run_loadVar_row w109 b1 _ 26 _ _ _ hb111 Tryd.underlying26 rfl (by kernel_rfl)⟩, trivial⟩ ?_)
          have hB115 := bg hB99 hg107 nb
          have hlo116 : w0.heap.size ≤ b1 := lob hbe5 hB0.size
          have hB117 := bg hB115 hg110 (rowlo hlo116)
          exact ⟨grown_of_below hB117, rfl⟩
         ·replace h2 := ite_f hc103 h2
          refine gv_seq <| gv_drawA (by kernel_rfl) ?_
          intro w118 hg119
          refine gv_pre [0, 1, 2, 3, 5, 6, 7] (bA 11 [0, 1, 2, 3, 5, 6, 7]) 4 (by kernel_rfl) (by kernel_rfl) ?_
          refine gv_pureN 2 [80, 81] [(80, (.slice pa0_0 (List.length l_0) pc0_0)), (81, (.int .i64 s25.1))] (by kernel_rfl) ?_
          refine bindE h2 ?_; clear h2; intro x120 hx121 h2
          have hB122 := bg hB99 hg119 nb
          refine gv_idxaddr (t := 22) (e := 31) (a := pa0_0) (len := List.length l_0) (cap := pc0_0) (kk := .i64) (i := s25.1) (sz := 3) [] (fun e => by cases e) rfl rfl rfl (by kernel_rfl) (by kernel_rfl) Tryd.underlying22 (by kernel_rfl) ((hpa0_0.below hB122 hX0).has hx121) (idx_spec hx121).1 (idx_spec hx121).2.1 rfl ?_
          refine gv_pureN 2 [83, 85] [(83, (.pointer (some (Addr.add (elemAddr pa0_0 ((s25.1 : Int).toNat * 3)) 2)))), (85, (.slice pa0_0 (List.length l_0) pc0_0))] (by kernel_rfl) ?_
          refine bindE h2 ?_; clear h2; intro x123 hx124 h2
          refine gv_idxaddr (t := 22) (e := 31) (a := pa0_0) (len := List.length l_0) (cap := pc0_0) (kk := .i64) (i := 0) (sz := 3) [] (fun e => by cases e) rfl rfl rfl (by kernel_rfl) (by kernel_rfl) Tryd.underlying22 (by kernel_rfl) ((hpa0_0.below hB122 hX0).has hx124) (idx_spec hx124).1 (idx_spec hx124).2.1 rfl ?_
          refine gv_pureN 1 [87] [(87, (.pointer (some (Addr.add (elemAddr pa0_0 ((0 : Int).toNat * 3)) 2))))] (by kernel_rfl) ?_
          refine gv_nil <| gv_goA ?_
          refine gv_stage (Cls w118 []) [0, 1, 2, 3, 4, 5, 6, 7, 8] [(4, some true), (8, some true)] (bA 11 [0, 1, 2, 3, 4, 5, 6, 7, 8]) 2 (by kernel_rfl) (by kernel_rfl) (Cls.refl _ _) ?_
          have hC125 := Cls.refl w118 []
          obtain ⟨_, ⟨_, _, rfl, rfl, ⟨_, _, rfl, rfl, rfl⟩⟩, hc126⟩ := hpa0_0.cellsK hx121
          refine gv_load (t := 4) (A := (Addr.add (elemAddr pa0_0 ((s25.1 : Int).toNat * 3)) 2)) (.bool x120.2.2) [] (fun e => by cases e) rfl rfl rfl (by kernel_rfl) (by kernel_rfl) (by kernel_rfl) (inw1 fun w' hC' => ((hc126 w' (fun k hk => (hC'.2 k ((fun k (hk : X0 k) => ltl (hX0 k hk) hB122.size) k hk) (fun hg => nmx_nil k hg hk)).trans (hB122.block k (hX0 k hk)))) 2 _ rfl)) rfl ?_
          obtain ⟨_, ⟨_, _, rfl, rfl, ⟨_, _, rfl, rfl, rfl⟩⟩, hc127⟩ := hpa0_0.cellsK hx124
          refine gv_load (t := 4) (A := (Addr.add (elemAddr pa0_0 ((0 : Int).toNat * 3)) 2)) (.bool x123.2.2) [] (fun e => by cases e) rfl rfl rfl (by kernel_rfl) (by kernel_rfl) (by kernel_rfl) (inw1 fun w' hC' => ((hc127 w' (fun k hk => (hC'.2 k ((fun k (hk : X0 k) => ltl (hX0 k hk) hB122.size) k hk) (fun hg => nmx_nil k hg hk)).trans (hB122.block k (hX0 k hk)))) 2 _ rfl)) rfl ?_
          refine gv_nil <| gv_goA ?_
          refine gv_pre [9, 10] (bA 11 [0, 1, 2, 3, 4, 5, 6, 7, 8, 9, 10]) 0 (by kernel_rfl) (by kernel_rfl) ?_
          refine gv_pureN 2 [79, 89] [(79, (.bool (!(x120.2.2 == x123.2.2))))] (by kernel_rfl) ?_
          refine gv_nil <| gv_goA ?_
          refine gv_stageE (by kernel_rfl) ?_
          refine gv_cond (b := (!(x120.2.2 == x123.2.2))) (by kernel_rfl) (fun hc128 => ?_) (fun hc128 => ?_)
          ·replace h2 := ite_t hc128 h2
           refine gv_seq <| gv_region <| gv_pureN 1 [90] [(90, (.int .i64 s25.1))] (by kernel_rfl) ?_
           refine bindE h2 ?_; clear h2; intro r129 hr130 h2
           refine gv_call0 (by kernel_rfl) rfl (by kernel_rfl) enters19 (ref4_At_ok fuel 19 s25.1 w118  r129 hr130) ?_
           rintro v133 w131 ⟨hg132, rfl⟩
           have hg138 := (grown_trans hg119 hg132)
           have hk139 := hb101.grown hg138 nb
           refine gv_store0 26 0 (.agg #[(.int .i64 r129.1), (.int .i64 r129.2)]) #[(.int .i64 r129.1), (.int .i64 r129.2)] hk139 (by kernel_rfl) (by kernel_rfl) (by kernel_rfl) ?_
           intro w134 hg135 hb136 hz137
           refine gv_nil <| gv_cret ?_
           have e := sj h2; subst e
           replace h1 := congrArg some (hR2 _ rfl)
           have e := sj h1; subst e
           replace h0 := cont_inr h0
           have e := sj h0; subst e
           refine gv_ret (gv_done [(.agg #[(.int .i64 r129.1), (.int .i64 r129.2)])] rfl ⟨⟨⟨b1, 0, none⟩, (by kernel_rfl), run_loadVar_row w134 b1 _ 26 _ _ _ hb136 Tryd.underlying26 rfl (by kernel_rfl)⟩, trivial⟩ ?_)
           have hB140 := bg hB122 hg132 nb
           have hlo141 : w0.heap.size ≤ b1 := lob hbe5 hB0.size
           have hB142 := bg hB140 hg135 (rowlo hlo141)
           exact ⟨grown_of_below hB142, rfl⟩
          ·replace h2 := ite_f hc128 h2
           refine gv_skip <| gv_blk <| gv_blk <| gv_region <| gv_pureN 3 [3, 13, 14] [(3, (.int .i64 (IntKind.i64.wrap (s25.1 + 1))))] (by kernel_rfl) ?_
           refine gv_nil ?_
           have e := sj h2; subst e
           refine gv_goal fun a hd hs hok => ?_
           have hz143 := (nt hz102 hg119.size)
           have hk144 := hb101.grown hg119 nb
           exact ⟨((IntKind.i64.wrap (s25.1 + 1)), (s25.2.1, s25.2.2)), rfl, hB122, hz143, hk144, hd, hs, ok_pick [0, 2, 3] hok (by kernel_rfl)⟩
    ·replace h2 := ite_f hc31 h2
     refine gv_cexit <| gv_exit rfl ?_
     have e := sj h2; subst e
     replace h1 := congrArg some (hR2 _ rfl)
     have e := sj h1; subst e
     refine gv_goal fun a hd hs hok => ?_
     have hz145 := hz29
     exact ⟨(s25.2.1, s25.2.2), rfl, hB28, hz145, hb30, hd, hs, ok_pick [2] hok (by kernel_rfl)⟩
  ·rintro a w24 ⟨s23, e, hB146, hz147, hb148, hd, hs, hok⟩
   subst e
   refine gv_in ?_ hd hs hok
   clear hd hs hok
   replace h0 := cont_inl h0
   clear hz147 hc7 hz6 hb4 hg3
   refine gv_seq <| gv_region <| gv_pureN 1 [92] [(92, (.agg #[(.int .i64 0), (.int .i64 0)]))] (by kernel_rfl) ?_
   refine gv_store0 26 0 (.agg #[(.int .i64 0), (.int .i64 0)]) #[(.int .i64 0), (.int .i64 0)] hb148 (by kernel_rfl) (by kernel_rfl) (by kernel_rfl) ?_
   intro w149 hg150 hb151 hz152
   refine gv_nil <| gv_cret ?_
   have e := sj h0; subst e
   refine gv_ret (gv_done [(.agg #[(.int .i64 0), (.int .i64 0)])] rfl ⟨⟨⟨b1, 0, none⟩, (by kernel_rfl), run_loadVar_row w149 b1 _ 26 _ _ _ hb151 Tryd.underlying26 rfl (by kernel_rfl)⟩, trivial⟩ ?_)
   have hlo153 : w0.heap.size ≤ b1 := lob hbe5 hB0.size
   have hB154 := bg hB146 hg150 (rowlo hlo153)
   exact ⟨grown_of_below hB154, rfl⟩

theorem ref4_SameFields_ok (fuel : Nat) (pa0_0 : Option Addr) (pc0_0 : Nat) (a_0 : (List (Int × Int × Bool))) (pa1_0 : Option Addr) (pc1_0 : Nat) (b_1 : (List (Int × Int × Bool))) (w0 : World) (X0 : Nat → Prop) (hX0 : ∀ k, X0 k → k < w0.heap.size) (hpa0_0 : Rd (prE (iE .u8) (prE (iE .i64) tE)) w0 X0 pa0_0 pc0_0 a_0) (hpa1_0 : Rd (prE (iE .u8) (prE (iE .i64) tE)) w0 X0 pa1_0 pc1_0 b_1) (r0 : Bool) (h0 : ref4_SameFields fuel a_0 b_1 = some r0) :
    Calls Tryd.prog 14 ([(.slice pa0_0 (List.length a_0) pc0_0), (.slice pa1_0 (List.length b_1) pc1_0)] : List Value).toArray w0 (Ret fun v w' => w0.grownBy w' none ∧ v = tup [(.bool r0)]) := by
 have hB0 : Below w0.heap.size w0 w0 := Below.refl _ _
 unfold ref4_SameFields at h0
 refine calls_run Tryd.func14 rfl Tryd.ntmps14 (by kernel_rfl) ?_
 refine gv_sub [0, 1] (σ' := [(0, (.slice pa0_0 (List.length a_0) pc0_0)), (1, (.slice pa1_0 (List.length b_1) pc1_0))]) (by kernel_rfl) ?_
 refine gv_seq <| gv_region <| gv_pureN 1 [4] [] (by kernel_rfl) ?_
 refine gv_nil <| gv_seq <| gv_seq <| gv_region <| gv_pureN 5 [6, 7, 8, 9, 10] [(10, (.bool (((List.length a_0 : Nat) : Int) != ((List.length b_1 : Nat) : Int))))] (by kernel_rfl) ?_
 refine gv_nil <| gv_cond (b := (((List.length a_0 : Nat) : Int) != ((List.length b_1 : Nat) : Int))) (by kernel_rfl) (fun hc1 => ?_) (fun hc1 => ?_)
 ·replace h0 := ite_t hc1 h0
  refine gv_seq <| gv_region <| gv_pureN 1 [4] [(4, (.bool false))] (by kernel_rfl) ?_
  refine gv_nil <| gv_cret ?_
  have e := sj h0; subst e
  refine gv_ret (gv_done [(.bool false)] rfl ⟨(by kernel_rfl), trivial⟩ ?_)
  exact ⟨grown_of_below hB0, rfl⟩
 ·replace h0 := ite_f hc1 h0
  refine gv_skip <| gv_seq <| gv_seq <| gv_region <| gv_pureN 1 [5] [(5, (.int .i64 0))] (by kernel_rfl) ?_
  refine gv_nil <| bindE h0 ?_; clear h0; intro j2 h1 h0
  refine gv_cut_code (J := fun a w4 => ∃ s3 : Unit, j2 = .inl s3 ∧ Below w0.heap.size w0 w4 ∧ w0.heap.size ≤ w4.heap.size ∧ a.defers = [] ∧ a.tmps.size = 26 ∧ Ok [] a.tmps) ?_ ?_
  ·skip
   refine gv_block <| gv_loop (A := fun (s5 : Int) a w6 => Below w0.heap.size w0 w6 ∧ w0.heap.size ≤ w6.heap.size ∧ a.defers = [] ∧ a.tmps.size = 26 ∧ Ok [(0, (.slice pa0_0 (List.length a_0) pc0_0)), (1, (.slice pa1_0 (List.length b_1) pc1_0)), (5, (.int .i64 s5))] a.tmps) h1 ?_ ?_
   ·intro a hd hs hok
    exact ⟨hB0, (Nat.le_refl _), hd, hs, ok_pick [0, 1, 5] hok (by kernel_rfl)⟩
   ·rintro s5 r2 h2 hR2 a w6 ⟨hB7, hz8, hd, hs, hok⟩
    refine gv_in ?_ hd hs hok
    clear hd hs hok
    refine gv_seq <| gv_seq <| gv_region <| gv_pureN 4 [11, 12, 13, 14] [(14, (.bool (decide (s5 < ((List.length a_0 : Nat) : Int)))))] (by kernel_rfl) ?_
    refine gv_nil <| gv_cond (b := (decide (s5 < ((List.length a_0 : Nat) : Int)))) (by kernel_rfl) (fun hc9 => ?_) (fun hc9 => ?_)
    ·replace h2 := ite_t hc9 h2
     refine gv_skip <| gv_seq <| gv_block <| gv_seq <| gv_drawA (by kernel_rfl) ?_
     intro w10 hg11
     refine gv_pre [0, 1, 2, 4, 5, 6] (bA 9 [0, 1, 2, 4, 5, 6]) 3 (by kernel_rfl) (by kernel_rfl) ?_
     refine gv_pureN 2 [17, 18] [(17, (.slice pa0_0 (List.length a_0) pc0_0)), (18, (.int .i64 s5))] (by kernel_rfl) ?_
     refine bindE h2 ?_; clear h2; intro x12 hx13 h2
     have hB14 := bg hB7 hg11 nb
     refine gv_idxaddr (t := 22) (e := 31) (a := pa0_0) (len := List.length a_0) (cap := pc0_0) (kk := .i64) (i := s5) (sz := 3) [] (fun e => by cases e) rfl rfl rfl (by kernel_rfl) (by kernel_rfl) Tryd.underlying22 (by kernel_rfl) ((hpa0_0.below hB14 hX0).has hx13) (idx_spec hx13).1 (idx_spec hx13).2.1 rfl ?_
     refine gv_pureN 2 [21, 22] [(21, (.slice pa1_0 (List.length b_1) pc1_0)), (22, (.int .i64 s5))] (by kernel_rfl) ?_
     refine bindE h2 ?_; clear h2; intro x15 hx16 h2
     refine gv_idxaddr (t := 22) (e := 31) (a := pa1_0) (len := List.length b_1) (cap := pc1_0) (kk := .i64) (i := s5) (sz := 3) [] (fun e => by cases e) rfl rfl rfl (by kernel_rfl) (by kernel_rfl) Tryd.underlying22 (by kernel_rfl) ((hpa1_0.below hB14 hX0).has hx16) (idx_spec hx16).1 (idx_spec hx16).2.1 rfl ?_
     refine gv_nil <| gv_goA ?_
     refine gv_stage (Cls w10 []) [0, 1, 2, 3, 4, 5, 6, 7] [(3, some true), (7, some true)] (bA 9 [0, 1, 2, 3, 4, 5, 6, 7]) 1 (by kernel_rfl) (by kernel_rfl) (Cls.refl _ _) ?_
     have hC17 := Cls.refl w10 []
     obtain ⟨_, ⟨_, _, rfl, rfl, ⟨_, _, rfl, rfl, rfl⟩⟩, hc18⟩ := hpa0_0.cellsK hx13
     refine gv_loadAgg (t := 31) (A := (elemAddr pa0_0 ((s5 : Int).toNat * 3))) #[(.int .u8 x12.1), (.int .i64 x12.2.1), (.bool x12.2.2)] [] (fun e => by cases e) rfl rfl rfl (by kernel_rfl) (by kernel_rfl) (by kernel_rfl) (by kernel_rfl) (inw1 fun w' hC' => (hc18 w' (fun k hk => (hC'.2 k ((fun k (hk : X0 k) => ltl (hX0 k hk) hB14.size) k hk) (fun hg => nmx_nil k hg hk)).trans (hB14.block k (hX0 k hk))))) rfl ?_
     obtain ⟨_, ⟨_, _, rfl, rfl, ⟨_, _, rfl, rfl, rfl⟩⟩, hc19⟩ := hpa1_0.cellsK hx16
     refine gv_loadAgg (t := 31) (A := (elemAddr pa1_0 ((s5 : Int).toNat * 3))) #[(.int .u8 x15.1), (.int .i64 x15.2.1), (.bool x15.2.2)] [] (fun e => by cases e) rfl rfl rfl (by kernel_rfl) (by kernel_rfl) (by kernel_rfl) (by kernel_rfl) (inw1 fun w' hC' => (hc19 w' (fun k hk => (hC'.2 k ((fun k (hk : X0 k) => ltl (hX0 k hk) hB14.size) k hk) (fun hg => nmx_nil k hg hk)).trans (hB14.block k (hX0 k hk))))) rfl ?_
     refine gv_nil <| gv_goA ?_
     refine gv_pre [8] (bA 9 [0, 1, 2, 3, 4, 5, 6, 7, 8]) 0 (by kernel_rfl) (by kernel_rfl) ?_
     refine gv_eqs (t := 31) (op := .neq) (x := (.tmp 20)) (y := (.tmp 24)) (xs := #[(.int .u8 x12.1), (.int .i64 x12.2.1), (.bool x12.2.2)]) (ys := #[(.int .u8 x15.1), (.int .i64 x15.2.1), (.bool x15.2.2)]) (!((x12.1 == x15.1) && ((x12.2.1 == x15.2.1) && (x12.2.2 == x15.2.2)))) [] (fun e => by cases e) rfl rfl rfl (by kernel_rfl) (by kernel_rfl) (fun w' => eqs31neq x12.1 x12.2.1 x12.2.2 x15.1 x15.2.1 x15.2.2 _ _ w') rfl ?_
     refine gv_nil <| gv_goA ?_
     refine gv_stageE (by kernel_rfl) ?_
     refine gv_cond (b := (!((x12.1 == x15.1) && ((x12.2.1 == x15.2.1) && (x12.2.2 == x15.2.2))))) (by kernel_rfl) (fun hc20 => ?_) (fun hc20 => ?_)
     ·replace h2 := ite_t hc20 h2
      refine gv_seq <| gv_region <| gv_pureN 1 [4] [(4, (.bool false))] (by kernel_rfl) ?_
      refine gv_nil <| gv_cret ?_
      have e := sj h2; subst e
      replace h1 := congrArg some (hR2 _ rfl)
      have e := sj h1; subst e
      replace h0 := cont_inr h0
      have e := sj h0; subst e
      refine gv_ret (gv_done [(.bool false)] rfl ⟨(by kernel_rfl), trivial⟩ ?_)
      exact ⟨grown_of_below hB14, rfl⟩
     ·replace h2 := ite_f hc20 h2
      refine gv_skip <| gv_blk <| gv_region <| gv_pureN 3 [5, 15, 16] [(5, (.int .i64 (IntKind.i64.wrap (s5 + 1))))] (by kernel_rfl) ?_
      refine gv_nil ?_
      have e := sj h2; subst e
      refine gv_goal fun a hd hs hok => ?_
      have hz21 := (nt hz8 hg11.size)
      exact ⟨(IntKind.i64.wrap (s5 + 1)), rfl, hB14, hz21, hd, hs, ok_pick [0, 1, 5] hok (by kernel_rfl)⟩
    ·replace h2 := ite_f hc9 h2
     refine gv_cexit <| gv_exit rfl ?_
     have e := sj h2; subst e
     replace h1 := congrArg some (hR2 _ rfl)
     have e := sj h1; subst e
     refine gv_goal fun a hd hs hok => ?_
     have hz22 := hz8
     exact ⟨(), rfl, hB7, hz22, hd, hs, ok_pick [] hok (by kernel_rfl)⟩
  ·rintro a w4 ⟨s3, e, hB23, hz24, hd, hs, hok⟩
   subst e
   refine gv_in ?_ hd hs hok
   clear hd hs hok
   replace h0 := cont_inl h0
   refine gv_seq <| gv_region <| gv_pureN 1 [4] [(4, (.bool true))] (by kernel_rfl) ?_
   refine gv_nil <| gv_cret ?_
   have e := sj h0; subst e
   refine gv_ret (gv_done [(.bool true)] rfl ⟨(by kernel_rfl), trivial⟩ ?_)
   exact ⟨grown_of_below hB23, rfl⟩

theorem ref4_widthOf_ok (fuel : Nat) (code_0 : Int) (w0 : World)  (r0 : Int) (h0 : ref4_widthOf fuel code_0 = some r0) :
    Calls Tryd.prog 32 ([(.int .u8 code_0)] : List Value).toArray w0 (Ret fun v w' => w0.grownBy w' none ∧ v = tup [(.int .i64 r0)]) := by
 have hB0 : Below w0.heap.size w0 w0 := Below.refl _ _
 unfold ref4_widthOf at h0
 refine calls_run Tryd.func32 rfl Tryd.ntmps32 (by kernel_rfl) ?_
 refine gv_sub [0] (σ' := [(0, (.int .u8 code_0))]) (by kernel_rfl) ?_
 refine gv_seq <| gv_region <| gv_pureN 1 [2] [] (by kernel_rfl) ?_
 refine gv_nil <| gv_seq <| gv_seq <| gv_region <| gv_pureN 1 [3] [(3, (.int .i64 0))] (by kernel_rfl) ?_
 refine gv_nil <| bindE h0 ?_; clear h0; intro j1 h1 h0
 refine gv_cut_code (J := fun a w3 => ∃ s2 : Unit, j1 = .inl s2 ∧ Below w0.heap.size w0 w3 ∧ w0.heap.size ≤ w3.heap.size ∧ a.defers = [] ∧ a.tmps.size = 15 ∧ Ok [] a.tmps) ?_ ?_
 ·skip
  refine gv_block <| gv_loop (A := fun (s4 : Int) a w5 => Below w0.heap.size w0 w5 ∧ w0.heap.size ≤ w5.heap.size ∧ a.defers = [] ∧ a.tmps.size = 15 ∧ Ok [(0, (.int .u8 code_0)), (3, (.int .i64 s4))] a.tmps) h1 ?_ ?_
  ·intro a hd hs hok
   exact ⟨hB0, (Nat.le_refl _), hd, hs, ok_pick [0, 3] hok (by kernel_rfl)⟩
  ·rintro s4 r2 h2 hR2 a w5 ⟨hB6, hz7, hd, hs, hok⟩
   refine gv_in ?_ hd hs hok
   clear hd hs hok
   refine gv_seq <| gv_seq <| gv_region <| gv_pureN 2 [4, 5] [(5, (.bool (decide (s4 < 8))))] (by kernel_rfl) ?_
   refine gv_nil <| gv_cond (b := (decide (s4 < 8))) (by kernel_rfl) (fun hc8 => ?_) (fun hc8 => ?_)
   ·replace h2 := ite_t hc8 h2
    refine gv_skip <| gv_seq <| gv_block <| gv_seq <| gv_region <| gv_pureN 1 [8] [(8, (.int .i64 s4))] (by kernel_rfl) ?_
    refine bindE h2 ?_; clear h2; intro x9 hx10 h2
    refine gv_sindex (t := 9) (s := (strOf [98, 66, 104, 72, 105, 73, 113, 81])) (kk := .i64) (i := s4) x9 [] (fun e => by cases e) rfl rfl rfl (by kernel_rfl) (by kernel_rfl) Tryd.underlying9 hx10 rfl ?_
    refine gv_pureN 2 [10, 11] [(11, (.bool (x9 == code_0)))] (by kernel_rfl) ?_
    refine gv_nil <| gv_cond (b := (x9 == code_0)) (by kernel_rfl) (fun hc11 => ?_) (fun hc11 => ?_)
    ·replace h2 := ite_t hc11 h2
     refine gv_seq <| gv_region <| gv_pureN 2 [12, 13] [(13, (.int .i64 (IntKind.i64.wrap ((s4).tdiv 2))))] (by kernel_rfl) ?_
     refine bindE h2 ?_; clear h2; intro _ hx12 h2
     refine gv_shift .shl (t := 3) (kk := .i64) (ky := .i64) (x := 1) (y := (IntKind.i64.wrap ((s4).tdiv 2))) (shlI .i64 1 (IntKind.i64.wrap ((s4).tdiv 2))) [] (fun e => by cases e) rfl rfl rfl (by kernel_rfl) (by kernel_rfl) (nn_spec hx12) (.inl ⟨rfl, rfl⟩) rfl ?_
     refine gv_pureN 1 [2] [(2, (.int .i64 (shlI .i64 1 (IntKind.i64.wrap ((s4).tdiv 2)))))] (by kernel_rfl) ?_
     refine bindE h2 ?_; clear h2; intro n13 hn14 h2
     refine gv_name (s := 2) (v := (.int .i64 (shlI .i64 1 (IntKind.i64.wrap ((s4).tdiv 2))))) (v' := (.int .i64 n13)) (by kernel_rfl) (congrArg (Value.int .i64) (sj hn14)) ?_
     refine gv_nil <| gv_cret ?_
     have e := sj h2; subst e
     replace h1 := congrArg some (hR2 _ rfl)
     have e := sj h1; subst e
     replace h0 := cont_inr h0
     have e := sj h0; subst e
     refine gv_ret (gv_done [(.int .i64 n13)] rfl ⟨(by kernel_rfl), trivial⟩ ?_)
     exact ⟨grown_of_below hB6, rfl⟩
    ·replace h2 := ite_f hc11 h2
     refine gv_skip <| gv_blk <| gv_region <| gv_pureN 3 [3, 6, 7] [(3, (.int .i64 (IntKind.i64.wrap (s4 + 1))))] (by kernel_rfl) ?_
     refine gv_nil ?_
     have e := sj h2; subst e
     refine gv_goal fun a hd hs hok => ?_
     have hz15 := hz7
     exact ⟨(IntKind.i64.wrap (s4 + 1)), rfl, hB6, hz15, hd, hs, ok_pick [0, 3] hok (by kernel_rfl)⟩
   ·replace h2 := ite_f hc8 h2
    refine gv_cexit <| gv_exit rfl ?_
    have e := sj h2; subst e
    replace h1 := congrArg some (hR2 _ rfl)
    have e := sj h1; subst e
    refine gv_goal fun a hd hs hok => ?_
    have hz16 := hz7
    exact ⟨(), rfl, hB6, hz16, hd, hs, ok_pick [] hok (by kernel_rfl)⟩
 ·rintro a w3 ⟨s2, e, hB17, hz18, hd, hs, hok⟩
  subst e
  refine gv_in ?_ hd hs hok
  clear hd hs hok
  replace h0 := cont_inl h0
  refine gv_seq <| gv_region <| gv_pureN 1 [2] [(2, (.int .i64 0))] (by kernel_rfl) ?_
  refine gv_nil <| gv_cret ?_
  have e := sj h0; subst e
  refine gv_ret (gv_done [(.int .i64 0)] rfl ⟨(by kernel_rfl), trivial⟩ ?_)
  exact ⟨grown_of_below hB17, rfl⟩

theorem ref4_SizesOf_ok (fuel : Nat) (pa0_0 : Option Addr) (pc0_0 : Nat) (l_0 : (List (Int × Int × Bool))) (w0 : World) (X0 : Nat → Prop) (hX0 : ∀ k, X0 k → k < w0.heap.size) (hpa0_0 : Rd (prE (iE .u8) (prE (iE .i64) tE)) w0 X0 pa0_0 pc0_0 l_0) (r0 : (Int × Int)) (h0 : ref4_SizesOf fuel l_0 = some r0) :
    Calls Tryd.prog 16 ([(.slice pa0_0 (List.length l_0) pc0_0)] : List Value).toArray w0 (Ret fun v w' => w0.grownBy w' none ∧ v = tup [(.int .i64 r0.1), (.int .i64 r0.2)]) := by
 have hB0 : Below w0.heap.size w0 w0 := Below.refl _ _
 unfold ref4_SizesOf at h0
 refine calls_run Tryd.func16 rfl Tryd.ntmps16 (by kernel_rfl) ?_
 refine gv_sub [0] (σ' := [(0, (.slice pa0_0 (List.length l_0) pc0_0))]) (by kernel_rfl) ?_
 refine gv_seq <| gv_region <| gv_pureN 2 [2, 3] [(2, (.int .i64 0)), (3, (.int .i64 0))] (by kernel_rfl) ?_
 refine gv_nil <| gv_seq <| gv_seq <| gv_region <| gv_pureN 1 [4] [(4, (.int .i64 0))] (by kernel_rfl) ?_
 refine gv_nil <| bindE h0 ?_; clear h0; intro j1 h1 h0
 refine gv_cut_code (J := fun a w2 => Below w0.heap.size w0 w2 ∧ w0.heap.size ≤ w2.heap.size ∧ a.defers = [] ∧ a.tmps.size = 66 ∧ Ok [(2, (.int .i64 j1.1)), (3, (.int .i64 j1.2))] a.tmps) ?_ ?_
 ·skip
  refine gv_block <| gv_loop (A := fun (s3 : (Int × Int × Int)) a w4 => Below w0.heap.size w0 w4 ∧ w0.heap.size ≤ w4.heap.size ∧ a.defers = [] ∧ a.tmps.size = 66 ∧ Ok [(0, (.slice pa0_0 (List.length l_0) pc0_0)), (2, (.int .i64 s3.1)), (3, (.int .i64 s3.2.1)), (4, (.int .i64 s3.2.2))] a.tmps) h1 ?_ ?_
  ·intro a hd hs hok
   exact ⟨hB0, (Nat.le_refl _), hd, hs, ok_pick [0, 2, 3, 4] hok (by kernel_rfl)⟩
  ·rintro s3 r2 h2 hR2 a w4 ⟨hB5, hz6, hd, hs, hok⟩
   refine gv_in ?_ hd hs hok
   clear hd hs hok
   refine gv_seq <| gv_seq <| gv_region <| gv_pureN 4 [6, 7, 8, 9] [(9, (.bool (decide (s3.2.2 < ((List.length l_0 : Nat) : Int)))))] (by kernel_rfl) ?_
   refine gv_nil <| gv_cond (b := (decide (s3.2.2 < ((List.length l_0 : Nat) : Int)))) (by kernel_rfl) (fun hc7 => ?_) (fun hc7 => ?_)
   ·replace h2 := ite_t hc7 h2
    refine gv_skip <| gv_seq <| gv_block <| gv_seq <| gv_region <| gv_pureN 2 [12, 13] [(12, (.slice pa0_0 (List.length l_0) pc0_0)), (13, (.int .i64 s3.2.2))] (by kernel_rfl) ?_
    refine bindE h2 ?_; clear h2; intro x8 hx9 h2
    refine gv_idxaddr (t := 22) (e := 31) (a := pa0_0) (len := List.length l_0) (cap := pc0_0) (kk := .i64) (i := s3.2.2) (sz := 3) [] (fun e => by cases e) rfl rfl rfl (by kernel_rfl) (by kernel_rfl) Tryd.underlying22 (by kernel_rfl) ((hpa0_0.below hB5 hX0).has hx9) (idx_spec hx9).1 (idx_spec hx9).2.1 rfl ?_
    refine gv_pureN 1 [15] [(15, (.pointer (some (elemAddr pa0_0 ((s3.2.2 : Int).toNat * 3)))))] (by kernel_rfl) ?_
    obtain ⟨_, ⟨_, _, rfl, rfl, ⟨_, _, rfl, rfl, rfl⟩⟩, hc10⟩ := hpa0_0.cellsK hx9
    refine gv_load (t := 5) (A := (elemAddr pa0_0 ((s3.2.2 : Int).toNat * 3))) (.int .u8 x8.1) [] (fun e => by cases e) rfl rfl rfl (by kernel_rfl) (by kernel_rfl) (by kernel_rfl) (inw0 ((hc10 w4 (fun k hk => hB5.block k (hX0 k hk))).zero rfl)) rfl ?_
    refine bindE h2 ?_; clear h2; intro r11 hr12 h2
    refine gv_call0 (by kernel_rfl) rfl (by kernel_rfl) enters32 (ref4_widthOf_ok fuel x8.1 w4  r11 hr12) ?_
    rintro v15 w13 ⟨hg14, rfl⟩
    refine gv_pureN 1 [5] [(5, (.int .i64 r11))] (by kernel_rfl) ?_
    refine gv_nil <| gv_seq <| gv_region <| gv_pureN 2 [18, 19] [(18, (.slice pa0_0 (List.length l_0) pc0_0)), (19, (.int .i64 s3.2.2))] (by kernel_rfl) ?_
    refine bindE h2 ?_; clear h2; intro x16 hx17 h2
    have hB18 := bg hB5 hg14 nb
    refine gv_idxaddr (t := 22) (e := 31) (a := pa0_0) (len := List.length l_0) (cap := pc0_0) (kk := .i64) (i := s3.2.2) (sz := 3) [] (fun e => by cases e) rfl rfl rfl (by kernel_rfl) (by kernel_rfl) Tryd.underlying22 (by kernel_rfl) ((hpa0_0.below hB18 hX0).has hx17) (idx_spec hx17).1 (idx_spec hx17).2.1 rfl ?_
    refine gv_pureN 1 [21] [(21, (.pointer (some (elemAddr pa0_0 ((s3.2.2 : Int).toNat * 3)))))] (by kernel_rfl) ?_
    obtain ⟨_, ⟨_, _, rfl, rfl, ⟨_, _, rfl, rfl, rfl⟩⟩, hc19⟩ := hpa0_0.cellsK hx17
    refine gv_load (t := 5) (A := (elemAddr pa0_0 ((s3.2.2 : Int).toNat * 3))) (.int .u8 x16.1) [] (fun e => by cases e) rfl rfl rfl (by kernel_rfl) (by kernel_rfl) (by kernel_rfl) (inw0 ((hc19 w13 (fun k hk => hB18.block k (hX0 k hk))).zero rfl)) rfl ?_
    refine gv_nil <| gv_block <| gv_seq <| gv_region <| gv_pureN 2 [29, 30] [(29, (.bool (x16.1 == 118)))] (by kernel_rfl) ?_
    refine gv_nil <| bindE h2 ?_; clear h2; intro j20 h3 h2
    refine gv_cut_code (J := fun a w21 => Below w0.heap.size w0 w21 ∧ w13.heap.size ≤ w21.heap.size ∧ a.defers = [] ∧ a.tmps.size = 66 ∧ Ok [(0, (.slice pa0_0 (List.length l_0) pc0_0)), (2, (.int .i64 j20.1)), (3, (.int .i64 j20.2)), (4, (.int .i64 s3.2.2))] a.tmps) ?_ ?_
    ·skip
     refine gv_cond (b := (x16.1 == 118)) (by kernel_rfl) (fun hc22 => ?_) (fun hc22 => ?_)
     ·replace h3 := ite_t hc22 h3
      refine gv_region <| gv_pureN 6 [2, 3, 31, 32, 33, 34] [(2, (.int .i64 (IntKind.i64.wrap (s3.1 + 1)))), (3, (.int .i64 (IntKind.i64.wrap (s3.2.1 + 10))))] (by kernel_rfl) ?_
      refine gv_nil ?_
      have e := sj h3; subst e
      refine gv_goal fun a hd hs hok => ?_
      exact ⟨hB18, (Nat.le_refl _), hd, hs, ok_pick [0, 2, 3, 4] hok (by kernel_rfl)⟩
     ·replace h3 := ite_f hc22 h3
      refine gv_seq <| gv_region <| gv_pureN 2 [35, 36] [(35, (.bool (x16.1 == 112)))] (by kernel_rfl) ?_
      refine gv_nil <| gv_cond (b := (x16.1 == 112)) (by kernel_rfl) (fun hc23 => ?_) (fun hc23 => ?_)
      ·replace h3 := ite_t hc23 h3
       refine gv_region <| gv_pureN 6 [2, 3, 37, 38, 39, 40] [(2, (.int .i64 (IntKind.i64.wrap (s3.1 + 1)))), (3, (.int .i64 (IntKind.i64.wrap (s3.2.1 + 256))))] (by kernel_rfl) ?_
       refine gv_sub [0, 2, 3, 4] (σ' := [(0, (.slice pa0_0 (List.length l_0) pc0_0)), (2, (.int .i64 (IntKind.i64.wrap (s3.1 + 1)))), (3, (.int .i64 (IntKind.i64.wrap (s3.2.1 + 256)))), (4, (.int .i64 s3.2.2))]) (by kernel_rfl) ?_
       refine gv_nil ?_
       have e := sj h3; subst e
       refine gv_goal fun a hd hs hok => ?_
       exact ⟨hB18, (Nat.le_refl _), hd, hs, ok_pick [0, 2, 3, 4] hok (by kernel_rfl)⟩
      ·replace h3 := ite_f hc23 h3
       refine gv_seq <| gv_seq <| gv_region <| gv_pureN 2 [41, 42] [(41, (.bool (x16.1 == 115)))] (by kernel_rfl) ?_
       refine gv_sub [0, 2, 3, 4, 5, 22, 41] (σ' := [(0, (.slice pa0_0 (List.length l_0) pc0_0)), (2, (.int .i64 s3.1)), (3, (.int .i64 s3.2.1)), (4, (.int .i64 s3.2.2)), (5, (.int .i64 r11)), (22, (.int .u8 x16.1)), (41, (.bool (x16.1 == 115)))]) (by kernel_rfl) ?_
       refine gv_nil <| bindE h3 ?_; clear h3; intro j24 h4 h3
       refine gv_cut_code (J := fun a w25 => Below w0.heap.size w0 w25 ∧ w13.heap.size ≤ w25.heap.size ∧ a.defers = [] ∧ a.tmps.size = 66 ∧ Ok [(0, (.slice pa0_0 (List.length l_0) pc0_0)), (2, (.int .i64 s3.1)), (3, (.int .i64 s3.2.1)), (4, (.int .i64 s3.2.2)), (5, (.int .i64 r11)), (22, (.int .u8 x16.1)), (41, (.bool j24))] a.tmps) ?_ ?_
       ·skip
        refine gv_cond (b := (x16.1 == 115)) (by kernel_rfl) (fun hc26 => ?_) (fun hc26 => ?_)
        ·replace h4 := ite_t hc26 h4
         refine gv_skip ?_
         have e := sj h4; subst e
         refine gv_goal fun a hd hs hok => ?_
         exact ⟨hB18, (Nat.le_refl _), hd, hs, ok_pick [0, 2, 3, 4, 5, 22, 41] hok (by kernel_rfl)⟩
        ·replace h4 := ite_f hc26 h4
         refine gv_region <| gv_pureN 2 [41, 43] [(41, (.bool (x16.1 == 120)))] (by kernel_rfl) ?_
         refine gv_nil ?_
         have e := sj h4; subst e
         refine gv_goal fun a hd hs hok => ?_
         exact ⟨hB18, (Nat.le_refl _), hd, hs, ok_pick [0, 2, 3, 4, 5, 22, 41] hok (by kernel_rfl)⟩
       ·rintro a w25 ⟨hB27, hz28, hd, hs, hok⟩
        refine gv_in ?_ hd hs hok
        clear hd hs hok
        have hz29 := (nt hz6 hg14.size)
        clear hc23 hc22 hc19 hB18 hx17 hg14 hr12 hc10 hx9 hc7 hz6 hB5
        refine gv_cond (b := j24) (by kernel_rfl) (fun hc30 => ?_) (fun hc30 => ?_)
        ·replace h3 := ite_t hc30 h3
         refine gv_drawA (by kernel_rfl) ?_
         intro w31 hg32
         refine gv_pre [0, 1, 2, 3, 4, 7, 8, 9, 10, 11] (bA 16 [0, 1, 2, 3, 4, 7, 8, 9, 10, 11]) 6 (by kernel_rfl) (by kernel_rfl) ?_
         refine gv_pureN 3 [44, 45, 46] [(44, (.int .i64 s3.1)), (45, (.slice pa0_0 (List.length l_0) pc0_0)), (46, (.int .i64 s3.2.2))] (by kernel_rfl) ?_
         refine bindE h3 ?_; clear h3; intro x33 hx34 h3
         have hB35 := bg hB27 hg32 nb
         refine gv_idxaddr (t := 22) (e := 31) (a := pa0_0) (len := List.length l_0) (cap := pc0_0) (kk := .i64) (i := s3.2.2) (sz := 3) [] (fun e => by cases e) rfl rfl rfl (by kernel_rfl) (by kernel_rfl) Tryd.underlying22 (by kernel_rfl) ((hpa0_0.below hB35 hX0).has hx34) (idx_spec hx34).1 (idx_spec hx34).2.1 rfl ?_
         refine gv_pureN 4 [48, 51, 52, 53] [(48, (.pointer (some (Addr.add (elemAddr pa0_0 ((s3.2.2 : Int).toNat * 3)) 1)))), (51, (.int .i64 s3.2.1)), (52, (.slice pa0_0 (List.length l_0) pc0_0)), (53, (.int .i64 s3.2.2))] (by kernel_rfl) ?_
         refine bindE h3 ?_; clear h3; intro x36 hx37 h3
         refine gv_idxaddr (t := 22) (e := 31) (a := pa0_0) (len := List.length l_0) (cap := pc0_0) (kk := .i64) (i := s3.2.2) (sz := 3) [] (fun e => by cases e) rfl rfl rfl (by kernel_rfl) (by kernel_rfl) Tryd.underlying22 (by kernel_rfl) ((hpa0_0.below hB35 hX0).has hx37) (idx_spec hx37).1 (idx_spec hx37).2.1 rfl ?_
         refine gv_pureN 1 [55] [(55, (.pointer (some (Addr.add (elemAddr pa0_0 ((s3.2.2 : Int).toNat * 3)) 1))))] (by kernel_rfl) ?_
         refine gv_nil <| gv_goA ?_
         refine gv_stage (Cls w31 []) [0, 1, 2, 3, 4, 5, 6, 7, 8, 9, 10, 11, 12, 13, 14] [(5, some true), (6, some true), (12, some true), (13, some true), (14, some true)] (bA 16 [0, 1, 2, 3, 4, 5, 6, 7, 8, 9, 10, 11, 12, 13, 14]) 1 (by kernel_rfl) (by kernel_rfl) (Cls.refl _ _) ?_
         have hC38 := Cls.refl w31 []
         obtain ⟨_, ⟨_, _, rfl, rfl, ⟨_, _, rfl, rfl, rfl⟩⟩, hc39⟩ := hpa0_0.cellsK hx34
         refine gv_load (t := 3) (A := (Addr.add (elemAddr pa0_0 ((s3.2.2 : Int).toNat * 3)) 1)) (.int .i64 x33.2.1) [] (fun e => by cases e) rfl rfl rfl (by kernel_rfl) (by kernel_rfl) (by kernel_rfl) (inw1 fun w' hC' => ((hc39 w' (fun k hk => (hC'.2 k ((fun k (hk : X0 k) => ltl (hX0 k hk) hB35.size) k hk) (fun hg => nmx_nil k hg hk)).trans (hB35.block k (hX0 k hk)))) 1 _ rfl)) rfl ?_
         refine gv_pureN 1 [50] [(50, (.int .i64 (IntKind.i64.wrap (s3.1 + x33.2.1))))] (by kernel_rfl) ?_
         obtain ⟨_, ⟨_, _, rfl, rfl, ⟨_, _, rfl, rfl, rfl⟩⟩, hc40⟩ := hpa0_0.cellsK hx37
         refine gv_load (t := 3) (A := (Addr.add (elemAddr pa0_0 ((s3.2.2 : Int).toNat * 3)) 1)) (.int .i64 x36.2.1) [] (fun e => by cases e) rfl rfl rfl (by kernel_rfl) (by kernel_rfl) (by kernel_rfl) (inw1 fun w' hC' => ((hc40 w' (fun k hk => (hC'.2 k ((fun k (hk : X0 k) => ltl (hX0 k hk) hB35.size) k hk) (fun hg => nmx_nil k hg hk)).trans (hB35.block k (hX0 k hk)))) 1 _ rfl)) rfl ?_
         refine gv_pureN 2 [2, 57] [(2, (.int .i64 (IntKind.i64.wrap (s3.1 + x33.2.1)))), (57, (.int .i64 (IntKind.i64.wrap (s3.2.1 + x36.2.1))))] (by kernel_rfl) ?_
         refine gv_nil <| gv_goA ?_
         refine gv_pre [15] (bA 16 [0, 1, 2, 3, 4, 5, 6, 7, 8, 9, 10, 11, 12, 13, 14, 15]) 0 (by kernel_rfl) (by kernel_rfl) ?_
         refine gv_pureN 1 [3] [(3, (.int .i64 (IntKind.i64.wrap (s3.2.1 + x36.2.1))))] (by kernel_rfl) ?_
         refine gv_nil <| gv_goA ?_
         refine gv_stageE (by kernel_rfl) ?_
         have e := sj h3; subst e
         refine gv_goal fun a hd hs hok => ?_
         have hz41 := (nt hz28 hg32.size)
         exact ⟨hB35, hz41, hd, hs, ok_pick [0, 2, 3, 4] hok (by kernel_rfl)⟩
        ·replace h3 := ite_f hc30 h3
         refine gv_seq <| gv_region <| gv_pureN 2 [58, 59] [(58, (.bool (x16.1 == 63)))] (by kernel_rfl) ?_
         refine gv_nil <| gv_cond (b := (x16.1 == 63)) (by kernel_rfl) (fun hc42 => ?_) (fun hc42 => ?_)
         ·replace h3 := ite_t hc42 h3
          refine gv_region <| gv_pureN 6 [2, 3, 60, 61, 62, 63] [(2, (.int .i64 (IntKind.i64.wrap (s3.1 + 1)))), (3, (.int .i64 (IntKind.i64.wrap (s3.2.1 + 1))))] (by kernel_rfl) ?_
          refine gv_nil ?_
          have e := sj h3; subst e
          refine gv_goal fun a hd hs hok => ?_
          have hz43 := hz28
          exact ⟨hB27, hz43, hd, hs, ok_pick [0, 2, 3, 4] hok (by kernel_rfl)⟩
         ·replace h3 := ite_f hc42 h3
          refine gv_region <| gv_pureN 8 [2, 3, 23, 24, 25, 26, 27, 28] [(2, (.int .i64 (IntKind.i64.wrap (s3.1 + r11)))), (3, (.int .i64 (IntKind.i64.wrap (s3.2.1 + r11))))] (by kernel_rfl) ?_
          refine gv_nil ?_
          have e := sj h3; subst e
          refine gv_goal fun a hd hs hok => ?_
          have hz44 := hz28
          exact ⟨hB27, hz44, hd, hs, ok_pick [0, 2, 3, 4] hok (by kernel_rfl)⟩
    ·rintro a w21 ⟨hB45, hz46, hd, hs, hok⟩
     refine gv_in ?_ hd hs hok
     clear hd hs hok
     have hz47 := (nt (nt hz6 hg14.size) hz46)
     clear hz46 hc19 hB18 hx17 hg14 hr12 hc10 hx9 hc7 hz6 hB5
     refine gv_blk <| gv_blk <| gv_region <| gv_pureN 3 [4, 10, 11] [(4, (.int .i64 (IntKind.i64.wrap (s3.2.2 + 1))))] (by kernel_rfl) ?_
     refine gv_nil ?_
     have e := sj h2; subst e
     refine gv_goal fun a hd hs hok => ?_
     have hz48 := hz47
     exact ⟨(j20.1, j20.2, (IntKind.i64.wrap (s3.2.2 + 1))), rfl, hB45, hz48, hd, hs, ok_pick [0, 2, 3, 4] hok (by kernel_rfl)⟩
   ·replace h2 := ite_f hc7 h2
    refine gv_cexit <| gv_exit rfl ?_
    have e := sj h2; subst e
    replace h1 := congrArg some (hR2 _ rfl)
    have e := sj h1; subst e
    refine gv_goal fun a hd hs hok => ?_
    have hz49 := hz6
    exact ⟨hB5, hz49, hd, hs, ok_pick [2, 3] hok (by kernel_rfl)⟩
 ·rintro a w2 ⟨hB50, hz51, hd, hs, hok⟩
  refine gv_in ?_ hd hs hok
  clear hd hs hok
  refine gv_seq <| gv_region <| gv_pureN 4 [2, 3, 64, 65] [(2, (.int .i64 j1.1)), (3, (.int .i64 j1.2))] (by kernel_rfl) ?_
  refine gv_nil <| gv_cret ?_
  have e := sj h0; subst e
  refine gv_ret (gv_done [(.int .i64 j1.1), (.int .i64 j1.2)] rfl ⟨(by kernel_rfl), (by kernel_rfl), trivial⟩ ?_)
  exact ⟨grown_of_below hB50, rfl⟩

theorem law4_PackingFormats_ok (fuel : Nat) (format_0 : ByteArray) (pa1_0 : Option Addr) (pc1_0 : Nat) (l_1 : (List (Int × Int × Bool))) (w0 : World) (X0 : Nat → Prop) (hX0 : ∀ k, X0 k → k < w0.heap.size) (hpa1_0 : Rd (prE (iE .u8) (prE (iE .i64) tE)) w0 X0 pa1_0 pc1_0 l_1) {erx : TypeId × Value} (hG2 : Rd eE w0 X0 (some ⟨2, 0, none⟩) 1 [erx]) (r0 : Bool) (h0 : law4_PackingFormats fuel format_0 l_1 = some r0) :
    Calls Tryd.prog 4 ([(.string format_0), (.slice pa1_0 (List.length l_1) pc1_0)] : List Value).toArray w0 (Ret fun v w' => w0.grownBy w' none ∧ v = tup [(.bool r0)]) := by
 have hB0 : Below w0.heap.size w0 w0 := Below.refl _ _
 unfold law4_PackingFormats at h0
 refine calls_run Tryd.func4 rfl Tryd.ntmps4 (by kernel_rfl) ?_
 refine gv_sub [0, 1] (σ' := [(0, (.string format_0)), (1, (.slice pa1_0 (List.length l_1) pc1_0))]) (by kernel_rfl) ?_
 refine gv_seq <| gv_region <| gv_pureN 1 [4] [] (by kernel_rfl) ?_
 refine gv_nil <| gv_seq <| gv_region <| gv_pureN 1 [16] [(16, (.string format_0))] (by kernel_rfl) ?_
 refine bindE h0 ?_; clear h0; intro r1 hr2 h0
 refine gv_call0 (by kernel_rfl) rfl (by kernel_rfl) enters10 (packing_Parse_ok fuel format_0 w0 (fun k => X0 k) (fun k hk => (fun k (hk : X0 k) => ltl (hX0 k hk) hB0.size) k hk) ((hG2.below hB0 hX0).wide (fun k hk => hk)) r1 hr2) ?_
 rintro v5 w3 ⟨hg4, a6, c7, rfl, ho8, hl9⟩
 have hl10 : ∀ g, blk a6 = some g → w0.heap.size ≤ g := fun g e => Nat.le_trans hB0.size (hl9 g e)
 refine gv_pureN 3 [15, 18, 19] [(18, (.slice a6 (List.length r1.1) c7)), (19, (.agg #[(.int .i64 r1.2.1), (.int .i64 r1.2.2)]))] (by kernel_rfl) ?_
 refine gv_new0 (fun b => .pointer (some ⟨b, 0, none⟩)) #[(.int .i64 0), (.int .i64 0)] 26 (by kernel_rfl) (by kernel_rfl) ?_
 intro b11 w12 hg13 hb14 hbe15 hz16
 refine gv_pureN 1 [5] [(5, (.slice a6 (List.length r1.1) c7))] (by kernel_rfl) ?_
 refine gv_store0 26 0 (.agg #[(.int .i64 r1.2.1), (.int .i64 r1.2.2)]) #[(.int .i64 r1.2.1), (.int .i64 r1.2.2)] hb14 (by kernel_rfl) (by kernel_rfl) (by kernel_rfl) ?_
 intro w17 hg18 hb19 hz20
 refine gv_nil <| gv_seq <| gv_region <| gv_pureN 1 [21] [(21, (.slice pa1_0 (List.length l_1) pc1_0))] (by kernel_rfl) ?_
 refine bindE h0 ?_; clear h0; intro r21 hr22 h0
 have hg23 := (grown_trans hg4 hg13)
 have hB24 := bg hB0 hg23 nb
 have hB25 := bg hB0 hg4 nb
 have hlo26 : w0.heap.size ≤ b11 := lob hbe15 hB25.size
 have hB27 := bg hB24 hg18 (rowlo hlo26)
 refine gv_call0 (by kernel_rfl) rfl (by kernel_rfl) enters11 (packing_Sizes_ok fuel pa1_0 pc1_0 l_1 w17 (fun k => X0 k) (fun k hk => (fun k (hk : X0 k) => ltl (hX0 k hk) hB27.size) k hk) ((hpa1_0.below hB27 hX0).wide (fun k hk => hk)) r21 hr22) ?_
 rintro v30 w28 ⟨hg29, rfl⟩
 refine gv_pureN 4 [20, 23, 24, 25] [(23, (.int .i64 r21.1)), (24, (.int .i64 r21.2.1)), (25, (.agg #[(.int .i64 r21.2.2.1), (.int .i64 r21.2.2.2)]))] (by kernel_rfl) ?_
 refine gv_new0 (fun b => .pointer (some ⟨b, 0, none⟩)) #[(.int .i64 0), (.int .i64 0)] 26 (by kernel_rfl) (by kernel_rfl) ?_
 intro b31 w32 hg33 hb34 hbe35 hz36
 refine gv_pureN 2 [7, 8] [(7, (.int .i64 r21.1)), (8, (.int .i64 r21.2.1))] (by kernel_rfl) ?_
 refine gv_store0 26 0 (.agg #[(.int .i64 r21.2.2.1), (.int .i64 r21.2.2.2)]) #[(.int .i64 r21.2.2.1), (.int .i64 r21.2.2.2)] hb34 (by kernel_rfl) (by kernel_rfl) (by kernel_rfl) ?_
 intro w37 hg38 hb39 hz40
 refine gv_nil <| gv_seq <| gv_region <| gv_pureN 1 [27] [(27, (.string format_0))] (by kernel_rfl) ?_
 refine gv_sub [1, 5, 6, 7, 8, 9, 27] (σ' := [(1, (.slice pa1_0 (List.length l_1) pc1_0)), (5, (.slice a6 (List.length r1.1) c7)), (6, (bp b11)), (7, (.int .i64 r21.1)), (8, (.int .i64 r21.2.1)), (9, (bp b31)), (27, (.string format_0))]) (by kernel_rfl) ?_
 refine bindE h0 ?_; clear h0; intro r41 hr42 h0
 refine gv_call0 (by kernel_rfl) rfl (by kernel_rfl) enters12 (ref4_FieldsRead_ok fuel format_0 w37  r41 hr42) ?_
 rintro v45 w43 ⟨hg44, a46, c47, rfl, ho48, hl49⟩
 have hg51 := (grown_trans hg29 hg33)
 have hB52 := bg hB27 hg51 nb
 have hB53 := bg hB27 hg29 nb
 have hlo54 : w0.heap.size ≤ b31 := lob hbe35 hB53.size
 have hB55 := bg hB52 hg38 (rowlo hlo54)
 have hl50 : ∀ g, blk a46 = some g → w0.heap.size ≤ g := fun g e => Nat.le_trans hB55.size (hl49 g e)
 refine gv_pureN 3 [26, 29, 30] [(29, (.slice a46 (List.length r41.1) c47)), (30, (.agg #[(.int .i64 r41.2.1), (.int .i64 r41.2.2)]))] (by kernel_rfl) ?_
 refine gv_new0 (fun b => .pointer (some ⟨b, 0, none⟩)) #[(.int .i64 0), (.int .i64 0)] 26 (by kernel_rfl) (by kernel_rfl) ?_
 intro b56 w57 hg58 hb59 hbe60 hz61
 clear hz61 hB53 hB52 hg51 hr42 hz40 hz36 hb34 hB27 hB25 hB24 hg23 hr22 hz20 hz16 hb14 hl9 hg4 hr2
 refine gv_pureN 1 [10] [(10, (.slice a46 (List.length r41.1) c47))] (by kernel_rfl) ?_
 refine gv_store0 26 0 (.agg #[(.int .i64 r41.2.1), (.int .i64 r41.2.2)]) #[(.int .i64 r41.2.1), (.int .i64 r41.2.2)] hb59 (by kernel_rfl) (by kernel_rfl) (by kernel_rfl) ?_
 intro w62 hg63 hb64 hz65
 refine gv_nil <| gv_seq <| gv_region <| gv_pureN 1 [31] [(31, (.slice pa1_0 (List.length l_1) pc1_0))] (by kernel_rfl) ?_
 refine bindE h0 ?_; clear h0; intro r66 hr67 h0
 have hg68 := (grown_trans hg44 hg58)
 have hB69 := bg hB55 hg68 nb
 have hB70 := bg hB55 hg44 nb
 have hlo71 : w0.heap.size ≤ b56 := lob hbe60 hB70.size
 have hB72 := bg hB69 hg63 (rowlo hlo71)
 refine gv_call0 (by kernel_rfl) rfl (by kernel_rfl) enters13 (ref4_FieldsFault_ok fuel pa1_0 pc1_0 l_1 w62 (fun k => X0 k) (fun k hk => (fun k (hk : X0 k) => ltl (hX0 k hk) hB72.size) k hk) ((hpa1_0.below hB72 hX0).wide (fun k hk => hk)) r66 hr67) ?_
 rintro v75 w73 ⟨hg74, rfl⟩
 refine gv_new0 (fun b => .pointer (some ⟨b, 0, none⟩)) #[(.int .i64 0), (.int .i64 0)] 26 (by kernel_rfl) (by kernel_rfl) ?_
 intro b76 w77 hg78 hb79 hbe80 hz81
 refine gv_store0 26 0 (.agg #[(.int .i64 r66.1), (.int .i64 r66.2)]) #[(.int .i64 r66.1), (.int .i64 r66.2)] hb79 (by kernel_rfl) (by kernel_rfl) (by kernel_rfl) ?_
 intro w82 hg83 hb84 hz85
 refine gv_nil <| gv_seq <| gv_seq <| bindE h0 ?_; clear h0; intro j86 h1 h0
 refine gv_cut_code (J := fun a w87 => Below w0.heap.size w0 w87 ∧ w82.heap.size ≤ w87.heap.size ∧ Box w87 b76 26 #[(.int .i64 r66.1), (.int .i64 r66.2)] ∧ a.defers = [] ∧ a.tmps.size = 90 ∧ Ok [(1, (.slice pa1_0 (List.length l_1) pc1_0)), (7, (.int .i64 r21.1)), (8, (.int .i64 r21.2.1)), (12, (bp b76)), (67, (.bool j86))] a.tmps) ?_ ?_
 ·skip
  refine gv_drawA (by kernel_rfl) ?_
  intro w88 hg89
  refine gv_stage (fun _ => True) [0] [(0, some false)] (bA 35 [0]) 34 (by kernel_rfl) (by kernel_rfl) trivial ?_
  refine bindE h1 ?_; clear h1; intro r90 hr91 h1
  have hg92 := (grown_trans hg74 hg78)
  have hB93 := bg hB72 hg92 nb
  have hB94 := bg hB72 hg74 nb
  have hlo95 : w0.heap.size ≤ b76 := lob hbe80 hB94.size
  have hB96 := bg hB93 hg83 (rowlo hlo95)
  have hB97 := bg hB96 hg89 nb
  refine gv_call (f := 7) (vs := []) (cap := []) _ (by decide) rfl rfl rfl (by kernel_rfl) (by kernel_rfl) enters7 (law4_packs_ok fuel  w88 (fun k => X0 k) (fun k hk => (fun k (hk : X0 k) => ltl (hX0 k hk) hB97.size) k hk) ((hG2.below hB97 hX0).wide (fun k hk => hk)) r90 hr91) ?_
  rintro v100 w98 ⟨hg99, rfl⟩
  refine ⟨(fun _ => trivial), ?_⟩
  refine gv_nil <| gv_goA ?_
  refine gv_pre [1, 2] (bA 35 [0, 1, 2]) 32 (by kernel_rfl) (by kernel_rfl) ?_
  refine gv_pureN 2 [34, 35] [(35, (.bool (!r90)))] (by kernel_rfl) ?_
  refine gv_nil <| gv_goA ?_
  refine gv_stage (Cls w98 []) [0, 1, 2, 3, 4] [(3, some true), (4, some true)] (bA 35 [0, 1, 2, 3, 4]) 30 (by kernel_rfl) (by kernel_rfl) (Cls.refl _ _) ?_
  have hC101 := Cls.refl w98 []
  refine gv_split (s := 35) (g := (!r90)) (by kernel_rfl) (fun hc102 => ?_) (fun hc102 => ?_)
  ·skip
   replace h1 := ite_t hc102 h1
   refine gv_pureN 2 [36, 37] [(36, undef), (37, undef)] (by kernel_rfl) ?_
   refine gv_nil <| gv_goA ?_
   refine gv_pre [5, 6, 7, 8, 9] (bA 35 [0, 1, 2, 3, 4, 5, 6, 7, 8, 9]) 25 (by kernel_rfl) (by kernel_rfl) ?_
   refine gv_pureN 5 [38, 39, 40, 41, 42] [(40, (.bool true)), (41, undef), (42, undef)] (by kernel_rfl) ?_
   refine gv_nil <| gv_goA ?_
   refine gv_stage (fun _ => True) [0, 1, 2, 3, 4, 5, 6, 7, 8, 9, 10] [(10, some false)] (bA 35 [0, 1, 2, 3, 4, 5, 6, 7, 8, 9, 10]) 24 (by kernel_rfl) (by kernel_rfl) trivial ?_
   refine gv_pureNC trivial 1 [43] [(43, undef)] (by kernel_rfl) ?_
   refine gv_sub [1, 5, 7, 8, 9, 11, 12, 40, 43] (σ' := [(1, (.slice pa1_0 (List.length l_1) pc1_0)), (5, (.slice a6 (List.length r1.1) c7)), (7, (.int .i64 r21.1)), (8, (.int .i64 r21.2.1)), (9, (bp b31)), (11, (bp b56)), (12, (bp b76)), (40, (.bool true)), (43, undef)]) (by kernel_rfl) ?_
   refine gv_nil <| gv_goA ?_
   refine gv_pre [11, 12, 13, 14] (bA 35 [0, 1, 2, 3, 4, 5, 6, 7, 8, 9, 10, 11, 12, 13, 14]) 20 (by kernel_rfl) (by kernel_rfl) ?_
   refine gv_pureN 4 [44, 45, 46, 47] [(46, (.bool true)), (47, undef)] (by kernel_rfl) ?_
   refine gv_nil <| gv_goA ?_
   refine gv_stage (Cls w98 []) [0, 1, 2, 3, 4, 5, 6, 7, 8, 9, 10, 11, 12, 13, 14, 15, 16] [(16, some true), (15, some false)] (bA 35 [0, 1, 2, 3, 4, 5, 6, 7, 8, 9, 10, 11, 12, 13, 14, 15, 16]) 18 (by kernel_rfl) (by kernel_rfl) (Cls.refl _ _) ?_
   have hC103 := Cls.refl w98 []
   refine gv_pureNC hC103 2 [48, 49] [(48, undef), (49, undef)] (by kernel_rfl) ?_
   refine gv_nil <| gv_goA ?_
   refine gv_pre [17, 18, 19] (bA 35 [0, 1, 2, 3, 4, 5, 6, 7, 8, 9, 10, 11, 12, 13, 14, 15, 16, 17, 18, 19]) 15 (by kernel_rfl) (by kernel_rfl) ?_
   refine gv_pureN 3 [50, 51, 52] [(52, (.bool true))] (by kernel_rfl) ?_
   refine gv_nil <| gv_goA ?_
   refine gv_stage (Cls w98 []) [0, 1, 2, 3, 4, 5, 6, 7, 8, 9, 10, 11, 12, 13, 14, 15, 16, 17, 18, 19, 20, 21] [(20, some true), (21, some true)] (bA 35 [0, 1, 2, 3, 4, 5, 6, 7, 8, 9, 10, 11, 12, 13, 14, 15, 16, 17, 18, 19, 20, 21]) 13 (by kernel_rfl) (by kernel_rfl) (Cls.refl _ _) ?_
   have hC104 := Cls.refl w98 []
   refine gv_pureN 2 [53, 54] [(53, undef), (54, undef)] (by kernel_rfl) ?_
   refine gv_nil <| gv_goA ?_
   refine gv_pre [22, 23, 24, 25] (bA 35 [0, 1, 2, 3, 4, 5, 6, 7, 8, 9, 10, 11, 12, 13, 14, 15, 16, 17, 18, 19, 20, 21, 22, 23, 24, 25]) 9 (by kernel_rfl) (by kernel_rfl) ?_
   refine gv_pureN 4 [55, 56, 57, 58] [(57, (.bool true)), (58, undef)] (by kernel_rfl) ?_
   refine gv_nil <| gv_goA ?_
   refine gv_stage (Cls w98 []) [0, 1, 2, 3, 4, 5, 6, 7, 8, 9, 10, 11, 12, 13, 14, 15, 16, 17, 18, 19, 20, 21, 22, 23, 24, 25, 26] [(26, some true)] (bA 35 [0, 1, 2, 3, 4, 5, 6, 7, 8, 9, 10, 11, 12, 13, 14, 15, 16, 17, 18, 19, 20, 21, 22, 23, 24, 25, 26]) 8 (by kernel_rfl) (by kernel_rfl) (Cls.refl _ _) ?_
   have hC105 := Cls.refl w98 []
   refine gv_pureN 1 [59] [(59, undef)] (by kernel_rfl) ?_
   refine gv_nil <| gv_goA ?_
   refine gv_pre [27, 28, 29] (bA 35 [0, 1, 2, 3, 4, 5, 6, 7, 8, 9, 10, 11, 12, 13, 14, 15, 16, 17, 18, 19, 20, 21, 22, 23, 24, 25, 26, 27, 28, 29]) 5 (by kernel_rfl) (by kernel_rfl) ?_
   refine gv_pureN 3 [60, 61, 62] [(61, undef), (62, undef)] (by kernel_rfl) ?_
   refine gv_nil <| gv_goA ?_
   refine gv_stage (fun _ => True) [0, 1, 2, 3, 4, 5, 6, 7, 8, 9, 10, 11, 12, 13, 14, 15, 16, 17, 18, 19, 20, 21, 22, 23, 24, 25, 26, 27, 28, 29, 30] [(30, some false)] (bA 35 [0, 1, 2, 3, 4, 5, 6, 7, 8, 9, 10, 11, 12, 13, 14, 15, 16, 17, 18, 19, 20, 21, 22, 23, 24, 25, 26, 27, 28, 29, 30]) 4 (by kernel_rfl) (by kernel_rfl) trivial ?_
   refine gv_pureNC trivial 1 [63] [(63, undef)] (by kernel_rfl) ?_
   refine gv_nil <| gv_goA ?_
   refine gv_pre [31, 32, 33, 34] (bA 35 [0, 1, 2, 3, 4, 5, 6, 7, 8, 9, 10, 11, 12, 13, 14, 15, 16, 17, 18, 19, 20, 21, 22, 23, 24, 25, 26, 27, 28, 29, 30, 31, 32, 33, 34]) 0 (by kernel_rfl) (by kernel_rfl) ?_
   refine gv_pureN 4 [64, 65, 66, 67] [(67, (.bool true))] (by kernel_rfl) ?_
   refine gv_nil <| gv_goA ?_
   refine gv_stageE (by kernel_rfl) ?_
   have e := sj h1; subst e
   refine gv_goal fun a hd hs hok => ?_
   have hB106 := bg hB97 hg99 nb
   have hz107 := (nt hg89.size hg99.size)
   have hg108 := (grown_trans hg89 hg99)
   have hk109 := hb84.grown hg108 nb
   exact ⟨hB106, hz107, hk109, hd, hs, ok_pick [1, 7, 8, 12, 67] hok (by kernel_rfl)⟩
  ·skip
   replace h1 := ite_f hc102 h1
   have hg110 := (grown_trans hg29 hg33)
   have hk111 := hb19.grown hg29 nb
   have lt112 := ltl ((ltb hk111) _ rfl) ((lowb hbe35) _ rfl)
   have hk113 := hb39.grown hg44 nb
   have lt114 := ltl ((ltb hk113) _ rfl) ((lowb hbe60) _ rfl)
   have lt115 := ltt lt112 lt114
   have hk116 := hb64.grown hg74 nb
   have lt117 := ltl ((ltb hk116) _ rfl) ((lowb hbe80) _ rfl)
   have lt118 := ltt lt115 lt117
   have hg119 := (grown_trans hg89 hg99)
   have hk120 := ((((((hb19.grown hg110 nb).grown hg38 (rowne (ng lt112))).grown hg68 nb).grown hg63 (rowne (ng lt115))).grown hg92 nb).grown hg83 (rowne (ng lt118))).grown hg119 nb
   refine gv_loadBox (t := 26) (b := b11) (t' := 26) (fr := (0, 0)) #[(.int .i64 r1.2.1), (.int .i64 r1.2.2)] [] (fun e => by cases e) rfl rfl rfl (by kernel_rfl) (by kernel_rfl) (by kernel_rfl) (by kernel_rfl) (inw1 fun w' hC' => (hC'.box hk120 nm_nil)) rfl ?_
   have hk121 := ((hk116.grown hg78 nb).grown hg83 (rowne (ng lt117))).grown hg119 nb
   refine gv_loadBox (t := 26) (b := b56) (t' := 26) (fr := (0, 0)) #[(.int .i64 r41.2.1), (.int .i64 r41.2.2)] [] (fun e => by cases e) rfl rfl rfl (by kernel_rfl) (by kernel_rfl) (by kernel_rfl) (by kernel_rfl) (inw1 fun w' hC' => (hC'.box hk121 nm_nil)) rfl ?_
   refine gv_nil <| gv_goA ?_
   refine gv_pre [5, 6, 7, 8, 9] (bA 35 [0, 1, 2, 3, 4, 5, 6, 7, 8, 9]) 25 (by kernel_rfl) (by kernel_rfl) ?_
   refine gv_eqs (t := 26) (op := .neq) (x := (.tmp 36)) (y := (.tmp 37)) (xs := #[(.int .i64 r1.2.1), (.int .i64 r1.2.2)]) (ys := #[(.int .i64 r41.2.1), (.int .i64 r41.2.2)]) (!((r1.2.1 == r41.2.1) && (r1.2.2 == r41.2.2))) [] (fun e => by cases e) rfl rfl rfl (by kernel_rfl) (by kernel_rfl) (fun w' => eqs26neq r1.2.1 r1.2.2 r41.2.1 r41.2.2 _ _ w') rfl ?_
   refine gv_pureN 2 [39, 40] [(40, (.bool (!((r1.2.1 == r41.2.1) && (r1.2.2 == r41.2.2)))))] (by kernel_rfl) ?_
   refine gv_sub [1, 5, 7, 8, 9, 10, 11, 12, 40] (σ' := [(1, (.slice pa1_0 (List.length l_1) pc1_0)), (5, (.slice a6 (List.length r1.1) c7)), (7, (.int .i64 r21.1)), (8, (.int .i64 r21.2.1)), (9, (bp b31)), (10, (.slice a46 (List.length r41.1) c47)), (11, (bp b56)), (12, (bp b76)), (40, (.bool (!((r1.2.1 == r41.2.1) && (r1.2.2 == r41.2.2)))))]) (by kernel_rfl) ?_
   refine gv_split (s := 40) (g := (!((r1.2.1 == r41.2.1) && (r1.2.2 == r41.2.2)))) (by kernel_rfl) (fun hc122 => ?_) (fun hc122 => ?_)
   ·skip
    replace h1 := ite_t hc122 h1
    refine gv_pureN 2 [41, 42] [(41, undef), (42, undef)] (by kernel_rfl) ?_
    refine gv_nil <| gv_goA ?_
    refine gv_stage (fun _ => True) [0, 1, 2, 3, 4, 5, 6, 7, 8, 9, 10] [(10, some false)] (bA 35 [0, 1, 2, 3, 4, 5, 6, 7, 8, 9, 10]) 24 (by kernel_rfl) (by kernel_rfl) trivial ?_
    refine gv_pureNC trivial 1 [43] [(43, undef)] (by kernel_rfl) ?_
    refine gv_nil <| gv_goA ?_
    refine gv_pre [11, 12, 13, 14] (bA 35 [0, 1, 2, 3, 4, 5, 6, 7, 8, 9, 10, 11, 12, 13, 14]) 20 (by kernel_rfl) (by kernel_rfl) ?_
    refine gv_pureN 4 [44, 45, 46, 47] [(46, (.bool true)), (47, undef)] (by kernel_rfl) ?_
    refine gv_nil <| gv_goA ?_
    refine gv_stage (Cls w98 []) [0, 1, 2, 3, 4, 5, 6, 7, 8, 9, 10, 11, 12, 13, 14, 15, 16] [(16, some true), (15, some false)] (bA 35 [0, 1, 2, 3, 4, 5, 6, 7, 8, 9, 10, 11, 12, 13, 14, 15, 16]) 18 (by kernel_rfl) (by kernel_rfl) (Cls.refl _ _) ?_
    have hC123 := Cls.refl w98 []
    refine gv_pureNC hC123 2 [48, 49] [(48, undef), (49, undef)] (by kernel_rfl) ?_
    refine gv_nil <| gv_goA ?_
    refine gv_pre [17, 18, 19] (bA 35 [0, 1, 2, 3, 4, 5, 6, 7, 8, 9, 10, 11, 12, 13, 14, 15, 16, 17, 18, 19]) 15 (by kernel_rfl) (by kernel_rfl) ?_
    refine gv_pureN 3 [50, 51, 52] [(52, (.bool true))] (by kernel_rfl) ?_
    refine gv_nil <| gv_goA ?_
    refine gv_stage (Cls w98 []) [0, 1, 2, 3, 4, 5, 6, 7, 8, 9, 10, 11, 12, 13, 14, 15, 16, 17, 18, 19, 20, 21] [(20, some true), (21, some true)] (bA 35 [0, 1, 2, 3, 4, 5, 6, 7, 8, 9, 10, 11, 12, 13, 14, 15, 16, 17, 18, 19, 20, 21]) 13 (by kernel_rfl) (by kernel_rfl) (Cls.refl _ _) ?_
    have hC124 := Cls.refl w98 []
    refine gv_pureN 2 [53, 54] [(53, undef), (54, undef)] (by kernel_rfl) ?_
    refine gv_nil <| gv_goA ?_
    refine gv_pre [22, 23, 24, 25] (bA 35 [0, 1, 2, 3, 4, 5, 6, 7, 8, 9, 10, 11, 12, 13, 14, 15, 16, 17, 18, 19, 20, 21, 22, 23, 24, 25]) 9 (by kernel_rfl) (by kernel_rfl) ?_
    refine gv_pureN 4 [55, 56, 57, 58] [(57, (.bool true)), (58, undef)] (by kernel_rfl) ?_
    refine gv_nil <| gv_goA ?_
    refine gv_stage (Cls w98 []) [0, 1, 2, 3, 4, 5, 6, 7, 8, 9, 10, 11, 12, 13, 14, 15, 16, 17, 18, 19, 20, 21, 22, 23, 24, 25, 26] [(26, some true)] (bA 35 [0, 1, 2, 3, 4, 5, 6, 7, 8, 9, 10, 11, 12, 13, 14, 15, 16, 17, 18, 19, 20, 21, 22, 23, 24, 25, 26]) 8 (by kernel_rfl) (by kernel_rfl) (Cls.refl _ _) ?_
    have hC125 := Cls.refl w98 []
    refine gv_pureN 1 [59] [(59, undef)] (by kernel_rfl) ?_
    refine gv_nil <| gv_goA ?_
    refine gv_pre [27, 28, 29] (bA 35 [0, 1, 2, 3, 4, 5, 6, 7, 8, 9, 10, 11, 12, 13, 14, 15, 16, 17, 18, 19, 20, 21, 22, 23, 24, 25, 26, 27, 28, 29]) 5 (by kernel_rfl) (by kernel_rfl) ?_
    refine gv_pureN 3 [60, 61, 62] [(61, undef), (62, undef)] (by kernel_rfl) ?_
    refine gv_nil <| gv_goA ?_
    refine gv_stage (fun _ => True) [0, 1, 2, 3, 4, 5, 6, 7, 8, 9, 10, 11, 12, 13, 14, 15, 16, 17, 18, 19, 20, 21, 22, 23, 24, 25, 26, 27, 28, 29, 30] [(30, some false)] (bA 35 [0, 1, 2, 3, 4, 5, 6, 7, 8, 9, 10, 11, 12, 13, 14, 15, 16, 17, 18, 19, 20, 21, 22, 23, 24, 25, 26, 27, 28, 29, 30]) 4 (by kernel_rfl) (by kernel_rfl) trivial ?_
    refine gv_pureNC trivial 1 [63] [(63, undef)] (by kernel_rfl) ?_
    refine gv_nil <| gv_goA ?_
    refine gv_pre [31, 32, 33, 34] (bA 35 [0, 1, 2, 3, 4, 5, 6, 7, 8, 9, 10, 11, 12, 13, 14, 15, 16, 17, 18, 19, 20, 21, 22, 23, 24, 25, 26, 27, 28, 29, 30, 31, 32, 33, 34]) 0 (by kernel_rfl) (by kernel_rfl) ?_
    refine gv_pureN 4 [64, 65, 66, 67] [(67, (.bool true))] (by kernel_rfl) ?_
    refine gv_nil <| gv_goA ?_
    refine gv_stageE (by kernel_rfl) ?_
    have e := sj h1; subst e
    refine gv_goal fun a hd hs hok => ?_
    have hB126 := bg hB97 hg99 nb
    have hz127 := (nt hg89.size hg99.size)
    have hk128 := hb84.grown hg119 nb
    exact ⟨hB126, hz127, hk128, hd, hs, ok_pick [1, 7, 8, 12, 67] hok (by kernel_rfl)⟩
   ·skip
    replace h1 := ite_f hc122 h1
    refine gv_pureN 2 [41, 42] [(41, (.slice a6 (List.length r1.1) c7)), (42, (.slice a46 (List.length r41.1) c47))] (by kernel_rfl) ?_
    refine gv_nil <| gv_goA ?_
    refine gv_stage (fun _ => True) [0, 1, 2, 3, 4, 5, 6, 7, 8, 9, 10] [(10, some false)] (bA 35 [0, 1, 2, 3, 4, 5, 6, 7, 8, 9, 10]) 24 (by kernel_rfl) (by kernel_rfl) trivial ?_
    refine bindE h1 ?_; clear h1; intro r129 hr130 h1
    have ap131 : ¬ (fun k => blk a6 = some k) b11 := fun hx => nl ((lowb hbe15) _ rfl) ((fun k (hk : blk a6 = some k) => ho8.lt k hk) _ hx)
    have hk132 := ((ho8.grown hg13 (fun _ h => h.elim) nb).grown hg18 (fun _ h => h.elim) (rdnn (rowne ap131))).grown hg29 (fun _ h => h.elim) nb
    have ap133 : ¬ (fun k => blk a6 = some k) b31 := fun hx => nl ((lowb hbe35) _ rfl) ((fun k (hk : blk a6 = some k) => hk132.lt k hk) _ hx)
    have hk134 := ((hk132.grown hg33 (fun _ h => h.elim) nb).grown hg38 (fun _ h => h.elim) (rdnn (rowne ap133))).grown hg44 (fun _ h => h.elim) nb
    have ap135 : ¬ (fun k => blk a6 = some k) b56 := fun hx => nl ((lowb hbe60) _ rfl) ((fun k (hk : blk a6 = some k) => hk134.lt k hk) _ hx)
    have hk136 := ((hk134.grown hg58 (fun _ h => h.elim) nb).grown hg63 (fun _ h => h.elim) (rdnn (rowne ap135))).grown hg74 (fun _ h => h.elim) nb
    have ap137 : ¬ (fun k => blk a6 = some k) b76 := fun hx => nl ((lowb hbe80) _ rfl) ((fun k (hk : blk a6 = some k) => hk136.lt k hk) _ hx)
    have hk138 := ((((((((ho8.grown hg13 (fun _ h => h.elim) nb).grown hg18 (fun _ h => h.elim) (rdnn (rowne ap131))).grown hg110 (fun _ h => h.elim) nb).grown hg38 (fun _ h => h.elim) (rdnn (rowne ap133))).grown hg68 (fun _ h => h.elim) nb).grown hg63 (fun _ h => h.elim) (rdnn (rowne ap135))).grown hg92 (fun _ h => h.elim) nb).grown hg83 (fun _ h => h.elim) (rdnn (rowne ap137))).grown hg119 (fun _ h => h.elim) nb
    have ap139 : ¬ (fun k => blk a46 = some k) b56 := fun hx => nl ((lowb hbe60) _ rfl) ((fun k (hk : blk a46 = some k) => ho48.lt k hk) _ hx)
    have hk140 := ((ho48.grown hg58 (fun _ h => h.elim) nb).grown hg63 (fun _ h => h.elim) (rdnn (rowne ap139))).grown hg74 (fun _ h => h.elim) nb
    have ap141 : ¬ (fun k => blk a46 = some k) b76 := fun hx => nl ((lowb hbe80) _ rfl) ((fun k (hk : blk a46 = some k) => hk140.lt k hk) _ hx)
    have hk142 := ((((ho48.grown hg58 (fun _ h => h.elim) nb).grown hg63 (fun _ h => h.elim) (rdnn (rowne ap139))).grown hg92 (fun _ h => h.elim) nb).grown hg83 (fun _ h => h.elim) (rdnn (rowne ap141))).grown hg119 (fun _ h => h.elim) nb
    refine gv_call (f := 14) (vs := [(.slice a6 (List.length r1.1) c7), (.slice a46 (List.length r41.1) c47)]) (cap := []) _ (by decide) rfl rfl rfl (by kernel_rfl) (by kernel_rfl) enters14 (ref4_SameFields_ok fuel a6 c7 r1.1 a46 c47 r41.1 w98 (fun k => (fun k => blk a6 = some k) k ∨ (fun k => blk a46 = some k) k) (fun k hk => (hk).elim (fun h => (fun k (hk : blk a6 = some k) => hk138.lt k hk) k h) (fun h => (fun k (hk : blk a46 = some k) => hk142.lt k hk) k h)) ((hk138.rd (Y := fun k => blk a6 = some k) (fun _ h => h.elim) (fun g e => e)).wide (fun k hk => (.inl hk))) ((hk142.rd (Y := fun k => blk a46 = some k) (fun _ h => h.elim) (fun g e => e)).wide (fun k hk => (.inr hk))) r129 hr130) ?_
    rintro v145 w143 ⟨hg144, rfl⟩
    refine ⟨(fun _ => trivial), ?_⟩
    refine gv_nil <| gv_goA ?_
    refine gv_pre [11, 12, 13, 14] (bA 35 [0, 1, 2, 3, 4, 5, 6, 7, 8, 9, 10, 11, 12, 13, 14]) 20 (by kernel_rfl) (by kernel_rfl) ?_
    refine gv_pureN 3 [44, 45, 46] [(46, (.bool (!r129)))] (by kernel_rfl) ?_
    refine gv_split (s := 46) (g := (!r129)) (by kernel_rfl) (fun hc146 => ?_) (fun hc146 => ?_)
    ·skip
     replace h1 := ite_t hc146 h1
     refine gv_pureN 1 [47] [(47, undef)] (by kernel_rfl) ?_
     refine gv_nil <| gv_goA ?_
     refine gv_stage (Cls w143 []) [0, 1, 2, 3, 4, 5, 6, 7, 8, 9, 10, 11, 12, 13, 14, 15, 16] [(16, some true), (15, some false)] (bA 35 [0, 1, 2, 3, 4, 5, 6, 7, 8, 9, 10, 11, 12, 13, 14, 15, 16]) 18 (by kernel_rfl) (by kernel_rfl) (Cls.refl _ _) ?_
     have hC147 := Cls.refl w143 []
     refine gv_pureNC hC147 2 [48, 49] [(48, undef), (49, undef)] (by kernel_rfl) ?_
     refine gv_nil <| gv_goA ?_
     refine gv_pre [17, 18, 19] (bA 35 [0, 1, 2, 3, 4, 5, 6, 7, 8, 9, 10, 11, 12, 13, 14, 15, 16, 17, 18, 19]) 15 (by kernel_rfl) (by kernel_rfl) ?_
     refine gv_pureN 3 [50, 51, 52] [(52, (.bool true))] (by kernel_rfl) ?_
     refine gv_nil <| gv_goA ?_
     refine gv_stage (Cls w143 []) [0, 1, 2, 3, 4, 5, 6, 7, 8, 9, 10, 11, 12, 13, 14, 15, 16, 17, 18, 19, 20, 21] [(20, some true), (21, some true)] (bA 35 [0, 1, 2, 3, 4, 5, 6, 7, 8, 9, 10, 11, 12, 13, 14, 15, 16, 17, 18, 19, 20, 21]) 13 (by kernel_rfl) (by kernel_rfl) (Cls.refl _ _) ?_
     have hC148 := Cls.refl w143 []
     refine gv_pureN 2 [53, 54] [(53, undef), (54, undef)] (by kernel_rfl) ?_
     refine gv_nil <| gv_goA ?_
     refine gv_pre [22, 23, 24, 25] (bA 35 [0, 1, 2, 3, 4, 5, 6, 7, 8, 9, 10, 11, 12, 13, 14, 15, 16, 17, 18, 19, 20, 21, 22, 23, 24, 25]) 9 (by kernel_rfl) (by kernel_rfl) ?_
     refine gv_pureN 4 [55, 56, 57, 58] [(57, (.bool true)), (58, undef)] (by kernel_rfl) ?_
     refine gv_nil <| gv_goA ?_
     refine gv_stage (Cls w143 []) [0, 1, 2, 3, 4, 5, 6, 7, 8, 9, 10, 11, 12, 13, 14, 15, 16, 17, 18, 19, 20, 21, 22, 23, 24, 25, 26] [(26, some true)] (bA 35 [0, 1, 2, 3, 4, 5, 6, 7, 8, 9, 10, 11, 12, 13, 14, 15, 16, 17, 18, 19, 20, 21, 22, 23, 24, 25, 26]) 8 (by kernel_rfl) (by kernel_rfl) (Cls.refl _ _) ?_
     have hC149 := Cls.refl w143 []
     refine gv_pureN 1 [59] [(59, undef)] (by kernel_rfl) ?_
     refine gv_nil <| gv_goA ?_
     refine gv_pre [27, 28, 29] (bA 35 [0, 1, 2, 3, 4, 5, 6, 7, 8, 9, 10, 11, 12, 13, 14, 15, 16, 17, 18, 19, 20, 21, 22, 23, 24, 25, 26, 27, 28, 29]) 5 (by kernel_rfl) (by kernel_rfl) ?_
     refine gv_pureN 3 [60, 61, 62] [(61, undef), (62, undef)] (by kernel_rfl) ?_
     refine gv_nil <| gv_goA ?_
     refine gv_stage (fun _ => True) [0, 1, 2, 3, 4, 5, 6, 7, 8, 9, 10, 11, 12, 13, 14, 15, 16, 17, 18, 19, 20, 21, 22, 23, 24, 25, 26, 27, 28, 29, 30] [(30, some false)] (bA 35 [0, 1, 2, 3, 4, 5, 6, 7, 8, 9, 10, 11, 12, 13, 14, 15, 16, 17, 18, 19, 20, 21, 22, 23, 24, 25, 26, 27, 28, 29, 30]) 4 (by kernel_rfl) (by kernel_rfl) trivial ?_
     refine gv_pureNC trivial 1 [63] [(63, undef)] (by kernel_rfl) ?_
     refine gv_nil <| gv_goA ?_
     refine gv_pre [31, 32, 33, 34] (bA 35 [0, 1, 2, 3, 4, 5, 6, 7, 8, 9, 10, 11, 12, 13, 14, 15, 16, 17, 18, 19, 20, 21, 22, 23, 24, 25, 26, 27, 28, 29, 30, 31, 32, 33, 34]) 0 (by kernel_rfl) (by kernel_rfl) ?_
     refine gv_pureN 4 [64, 65, 66, 67] [(67, (.bool true))] (by kernel_rfl) ?_
     refine gv_nil <| gv_goA ?_
     refine gv_stageE (by kernel_rfl) ?_
     have e := sj h1; subst e
     refine gv_goal fun a hd hs hok => ?_
     have hg150 := (grown_trans hg99 hg144)
     have hB151 := bg hB97 hg150 nb
     have hz152 := (nt (nt hg89.size hg99.size) hg144.size)
     have hg153 := (grown_trans hg119 hg144)
     have hk154 := hb84.grown hg153 nb
     exact ⟨hB151, hz152, hk154, hd, hs, ok_pick [1, 7, 8, 12, 67] hok (by kernel_rfl)⟩
    ·skip
     replace h1 := ite_f hc146 h1
     refine gv_pureN 1 [47] [(47, (.slice pa1_0 (List.length l_1) pc1_0))] (by kernel_rfl) ?_
     refine gv_nil <| gv_goA ?_
     refine gv_stage (Cls w143 []) [0, 1, 2, 3, 4, 5, 6, 7, 8, 9, 10, 11, 12, 13, 14, 15, 16] [(16, some true), (15, some false)] (bA 35 [0, 1, 2, 3, 4, 5, 6, 7, 8, 9, 10, 11, 12, 13, 14, 15, 16]) 18 (by kernel_rfl) (by kernel_rfl) (Cls.refl _ _) ?_
     have hC155 := Cls.refl w143 []
     have hg156 := (grown_trans hg119 hg144)
     have hk157 := hb84.grown hg156 nb
     refine gv_loadBox (t := 26) (b := b76) (t' := 26) (fr := (0, 0)) #[(.int .i64 r66.1), (.int .i64 r66.2)] [] (fun e => by cases e) rfl rfl rfl (by kernel_rfl) (by kernel_rfl) (by kernel_rfl) (by kernel_rfl) (inw1 fun w' hC' => (hC'.box hk157 nm_nil)) rfl ?_
     refine bindE h1 ?_; clear h1; intro r158 hr159 h1
     have hg160 := (grown_trans hg99 hg144)
     have hB161 := bg hB97 hg160 nb
     refine gv_call (f := 15) (vs := [(.slice pa1_0 (List.length l_1) pc1_0)]) (cap := []) _ (by decide) rfl rfl rfl (by kernel_rfl) (by kernel_rfl) enters15 (packing_Check_ok fuel pa1_0 pc1_0 l_1 w143 (fun k => X0 k) (fun k hk => (fun k (hk : X0 k) => ltl (hX0 k hk) hB161.size) k hk) ((hpa1_0.below hB161 hX0).wide (fun k hk => hk)) r158 hr159) ?_
     rintro v164 w162 ⟨hg163, rfl⟩
     refine ⟨(fun _ => hC155.grown hg163 nb), ?_⟩
     have hz165 := (nt (nt hg89.size hg99.size) hg144.size)
     clear hg160 hr159 hg156 hc146 ap141 hk140 ap139 ap131 hr130 hc122 hg119 lt118 hk116 lt115 lt112 hk111 hg110 hc102 hC101 hB97 hB96 hB94 hB93 hg92 hr91 hz85 hb84 hz81 hb79 hB72 hB70 hB69 hg68 hr67 hz65 hb64 hb59 hB55 hl49 ho48 hg44 hb39 hg38 hg33 hg29 hb19 hg18 hbe15 hg13 ho8
     refine gv_nil <| gv_goA ?_
     refine gv_pre [17, 18, 19] (bA 35 [0, 1, 2, 3, 4, 5, 6, 7, 8, 9, 10, 11, 12, 13, 14, 15, 16, 17, 18, 19]) 15 (by kernel_rfl) (by kernel_rfl) ?_
     refine gv_eqs (t := 26) (op := .neq) (x := (.tmp 48)) (y := (.tmp 49)) (xs := #[(.int .i64 r158.1), (.int .i64 r158.2)]) (ys := #[(.int .i64 r66.1), (.int .i64 r66.2)]) (!((r158.1 == r66.1) && (r158.2 == r66.2))) [] (fun e => by cases e) rfl rfl rfl (by kernel_rfl) (by kernel_rfl) (fun w' => eqs26neq r158.1 r158.2 r66.1 r66.2 _ _ w') rfl ?_
     refine gv_pureN 2 [51, 52] [(52, (.bool (!((r158.1 == r66.1) && (r158.2 == r66.2)))))] (by kernel_rfl) ?_
     refine gv_nil <| gv_goA ?_
     refine gv_stage (Cls w162 []) [0, 1, 2, 3, 4, 5, 6, 7, 8, 9, 10, 11, 12, 13, 14, 15, 16, 17, 18, 19, 20, 21] [(20, some true), (21, some true)] (bA 35 [0, 1, 2, 3, 4, 5, 6, 7, 8, 9, 10, 11, 12, 13, 14, 15, 16, 17, 18, 19, 20, 21]) 13 (by kernel_rfl) (by kernel_rfl) (Cls.refl _ _) ?_
     have hC166 := Cls.refl w162 []
     refine gv_split (s := 52) (g := (!((r158.1 == r66.1) && (r158.2 == r66.2)))) (by kernel_rfl) (fun hc167 => ?_) (fun hc167 => ?_)
     ·skip
      replace h1 := ite_t hc167 h1
      refine gv_pureN 2 [53, 54] [(53, undef), (54, undef)] (by kernel_rfl) ?_
      refine gv_nil <| gv_goA ?_
      refine gv_pre [22, 23, 24, 25] (bA 35 [0, 1, 2, 3, 4, 5, 6, 7, 8, 9, 10, 11, 12, 13, 14, 15, 16, 17, 18, 19, 20, 21, 22, 23, 24, 25]) 9 (by kernel_rfl) (by kernel_rfl) ?_
      refine gv_pureN 4 [55, 56, 57, 58] [(57, (.bool true)), (58, undef)] (by kernel_rfl) ?_
      refine gv_nil <| gv_goA ?_
      refine gv_stage (Cls w162 []) [0, 1, 2, 3, 4, 5, 6, 7, 8, 9, 10, 11, 12, 13, 14, 15, 16, 17, 18, 19, 20, 21, 22, 23, 24, 25, 26] [(26, some true)] (bA 35 [0, 1, 2, 3, 4, 5, 6, 7, 8, 9, 10, 11, 12, 13, 14, 15, 16, 17, 18, 19, 20, 21, 22, 23, 24, 25, 26]) 8 (by kernel_rfl) (by kernel_rfl) (Cls.refl _ _) ?_
      have hC168 := Cls.refl w162 []
      refine gv_pureN 1 [59] [(59, undef)] (by kernel_rfl) ?_
      refine gv_nil <| gv_goA ?_
      refine gv_pre [27, 28, 29] (bA 35 [0, 1, 2, 3, 4, 5, 6, 7, 8, 9, 10, 11, 12, 13, 14, 15, 16, 17, 18, 19, 20, 21, 22, 23, 24, 25, 26, 27, 28, 29]) 5 (by kernel_rfl) (by kernel_rfl) ?_
      refine gv_pureN 3 [60, 61, 62] [(61, undef), (62, undef)] (by kernel_rfl) ?_
      refine gv_nil <| gv_goA ?_
      refine gv_stage (fun _ => True) [0, 1, 2, 3, 4, 5, 6, 7, 8, 9, 10, 11, 12, 13, 14, 15, 16, 17, 18, 19, 20, 21, 22, 23, 24, 25, 26, 27, 28, 29, 30] [(30, some false)] (bA 35 [0, 1, 2, 3, 4, 5, 6, 7, 8, 9, 10, 11, 12, 13, 14, 15, 16, 17, 18, 19, 20, 21, 22, 23, 24, 25, 26, 27, 28, 29, 30]) 4 (by kernel_rfl) (by kernel_rfl) trivial ?_
      refine gv_pureNC trivial 1 [63] [(63, undef)] (by kernel_rfl) ?_
      refine gv_nil <| gv_goA ?_
      refine gv_pre [31, 32, 33, 34] (bA 35 [0, 1, 2, 3, 4, 5, 6, 7, 8, 9, 10, 11, 12, 13, 14, 15, 16, 17, 18, 19, 20, 21, 22, 23, 24, 25, 26, 27, 28, 29, 30, 31, 32, 33, 34]) 0 (by kernel_rfl) (by kernel_rfl) ?_
      refine gv_pureN 4 [64, 65, 66, 67] [(67, (.bool true))] (by kernel_rfl) ?_
      refine gv_sub [1, 7, 8, 12, 67] (σ' := [(1, (.slice pa1_0 (List.length l_1) pc1_0)), (7, (.int .i64 r21.1)), (8, (.int .i64 r21.2.1)), (12, (bp b76)), (67, (.bool true))]) (by kernel_rfl) ?_
      refine gv_nil <| gv_goA ?_
      refine gv_stageE (by kernel_rfl) ?_
      have e := sj h1; subst e
      refine gv_goal fun a hd hs hok => ?_
      have hB169 := bg hB161 hg163 nb
      have hz170 := (nt hz165 hg163.size)
      have hk171 := hk157.grown hg163 nb
      exact ⟨hB169, hz170, hk171, hd, hs, ok_pick [1, 7, 8, 12, 67] hok (by kernel_rfl)⟩
     ·skip
      replace h1 := ite_f hc167 h1
      have hg172 := (grown_trans hg74 hg78)
      have lt173 := ltt lt114 lt117
      have hg174 := (grown_trans (grown_trans (grown_trans hg89 hg99) hg144) hg163)
      have hk175 := ((((hk113.grown hg58 nb).grown hg63 (rowne (ng lt114))).grown hg172 nb).grown hg83 (rowne (ng lt173))).grown hg174 nb
      refine gv_loadBox (t := 26) (b := b31) (t' := 26) (fr := (0, 0)) #[(.int .i64 r21.2.2.1), (.int .i64 r21.2.2.2)] [] (fun e => by cases e) rfl rfl rfl (by kernel_rfl) (by kernel_rfl) (by kernel_rfl) (by kernel_rfl) (inw1 fun w' hC' => (hC'.box hk175 nm_nil)) rfl ?_
      have hk176 := hk157.grown hg163 nb
      refine gv_loadBox (t := 26) (b := b76) (t' := 26) (fr := (0, 0)) #[(.int .i64 r66.1), (.int .i64 r66.2)] [] (fun e => by cases e) rfl rfl rfl (by kernel_rfl) (by kernel_rfl) (by kernel_rfl) (by kernel_rfl) (inw1 fun w' hC' => (hC'.box hk176 nm_nil)) rfl ?_
      refine gv_nil <| gv_goA ?_
      refine gv_pre [22, 23, 24, 25] (bA 35 [0, 1, 2, 3, 4, 5, 6, 7, 8, 9, 10, 11, 12, 13, 14, 15, 16, 17, 18, 19, 20, 21, 22, 23, 24, 25]) 9 (by kernel_rfl) (by kernel_rfl) ?_
      refine gv_eqs (t := 26) (op := .neq) (x := (.tmp 53)) (y := (.tmp 54)) (xs := #[(.int .i64 r21.2.2.1), (.int .i64 r21.2.2.2)]) (ys := #[(.int .i64 r66.1), (.int .i64 r66.2)]) (!((r21.2.2.1 == r66.1) && (r21.2.2.2 == r66.2))) [] (fun e => by cases e) rfl rfl rfl (by kernel_rfl) (by kernel_rfl) (fun w' => eqs26neq r21.2.2.1 r21.2.2.2 r66.1 r66.2 _ _ w') rfl ?_
      refine gv_pureN 2 [56, 57] [(57, (.bool (!((r21.2.2.1 == r66.1) && (r21.2.2.2 == r66.2)))))] (by kernel_rfl) ?_
      refine gv_split (s := 57) (g := (!((r21.2.2.1 == r66.1) && (r21.2.2.2 == r66.2)))) (by kernel_rfl) (fun hc177 => ?_) (fun hc177 => ?_)
      ·skip
       replace h1 := ite_t hc177 h1
       refine gv_pureN 1 [58] [(58, undef)] (by kernel_rfl) ?_
       refine gv_nil <| gv_goA ?_
       refine gv_stage (Cls w162 []) [0, 1, 2, 3, 4, 5, 6, 7, 8, 9, 10, 11, 12, 13, 14, 15, 16, 17, 18, 19, 20, 21, 22, 23, 24, 25, 26] [(26, some true)] (bA 35 [0, 1, 2, 3, 4, 5, 6, 7, 8, 9, 10, 11, 12, 13, 14, 15, 16, 17, 18, 19, 20, 21, 22, 23, 24, 25, 26]) 8 (by kernel_rfl) (by kernel_rfl) (Cls.refl _ _) ?_
       have hC178 := Cls.refl w162 []
       refine gv_pureN 1 [59] [(59, undef)] (by kernel_rfl) ?_
       refine gv_sub [1, 5, 7, 8, 12, 57, 59] (σ' := [(1, (.slice pa1_0 (List.length l_1) pc1_0)), (5, (.slice a6 (List.length r1.1) c7)), (7, (.int .i64 r21.1)), (8, (.int .i64 r21.2.1)), (12, (bp b76)), (57, (.bool true)), (59, undef)]) (by kernel_rfl) ?_
       refine gv_nil <| gv_goA ?_
       refine gv_pre [27, 28, 29] (bA 35 [0, 1, 2, 3, 4, 5, 6, 7, 8, 9, 10, 11, 12, 13, 14, 15, 16, 17, 18, 19, 20, 21, 22, 23, 24, 25, 26, 27, 28, 29]) 5 (by kernel_rfl) (by kernel_rfl) ?_
       refine gv_pureN 3 [60, 61, 62] [(61, undef), (62, undef)] (by kernel_rfl) ?_
       refine gv_nil <| gv_goA ?_
       refine gv_stage (fun _ => True) [0, 1, 2, 3, 4, 5, 6, 7, 8, 9, 10, 11, 12, 13, 14, 15, 16, 17, 18, 19, 20, 21, 22, 23, 24, 25, 26, 27, 28, 29, 30] [(30, some false)] (bA 35 [0, 1, 2, 3, 4, 5, 6, 7, 8, 9, 10, 11, 12, 13, 14, 15, 16, 17, 18, 19, 20, 21, 22, 23, 24, 25, 26, 27, 28, 29, 30]) 4 (by kernel_rfl) (by kernel_rfl) trivial ?_
       refine gv_pureNC trivial 1 [63] [(63, undef)] (by kernel_rfl) ?_
       refine gv_nil <| gv_goA ?_
       refine gv_pre [31, 32, 33, 34] (bA 35 [0, 1, 2, 3, 4, 5, 6, 7, 8, 9, 10, 11, 12, 13, 14, 15, 16, 17, 18, 19, 20, 21, 22, 23, 24, 25, 26, 27, 28, 29, 30, 31, 32, 33, 34]) 0 (by kernel_rfl) (by kernel_rfl) ?_
       refine gv_pureN 4 [64, 65, 66, 67] [(67, (.bool true))] (by kernel_rfl) ?_
       refine gv_nil <| gv_goA ?_
       refine gv_stageE (by kernel_rfl) ?_
       have e := sj h1; subst e
       refine gv_goal fun a hd hs hok => ?_
       have hB179 := bg hB161 hg163 nb
       have hz180 := (nt hz165 hg163.size)
       exact ⟨hB179, hz180, hk176, hd, hs, ok_pick [1, 7, 8, 12, 67] hok (by kernel_rfl)⟩
      ·skip
       replace h1 := ite_f hc177 h1
       refine gv_pureN 1 [58] [(58, (bp b56))] (by kernel_rfl) ?_
       refine gv_nil <| gv_goA ?_
       refine gv_stage (Cls w162 []) [0, 1, 2, 3, 4, 5, 6, 7, 8, 9, 10, 11, 12, 13, 14, 15, 16, 17, 18, 19, 20, 21, 22, 23, 24, 25, 26] [(26, some true)] (bA 35 [0, 1, 2, 3, 4, 5, 6, 7, 8, 9, 10, 11, 12, 13, 14, 15, 16, 17, 18, 19, 20, 21, 22, 23, 24, 25, 26]) 8 (by kernel_rfl) (by kernel_rfl) (Cls.refl _ _) ?_
       have hC181 := Cls.refl w162 []
       have hg182 := (grown_trans hg144 hg163)
       have hk183 := hk121.grown hg182 nb
       refine gv_load (t := 3) (A := ⟨b56, 0, none⟩) (.int .i64 r41.2.1) [] (fun e => by cases e) rfl rfl rfl (by kernel_rfl) (by kernel_rfl) (by kernel_rfl) (inw1 fun w' hC' => ((hC'.box hk183 nm_nil).cell 0 rfl)) rfl ?_
       refine gv_nil <| gv_goA ?_
       refine gv_pre [27, 28, 29] (bA 35 [0, 1, 2, 3, 4, 5, 6, 7, 8, 9, 10, 11, 12, 13, 14, 15, 16, 17, 18, 19, 20, 21, 22, 23, 24, 25, 26, 27, 28, 29]) 5 (by kernel_rfl) (by kernel_rfl) ?_
       refine gv_pureN 2 [60, 61] [(61, (.bool (r41.2.1 == 0)))] (by kernel_rfl) ?_
       refine gv_sub [1, 5, 7, 8, 12, 57, 61] (σ' := [(1, (.slice pa1_0 (List.length l_1) pc1_0)), (5, (.slice a6 (List.length r1.1) c7)), (7, (.int .i64 r21.1)), (8, (.int .i64 r21.2.1)), (12, (bp b76)), (57, (.bool false)), (61, (.bool (r41.2.1 == 0)))]) (by kernel_rfl) ?_
       refine gv_split (s := 61) (g := (r41.2.1 == 0)) (by kernel_rfl) (fun hc184 => ?_) (fun hc184 => ?_)
       ·skip
        replace h1 := ite_t hc184 h1
        refine gv_pureN 1 [62] [(62, (.slice a6 (List.length r1.1) c7))] (by kernel_rfl) ?_
        refine gv_nil <| gv_goA ?_
        refine gv_stage (fun _ => True) [0, 1, 2, 3, 4, 5, 6, 7, 8, 9, 10, 11, 12, 13, 14, 15, 16, 17, 18, 19, 20, 21, 22, 23, 24, 25, 26, 27, 28, 29, 30] [(30, some false)] (bA 35 [0, 1, 2, 3, 4, 5, 6, 7, 8, 9, 10, 11, 12, 13, 14, 15, 16, 17, 18, 19, 20, 21, 22, 23, 24, 25, 26, 27, 28, 29, 30]) 4 (by kernel_rfl) (by kernel_rfl) trivial ?_
        refine bindE h1 ?_; clear h1; intro r185 hr186 h1
        have hk187 := hk138.grown hg182 (fun _ h => h.elim) nb
        refine gv_call (f := 15) (vs := [(.slice a6 (List.length r1.1) c7)]) (cap := []) _ (by decide) rfl rfl rfl (by kernel_rfl) (by kernel_rfl) enters15 (packing_Check_ok fuel a6 c7 r1.1 w162 (fun k => (fun k => blk a6 = some k) k) (fun k hk => (fun k (hk : blk a6 = some k) => hk187.lt k hk) k hk) ((hk187.rd (Y := fun k => blk a6 = some k) (fun _ h => h.elim) (fun g e => e)).wide (fun k hk => hk)) r185 hr186) ?_
        rintro v190 w188 ⟨hg189, rfl⟩
        refine ⟨(fun _ => trivial), ?_⟩
        refine gv_nil <| gv_goA ?_
        refine gv_pre [31, 32, 33, 34] (bA 35 [0, 1, 2, 3, 4, 5, 6, 7, 8, 9, 10, 11, 12, 13, 14, 15, 16, 17, 18, 19, 20, 21, 22, 23, 24, 25, 26, 27, 28, 29, 30, 31, 32, 33, 34]) 0 (by kernel_rfl) (by kernel_rfl) ?_
        refine gv_pureN 4 [64, 65, 66, 67] [(67, (.bool (r185.1 != 0)))] (by kernel_rfl) ?_
        refine gv_nil <| gv_goA ?_
        refine gv_stageE (by kernel_rfl) ?_
        have e := sj h1; subst e
        refine gv_goal fun a hd hs hok => ?_
        have hg191 := (grown_trans hg163 hg189)
        have hB192 := bg hB161 hg191 nb
        have hz193 := (nt (nt hz165 hg163.size) hg189.size)
        have hk194 := hk176.grown hg189 nb
        exact ⟨hB192, hz193, hk194, hd, hs, ok_pick [1, 7, 8, 12, 67] hok (by kernel_rfl)⟩
       ·skip
        replace h1 := ite_f hc184 h1
        refine gv_pureN 1 [62] [(62, undef)] (by kernel_rfl) ?_
        refine gv_nil <| gv_goA ?_
        refine gv_stage (fun _ => True) [0, 1, 2, 3, 4, 5, 6, 7, 8, 9, 10, 11, 12, 13, 14, 15, 16, 17, 18, 19, 20, 21, 22, 23, 24, 25, 26, 27, 28, 29, 30] [(30, some false)] (bA 35 [0, 1, 2, 3, 4, 5, 6, 7, 8, 9, 10, 11, 12, 13, 14, 15, 16, 17, 18, 19, 20, 21, 22, 23, 24, 25, 26, 27, 28, 29, 30]) 4 (by kernel_rfl) (by kernel_rfl) trivial ?_
        refine gv_pureNC trivial 1 [63] [(63, undef)] (by kernel_rfl) ?_
        refine gv_nil <| gv_goA ?_
        refine gv_pre [31, 32, 33, 34] (bA 35 [0, 1, 2, 3, 4, 5, 6, 7, 8, 9, 10, 11, 12, 13, 14, 15, 16, 17, 18, 19, 20, 21, 22, 23, 24, 25, 26, 27, 28, 29, 30, 31, 32, 33, 34]) 0 (by kernel_rfl) (by kernel_rfl) ?_
        refine gv_pureN 4 [64, 65, 66, 67] [(67, (.bool false))] (by kernel_rfl) ?_
        refine gv_nil <| gv_goA ?_
        refine gv_stageE (by kernel_rfl) ?_
        have e := sj h1; subst e
        refine gv_goal fun a hd hs hok => ?_
        have hB195 := bg hB161 hg163 nb
        have hz196 := (nt hz165 hg163.size)
        exact ⟨hB195, hz196, hk176, hd, hs, ok_pick [1, 7, 8, 12, 67] hok (by kernel_rfl)⟩
 ·rintro a w87 ⟨hB197, hz198, hb199, hd, hs, hok⟩
  refine gv_in ?_ hd hs hok
  clear hd hs hok
  clear hz198 hz85 hb84 hg83 hz81 hb79 hg78 hlo71 hB70 hB69 hg68 hr67 hz65 hb64 hg63 hbe60 hb59 hg58 hl50 hB55 hlo54 hl49 ho48 hg44 hb39 hg38 hbe35 hg33 hg29 hlo26 hb19 hg18 hbe15 hg13 hl10 ho8
  refine gv_cond (b := j86) (by kernel_rfl) (fun hc200 => ?_) (fun hc200 => ?_)
  ·replace h0 := ite_t hc200 h0
   refine gv_seq <| gv_region <| gv_pureN 1 [4] [(4, (.bool false))] (by kernel_rfl) ?_
   refine gv_nil <| gv_cret ?_
   have e := sj h0; subst e
   refine gv_ret (gv_done [(.bool false)] rfl ⟨(by kernel_rfl), trivial⟩ ?_)
   exact ⟨grown_of_below hB197, rfl⟩
  ·replace h0 := ite_f hc200 h0
   refine gv_skip <| gv_seq <| gv_seq <| gv_region <| gv_pureN 1 [68] [(68, (bp b76))] (by kernel_rfl) ?_
   refine gv_load (t := 3) (A := ⟨b76, 0, none⟩) (.int .i64 r66.1) [] (fun e => by cases e) rfl rfl rfl (by kernel_rfl) (by kernel_rfl) (by kernel_rfl) (inw0 (hb199.cell 0 rfl)) rfl ?_
   refine gv_pureN 1 [70] [(70, (.bool (r66.1 != 0)))] (by kernel_rfl) ?_
   refine gv_nil <| gv_cond (b := (r66.1 != 0)) (by kernel_rfl) (fun hc201 => ?_) (fun hc201 => ?_)
   ·replace h0 := ite_t hc201 h0
    refine gv_seq <| gv_region <| gv_cut_ops (J := fun a w202 => w87 = w202 ∧ a.defers = [] ∧ a.tmps.size = 90 ∧ Ok [(4, (.bool ((r21.1 == 0) && (r21.2.1 == 0))))] a.tmps) ?_ ?_
    ·skip
     refine gv_pureN 3 [71, 72, 73] [(73, (.bool (r21.1 == 0)))] (by kernel_rfl) ?_
     refine gv_split (s := 73) (g := (r21.1 == 0)) (by kernel_rfl) (fun hc203 => ?_) (fun hc203 => ?_)
     ·skip
      refine gv_pureN 4 [4, 74, 75, 76] [(4, (.bool (r21.2.1 == 0)))] (by kernel_rfl) ?_
      refine gv_nil <| gv_sub [4] (σ' := [(4, (.bool (r21.2.1 == 0)))]) (by kernel_rfl) ?_
      refine gv_goal fun a hd hs hok => ⟨rfl, hd, hs, ?_⟩
      obtain ⟨q4, _⟩ := hok
      exact ⟨(by rw [hc203]; exact q4), trivial⟩
     ·skip
      refine gv_pureN 4 [4, 74, 75, 76] [(4, (.bool false))] (by kernel_rfl) ?_
      refine gv_nil <| gv_sub [4] (σ' := [(4, (.bool false))]) (by kernel_rfl) ?_
      refine gv_goal fun a hd hs hok => ⟨rfl, hd, hs, ?_⟩
      obtain ⟨q4, _⟩ := hok
      exact ⟨(by rw [hc203]; exact q4), trivial⟩
    ·rintro a w202 ⟨e, hd, hs, hok⟩; subst e
     refine gv_in ?_ hd hs hok
     clear hd hs hok
     refine gv_cret ?_
     have e := sj h0; subst e
     refine gv_ret (gv_done [(.bool ((r21.1 == 0) && (r21.2.1 == 0)))] rfl ⟨(by kernel_rfl), trivial⟩ ?_)
     exact ⟨grown_of_below hB197, rfl⟩
   ·replace h0 := ite_f hc201 h0
    refine gv_skip <| gv_seq <| gv_region <| gv_pureN 1 [78] [(78, (.slice pa1_0 (List.length l_1) pc1_0))] (by kernel_rfl) ?_
    refine bindE h0 ?_; clear h0; intro r204 hr205 h0
    refine gv_call0 (by kernel_rfl) rfl (by kernel_rfl) enters16 (ref4_SizesOf_ok fuel pa1_0 pc1_0 l_1 w87 (fun k => X0 k) (fun k hk => (fun k (hk : X0 k) => ltl (hX0 k hk) hB197.size) k hk) ((hpa1_0.below hB197 hX0).wide (fun k hk => hk)) r204 hr205) ?_
    rintro v208 w206 ⟨hg207, rfl⟩
    refine gv_pureN 5 [13, 14, 77, 80, 81] [(13, (.int .i64 r204.1)), (14, (.int .i64 r204.2))] (by kernel_rfl) ?_
    refine gv_nil <| gv_seq <| gv_region <| gv_cut_ops (J := fun a w209 => w206 = w209 ∧ a.defers = [] ∧ a.tmps.size = 90 ∧ Ok [(4, (.bool ((r21.1 == r204.1) && (r21.2.1 == r204.2))))] a.tmps) ?_ ?_
    ·skip
     refine gv_pureN 4 [82, 83, 84, 85] [(85, (.bool (r21.1 == r204.1)))] (by kernel_rfl) ?_
     refine gv_split (s := 85) (g := (r21.1 == r204.1)) (by kernel_rfl) (fun hc210 => ?_) (fun hc210 => ?_)
     ·skip
      refine gv_pureN 5 [4, 86, 87, 88, 89] [(4, (.bool (r21.2.1 == r204.2)))] (by kernel_rfl) ?_
      refine gv_nil <| gv_sub [4] (σ' := [(4, (.bool (r21.2.1 == r204.2)))]) (by kernel_rfl) ?_
      refine gv_goal fun a hd hs hok => ⟨rfl, hd, hs, ?_⟩
      obtain ⟨q4, _⟩ := hok
      exact ⟨(by rw [hc210]; exact q4), trivial⟩
     ·skip
      refine gv_pureN 5 [4, 86, 87, 88, 89] [(4, (.bool false))] (by kernel_rfl) ?_
      refine gv_nil <| gv_sub [4] (σ' := [(4, (.bool false))]) (by kernel_rfl) ?_
      refine gv_goal fun a hd hs hok => ⟨rfl, hd, hs, ?_⟩
      obtain ⟨q4, _⟩ := hok
      exact ⟨(by rw [hc210]; exact q4), trivial⟩
    ·rintro a w209 ⟨e, hd, hs, hok⟩; subst e
     refine gv_in ?_ hd hs hok
     clear hd hs hok
     refine gv_cret ?_
     have e := sj h0; subst e
     refine gv_ret (gv_done [(.bool ((r21.1 == r204.1) && (r21.2.1 == r204.2)))] rfl ⟨(by kernel_rfl), trivial⟩ ?_)
     have hB211 := bg hB197 hg207 nb
     exact ⟨grown_of_below hB211, rfl⟩

end Go.Proofs.YtdpmkphjcjacfaaDoor
