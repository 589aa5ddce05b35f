import Derived.Test.YtdpmkphjcjacfaaGreatDoorP1
set_option linter.all false
set_option maxHeartbeats 4000000
set_option maxRecDepth 100000
/- Own work, printed by a program of mine: the walk of each function: a call returns what the plain function says. -/
namespace Go.Proofs.YtdpmkphjcjacfaaGreatDoor
open Go.Gv Go.Gv.D Go.RowKit
open List (length)
theorem packing_Pack_ok (fuel : Nat) (pa0_0 : Option Addr) (pc0_0 : Nat) (l_0 : (List (Int × Int × Bool))) (pa1_0 : Option Addr) (pc1_0 : Nat) (vs_1 : (List (Int × (Bool × (List Int)) × (Bool × (List Int)) × ByteArray × Int))) (w0 : World) (X0 : Nat → Prop) (hX0 : ∀ k, X0 k → k < w0.heap.size) (hpa0_0 : Rd (prE (iE .u8) (prE (iE .i64) tE)) w0 X0 pa0_0 pc0_0 l_0) (hpa1_0 : Rd (prE (iE .i64) (prE (prE tE (slE (iE .u32))) (prE (prE tE (slE (iE .u32))) (prE sE (iE .i64))))) w0 X0 pa1_0 pc1_0 vs_1) (r0 : ((List UInt8) × (Int × Int))) (h0 : packing_Pack fuel l_0 vs_1 = some r0) :
    Calls Tryz.prog 9 ([(.slice pa0_0 (length l_0) pc0_0), (.slice pa1_0 (length vs_1) pc1_0)] : List Value).toArray w0 (Ret fun v w' => w0.grownBy w' none ∧ ∃ (a0_0r : Option Addr) (c0_0r : Nat), v = tup [(.slice a0_0r (length r0.1) c0_0r), (.agg #[(.int .i64 r0.2.1), (.int .i64 r0.2.2)])] ∧ Gv.Own bE 5 w' (fun _ => False) a0_0r c0_0r r0.1 ∧ (∀ g, blk a0_0r = some g → w0.heap.size ≤ g)) := by
 have hB0 : Below w0.heap.size w0 w0 := Below.refl _ _
 unfold packing_Pack at h0
 refine calls_run Tryz.func9 rfl Tryz.ntmps9 kr ?_
 refine gv_sub [0, 1] (σ' := [(0, (.slice pa0_0 (length l_0) pc0_0)), (1, (.slice pa1_0 (length vs_1) pc1_0))]) kr ?_
 refine gv_seq <| gv_region <| pN 1 [4] [] ?_
 refine gv_new0 (fun b => .pointer (some ⟨b, 0, none⟩)) #[(.int .i64 0), (.int .i64 0)] 26 kr kr ?_
 intro b1 w2 hg3 hb4 hbe5 hz6
 refine gv_nil <| gv_seq <| gv_seq <| gv_region <| pN 1 [13] [(13, (.slice pa0_0 (length l_0) pc0_0))] ?_
 refine bindE h0 ?_; clear h0; intro r7 hr8 h0
 have hB9 := bg hB0 hg3 nb
 refine gv_call0 kr rfl kr enters14 (packing_Check_ok fuel pa0_0 pc0_0 l_0 w2 (fun k => X0 k) (fun k hk => (fun k (hk : X0 k) => ltl (hX0 k hk) hB9.size) k hk) ((hpa0_0.below hB9 hX0).wide (fun k hk => hk)) r7 hr8) ?_
 rintro v12 w10 ⟨hg11, rfl⟩
 refine gv_new0 (fun b => .pointer (some ⟨b, 0, none⟩)) #[(.int .i64 0), (.int .i64 0)] 26 kr kr ?_
 intro b13 w14 hg15 hb16 hbe17 hz18
 refine gv_store0 26 0 (.agg #[(.int .i64 r7.1), (.int .i64 r7.2)]) #[(.int .i64 r7.1), (.int .i64 r7.2)] hb16 kr kr kr ?_
 intro w19 hg20 hb21 hz22
 refine gv_nil <| gv_seq <| gv_region <| pN 1 [15] [(15, (bp b13))] ?_
 refine gv_load (t := 3) (A := ⟨b13, 0, none⟩) (.int .i64 r7.1) [] (fun e => by cases e) rfl rfl rfl kr kr kr (inw0 (hb21.cell 0 rfl)) rfl ?_
 refine pN 1 [17] [(17, (.bool (r7.1 != 0)))] ?_
 refine gv_nil <| gv_cond (b := (r7.1 != 0)) kr (fun hc23 => ?_) (fun hc23 => ?_)
 ·replace h0 := ite_t hc23 h0
  refine gv_seq <| gv_drawA kr ?_
  intro w24 hg25
  refine gv_pre [1] (bA 3 [1]) 2 kr kr ?_
  refine pN 1 [4] [(4, (.slice none (length ([] : List UInt8)) 0))] ?_
  refine gv_nil <| gv_goA ?_
  refine gv_stage (Cls w24 []) [0] [(0, some true)] (bA 3 [0, 1]) 1 kr kr (Cls.refl _ _) ?_
  have hC26 := Cls.refl w24 []
  have hk27 := hb21.grown hg25 nb
  refine gv_loadBox (t := 26) (b := b13) (t' := 26) (fr := (0, 0)) #[(.int .i64 r7.1), (.int .i64 r7.2)] [] (fun e => by cases e) rfl rfl rfl kr kr kr kr (inw1 fun w' hC' => (hC'.box hk27 nm_nil)) rfl ?_
  refine gv_nil <| gv_goA ?_
  refine gv_stage (fun _ => True) [2] [(2, some false)] (bA 3 [0, 1, 2]) 0 kr kr trivial ?_
  have hg32 := (grown_trans hg11 hg15)
  have hk33 := hb4.grown hg11 nb
  have lt34 := ltl ((ltb hk33) _ rfl) ((lowb hbe17) _ rfl)
  have hk35 := ((hb4.grown hg32 nb).grown hg20 (rowne (ng lt34))).grown hg25 nb
  refine gv_store (t := 26) (b := b1) (off := 0) (v := (.agg #[(.int .i64 r7.1), (.int .i64 r7.2)])) (t' := 26) (cs := #[(.int .i64 0), (.int .i64 0)]) #[(.int .i64 r7.1), (.int .i64 r7.2)] (by decide) rfl rfl kr kr kr (by intro u hu; simp [Value.cells] at hu; rcases hu with rfl | rfl <;> rfl) (show 0 + 2 ≤ 2 by decide) (by rfl) hk35 ?_
  intro w28 hg29 hb30 hz31
  refine ⟨(fun _ => trivial), ?_⟩
  refine gv_nil <| gv_goA ?_
  refine gv_stageE kr ?_
  refine gv_cret ?_
  have e := sj h0; subst e
  refine gv_ret (gv_done [(.slice none (length ([] : List UInt8)) 0), (.agg #[(.int .i64 r7.1), (.int .i64 r7.2)])] rfl ⟨kr, ⟨⟨b1, 0, none⟩, kr, run_loadVar_row w28 b1 _ 26 _ _ _ hb30 Tryz.underlying26 rfl kr⟩, trivial⟩ ?_)
  have hB36 := bg hB9 hg32 nb
  have hB37 := bg hB9 hg11 nb
  have hlo38 : w0.heap.size ≤ b13 := lob hbe17 hB37.size
  have hB39 := bg hB36 hg20 (rowlo hlo38)
  have hB40 := bg hB39 hg25 nb
  have hlo41 : w0.heap.size ≤ b1 := lob hbe5 hB0.size
  have hB42 := bg hB40 hg29 (rowlo hlo41)
  exact ⟨grown_of_below hB42, none, 0, rfl, (Gv.Own.nil bE 5 w28 (fun _ => False)), (fun _ h => by cases h)⟩
 ·replace h0 := ite_f hc23 h0
  refine gv_skip <| gv_seq <| gv_seq <| gv_region <| pN 3 [19, 20, 21] [(20, (.int .i64 ((length vs_1 : Nat) : Int))), (21, (.slice pa0_0 (length l_0) pc0_0))] ?_
  refine bindE h0 ?_; clear h0; intro r43 hr44 h0
  have hg45 := (grown_trans hg11 hg15)
  have hB46 := bg hB9 hg45 nb
  have hB47 := bg hB9 hg11 nb
  have hlo48 : w0.heap.size ≤ b13 := lob hbe17 hB47.size
  have hB49 := bg hB46 hg20 (rowlo hlo48)
  refine gv_call0 kr rfl kr enters32 (packing_values_ok fuel pa0_0 pc0_0 l_0 w19 (fun k => X0 k) (fun k hk => (fun k (hk : X0 k) => ltl (hX0 k hk) hB49.size) k hk) ((hpa0_0.below hB49 hX0).wide (fun k hk => hk)) r43 hr44) ?_
  rintro v52 w50 ⟨hg51, rfl⟩
  refine pN 1 [23] [(23, (.bool (((length vs_1 : Nat) : Int) != r43)))] ?_
  refine gv_nil <| gv_cond (b := (((length vs_1 : Nat) : Int) != r43)) kr (fun hc53 => ?_) (fun hc53 => ?_)
  ·replace h0 := ite_t hc53 h0
   refine gv_seq <| gv_region <| bindE h0 ?_; clear h0; intro r54 hr55 h0
   refine gv_call0 kr rfl kr enters16 (packing_at_ok fuel 9 (-2) w50  r54 hr55) ?_
   rintro v58 w56 ⟨hg57, rfl⟩
   clear hr55 hc53 hlo48 hB47 hB46 hg45 hr44 hc23 hz22 hb21 hz18 hb16 hB9 hr8 hz6 hg3
   refine pN 1 [4] [(4, (.slice none (length ([] : List UInt8)) 0))] ?_
   refine gv_sub [4, 5, 24] (σ' := [(4, (.slice none (length ([] : List UInt8)) 0)), (5, (bp b1)), (24, (.agg #[(.int .i64 r54.1), (.int .i64 r54.2)]))]) kr ?_
   have hg63 := (grown_trans hg11 hg15)
   have hk64 := hb4.grown hg11 nb
   have lt65 := ltl ((ltb hk64) _ rfl) ((lowb hbe17) _ rfl)
   have hg66 := (grown_trans hg51 hg57)
   have hk67 := ((hb4.grown hg63 nb).grown hg20 (rowne (ng lt65))).grown hg66 nb
   refine gv_store0 26 0 (.agg #[(.int .i64 r54.1), (.int .i64 r54.2)]) #[(.int .i64 r54.1), (.int .i64 r54.2)] hk67 kr kr kr ?_
   intro w59 hg60 hb61 hz62
   refine gv_nil <| gv_cret ?_
   have e := sj h0; subst e
   refine gv_ret (gv_done [(.slice none (length ([] : List UInt8)) 0), (.agg #[(.int .i64 r54.1), (.int .i64 r54.2)])] rfl ⟨kr, ⟨⟨b1, 0, none⟩, kr, run_loadVar_row w59 b1 _ 26 _ _ _ hb61 Tryz.underlying26 rfl kr⟩, trivial⟩ ?_)
   have hB68 := bg hB49 hg66 nb
   have hlo69 : w0.heap.size ≤ b1 := lob hbe5 hB0.size
   have hB70 := bg hB68 hg60 (rowlo hlo69)
   exact ⟨grown_of_below hB70, none, 0, rfl, (Gv.Own.nil bE 5 w59 (fun _ => False)), (fun _ h => by cases h)⟩
  ·replace h0 := ite_f hc53 h0
   refine gv_skip <| gv_seq <| gv_region <| pN 1 [7] [(7, (.slice none (length ([] : List UInt8)) 0))] ?_
   refine gv_nil <| gv_seq <| gv_region <| pN 1 [8] [(8, (.int .i64 0))] ?_
   refine gv_sub [0, 1, 5, 7, 8] (σ' := [(0, (.slice pa0_0 (length l_0) pc0_0)), (1, (.slice pa1_0 (length vs_1) pc1_0)), (5, (bp b1)), (7, (.slice none (length ([] : List UInt8)) 0)), (8, (.int .i64 0))]) kr ?_
   refine gv_nil <| gv_seq <| gv_seq <| gv_region <| pN 3 [25, 26, 27] [(25, (.slice pa0_0 (length l_0) pc0_0)), (26, (.int .i64 ((length l_0 : Nat) : Int))), (27, (.int .i64 0))] ?_
   refine gv_nil <| bindE h0 ?_; clear h0; intro j71 h1 h0
   refine gv_cut_code (J := fun a w73 => ∃ s72 : ((List UInt8) × (Int × Int)), j71 = .inl s72 ∧ ∃ (a7_0j : Option Addr) (c7_0j : Nat), Below w0.heap.size w0 w73 ∧ w50.heap.size ≤ w73.heap.size ∧ Gv.Own bE 5 w73 (fun _ => False) a7_0j c7_0j s72.1 ∧ (∀ g, blk a7_0j = some g → w0.heap.size ≤ g) ∧ (∀ g, blk a7_0j = some g → ¬ (· = b1) g) ∧ ¬ (fun k => blk a7_0j = some k) b1 ∧ Box w73 b1 26 #[(.int .i64 s72.2.1), (.int .i64 s72.2.2)] ∧ a.defers = [] ∧ a.tmps.size = 67 ∧ Ok [(5, (bp b1)), (7, (.slice a7_0j (length s72.1) c7_0j))] a.tmps) ?_ ?_
   ·skip
    refine gv_block <| gv_loop (A := fun (s74 : ((List UInt8) × Int × Int × (Int × Int))) a w75 => ∃ (a7_0j : Option Addr) (c7_0j : Nat), Below w0.heap.size w0 w75 ∧ w50.heap.size ≤ w75.heap.size ∧ Gv.Own bE 5 w75 (fun _ => False) a7_0j c7_0j s74.1 ∧ (∀ g, blk a7_0j = some g → w0.heap.size ≤ g) ∧ (∀ g, blk a7_0j = some g → ¬ (· = b1) g) ∧ ¬ (fun k => blk a7_0j = some k) b1 ∧ Box w75 b1 26 #[(.int .i64 s74.2.2.2.1), (.int .i64 s74.2.2.2.2)] ∧ a.defers = [] ∧ a.tmps.size = 67 ∧ Ok [(1, (.slice pa1_0 (length vs_1) pc1_0)), (5, (bp b1)), (7, (.slice a7_0j (length s74.1) c7_0j)), (8, (.int .i64 s74.2.1)), (25, (.slice pa0_0 (length l_0) pc0_0)), (26, (.int .i64 ((length l_0 : Nat) : Int))), (27, (.int .i64 s74.2.2.1))] a.tmps) h1 ?_ ?_
    ·intro a hd hs hok
     have hB76 := bg hB49 hg51 nb
     have hk77 := hb4.grown hg11 nb
     have lt78 := ltl ((ltb hk77) _ rfl) ((lowb hbe17) _ rfl)
     have hk79 := ((hb4.grown hg45 nb).grown hg20 (rowne (ng lt78))).grown hg51 nb
     exact ⟨none, 0, hB76, nrf, (Gv.Own.nil bE 5 w50 (fun _ => False)), (fun _ h => by cases h), (fun _ h => by cases h), (fun h => by cases h), hk79, hd, hs, okp [1, 5, 7, 8, 25, 26, 27] hok⟩
    ·rintro s74 r2 h2 hR2 a w75 ⟨a82, c83, hB80, hz81, ho84, hl85, ap86, ap87, hb88, hd, hs, hok⟩
     refine gv_in ?_ hd hs hok
     clear hd hs hok
     clear hc53 hg51 hB49 hlo48 hB47 hB46 hg45 hr44 hc23 hz22 hb21 hg20 hz18 hbe17 hb16 hg15 hg11 hB9 hr8 hz6 hb4 hg3
     refine gv_seq <| gv_region <| pN 1 [28] [(28, (.bool (decide (s74.2.2.1 < ((length l_0 : Nat) : Int)))))] ?_
     refine gv_nil <| gv_seq <| gv_cond (b := (decide (s74.2.2.1 < ((length l_0 : Nat) : Int)))) kr (fun hc89 => ?_) (fun hc89 => ?_)
     ·replace h2 := ite_t hc89 h2
      refine gv_skip <| gv_seq <| bindE h2 ?_; clear h2; intro j90 h3 h2
      refine gv_cut_code (J := fun a w92 => ∃ s91 : ((List UInt8) × Int × (Int × Int)), j90 = .inl s91 ∧ ∃ (a7_0j : Option Addr) (c7_0j : Nat), Below w0.heap.size w0 w92 ∧ w75.heap.size ≤ w92.heap.size ∧ Gv.Own bE 5 w92 (fun _ => False) a7_0j c7_0j s91.1 ∧ (∀ g, blk a7_0j = some g → w0.heap.size ≤ g) ∧ (∀ g, blk a7_0j = some g → ¬ (· = b1) g) ∧ ¬ (fun k => blk a7_0j = some k) b1 ∧ Box w92 b1 26 #[(.int .i64 s91.2.2.1), (.int .i64 s91.2.2.2)] ∧ a.defers = [] ∧ a.tmps.size = 67 ∧ Ok [(1, (.slice pa1_0 (length vs_1) pc1_0)), (5, (bp b1)), (7, (.slice a7_0j (length s91.1) c7_0j)), (8, (.int .i64 s91.2.1)), (25, (.slice pa0_0 (length l_0) pc0_0)), (26, (.int .i64 ((length l_0 : Nat) : Int))), (27, (.int .i64 s74.2.2.1))] a.tmps) ?_ ?_
      ·skip
       refine gv_block <| gv_seq <| gv_region <| bindE h3 ?_; clear h3; intro x93 hx94 h3
       refine gv_idxaddr (t := 22) (e := 49) (a := pa0_0) (len := length l_0) (cap := pc0_0) (kk := .i64) (i := s74.2.2.1) (sz := 3) [] (fun e => by cases e) rfl rfl rfl kr kr Tryz.underlying22 kr ((hpa0_0.below hB80 hX0).has hx94) (idx_spec hx94).1 (idx_spec hx94).2.1 rfl ?_
       obtain ⟨_, ⟨_, _, rfl, rfl, ⟨_, _, rfl, rfl, rfl⟩⟩, hc95⟩ := hpa0_0.cellsK hx94
       refine gv_loadAgg (t := 49) (A := (elemAddr pa0_0 ((s74.2.2.1 : Int).toNat * 3))) #[(.int .u8 x93.1), (.int .i64 x93.2.1), (.bool x93.2.2)] [] (fun e => by cases e) rfl rfl rfl kr kr kr kr (inw0 (hc95 w75 (fun k hk => hB80.block k (hX0 k hk)))) rfl ?_
       refine gv_new0 (fun b => .pointer (some ⟨b, 0, none⟩)) #[(.int .u8 0), (.int .i64 0), (.bool false)] 49 kr kr ?_
       intro b96 w97 hg98 hb99 hbe100 hz101
       refine gv_store0 49 0 (.agg #[(.int .u8 x93.1), (.int .i64 x93.2.1), (.bool x93.2.2)]) #[(.int .u8 x93.1), (.int .i64 x93.2.1), (.bool x93.2.2)] hb99 kr kr kr ?_
       intro w102 hg103 hb104 hz105
       refine gv_nil <| gv_seq <| gv_seq <| gv_region <| pN 1 [31] [(31, (bp b96))] ?_
       refine gv_load (t := 5) (A := ⟨b96, 0, none⟩) (.int .u8 x93.1) [] (fun e => by cases e) rfl rfl rfl kr kr kr (inw0 (hb104.cell 0 rfl)) rfl ?_
       refine pN 1 [33] [(33, (.bool (x93.1 == 120)))] ?_
       refine gv_nil <| gv_cond (b := (x93.1 == 120)) kr (fun hc106 => ?_) (fun hc106 => ?_)
       ·replace h3 := ite_t hc106 h3
        refine gv_seq <| gv_region <| pN 2 [34, 35] [(34, (.slice a82 (length s74.1) c83)), (35, (.pointer (some ⟨b96, 1, none⟩)))] ?_
        refine gv_load (t := 3) (A := ⟨b96, 1, none⟩) (.int .i64 x93.2.1) [] (fun e => by cases e) rfl rfl rfl kr kr kr (inw0 (hb104.cell 1 rfl)) rfl ?_
        refine bindE h3 ?_; clear h3; intro l107 hx108 h3
        refine bindE h3 ?_; clear h3; intro l109 hx110 h3
        have ap117 : ¬ (fun k => blk a82 = some k) b96 := fun hx => nl ((lowb hbe100) _ rfl) ((fun k (hk : blk a82 = some k) => ho84.lt k hk) _ hx)
        have hk118 := (ho84.grown hg98 (fun _ h => h.elim) nb).grown hg103 (fun _ h => h.elim) (rdnn (rowne ap117))
        refine gv_appendA (t := 23) (tx := 3) (ty := 23) (e := 5) (z := .int .u8 0) (x := (.int .i64 x93.2.1)) (a := a82) (cap := c83) (xs := s74.1) l107 l109 (by decide) rfl rfl kr kr (asrc_zeroB w102 Tryz.underlying23 Tryz.underlying3 kr hx108) rfl hk118 hx110 ?_
        intro a111 c112 w113 hg114 ho115 hk116
        refine ⟨(fun e => by cases e), ?_⟩
        have hB120 := bg hB80 hg98 nb
        have hlo121 : w0.heap.size ≤ b96 := lob hbe100 hB80.size
        have hB122 := bg hB120 hg103 (rowlo hlo121)
        have hl119 : ∀ g, blk a111 = some g → w0.heap.size ≤ g := blk_step hk116 hl85 hB122.size
        have lt124 := ltl ((ltb hb88) _ rfl) ((lowb hbe100) _ rfl)
        have hk125 := (hb88.grown hg98 nb).grown hg103 (rowne (ng lt124))
        have ap123 : ∀ g, blk a111 = some g → ¬ (· = b1) g := blk_neX hk116 ap86 (ltb hk125)
        have ap126 : ¬ (fun k => blk a111 = some k) b1 := fun h => blk_rev hk116 (fun h => (ap87) h) (hk125.lt) h
        have ap128 : ∀ g, blk a82 = some g → ¬ (· = b96) g := fun g e hx => nl ((lowb hbe100) _ hx) ((fun k (hk : blk a82 = some k) => ho84.lt k hk) g e)
        have ap127 : ∀ g, blk a111 = some g → ¬ (· = b96) g := blk_neX hk116 ap128 (ltb hb104)
        have ap129 : ¬ (fun k => blk a111 = some k) b96 := fun h => blk_rev hk116 (fun h => (ap117) h) (hb104.lt) h
        refine pN 1 [7] [(7, (.slice a111 (length l109) c112))] ?_
        refine gv_nil <| gv_cexit <| gv_exit rfl ?_
        have e := sj h3; subst e
        refine gv_goal fun a hd hs hok => ?_
        have hB130 := bg hB122 hg114 hl85
        have hz131 := (nt (nt hg98.size hg103.size) hg114.size)
        have hk132 := hk125.grown hg114 ap86
        exact ⟨(l109, s74.2.1, (s74.2.2.2.1, s74.2.2.2.2)), rfl, a111, c112, hB130, hz131, ho115, hl119, ap123, ap126, hk132, hd, hs, okp [1, 5, 7, 8, 25, 26, 27] hok⟩
       ·replace h3 := ite_f hc106 h3
        refine gv_skip <| gv_seq <| gv_seq <| gv_region <| pN 2 [38, 39] [(38, (.slice pa1_0 (length vs_1) pc1_0)), (39, (.int .i64 s74.2.1))] ?_
        refine bindE h3 ?_; clear h3; intro x133 hx134 h3
        have hB135 := bg hB80 hg98 nb
        have hlo136 : w0.heap.size ≤ b96 := lob hbe100 hB80.size
        have hB137 := bg hB135 hg103 (rowlo hlo136)
        refine gv_idxaddr (t := 24) (e := 41) (a := pa1_0) (len := length vs_1) (cap := pc1_0) (kk := .i64) (i := s74.2.1) (sz := 7) [] (fun e => by cases e) rfl rfl rfl kr kr Tryz.underlying24 kr ((hpa1_0.below hB137 hX0).has hx134) (idx_spec hx134).1 (idx_spec hx134).2.1 rfl ?_
        obtain ⟨_, ⟨_, _, rfl, rfl, ⟨_, _, rfl, ⟨_, _, rfl, rfl, ⟨a139, c140, rfl, hr141⟩⟩, ⟨_, _, rfl, ⟨_, _, rfl, rfl, ⟨a142, c143, rfl, hr144⟩⟩, ⟨_, _, rfl, rfl, rfl⟩⟩⟩⟩, hc138⟩ := hpa1_0.cellsK hx134
        refine gv_loadAgg (t := 41) (A := (elemAddr pa1_0 ((s74.2.1 : Int).toNat * 7))) #[(.int .i64 x133.1), (.bool x133.2.1.1), (.slice a139 (length x133.2.1.2) c140), (.bool x133.2.2.1.1), (.slice a142 (length x133.2.2.1.2) c143), (.string x133.2.2.2.1), (.int .i64 x133.2.2.2.2)] [] (fun e => by cases e) rfl rfl rfl kr kr kr kr (inw0 (hc138 w102 (fun k hk => hB137.block k (hX0 k hk)))) rfl ?_
        refine bindE h3 ?_; clear h3; intro r145 hr146 h3
        refine gv_call0 kr rfl kr enters33 (packing_valid_ok fuel a139 c140 a142 c143 (x133.1, (x133.2.1.1, x133.2.1.2), (x133.2.2.1.1, x133.2.2.1.2), x133.2.2.2.1, x133.2.2.2.2) w102 (fun k => X0 k ∨ X0 k) (fun k hk => (hk).elim (fun h => (fun k (hk : X0 k) => ltl (hX0 k hk) hB137.size) k h) (fun h => (fun k (hk : X0 k) => ltl (hX0 k hk) hB137.size) k h)) ((hr141.below hB137 hX0).wide (fun k hk => (.inl hk))) ((hr144.below hB137 hX0).wide (fun k hk => (.inr hk))) r145 hr146) ?_
        rintro v149 w147 ⟨hg148, rfl⟩
        refine pN 1 [43] [(43, (.bool (!r145)))] ?_
        refine gv_nil <| gv_cond (b := (!r145)) kr (fun hc150 => ?_) (fun hc150 => ?_)
        ·replace h3 := ite_t hc150 h3
         refine gv_seq <| gv_region <| pN 1 [44] [(44, (.int .i64 s74.2.1))] ?_
         refine gv_sub [5, 44] (σ' := [(5, (bp b1)), (44, (.int .i64 s74.2.1))]) kr ?_
         refine bindE h3 ?_; clear h3; intro r151 hr152 h3
         refine gv_call0 kr rfl kr enters16 (packing_at_ok fuel 6 s74.2.1 w147  r151 hr152) ?_
         rintro v155 w153 ⟨hg154, rfl⟩
         refine pN 1 [4] [(4, (.slice none (length ([] : List UInt8)) 0))] ?_
         have lt160 := ltl ((ltb hb88) _ rfl) ((lowb hbe100) _ rfl)
         have hg161 := (grown_trans hg148 hg154)
         have hk162 := ((hb88.grown hg98 nb).grown hg103 (rowne (ng lt160))).grown hg161 nb
         refine gv_store0 26 0 (.agg #[(.int .i64 r151.1), (.int .i64 r151.2)]) #[(.int .i64 r151.1), (.int .i64 r151.2)] hk162 kr kr kr ?_
         intro w156 hg157 hb158 hz159
         refine gv_nil <| gv_cret ?_
         have e := sj h3; subst e
         replace h2 := cont_inr h2
         have e := sj h2; subst e
         replace h1 := congrArg some (hR2 _ rfl)
         have e := sj h1; subst e
         replace h0 := cont_inr h0
         have e := sj h0; subst e
         refine gv_ret (gv_done [(.slice none (length ([] : List UInt8)) 0), (.agg #[(.int .i64 r151.1), (.int .i64 r151.2)])] rfl ⟨kr, ⟨⟨b1, 0, none⟩, kr, run_loadVar_row w156 b1 _ 26 _ _ _ hb158 Tryz.underlying26 rfl kr⟩, trivial⟩ ?_)
         have hB163 := bg hB137 hg161 nb
         have hlo164 : w0.heap.size ≤ b1 := lob hbe5 hB0.size
         have hB165 := bg hB163 hg157 (rowlo hlo164)
         exact ⟨grown_of_below hB165, none, 0, rfl, (Gv.Own.nil bE 5 w156 (fun _ => False)), (fun _ h => by cases h)⟩
        ·replace h3 := ite_f hc150 h3
         refine gv_skip <| gv_seq <| gv_drawA kr ?_
         intro w166 hg167
         refine gv_pre [0, 2, 3, 4] (bA 12 [0, 2, 3, 4]) 8 kr kr ?_
         have hz168 := (nt (nt (nt hg98.size hg103.size) hg148.size) hg167.size)
         clear hc150 hr146 hc138 hB135 hx134 hc106 hz105 hz101 hb99 hc95 hx94 hc89 hB80
         refine pN 3 [47, 49, 50] [(47, (.slice a82 (length s74.1) c83)), (49, (.slice pa1_0 (length vs_1) pc1_0)), (50, (.int .i64 s74.2.1))] ?_
         refine gv_sub [1, 5, 8, 10, 25, 26, 27, 47, 49, 50] (σ' := [(1, (.slice pa1_0 (length vs_1) pc1_0)), (5, (bp b1)), (8, (.int .i64 s74.2.1)), (10, (bp b96)), (25, (.slice pa0_0 (length l_0) pc0_0)), (26, (.int .i64 ((length l_0 : Nat) : Int))), (27, (.int .i64 s74.2.2.1)), (47, (.slice a82 (length s74.1) c83)), (49, (.slice pa1_0 (length vs_1) pc1_0)), (50, (.int .i64 s74.2.1))]) kr ?_
         refine bindE h3 ?_; clear h3; intro x169 hx170 h3
         have hg171 := (grown_trans hg148 hg167)
         have hB172 := bg hB137 hg171 nb
         refine gv_idxaddr (t := 24) (e := 41) (a := pa1_0) (len := length vs_1) (cap := pc1_0) (kk := .i64) (i := s74.2.1) (sz := 7) [] (fun e => by cases e) rfl rfl rfl kr kr Tryz.underlying24 kr ((hpa1_0.below hB172 hX0).has hx170) (idx_spec hx170).1 (idx_spec hx170).2.1 rfl ?_
         refine gv_nil <| gv_goA ?_
         refine gv_stage (Cls w166 []) [1, 5] [(1, some true), (5, some true)] (bA 12 [0, 1, 2, 3, 4, 5]) 6 kr kr (Cls.refl _ _) ?_
         have hC173 := Cls.refl w166 []
         have hk174 := hb104.grown hg171 nb
         refine gv_loadBox (t := 49) (b := b96) (t' := 49) (fr := (0, 0)) #[(.int .u8 x93.1), (.int .i64 x93.2.1), (.bool x93.2.2)] [] (fun e => by cases e) rfl rfl rfl kr kr kr kr (inw1 fun w' hC' => (hC'.box hk174 nm_nil)) rfl ?_
         obtain ⟨_, ⟨_, _, rfl, rfl, ⟨_, _, rfl, ⟨_, _, rfl, rfl, ⟨a176, c177, rfl, hr178⟩⟩, ⟨_, _, rfl, ⟨_, _, rfl, rfl, ⟨a179, c180, rfl, hr181⟩⟩, ⟨_, _, rfl, rfl, rfl⟩⟩⟩⟩, hc175⟩ := hpa1_0.cellsK hx170
         refine gv_loadAgg (t := 41) (A := (elemAddr pa1_0 ((s74.2.1 : Int).toNat * 7))) #[(.int .i64 x169.1), (.bool x169.2.1.1), (.slice a176 (length x169.2.1.2) c177), (.bool x169.2.2.1.1), (.slice a179 (length x169.2.2.1.2) c180), (.string x169.2.2.2.1), (.int .i64 x169.2.2.2.2)] [] (fun e => by cases e) rfl rfl rfl kr kr kr kr (inw1 fun w' hC' => (hc175 w' (fun k hk => (hC'.2 k ((fun k (hk : X0 k) => ltl (hX0 k hk) hB172.size) k hk) (fun hg => nmx_nil k hg hk)).trans (hB172.block k (hX0 k hk))))) rfl ?_
         refine gv_nil <| gv_goA ?_
         refine gv_stage (fun _ => True) [6] [(6, some false)] (bA 12 [0, 1, 2, 3, 4, 5, 6]) 5 kr kr trivial ?_
         refine bindE h3 ?_; clear h3; intro r182 hr183 h3
         have ap184 : ¬ (fun k => blk a82 = some k) b96 := fun hx => nl ((lowb hbe100) _ rfl) ((fun k (hk : blk a82 = some k) => ho84.lt k hk) _ hx)
         have hk185 := ((ho84.grown hg98 (fun _ h => h.elim) nb).grown hg103 (fun _ h => h.elim) (rdnn (rowne ap184))).grown hg171 (fun _ h => h.elim) nb
         refine gv_call (f := 34) (vs := [(.slice a82 (length s74.1) c83), (.agg #[(.int .u8 x93.1), (.int .i64 x93.2.1), (.bool x93.2.2)]), (.agg #[(.int .i64 x169.1), (.bool x169.2.1.1), (.slice a176 (length x169.2.1.2) c177), (.bool x169.2.2.1.1), (.slice a179 (length x169.2.2.1.2) c180), (.string x169.2.2.2.1), (.int .i64 x169.2.2.2.2)])]) (cap := []) _ (by decide) rfl rfl rfl kr kr enters34 (packing_pack_ok fuel a82 c83 s74.1 (x93.1, x93.2.1, x93.2.2) a176 c177 a179 c180 (x169.1, (x169.2.1.1, x169.2.1.2), (x169.2.2.1.1, x169.2.2.1.2), x169.2.2.2.1, x169.2.2.2.2) w166 (fun k => X0 k ∨ X0 k) (fun k hk => ⟨(hk).elim (fun h => (fun k (hk : X0 k) => ltl (hX0 k hk) hB172.size) k h) (fun h => (fun k (hk : X0 k) => ltl (hX0 k hk) hB172.size) k h), fun e => (hk).elim (fun h => ((fun g (e : blk a82 = some g) (hx : X0 g) => nl (hl85 g e) (hX0 _ hx)) k e h)) (fun h => ((fun g (e : blk a82 = some g) (hx : X0 g) => nl (hl85 g e) (hX0 _ hx)) k e h))⟩) hk185 ((hr178.below hB172 hX0).wide (fun k hk => (.inl hk))) ((hr181.below hB172 hX0).wide (fun k hk => (.inr hk))) r182 hr183) ?_
         rintro v188 w186 ⟨hg187, a189, c190, rfl, ho191, hk192⟩
         refine ⟨(fun _ => trivial), ?_⟩
         have hl193 : ∀ g, blk a189 = some g → w0.heap.size ≤ g := blkw_step hk192 hl85 hB172.size
         refine gv_nil <| gv_goA ?_
         refine gv_pre [7, 8, 9, 10, 11] (bA 12 [0, 1, 2, 3, 4, 5, 6, 7, 8, 9, 10, 11]) 0 kr kr ?_
         refine pN 5 [11, 12, 46, 54, 55] [(11, (.slice a189 (length r182.1) c190)), (12, (.int .i64 r182.2))] ?_
         refine gv_nil <| gv_goA ?_
         refine gv_stageE kr ?_
         refine gv_seq <| gv_seq <| gv_region <| pN 2 [56, 57] [(57, (.bool (r182.2 != 0)))] ?_
         refine gv_nil <| gv_cond (b := (r182.2 != 0)) kr (fun hc194 => ?_) (fun hc194 => ?_)
         ·replace h3 := ite_t hc194 h3
          refine gv_seq <| gv_region <| pN 2 [58, 59] [(58, (.int .i64 r182.2)), (59, (.int .i64 s74.2.1))] ?_
          refine bindE h3 ?_; clear h3; intro r195 hr196 h3
          refine gv_call0 kr rfl kr enters16 (packing_at_ok fuel r182.2 s74.2.1 w186  r195 hr196) ?_
          rintro v199 w197 ⟨hg198, rfl⟩
          refine pN 1 [4] [(4, (.slice none (length ([] : List UInt8)) 0))] ?_
          have lt204 := ltl ((ltb hb88) _ rfl) ((lowb hbe100) _ rfl)
          have hk205 := ((((hb88.grown hg98 nb).grown hg103 (rowne (ng lt204))).grown hg171 nb).grown hg187 ap86).grown hg198 nb
          refine gv_store0 26 0 (.agg #[(.int .i64 r195.1), (.int .i64 r195.2)]) #[(.int .i64 r195.1), (.int .i64 r195.2)] hk205 kr kr kr ?_
          intro w200 hg201 hb202 hz203
          refine gv_nil <| gv_cret ?_
          have e := sj h3; subst e
          replace h2 := cont_inr h2
          have e := sj h2; subst e
          replace h1 := congrArg some (hR2 _ rfl)
          have e := sj h1; subst e
          replace h0 := cont_inr h0
          have e := sj h0; subst e
          refine gv_ret (gv_done [(.slice none (length ([] : List UInt8)) 0), (.agg #[(.int .i64 r195.1), (.int .i64 r195.2)])] rfl ⟨kr, ⟨⟨b1, 0, none⟩, kr, run_loadVar_row w200 b1 _ 26 _ _ _ hb202 Tryz.underlying26 rfl kr⟩, trivial⟩ ?_)
          have hB206 := bg hB172 hg187 hl85
          have hB207 := bg hB206 hg198 nb
          have hlo208 : w0.heap.size ≤ b1 := lob hbe5 hB0.size
          have hB209 := bg hB207 hg201 (rowlo hlo208)
          exact ⟨grown_of_below hB209, none, 0, rfl, (Gv.Own.nil bE 5 w200 (fun _ => False)), (fun _ h => by cases h)⟩
         ·replace h3 := ite_f hc194 h3
          refine gv_skip <| gv_seq <| gv_region <| pN 2 [7, 61] [(7, (.slice a189 (length r182.1) c190))] ?_
          refine gv_nil <| gv_region <| pN 3 [8, 62, 63] [(8, (.int .i64 (IntKind.i64.wrap (s74.2.1 + 1))))] ?_
          refine gv_nil <| gv_blk ?_
          have e := sj h3; subst e
          refine gv_goal fun a hd hs hok => ?_
          have hB210 := bg hB172 hg187 hl85
          have hz211 := (nt hz168 hg187.size)
          have lt212 := ltl ((ltb hb88) _ rfl) ((lowb hbe100) _ rfl)
          have hk213 := ((hb88.grown hg98 nb).grown hg103 (rowne (ng lt212))).grown hg171 nb
          have ap214 : ∀ g, blk a189 = some g → ¬ (· = b1) g := blkw_neX hk192 ap86 (ltb hk213)
          have ap215 : ¬ (fun k => blk a189 = some k) b1 := fun h => blkw_rev hk192 (fun h => (ap87) h) (hk213.lt) h
          have hk216 := hk213.grown hg187 ap86
          exact ⟨(r182.1, (IntKind.i64.wrap (s74.2.1 + 1)), (s74.2.2.2.1, s74.2.2.2.2)), rfl, a189, c190, hB210, hz211, ho191, hl193, ap214, ap215, hk216, hd, hs, okp [1, 5, 7, 8, 25, 26, 27] hok⟩
      ·rintro a w92 ⟨s91, e, a219, c220, hB217, hz218, ho221, hl222, ap223, ap224, hb225, hd, hs, hok⟩
       subst e
       refine gv_in ?_ hd hs hok
       clear hd hs hok
       replace h2 := cont_inl h2
       have hz226 := (nt hz81 hz218)
       clear hz218 hc89 hb88 ap87 ap86 hl85 ho84 hz81 hB80
       refine gv_region <| pN 2 [27, 64] [(27, (.int .i64 (IntKind.i64.wrap (s74.2.2.1 + 1))))] ?_
       refine gv_nil ?_
       have e := sj h2; subst e
       refine gv_goal fun a hd hs hok => ?_
       have hz227 := hz226
       exact ⟨(s91.1, s91.2.1, (IntKind.i64.wrap (s74.2.2.1 + 1)), (s91.2.2.1, s91.2.2.2)), rfl, a219, c220, hB217, hz227, ho221, hl222, ap223, ap224, hb225, hd, hs, okp [1, 5, 7, 8, 25, 26, 27] hok⟩
     ·replace h2 := ite_f hc89 h2
      refine gv_cexit <| gv_exit rfl ?_
      have e := sj h2; subst e
      replace h1 := congrArg some (hR2 _ rfl)
      have e := sj h1; subst e
      refine gv_goal fun a hd hs hok => ?_
      have hz228 := hz81
      exact ⟨(s74.1, (s74.2.2.2.1, s74.2.2.2.2)), rfl, a82, c83, hB80, hz228, ho84, hl85, ap86, ap87, hb88, hd, hs, okp [5, 7] hok⟩
   ·rintro a w73 ⟨s72, e, a231, c232, hB229, hz230, ho233, hl234, ap235, ap236, hb237, hd, hs, hok⟩
    subst e
    refine gv_in ?_ hd hs hok
    clear hd hs hok
    replace h0 := cont_inl h0
    clear hz230 hc53 hg51 hB49 hlo48 hB47 hB46 hg45 hr44 hc23 hz22 hb21 hg20 hz18 hbe17 hb16 hg15 hg11 hB9 hr8 hz6 hb4 hg3
    refine gv_seq <| gv_region <| pN 3 [4, 65, 66] [(4, (.slice a231 (length s72.1) c232)), (66, (.agg #[(.int .i64 0), (.int .i64 0)]))] ?_
    refine gv_store0 26 0 (.agg #[(.int .i64 0), (.int .i64 0)]) #[(.int .i64 0), (.int .i64 0)] hb237 kr kr kr ?_
    intro w238 hg239 hb240 hz241
    refine gv_nil <| gv_cret ?_
    have e := sj h0; subst e
    refine gv_ret (gv_done [(.slice a231 (length s72.1) c232), (.agg #[(.int .i64 0), (.int .i64 0)])] rfl ⟨kr, ⟨⟨b1, 0, none⟩, kr, run_loadVar_row w238 b1 _ 26 _ _ _ hb240 Tryz.underlying26 rfl kr⟩, trivial⟩ ?_)
    have hlo242 : w0.heap.size ≤ b1 := lob hbe5 hB0.size
    have hB243 := bg hB229 hg239 (rowlo hlo242)
    have hk244 := ho233.grown hg239 (fun _ h => h.elim) (rdnn (rowne ap236))
    exact ⟨grown_of_below hB243, a231, c232, rfl, hk244, hl234⟩

theorem ref4_SameBytes_ok (fuel : Nat) (pa0_0 : Option Addr) (pc0_0 : Nat) (a_0 : (List UInt8)) (pa1_0 : Option Addr) (pc1_0 : Nat) (b_1 : (List UInt8)) (w0 : World) (X0 : Nat → Prop) (hX0 : ∀ k, X0 k → k < w0.heap.size) (hpa0_0 : Rd bE w0 X0 pa0_0 pc0_0 a_0) (hpa1_0 : Rd bE w0 X0 pa1_0 pc1_0 b_1) (r0 : Bool) (h0 : ref4_SameBytes fuel a_0 b_1 = some r0) :
    Calls Tryz.prog 10 ([(.slice pa0_0 (length a_0) pc0_0), (.slice pa1_0 (length b_1) pc1_0)] : List Value).toArray w0 (Ret fun v w' => w0.grownBy w' none ∧ v = tup [(.bool r0)]) := by
 have hB0 : Below w0.heap.size w0 w0 := Below.refl _ _
 unfold ref4_SameBytes at h0
 refine calls_run Tryz.func10 rfl Tryz.ntmps10 kr ?_
 refine gv_sub [0, 1] (σ' := [(0, (.slice pa0_0 (length a_0) pc0_0)), (1, (.slice pa1_0 (length b_1) pc1_0))]) kr ?_
 refine gv_seq <| gv_region <| pN 1 [4] [] ?_
 refine gv_nil <| gv_seq <| gv_region <| pN 1 [5] [(5, (.slice pa0_0 (length a_0) pc0_0))] ?_
 refine gv_b2s (src := 23) (dst := 9) (e := 5) (xs := a_0) (a := pa0_0) (cap := pc0_0) (X := X0) [] (fun e => by cases e) rfl rfl rfl kr kr Tryz.underlying23 Tryz.underlying5 Tryz.underlying9 (inw0 (hpa0_0.below hB0 hX0)) rfl ?_
 refine pN 1 [7] [(7, (.slice pa1_0 (length b_1) pc1_0))] ?_
 refine gv_b2s (src := 23) (dst := 9) (e := 5) (xs := b_1) (a := pa1_0) (cap := pc1_0) (X := X0) [] (fun e => by cases e) rfl rfl rfl kr kr Tryz.underlying23 Tryz.underlying5 Tryz.underlying9 (inw0 (hpa1_0.below hB0 hX0)) rfl ?_
 refine pN 2 [4, 9] [(4, (.bool ((strOf a_0).toList == (strOf b_1).toList)))] ?_
 refine bindE h0 ?_; clear h0; intro n1 hn2 h0
 refine gv_name (s := 4) (v := (.bool ((strOf a_0).toList == (strOf b_1).toList))) (v' := (.bool n1)) kr (congrArg (Value.bool) (sj hn2)) ?_
 refine gv_nil <| gv_cret ?_
 have e := sj h0; subst e
 refine gv_ret (gv_done [(.bool n1)] rfl ⟨kr, trivial⟩ ?_)
 exact ⟨grown_of_below hB0, rfl⟩

theorem ref3_SameLimbs_ok (fuel : Nat) (pa0_0 : Option Addr) (pc0_0 : Nat) (a_0 : (List Int)) (pa1_0 : Option Addr) (pc1_0 : Nat) (b_1 : (List Int)) (w0 : World) (X0 : Nat → Prop) (hX0 : ∀ k, X0 k → k < w0.heap.size) (hpa0_0 : Rd (iE .u32) w0 X0 pa0_0 pc0_0 a_0) (hpa1_0 : Rd (iE .u32) w0 X0 pa1_0 pc1_0 b_1) (r0 : Bool) (h0 : ref3_SameLimbs fuel a_0 b_1 = some r0) :
    Calls Tryz.prog 37 ([(.slice pa0_0 (length a_0) pc0_0), (.slice pa1_0 (length b_1) pc1_0)] : List Value).toArray w0 (Ret fun v w' => w0.grownBy w' none ∧ v = tup [(.bool r0)]) := by
 have hB0 : Below w0.heap.size w0 w0 := Below.refl _ _
 unfold ref3_SameLimbs at h0
 refine calls_run Tryz.func37 rfl Tryz.ntmps37 kr ?_
 refine gv_sub [0, 1] (σ' := [(0, (.slice pa0_0 (length a_0) pc0_0)), (1, (.slice pa1_0 (length b_1) pc1_0))]) kr ?_
 refine gv_seq <| gv_region <| pN 1 [4] [] ?_
 refine gv_nil <| gv_seq <| gv_seq <| gv_region <| pN 5 [6, 7, 8, 9, 10] [(10, (.bool (((length a_0 : Nat) : Int) != ((length b_1 : Nat) : Int))))] ?_
 refine gv_nil <| gv_cond (b := (((length a_0 : Nat) : Int) != ((length b_1 : Nat) : Int))) kr (fun hc1 => ?_) (fun hc1 => ?_)
 ·replace h0 := ite_t hc1 h0
  refine gv_seq <| gv_region <| pN 1 [4] [(4, (.bool false))] ?_
  refine gv_nil <| gv_cret ?_
  have e := sj h0; subst e
  refine gv_ret (gv_done [(.bool false)] rfl ⟨kr, trivial⟩ ?_)
  exact ⟨grown_of_below hB0, rfl⟩
 ·replace h0 := ite_f hc1 h0
  refine gv_skip <| gv_seq <| gv_seq <| gv_region <| pN 1 [5] [(5, (.int .i64 0))] ?_
  refine gv_nil <| bindE h0 ?_; clear h0; intro j2 h1 h0
  refine gv_cut_code (J := fun a w4 => ∃ s3 : Unit, j2 = .inl s3 ∧ Below w0.heap.size w0 w4 ∧ w0.heap.size ≤ w4.heap.size ∧ a.defers = [] ∧ a.tmps.size = 26 ∧ Ok [] a.tmps) ?_ ?_
  ·skip
   refine gv_block <| gv_loop (A := fun (s5 : Int) a w6 => Below w0.heap.size w0 w6 ∧ w0.heap.size ≤ w6.heap.size ∧ a.defers = [] ∧ a.tmps.size = 26 ∧ Ok [(0, (.slice pa0_0 (length a_0) pc0_0)), (1, (.slice pa1_0 (length b_1) pc1_0)), (5, (.int .i64 s5))] a.tmps) h1 ?_ ?_
   ·intro a hd hs hok
    exact ⟨hB0, nrf, hd, hs, okp [0, 1, 5] hok⟩
   ·rintro s5 r2 h2 hR2 a w6 ⟨hB7, hz8, hd, hs, hok⟩
    refine gv_in ?_ hd hs hok
    clear hd hs hok
    refine gv_seq <| gv_seq <| gv_region <| pN 4 [11, 12, 13, 14] [(14, (.bool (decide (s5 < ((length a_0 : Nat) : Int)))))] ?_
    refine gv_nil <| gv_cond (b := (decide (s5 < ((length a_0 : Nat) : Int)))) kr (fun hc9 => ?_) (fun hc9 => ?_)
    ·replace h2 := ite_t hc9 h2
     refine gv_skip <| gv_seq <| gv_block <| gv_seq <| gv_drawA kr ?_
     intro w10 hg11
     refine gv_pre [0, 1, 2, 4, 5, 6] (bA 9 [0, 1, 2, 4, 5, 6]) 3 kr kr ?_
     refine pN 2 [17, 18] [(17, (.slice pa0_0 (length a_0) pc0_0)), (18, (.int .i64 s5))] ?_
     refine bindE h2 ?_; clear h2; intro x12 hx13 h2
     have hB14 := bg hB7 hg11 nb
     refine gv_idxaddr (t := 37) (e := 107) (a := pa0_0) (len := length a_0) (cap := pc0_0) (kk := .i64) (i := s5) (sz := 1) [] (fun e => by cases e) rfl rfl rfl kr kr Tryz.underlying37 kr ((hpa0_0.below hB14 hX0).has hx13) (idx_spec hx13).1 (idx_spec hx13).2.1 rfl ?_
     refine pN 2 [21, 22] [(21, (.slice pa1_0 (length b_1) pc1_0)), (22, (.int .i64 s5))] ?_
     refine bindE h2 ?_; clear h2; intro x15 hx16 h2
     refine gv_idxaddr (t := 37) (e := 107) (a := pa1_0) (len := length b_1) (cap := pc1_0) (kk := .i64) (i := s5) (sz := 1) [] (fun e => by cases e) rfl rfl rfl kr kr Tryz.underlying37 kr ((hpa1_0.below hB14 hX0).has hx16) (idx_spec hx16).1 (idx_spec hx16).2.1 rfl ?_
     refine gv_nil <| gv_goA ?_
     refine gv_stage (Cls w10 []) [3, 7] [(3, some true), (7, some true)] (bA 9 [0, 1, 2, 3, 4, 5, 6, 7]) 1 kr kr (Cls.refl _ _) ?_
     have hC17 := Cls.refl w10 []
     refine gv_load (t := 107) (A := (elemAddr pa0_0 ((s5 : Int).toNat * 1))) (.int .u32 x12) [] (fun e => by cases e) rfl rfl rfl kr kr kr (inw1 fun w' hC' => ((hC'.rd (hpa0_0.below hB14 hX0) (fun k (hk : X0 k) => ltl (hX0 k hk) hB14.size) nmx_nil).cell hx13)) rfl ?_
     refine gv_load (t := 107) (A := (elemAddr pa1_0 ((s5 : Int).toNat * 1))) (.int .u32 x15) [] (fun e => by cases e) rfl rfl rfl kr kr kr (inw1 fun w' hC' => ((hC'.rd (hpa1_0.below hB14 hX0) (fun k (hk : X0 k) => ltl (hX0 k hk) hB14.size) nmx_nil).cell hx16)) rfl ?_
     refine gv_nil <| gv_goA ?_
     refine gv_pre [8] (bA 9 [0, 1, 2, 3, 4, 5, 6, 7, 8]) 0 kr kr ?_
     refine pN 1 [25] [(25, (.bool (x12 != x15)))] ?_
     refine gv_nil <| gv_goA ?_
     refine gv_stageE kr ?_
     refine gv_cond (b := (x12 != x15)) kr (fun hc18 => ?_) (fun hc18 => ?_)
     ·replace h2 := ite_t hc18 h2
      refine gv_seq <| gv_region <| pN 1 [4] [(4, (.bool false))] ?_
      refine gv_nil <| gv_cret ?_
      have e := sj h2; subst e
      replace h1 := congrArg some (hR2 _ rfl)
      have e := sj h1; subst e
      replace h0 := cont_inr h0
      have e := sj h0; subst e
      refine gv_ret (gv_done [(.bool false)] rfl ⟨kr, trivial⟩ ?_)
      exact ⟨grown_of_below hB14, rfl⟩
     ·replace h2 := ite_f hc18 h2
      refine gv_skip <| gv_blk <| gv_region <| pN 3 [5, 15, 16] [(5, (.int .i64 (IntKind.i64.wrap (s5 + 1))))] ?_
      refine gv_nil ?_
      have e := sj h2; subst e
      refine gv_goal fun a hd hs hok => ?_
      have hz19 := (nt hz8 hg11.size)
      exact ⟨(IntKind.i64.wrap (s5 + 1)), rfl, hB14, hz19, hd, hs, okp [0, 1, 5] hok⟩
    ·replace h2 := ite_f hc9 h2
     refine gv_cexit <| gv_exit rfl ?_
     have e := sj h2; subst e
     replace h1 := congrArg some (hR2 _ rfl)
     have e := sj h1; subst e
     refine gv_goal fun a hd hs hok => ?_
     have hz20 := hz8
     exact ⟨(), rfl, hB7, hz20, hd, hs, okp [] hok⟩
  ·rintro a w4 ⟨s3, e, hB21, hz22, hd, hs, hok⟩
   subst e
   refine gv_in ?_ hd hs hok
   clear hd hs hok
   replace h0 := cont_inl h0
   refine gv_seq <| gv_region <| pN 1 [4] [(4, (.bool true))] ?_
   refine gv_nil <| gv_cret ?_
   have e := sj h0; subst e
   refine gv_ret (gv_done [(.bool true)] rfl ⟨kr, trivial⟩ ?_)
   exact ⟨grown_of_below hB21, rfl⟩

theorem ref3_SameInts_ok (fuel : Nat) (pa0_0 : Option Addr) (pc0_0 : Nat) (a_0 : (Bool × (List Int))) (pa1_0 : Option Addr) (pc1_0 : Nat) (b_1 : (Bool × (List Int))) (w0 : World) (X0 : Nat → Prop) (hX0 : ∀ k, X0 k → k < w0.heap.size) (hpa0_0 : Rd (iE .u32) w0 X0 pa0_0 pc0_0 a_0.2) (hpa1_0 : Rd (iE .u32) w0 X0 pa1_0 pc1_0 b_1.2) (r0 : Bool) (h0 : ref3_SameInts fuel a_0 b_1 = some r0) :
    Calls Tryz.prog 13 ([(.agg #[(.bool a_0.1), (.slice pa0_0 (length a_0.2) pc0_0)]), (.agg #[(.bool b_1.1), (.slice pa1_0 (length b_1.2) pc1_0)])] : List Value).toArray w0 (Ret fun v w' => w0.grownBy w' none ∧ v = tup [(.bool r0)]) := by
 have hB0 : Below w0.heap.size w0 w0 := Below.refl _ _
 unfold ref3_SameInts at h0
 refine calls_run Tryz.func13 rfl Tryz.ntmps13 kr ?_
 refine gv_sub [0, 1] (σ' := [(0, (.agg #[(.bool a_0.1), (.slice pa0_0 (length a_0.2) pc0_0)])), (1, (.agg #[(.bool b_1.1), (.slice pa1_0 (length b_1.2) pc1_0)]))]) kr ?_
 refine gv_seq <| gv_region <| gv_new0 (fun b => .pointer (some ⟨b, 0, none⟩)) #[(.bool a_0.1), (.slice pa0_0 (length a_0.2) pc0_0)] 39 kr kr ?_
 intro b1 w2 hg3 hb4 hbe5 hz6
 refine gv_new0 (fun b => .pointer (some ⟨b, 0, none⟩)) #[(.bool b_1.1), (.slice pa1_0 (length b_1.2) pc1_0)] 39 kr kr ?_
 intro b7 w8 hg9 hb10 hbe11 hz12
 refine pN 1 [4] [] ?_
 refine gv_nil <| gv_seq <| gv_region <| bindE h0 ?_; clear h0; intro j13 h1 h0
 refine gv_cut_ops (J := fun a w14 => Below w0.heap.size w0 w14 ∧ w8.heap.size ≤ w14.heap.size ∧ a.defers = [] ∧ a.tmps.size = 17 ∧ Ok [(4, (.bool j13))] a.tmps) ?_ ?_
 ·skip
  refine pN 1 [5] [(5, (bp b1))] ?_
  have hk15 := hb4.grown hg9 nb
  refine gv_load (t := 4) (A := ⟨b1, 0, none⟩) (.bool a_0.1) [] (fun e => by cases e) rfl rfl rfl kr kr kr (inw0 (hk15.cell 0 rfl)) rfl ?_
  refine pN 1 [7] [(7, (bp b7))] ?_
  refine gv_load (t := 4) (A := ⟨b7, 0, none⟩) (.bool b_1.1) [] (fun e => by cases e) rfl rfl rfl kr kr kr (inw0 (hb10.cell 0 rfl)) rfl ?_
  refine pN 2 [9, 10] [(10, (.bool (a_0.1 == b_1.1)))] ?_
  refine gv_split (s := 10) (g := (a_0.1 == b_1.1)) kr (fun hc16 => ?_) (fun hc16 => ?_)
  ·skip
   replace h1 := ite_t hc16 h1
   refine pN 1 [11] [(11, (.pointer (some ⟨b1, 1, none⟩)))] ?_
   refine gv_load (t := 37) (A := ⟨b1, 1, none⟩) (.slice pa0_0 (length a_0.2) pc0_0) [] (fun e => by cases e) rfl rfl rfl kr kr kr (inw0 (hk15.cell 1 rfl)) rfl ?_
   refine pN 1 [13] [(13, (.pointer (some ⟨b7, 1, none⟩)))] ?_
   refine gv_load (t := 37) (A := ⟨b7, 1, none⟩) (.slice pa1_0 (length b_1.2) pc1_0) [] (fun e => by cases e) rfl rfl rfl kr kr kr (inw0 (hb10.cell 1 rfl)) rfl ?_
   refine bindE h1 ?_; clear h1; intro r17 hr18 h1
   have hg19 := (grown_trans hg3 hg9)
   have hB20 := bg hB0 hg19 nb
   refine gv_call0 kr rfl kr enters37 (ref3_SameLimbs_ok fuel pa0_0 pc0_0 a_0.2 pa1_0 pc1_0 b_1.2 w8 (fun k => X0 k ∨ X0 k) (fun k hk => (hk).elim (fun h => (fun k (hk : X0 k) => ltl (hX0 k hk) hB20.size) k h) (fun h => (fun k (hk : X0 k) => ltl (hX0 k hk) hB20.size) k h)) ((hpa0_0.below hB20 hX0).wide (fun k hk => (.inl hk))) ((hpa1_0.below hB20 hX0).wide (fun k hk => (.inr hk))) r17 hr18) ?_
   rintro v23 w21 ⟨hg22, rfl⟩
   refine pN 2 [4, 16] [(4, (.bool r17))] ?_
   refine gv_sub [4] (σ' := [(4, (.bool r17))]) kr ?_
   refine gv_nil ?_
   have e := sj h1; subst e
   refine gv_goal fun a hd hs hok => ?_
   have hB24 := bg hB20 hg22 nb
   have hz25 := hg22.size
   exact ⟨hB24, hz25, hd, hs, okp [4] hok⟩
  ·skip
   replace h1 := ite_f hc16 h1
   refine pN 7 [4, 11, 12, 13, 14, 15, 16] [(4, (.bool false))] ?_
   refine gv_nil ?_
   have e := sj h1; subst e
   refine gv_goal fun a hd hs hok => ?_
   have hg26 := (grown_trans hg3 hg9)
   have hB27 := bg hB0 hg26 nb
   exact ⟨hB27, nrf, hd, hs, okp [4] hok⟩
 ·rintro a w14 ⟨hB28, hz29, hd, hs, hok⟩
  refine gv_in ?_ hd hs hok
  clear hd hs hok
  clear hz29 hz12 hbe11 hb10 hg9 hz6 hbe5 hb4 hg3
  refine gv_cret ?_
  have e := sj h0; subst e
  refine gv_ret (gv_done [(.bool j13)] rfl ⟨kr, trivial⟩ ?_)
  exact ⟨grown_of_below hB28, rfl⟩

theorem ref3_SameValue_ok (fuel : Nat) (pa0_0 : Option Addr) (pc0_0 : Nat) (pa0_1 : Option Addr) (pc0_1 : Nat) (a_0 : (Int × (Bool × (List Int)) × (Bool × (List Int)) × ByteArray × Int)) (pa1_0 : Option Addr) (pc1_0 : Nat) (pa1_1 : Option Addr) (pc1_1 : Nat) (b_1 : (Int × (Bool × (List Int)) × (Bool × (List Int)) × ByteArray × Int)) (w0 : World) (X0 : Nat → Prop) (hX0 : ∀ k, X0 k → k < w0.heap.size) (hpa0_0 : Rd (iE .u32) w0 X0 pa0_0 pc0_0 a_0.2.1.2) (hpa0_1 : Rd (iE .u32) w0 X0 pa0_1 pc0_1 a_0.2.2.1.2) (hpa1_0 : Rd (iE .u32) w0 X0 pa1_0 pc1_0 b_1.2.1.2) (hpa1_1 : Rd (iE .u32) w0 X0 pa1_1 pc1_1 b_1.2.2.1.2) (r0 : Bool) (h0 : ref3_SameValue fuel a_0 b_1 = some r0) :
    Calls Tryz.prog 31 ([(.agg #[(.int .i64 a_0.1), (.bool a_0.2.1.1), (.slice pa0_0 (length a_0.2.1.2) pc0_0), (.bool a_0.2.2.1.1), (.slice pa0_1 (length a_0.2.2.1.2) pc0_1), (.string a_0.2.2.2.1), (.int .i64 a_0.2.2.2.2)]), (.agg #[(.int .i64 b_1.1), (.bool b_1.2.1.1), (.slice pa1_0 (length b_1.2.1.2) pc1_0), (.bool b_1.2.2.1.1), (.slice pa1_1 (length b_1.2.2.1.2) pc1_1), (.string b_1.2.2.2.1), (.int .i64 b_1.2.2.2.2)])] : List Value).toArray w0 (Ret fun v w' => w0.grownBy w' none ∧ v = tup [(.bool r0)]) := by
 have hB0 : Below w0.heap.size w0 w0 := Below.refl _ _
 unfold ref3_SameValue at h0
 refine calls_run Tryz.func31 rfl Tryz.ntmps31 kr ?_
 refine gv_sub [0, 1] (σ' := [(0, (.agg #[(.int .i64 a_0.1), (.bool a_0.2.1.1), (.slice pa0_0 (length a_0.2.1.2) pc0_0), (.bool a_0.2.2.1.1), (.slice pa0_1 (length a_0.2.2.1.2) pc0_1), (.string a_0.2.2.2.1), (.int .i64 a_0.2.2.2.2)])), (1, (.agg #[(.int .i64 b_1.1), (.bool b_1.2.1.1), (.slice pa1_0 (length b_1.2.1.2) pc1_0), (.bool b_1.2.2.1.1), (.slice pa1_1 (length b_1.2.2.1.2) pc1_1), (.string b_1.2.2.2.1), (.int .i64 b_1.2.2.2.2)]))]) kr ?_
 refine gv_seq <| gv_region <| gv_new0 (fun b => .pointer (some ⟨b, 0, none⟩)) #[(.int .i64 a_0.1), (.bool a_0.2.1.1), (.slice pa0_0 (length a_0.2.1.2) pc0_0), (.bool a_0.2.2.1.1), (.slice pa0_1 (length a_0.2.2.1.2) pc0_1), (.string a_0.2.2.2.1), (.int .i64 a_0.2.2.2.2)] 41 kr kr ?_
 intro b1 w2 hg3 hb4 hbe5 hz6
 refine gv_new0 (fun b => .pointer (some ⟨b, 0, none⟩)) #[(.int .i64 b_1.1), (.bool b_1.2.1.1), (.slice pa1_0 (length b_1.2.1.2) pc1_0), (.bool b_1.2.2.1.1), (.slice pa1_1 (length b_1.2.2.1.2) pc1_1), (.string b_1.2.2.2.1), (.int .i64 b_1.2.2.2.2)] 41 kr kr ?_
 intro b7 w8 hg9 hb10 hbe11 hz12
 refine pN 1 [4] [] ?_
 refine gv_nil <| gv_seq <| gv_region <| bindE h0 ?_; clear h0; intro j13 h1 h0
 refine gv_cut_ops (J := fun a w14 => Below w0.heap.size w0 w14 ∧ w8.heap.size ≤ w14.heap.size ∧ a.defers = [] ∧ a.tmps.size = 38 ∧ Ok [(4, (.bool j13))] a.tmps) ?_ ?_
 ·skip
  refine pN 1 [5] [(5, (bp b1))] ?_
  have hk15 := hb4.grown hg9 nb
  refine gv_load (t := 3) (A := ⟨b1, 0, none⟩) (.int .i64 a_0.1) [] (fun e => by cases e) rfl rfl rfl kr kr kr (inw0 (hk15.cell 0 rfl)) rfl ?_
  refine pN 1 [7] [(7, (bp b7))] ?_
  refine gv_load (t := 3) (A := ⟨b7, 0, none⟩) (.int .i64 b_1.1) [] (fun e => by cases e) rfl rfl rfl kr kr kr (inw0 (hb10.cell 0 rfl)) rfl ?_
  refine pN 2 [9, 10] [(10, (.bool (a_0.1 == b_1.1)))] ?_
  refine gv_split (s := 10) (g := (a_0.1 == b_1.1)) kr (fun hc16 => ?_) (fun hc16 => ?_)
  ·skip
   replace h1 := ite_t hc16 h1
   refine pN 1 [11] [(11, (.pointer (some ⟨b1, 1, none⟩)))] ?_
   refine gv_loadAgg (t := 39) (A := ⟨b1, 1, none⟩) #[(.bool a_0.2.1.1), (.slice pa0_0 (length a_0.2.1.2) pc0_0)] [] (fun e => by cases e) rfl rfl rfl kr kr kr kr (inw0 (Box.part hk15 1 _ rfl)) rfl ?_
   refine pN 1 [13] [(13, (.pointer (some ⟨b7, 1, none⟩)))] ?_
   refine gv_loadAgg (t := 39) (A := ⟨b7, 1, none⟩) #[(.bool b_1.2.1.1), (.slice pa1_0 (length b_1.2.1.2) pc1_0)] [] (fun e => by cases e) rfl rfl rfl kr kr kr kr (inw0 (Box.part hb10 1 _ rfl)) rfl ?_
   refine bindE h1 ?_; clear h1; intro r17 hr18 h1
   have hg19 := (grown_trans hg3 hg9)
   have hB20 := bg hB0 hg19 nb
   refine gv_call0 kr rfl kr enters13 (ref3_SameInts_ok fuel pa0_0 pc0_0 (a_0.2.1.1, a_0.2.1.2) pa1_0 pc1_0 (b_1.2.1.1, b_1.2.1.2) w8 (fun k => X0 k ∨ X0 k) (fun k hk => (hk).elim (fun h => (fun k (hk : X0 k) => ltl (hX0 k hk) hB20.size) k h) (fun h => (fun k (hk : X0 k) => ltl (hX0 k hk) hB20.size) k h)) ((hpa0_0.below hB20 hX0).wide (fun k hk => (.inl hk))) ((hpa1_0.below hB20 hX0).wide (fun k hk => (.inr hk))) r17 hr18) ?_
   rintro v23 w21 ⟨hg22, rfl⟩
   refine pN 2 [16, 17] [(17, (.bool r17))] ?_
   refine gv_sub [2, 3, 17] (σ' := [(2, (bp b1)), (3, (bp b7)), (17, (.bool r17))]) kr ?_
   refine gv_split (s := 17) (g := r17) kr (fun hc24 => ?_) (fun hc24 => ?_)
   ·skip
    replace h1 := ite_t hc24 h1
    refine pN 1 [18] [(18, (.pointer (some ⟨b1, 3, none⟩)))] ?_
    have hk25 := hk15.grown hg22 nb
    refine gv_loadAgg (t := 39) (A := ⟨b1, 3, none⟩) #[(.bool a_0.2.2.1.1), (.slice pa0_1 (length a_0.2.2.1.2) pc0_1)] [] (fun e => by cases e) rfl rfl rfl kr kr kr kr (inw0 (Box.part hk25 3 _ rfl)) rfl ?_
    refine pN 1 [20] [(20, (.pointer (some ⟨b7, 3, none⟩)))] ?_
    have hk26 := hb10.grown hg22 nb
    refine gv_loadAgg (t := 39) (A := ⟨b7, 3, none⟩) #[(.bool b_1.2.2.1.1), (.slice pa1_1 (length b_1.2.2.1.2) pc1_1)] [] (fun e => by cases e) rfl rfl rfl kr kr kr kr (inw0 (Box.part hk26 3 _ rfl)) rfl ?_
    refine bindE h1 ?_; clear h1; intro r27 hr28 h1
    have hB29 := bg hB20 hg22 nb
    refine gv_call0 kr rfl kr enters13 (ref3_SameInts_ok fuel pa0_1 pc0_1 (a_0.2.2.1.1, a_0.2.2.1.2) pa1_1 pc1_1 (b_1.2.2.1.1, b_1.2.2.1.2) w21 (fun k => X0 k ∨ X0 k) (fun k hk => (hk).elim (fun h => (fun k (hk : X0 k) => ltl (hX0 k hk) hB29.size) k h) (fun h => (fun k (hk : X0 k) => ltl (hX0 k hk) hB29.size) k h)) ((hpa0_1.below hB29 hX0).wide (fun k hk => (.inl hk))) ((hpa1_1.below hB29 hX0).wide (fun k hk => (.inr hk))) r27 hr28) ?_
    rintro v32 w30 ⟨hg31, rfl⟩
    refine pN 2 [23, 24] [(24, (.bool r27))] ?_
    refine gv_split (s := 24) (g := r27) kr (fun hc33 => ?_) (fun hc33 => ?_)
    ·skip
     replace h1 := ite_t hc33 h1
     refine pN 1 [25] [(25, (.pointer (some ⟨b1, 5, none⟩)))] ?_
     have hk34 := hk25.grown hg31 nb
     refine gv_load (t := 9) (A := ⟨b1, 5, none⟩) (.string a_0.2.2.2.1) [] (fun e => by cases e) rfl rfl rfl kr kr kr (inw0 (hk34.cell 5 rfl)) rfl ?_
     refine pN 1 [27] [(27, (.pointer (some ⟨b7, 5, none⟩)))] ?_
     have hk35 := hk26.grown hg31 nb
     refine gv_load (t := 9) (A := ⟨b7, 5, none⟩) (.string b_1.2.2.2.1) [] (fun e => by cases e) rfl rfl rfl kr kr kr (inw0 (hk35.cell 5 rfl)) rfl ?_
     refine pN 3 [29, 30, 31] [(31, (.bool (a_0.2.2.2.1.toList == b_1.2.2.2.1.toList)))] ?_
     refine gv_split (s := 31) (g := (a_0.2.2.2.1.toList == b_1.2.2.2.1.toList)) kr (fun hc36 => ?_) (fun hc36 => ?_)
     ·skip
      replace h1 := ite_t hc36 h1
      refine pN 1 [32] [(32, (.pointer (some ⟨b1, 6, none⟩)))] ?_
      refine gv_load (t := 3) (A := ⟨b1, 6, none⟩) (.int .i64 a_0.2.2.2.2) [] (fun e => by cases e) rfl rfl rfl kr kr kr (inw0 (hk34.cell 6 rfl)) rfl ?_
      refine pN 1 [34] [(34, (.pointer (some ⟨b7, 6, none⟩)))] ?_
      refine gv_sub [31, 33, 34] (σ' := [(31, (.bool true)), (33, (.int .i64 a_0.2.2.2.2)), (34, (.pointer (some ⟨b7, 6, none⟩)))]) kr ?_
      refine gv_load (t := 3) (A := ⟨b7, 6, none⟩) (.int .i64 b_1.2.2.2.2) [] (fun e => by cases e) rfl rfl rfl kr kr kr (inw0 (hk35.cell 6 rfl)) rfl ?_
      refine pN 3 [4, 36, 37] [(4, (.bool (a_0.2.2.2.2 == b_1.2.2.2.2)))] ?_
      refine gv_nil ?_
      have e := sj h1; subst e
      refine gv_goal fun a hd hs hok => ?_
      have hB37 := bg hB29 hg31 nb
      have hz38 := (nt hg22.size hg31.size)
      exact ⟨hB37, hz38, hd, hs, okp [4] hok⟩
     ·skip
      replace h1 := ite_f hc36 h1
      refine pN 7 [4, 32, 33, 34, 35, 36, 37] [(4, (.bool false))] ?_
      refine gv_nil ?_
      have e := sj h1; subst e
      refine gv_goal fun a hd hs hok => ?_
      have hB39 := bg hB29 hg31 nb
      have hz40 := (nt hg22.size hg31.size)
      exact ⟨hB39, hz40, hd, hs, okp [4] hok⟩
    ·skip
     replace h1 := ite_f hc33 h1
     refine pN 14 [4, 25, 26, 27, 28, 29, 30, 31, 32, 33, 34, 35, 36, 37] [(4, (.bool false))] ?_
     refine gv_nil ?_
     have e := sj h1; subst e
     refine gv_goal fun a hd hs hok => ?_
     have hB41 := bg hB29 hg31 nb
     have hz42 := (nt hg22.size hg31.size)
     exact ⟨hB41, hz42, hd, hs, okp [4] hok⟩
   ·skip
    replace h1 := ite_f hc24 h1
    refine pN 21 [4, 18, 19, 20, 21, 22, 23, 24, 25, 26, 27, 28, 29, 30, 31, 32, 33, 34, 35, 36, 37] [(4, (.bool false))] ?_
    refine gv_nil ?_
    have e := sj h1; subst e
    refine gv_goal fun a hd hs hok => ?_
    have hB43 := bg hB20 hg22 nb
    have hz44 := hg22.size
    exact ⟨hB43, hz44, hd, hs, okp [4] hok⟩
  ·skip
   replace h1 := ite_f hc16 h1
   refine pN 28 [4, 11, 12, 13, 14, 15, 16, 17, 18, 19, 20, 21, 22, 23, 24, 25, 26, 27, 28, 29, 30, 31, 32, 33, 34, 35, 36, 37] [(4, (.bool false))] ?_
   refine gv_nil ?_
   have e := sj h1; subst e
   refine gv_goal fun a hd hs hok => ?_
   have hg45 := (grown_trans hg3 hg9)
   have hB46 := bg hB0 hg45 nb
   exact ⟨hB46, nrf, hd, hs, okp [4] hok⟩
 ·rintro a w14 ⟨hB47, hz48, hd, hs, hok⟩
  refine gv_in ?_ hd hs hok
  clear hd hs hok
  clear hz48 hz12 hbe11 hb10 hg9 hz6 hbe5 hb4 hg3
  refine gv_cret ?_
  have e := sj h0; subst e
  refine gv_ret (gv_done [(.bool j13)] rfl ⟨kr, trivial⟩ ?_)
  exact ⟨grown_of_below hB47, rfl⟩

theorem ref3_SameValues_ok (fuel : Nat) (pa0_0 : Option Addr) (pc0_0 : Nat) (a_0 : (List (Int × (Bool × (List Int)) × (Bool × (List Int)) × ByteArray × Int))) (pa1_0 : Option Addr) (pc1_0 : Nat) (b_1 : (List (Int × (Bool × (List Int)) × (Bool × (List Int)) × ByteArray × Int))) (w0 : World) (X0 : Nat → Prop) (hX0 : ∀ k, X0 k → k < w0.heap.size) (hpa0_0 : Rd (prE (iE .i64) (prE (prE tE (slE (iE .u32))) (prE (prE tE (slE (iE .u32))) (prE sE (iE .i64))))) w0 X0 pa0_0 pc0_0 a_0) (hpa1_0 : Rd (prE (iE .i64) (prE (prE tE (slE (iE .u32))) (prE (prE tE (slE (iE .u32))) (prE sE (iE .i64))))) w0 X0 pa1_0 pc1_0 b_1) (r0 : Bool) (h0 : ref3_SameValues fuel a_0 b_1 = some r0) :
    Calls Tryz.prog 8 ([(.slice pa0_0 (length a_0) pc0_0), (.slice pa1_0 (length b_1) pc1_0)] : List Value).toArray w0 (Ret fun v w' => w0.grownBy w' none ∧ v = tup [(.bool r0)]) := by
 have hB0 : Below w0.heap.size w0 w0 := Below.refl _ _
 unfold ref3_SameValues at h0
 refine calls_run Tryz.func8 rfl Tryz.ntmps8 kr ?_
 refine gv_sub [0, 1] (σ' := [(0, (.slice pa0_0 (length a_0) pc0_0)), (1, (.slice pa1_0 (length b_1) pc1_0))]) kr ?_
 refine gv_seq <| gv_region <| pN 1 [4] [] ?_
 refine gv_nil <| gv_seq <| gv_seq <| gv_region <| pN 5 [6, 7, 8, 9, 10] [(10, (.bool (((length a_0 : Nat) : Int) != ((length b_1 : Nat) : Int))))] ?_
 refine gv_nil <| gv_cond (b := (((length a_0 : Nat) : Int) != ((length b_1 : Nat) : Int))) kr (fun hc1 => ?_) (fun hc1 => ?_)
 ·replace h0 := ite_t hc1 h0
  refine gv_seq <| gv_region <| pN 1 [4] [(4, (.bool false))] ?_
  refine gv_nil <| gv_cret ?_
  have e := sj h0; subst e
  refine gv_ret (gv_done [(.bool false)] rfl ⟨kr, trivial⟩ ?_)
  exact ⟨grown_of_below hB0, rfl⟩
 ·replace h0 := ite_f hc1 h0
  refine gv_skip <| gv_seq <| gv_seq <| gv_region <| pN 1 [5] [(5, (.int .i64 0))] ?_
  refine gv_nil <| bindE h0 ?_; clear h0; intro j2 h1 h0
  refine gv_cut_code (J := fun a w4 => ∃ s3 : Unit, j2 = .inl s3 ∧ Below w0.heap.size w0 w4 ∧ w0.heap.size ≤ w4.heap.size ∧ a.defers = [] ∧ a.tmps.size = 27 ∧ Ok [] a.tmps) ?_ ?_
  ·skip
   refine gv_block <| gv_loop (A := fun (s5 : Int) a w6 => Below w0.heap.size w0 w6 ∧ w0.heap.size ≤ w6.heap.size ∧ a.defers = [] ∧ a.tmps.size = 27 ∧ Ok [(0, (.slice pa0_0 (length a_0) pc0_0)), (1, (.slice pa1_0 (length b_1) pc1_0)), (5, (.int .i64 s5))] a.tmps) h1 ?_ ?_
   ·intro a hd hs hok
    exact ⟨hB0, nrf, hd, hs, okp [0, 1, 5] hok⟩
   ·rintro s5 r2 h2 hR2 a w6 ⟨hB7, hz8, hd, hs, hok⟩
    refine gv_in ?_ hd hs hok
    clear hd hs hok
    refine gv_seq <| gv_seq <| gv_region <| pN 4 [11, 12, 13, 14] [(14, (.bool (decide (s5 < ((length a_0 : Nat) : Int)))))] ?_
    refine gv_nil <| gv_cond (b := (decide (s5 < ((length a_0 : Nat) : Int)))) kr (fun hc9 => ?_) (fun hc9 => ?_)
    ·replace h2 := ite_t hc9 h2
     refine gv_skip <| gv_seq <| gv_block <| gv_seq <| gv_drawA kr ?_
     intro w10 hg11
     refine gv_pre [0, 1, 2, 4, 5, 6] (bA 10 [0, 1, 2, 4, 5, 6]) 4 kr kr ?_
     refine pN 2 [17, 18] [(17, (.slice pa0_0 (length a_0) pc0_0)), (18, (.int .i64 s5))] ?_
     refine bindE h2 ?_; clear h2; intro x12 hx13 h2
     have hB14 := bg hB7 hg11 nb
     refine gv_idxaddr (t := 24) (e := 41) (a := pa0_0) (len := length a_0) (cap := pc0_0) (kk := .i64) (i := s5) (sz := 7) [] (fun e => by cases e) rfl rfl rfl kr kr Tryz.underlying24 kr ((hpa0_0.below hB14 hX0).has hx13) (idx_spec hx13).1 (idx_spec hx13).2.1 rfl ?_
     refine pN 2 [21, 22] [(21, (.slice pa1_0 (length b_1) pc1_0)), (22, (.int .i64 s5))] ?_
     refine bindE h2 ?_; clear h2; intro x15 hx16 h2
     refine gv_idxaddr (t := 24) (e := 41) (a := pa1_0) (len := length b_1) (cap := pc1_0) (kk := .i64) (i := s5) (sz := 7) [] (fun e => by cases e) rfl rfl rfl kr kr Tryz.underlying24 kr ((hpa1_0.below hB14 hX0).has hx16) (idx_spec hx16).1 (idx_spec hx16).2.1 rfl ?_
     refine gv_nil <| gv_goA ?_
     refine gv_stage (Cls w10 []) [3, 7] [(3, some true), (7, some true)] (bA 10 [0, 1, 2, 3, 4, 5, 6, 7]) 2 kr kr (Cls.refl _ _) ?_
     have hC17 := Cls.refl w10 []
     obtain ⟨_, ⟨_, _, rfl, rfl, ⟨_, _, rfl, ⟨_, _, rfl, rfl, ⟨a19, c20, rfl, hr21⟩⟩, ⟨_, _, rfl, ⟨_, _, rfl, rfl, ⟨a22, c23, rfl, hr24⟩⟩, ⟨_, _, rfl, rfl, rfl⟩⟩⟩⟩, hc18⟩ := hpa0_0.cellsK hx13
     refine gv_loadAgg (t := 41) (A := (elemAddr pa0_0 ((s5 : Int).toNat * 7))) #[(.int .i64 x12.1), (.bool x12.2.1.1), (.slice a19 (length x12.2.1.2) c20), (.bool x12.2.2.1.1), (.slice a22 (length x12.2.2.1.2) c23), (.string x12.2.2.2.1), (.int .i64 x12.2.2.2.2)] [] (fun e => by cases e) rfl rfl rfl kr kr kr kr (inw1 fun w' hC' => (hc18 w' (fun k hk => (hC'.2 k ((fun k (hk : X0 k) => ltl (hX0 k hk) hB14.size) k hk) (fun hg => nmx_nil k hg hk)).trans (hB14.block k (hX0 k hk))))) rfl ?_
     obtain ⟨_, ⟨_, _, rfl, rfl, ⟨_, _, rfl, ⟨_, _, rfl, rfl, ⟨a26, c27, rfl, hr28⟩⟩, ⟨_, _, rfl, ⟨_, _, rfl, rfl, ⟨a29, c30, rfl, hr31⟩⟩, ⟨_, _, rfl, rfl, rfl⟩⟩⟩⟩, hc25⟩ := hpa1_0.cellsK hx16
     refine gv_loadAgg (t := 41) (A := (elemAddr pa1_0 ((s5 : Int).toNat * 7))) #[(.int .i64 x15.1), (.bool x15.2.1.1), (.slice a26 (length x15.2.1.2) c27), (.bool x15.2.2.1.1), (.slice a29 (length x15.2.2.1.2) c30), (.string x15.2.2.2.1), (.int .i64 x15.2.2.2.2)] [] (fun e => by cases e) rfl rfl rfl kr kr kr kr (inw1 fun w' hC' => (hc25 w' (fun k hk => (hC'.2 k ((fun k (hk : X0 k) => ltl (hX0 k hk) hB14.size) k hk) (fun hg => nmx_nil k hg hk)).trans (hB14.block k (hX0 k hk))))) rfl ?_
     refine gv_nil <| gv_goA ?_
     refine gv_stage (fun _ => True) [8] [(8, some false)] (bA 10 [0, 1, 2, 3, 4, 5, 6, 7, 8]) 1 kr kr trivial ?_
     refine bindE h2 ?_; clear h2; intro r32 hr33 h2
     refine gv_call (f := 31) (vs := [(.agg #[(.int .i64 x12.1), (.bool x12.2.1.1), (.slice a19 (length x12.2.1.2) c20), (.bool x12.2.2.1.1), (.slice a22 (length x12.2.2.1.2) c23), (.string x12.2.2.2.1), (.int .i64 x12.2.2.2.2)]), (.agg #[(.int .i64 x15.1), (.bool x15.2.1.1), (.slice a26 (length x15.2.1.2) c27), (.bool x15.2.2.1.1), (.slice a29 (length x15.2.2.1.2) c30), (.string x15.2.2.2.1), (.int .i64 x15.2.2.2.2)])]) (cap := []) _ (by decide) rfl rfl rfl kr kr enters31 (ref3_SameValue_ok fuel a19 c20 a22 c23 (x12.1, (x12.2.1.1, x12.2.1.2), (x12.2.2.1.1, x12.2.2.1.2), x12.2.2.2.1, x12.2.2.2.2) a26 c27 a29 c30 (x15.1, (x15.2.1.1, x15.2.1.2), (x15.2.2.1.1, x15.2.2.1.2), x15.2.2.2.1, x15.2.2.2.2) w10 (fun k => X0 k ∨ X0 k ∨ X0 k ∨ X0 k) (fun k hk => (hk).elim (fun h => (fun k (hk : X0 k) => ltl (hX0 k hk) hB14.size) k h) (fun h => (h).elim (fun h => (fun k (hk : X0 k) => ltl (hX0 k hk) hB14.size) k h) (fun h => (h).elim (fun h => (fun k (hk : X0 k) => ltl (hX0 k hk) hB14.size) k h) (fun h => (fun k (hk : X0 k) => ltl (hX0 k hk) hB14.size) k h)))) ((hr21.below hB14 hX0).wide (fun k hk => (.inl hk))) ((hr24.below hB14 hX0).wide (fun k hk => (.inr (.inl hk)))) ((hr28.below hB14 hX0).wide (fun k hk => (.inr (.inr (.inl hk))))) ((hr31.below hB14 hX0).wide (fun k hk => (.inr (.inr (.inr hk))))) r32 hr33) ?_
     rintro v36 w34 ⟨hg35, rfl⟩
     refine ⟨(fun _ => trivial), ?_⟩
     refine gv_nil <| gv_goA ?_
     refine gv_pre [9] (bA 10 [0, 1, 2, 3, 4, 5, 6, 7, 8, 9]) 0 kr kr ?_
     refine pN 1 [26] [(26, (.bool (!r32)))] ?_
     refine gv_nil <| gv_goA ?_
     refine gv_stageE kr ?_
     refine gv_cond (b := (!r32)) kr (fun hc37 => ?_) (fun hc37 => ?_)
     ·replace h2 := ite_t hc37 h2
      refine gv_seq <| gv_region <| pN 1 [4] [(4, (.bool false))] ?_
      refine gv_nil <| gv_cret ?_
      have e := sj h2; subst e
      replace h1 := congrArg some (hR2 _ rfl)
      have e := sj h1; subst e
      replace h0 := cont_inr h0
      have e := sj h0; subst e
      refine gv_ret (gv_done [(.bool false)] rfl ⟨kr, trivial⟩ ?_)
      have hB38 := bg hB14 hg35 nb
      exact ⟨grown_of_below hB38, rfl⟩
     ·replace h2 := ite_f hc37 h2
      refine gv_skip <| gv_blk <| gv_region <| pN 3 [5, 15, 16] [(5, (.int .i64 (IntKind.i64.wrap (s5 + 1))))] ?_
      refine gv_nil ?_
      have e := sj h2; subst e
      refine gv_goal fun a hd hs hok => ?_
      have hB39 := bg hB14 hg35 nb
      have hz40 := (nt (nt hz8 hg11.size) hg35.size)
      exact ⟨(IntKind.i64.wrap (s5 + 1)), rfl, hB39, hz40, hd, hs, okp [0, 1, 5] hok⟩
    ·replace h2 := ite_f hc9 h2
     refine gv_cexit <| gv_exit rfl ?_
     have e := sj h2; subst e
     replace h1 := congrArg some (hR2 _ rfl)
     have e := sj h1; subst e
     refine gv_goal fun a hd hs hok => ?_
     have hz41 := hz8
     exact ⟨(), rfl, hB7, hz41, hd, hs, okp [] hok⟩
  ·rintro a w4 ⟨s3, e, hB42, hz43, hd, hs, hok⟩
   subst e
   refine gv_in ?_ hd hs hok
   clear hd hs hok
   replace h0 := cont_inl h0
   refine gv_seq <| gv_region <| pN 1 [4] [(4, (.bool true))] ?_
   refine gv_nil <| gv_cret ?_
   have e := sj h0; subst e
   refine gv_ret (gv_done [(.bool true)] rfl ⟨kr, trivial⟩ ?_)
   exact ⟨grown_of_below hB42, rfl⟩

theorem law4_packs_ok (fuel : Nat)  (w0 : World) (X0 : Nat → Prop) (hX0 : ∀ k, X0 k → k < w0.heap.size) {erx : TypeId × Value} (hG4 : Rd eE w0 X0 (some ⟨4, 0, none⟩) 1 [erx]) (r0 : Bool) (h0 : law4_packs fuel  = some r0) :
    Calls Tryz.prog 7 ([] : List Value).toArray w0 (Ret fun v w' => w0.grownBy w' none ∧ v = tup [(.bool r0)]) := by
 have hB0 : Below w0.heap.size w0 w0 := Below.refl _ _
 unfold law4_packs at h0
 refine calls_run Tryz.func7 rfl Tryz.ntmps7 kr ?_
 refine gv_sub [] (σ' := []) kr ?_
 refine gv_seq <| gv_region <| pN 1 [0] [] ?_
 refine gv_nil <| gv_seq <| gv_region <| bindE h0 ?_; clear h0; intro r1 hr2 h0
 refine gv_call0 kr rfl kr enters29 (packing_Parse_ok fuel (strOf [62, 104, 118]) w0 (fun k => X0 k) (fun k hk => (fun k (hk : X0 k) => ltl (hX0 k hk) hB0.size) k hk) ((hG4.below hB0 hX0).wide (fun k hk => hk)) r1 hr2) ?_
 rintro v5 w3 ⟨hg4, a6, c7, rfl, ho8, hl9⟩
 have hl10 : ∀ g, blk a6 = some g → w0.heap.size ≤ g := fun g e => Nat.le_trans hB0.size (hl9 g e)
 refine pN 3 [7, 9, 10] [(9, (.slice a6 (length r1.1) c7)), (10, (.agg #[(.int .i64 r1.2.1), (.int .i64 r1.2.2)]))] ?_
 refine gv_new0 (fun b => .pointer (some ⟨b, 0, none⟩)) #[(.int .i64 0), (.int .i64 0)] 26 kr kr ?_
 intro b11 w12 hg13 hb14 hbe15 hz16
 refine pN 1 [1] [(1, (.slice a6 (length r1.1) c7))] ?_
 refine gv_store0 26 0 (.agg #[(.int .i64 r1.2.1), (.int .i64 r1.2.2)]) #[(.int .i64 r1.2.1), (.int .i64 r1.2.2)] hb14 kr kr kr ?_
 intro w17 hg18 hb19 hz20
 refine gv_nil <| gv_seq <| gv_region <| pN 1 [12] [(12, (.slice a6 (length r1.1) c7))] ?_
 refine bindE h0 ?_; clear h0; intro r21 hr22 h0
 refine gv_call0 kr rfl kr enters30 (law4_whole_ok fuel 258 w17  r21 hr22) ?_
 rintro v25 w23 ⟨hg24, a26, c27, a30, c31, rfl, ho28, hl29, ho32, hl33, ap34⟩
 have hg36 := (grown_trans hg4 hg13)
 have hB37 := bg hB0 hg36 nb
 have hB38 := bg hB0 hg4 nb
 have hlo39 : w0.heap.size ≤ b11 := lob hbe15 hB38.size
 have hB40 := bg hB37 hg18 (rowlo hlo39)
 have hl35 : ∀ g, blk a26 = some g → w0.heap.size ≤ g := fun g e => Nat.le_trans hB40.size (hl29 g e)
 have hl41 : ∀ g, blk a30 = some g → w0.heap.size ≤ g := fun g e => Nat.le_trans hB40.size (hl33 g e)
 refine bindE h0 ?_; clear h0; intro r42 hr43 h0
 refine gv_call0 kr rfl kr enters30 (law4_whole_ok fuel (-3) w23  r42 hr43) ?_
 rintro v46 w44 ⟨hg45, a47, c48, a51, c52, rfl, ho49, hl50, ho53, hl54, ap55⟩
 have hB57 := bg hB40 hg24 nb
 have hl56 : ∀ g, blk a47 = some g → w0.heap.size ≤ g := fun g e => Nat.le_trans hB57.size (hl50 g e)
 have hl58 : ∀ g, blk a51 = some g → w0.heap.size ≤ g := fun g e => Nat.le_trans hB57.size (hl54 g e)
 refine gv_new0 (fun b => .slice (some ⟨b, 0, none⟩) 2 2) #[(.int .i64 r21.1), (.bool r21.2.1.1), (.slice a26 (length r21.2.1.2) c27), (.bool r21.2.2.1.1), (.slice a30 (length r21.2.2.1.2) c31), (.string r21.2.2.2.1), (.int .i64 r21.2.2.2.2), (.int .i64 r42.1), (.bool r42.2.1.1), (.slice a47 (length r42.2.1.2) c48), (.bool r42.2.2.1.1), (.slice a51 (length r42.2.2.1.2) c52), (.string r42.2.2.2.1), (.int .i64 r42.2.2.2.2)] 41 kr kr ?_
 intro b59 w60 hg61 hb62 hbe63 hz64
 obtain ⟨X70, e⟩ : ∃ X : Nat → Prop, X = (fun k => (fun k => blk a26 = some k) k ∨ (fun k => blk a30 = some k) k ∨ (fun k => blk a47 = some k) k ∨ (fun k => blk a51 = some k) k) := ⟨_, rfl⟩
 have hk71 := ho28.grown hg45 (fun _ h => h.elim) nb
 have hk72 := ho32.grown hg45 (fun _ h => h.elim) nb
 have hx68 : ∀ k, X70 k → k < w44.heap.size := fun k h => by rw [e] at h; exact (h).elim (fun h => (fun k (hk : blk a26 = some k) => hk71.lt k hk) k h) (fun h => (h).elim (fun h => (fun k (hk : blk a30 = some k) => hk72.lt k hk) k h) (fun h => (h).elim (fun h => (fun k (hk : blk a47 = some k) => ho49.lt k hk) k h) (fun h => (fun k (hk : blk a51 = some k) => ho53.lt k hk) k h)))
 have hz73 := hg61.size
 have hx67 : ∀ k, X70 k → k < w60.heap.size := fun k h => ltl (hx68 k h) hz73
 have hx69 : ∀ k, X70 k → X0 k ∨ w0.heap.size ≤ k := fun k h => by rw [e] at h; exact (h).elim (fun h => (fun k (hk : blk a26 = some k) => Or.inr (hl35 k hk)) k h) (fun h => (h).elim (fun h => (fun k (hk : blk a30 = some k) => Or.inr (hl41 k hk)) k h) (fun h => (h).elim (fun h => (fun k (hk : blk a47 = some k) => Or.inr (hl56 k hk)) k h) (fun h => (fun k (hk : blk a51 = some k) => Or.inr (hl58 k hk)) k h)))
 have hk74 := hk71.grown hg61 (fun _ h => h.elim) nb
 have hk75 := hk72.grown hg61 (fun _ h => h.elim) nb
 have hk76 := ho49.grown hg61 (fun _ h => h.elim) nb
 have hk77 := ho53.grown hg61 (fun _ h => h.elim) nb
 have ho65 : Gv.Own (prE (iE .i64) (prE (prE tE (slE (iE .u32))) (prE (prE tE (slE (iE .u32))) (prE sE (iE .i64))))) 41 w60 X70 (some ⟨b59, 0, none⟩) 2 ([(r21.1, (r21.2.1.1, r21.2.1.2), (r21.2.2.1.1, r21.2.2.1.2), r21.2.2.2.1, r21.2.2.2.2), (r42.1, (r42.2.1.1, r42.2.1.2), (r42.2.2.1.1, r42.2.2.1.2), r42.2.2.2.1, r42.2.2.2.2)] : List (Int × (Bool × (List Int)) × (Bool × (List Int)) × ByteArray × Int)) := Box.ownE hb62 (by rw [e]; exact ⟨[(.int .i64 r21.1), (.bool r21.2.1.1), (.slice a26 (length r21.2.1.2) c27), (.bool r21.2.2.1.1), (.slice a30 (length r21.2.2.1.2) c31), (.string r21.2.2.2.1), (.int .i64 r21.2.2.2.2)], [(.int .i64 r42.1), (.bool r42.2.1.1), (.slice a47 (length r42.2.1.2) c48), (.bool r42.2.2.1.1), (.slice a51 (length r42.2.2.1.2) c52), (.string r42.2.2.2.1), (.int .i64 r42.2.2.2.2)], rfl, ⟨[(.int .i64 r21.1)], [(.bool r21.2.1.1), (.slice a26 (length r21.2.1.2) c27), (.bool r21.2.2.1.1), (.slice a30 (length r21.2.2.1.2) c31), (.string r21.2.2.2.1), (.int .i64 r21.2.2.2.2)], rfl, rfl, ⟨[(.bool r21.2.1.1), (.slice a26 (length r21.2.1.2) c27)], [(.bool r21.2.2.1.1), (.slice a30 (length r21.2.2.1.2) c31), (.string r21.2.2.2.1), (.int .i64 r21.2.2.2.2)], rfl, ⟨[(.bool r21.2.1.1)], [(.slice a26 (length r21.2.1.2) c27)], rfl, rfl, ⟨a26, c27, rfl, ((hk74.rd (Y := fun k => blk a26 = some k) (fun _ h => h.elim) (fun g e => e)).wide (fun _ h => (.inl h)))⟩⟩, ⟨[(.bool r21.2.2.1.1), (.slice a30 (length r21.2.2.1.2) c31)], [(.string r21.2.2.2.1), (.int .i64 r21.2.2.2.2)], rfl, ⟨[(.bool r21.2.2.1.1)], [(.slice a30 (length r21.2.2.1.2) c31)], rfl, rfl, ⟨a30, c31, rfl, ((hk75.rd (Y := fun k => blk a30 = some k) (fun _ h => h.elim) (fun g e => e)).wide (fun _ h => (.inr (.inl h))))⟩⟩, ⟨[(.string r21.2.2.2.1)], [(.int .i64 r21.2.2.2.2)], rfl, rfl, rfl⟩⟩⟩⟩, ⟨[(.int .i64 r42.1), (.bool r42.2.1.1), (.slice a47 (length r42.2.1.2) c48), (.bool r42.2.2.1.1), (.slice a51 (length r42.2.2.1.2) c52), (.string r42.2.2.2.1), (.int .i64 r42.2.2.2.2)], [], rfl, ⟨[(.int .i64 r42.1)], [(.bool r42.2.1.1), (.slice a47 (length r42.2.1.2) c48), (.bool r42.2.2.1.1), (.slice a51 (length r42.2.2.1.2) c52), (.string r42.2.2.2.1), (.int .i64 r42.2.2.2.2)], rfl, rfl, ⟨[(.bool r42.2.1.1), (.slice a47 (length r42.2.1.2) c48)], [(.bool r42.2.2.1.1), (.slice a51 (length r42.2.2.1.2) c52), (.string r42.2.2.2.1), (.int .i64 r42.2.2.2.2)], rfl, ⟨[(.bool r42.2.1.1)], [(.slice a47 (length r42.2.1.2) c48)], rfl, rfl, ⟨a47, c48, rfl, ((hk76.rd (Y := fun k => blk a47 = some k) (fun _ h => h.elim) (fun g e => e)).wide (fun _ h => (.inr (.inr (.inl h)))))⟩⟩, ⟨[(.bool r42.2.2.1.1), (.slice a51 (length r42.2.2.1.2) c52)], [(.string r42.2.2.2.1), (.int .i64 r42.2.2.2.2)], rfl, ⟨[(.bool r42.2.2.1.1)], [(.slice a51 (length r42.2.2.1.2) c52)], rfl, rfl, ⟨a51, c52, rfl, ((hk77.rd (Y := fun k => blk a51 = some k) (fun _ h => h.elim) (fun g e => e)).wide (fun _ h => (.inr (.inr (.inr h)))))⟩⟩, ⟨[(.string r42.2.2.2.1)], [(.int .i64 r42.2.2.2.2)], rfl, rfl, rfl⟩⟩⟩⟩, rfl⟩⟩) (show 2 ≤ maxLen by decide) (fun h => noteq hbe63 (hx68 _ h))
 have hx78 : ∀ k, X70 k → (fun k => (fun k => blk a26 = some k) k ∨ (fun k => blk a30 = some k) k ∨ (fun k => blk a47 = some k) k ∨ (fun k => blk a51 = some k) k) k := fun k h => by rw [e] at h; exact h
 clear e
 have hB79 := bg hB57 hg45 nb
 have hl66 : ∀ g, blk (some ⟨b59, 0, none⟩) = some g → w0.heap.size ≤ g := loo hbe63 hB79.size
 have ap81 : ¬ (fun k => blk a6 = some k) b11 := fun hx => nl ((lowb hbe15) _ rfl) ((fun k (hk : blk a6 = some k) => ho8.lt k hk) _ hx)
 have hg82 := (grown_trans hg24 hg45)
 have hk83 := ((ho8.grown hg13 (fun _ h => h.elim) nb).grown hg18 (fun _ h => h.elim) (rdnn (rowne ap81))).grown hg82 (fun _ h => h.elim) nb
 have ap80 : ∀ g, blk (some ⟨b59, 0, none⟩) = some g → ¬ (fun k => blk a6 = some k) g := fun g e hx => nl (lowo hbe63 g e) ((fun k (hk : blk a6 = some k) => hk83.lt k hk) _ hx)
 have hk85 := (ho8.grown hg13 (fun _ h => h.elim) nb).grown hg18 (fun _ h => h.elim) (rdnn (rowne ap81))
 have ap86 : ∀ g, blk a6 = some g → ¬ (fun k => blk a26 = some k) g := fun g e hx => nl ((show ∀ k, blk a26 = some k → w17.heap.size ≤ k from hl29) _ hx) ((fun k (hk : blk a6 = some k) => hk85.lt k hk) g e)
 have ap87 : ∀ g, blk a6 = some g → ¬ (fun k => blk a30 = some k) g := fun g e hx => nl ((show ∀ k, blk a30 = some k → w17.heap.size ≤ k from hl33) _ hx) ((fun k (hk : blk a6 = some k) => hk85.lt k hk) g e)
 have hk88 := hk85.grown hg24 (fun _ h => h.elim) nb
 have ap89 : ∀ g, blk a6 = some g → ¬ (fun k => blk a47 = some k) g := fun g e hx => nl ((show ∀ k, blk a47 = some k → w23.heap.size ≤ k from hl50) _ hx) ((fun k (hk : blk a6 = some k) => hk88.lt k hk) g e)
 have ap90 : ∀ g, blk a6 = some g → ¬ (fun k => blk a51 = some k) g := fun g e hx => nl ((show ∀ k, blk a51 = some k → w23.heap.size ≤ k from hl54) _ hx) ((fun k (hk : blk a6 = some k) => hk88.lt k hk) g e)
 have ap84 : ∀ g, blk a6 = some g → ¬ (fun k => blk (some ⟨b59, 0, none⟩) = some k ∨ X70 k) g := fun g e h => h.elim (fun h => nl (lowo hbe63 _ h) ((fun k (hk : blk a6 = some k) => hk83.lt k hk) g e)) (fun h => ((hx78 _ h)).elim (fun h => (ap86) g e h) (fun h => (h).elim (fun h => (ap87) g e h) (fun h => (h).elim (fun h => (ap89) g e h) (fun h => (ap90) g e h))))
 have hk92 := hb19.grown hg82 nb
 have ap91 : ∀ g, blk (some ⟨b59, 0, none⟩) = some g → ¬ (· = b11) g := fun g e hx => nl (lowo hbe63 g e) ((ltb hk92) _ hx)
 have ap94 : ¬ (fun k => blk a26 = some k) b11 := fun hx => nl ((show ∀ k, blk a26 = some k → w17.heap.size ≤ k from hl29) _ hx) ((ltb hb19) _ rfl)
 have ap95 : ¬ (fun k => blk a30 = some k) b11 := fun hx => nl ((show ∀ k, blk a30 = some k → w17.heap.size ≤ k from hl33) _ hx) ((ltb hb19) _ rfl)
 have hk96 := hb19.grown hg24 nb
 have ap97 : ¬ (fun k => blk a47 = some k) b11 := fun hx => nl ((show ∀ k, blk a47 = some k → w23.heap.size ≤ k from hl50) _ hx) ((ltb hk96) _ rfl)
 have ap98 : ¬ (fun k => blk a51 = some k) b11 := fun hx => nl ((show ∀ k, blk a51 = some k → w23.heap.size ≤ k from hl54) _ hx) ((ltb hk96) _ rfl)
 have ap93 : ¬ (fun k => blk (some ⟨b59, 0, none⟩) = some k ∨ X70 k) b11 := fun h => h.elim (fun h => nl (lowo hbe63 _ h) ((ltb hk92) _ rfl)) (fun h => ((hx78 _ h)).elim (fun h => (ap94)  h) (fun h => (h).elim (fun h => (ap95)  h) (fun h => (h).elim (fun h => (ap97)  h) (fun h => (ap98)  h))))
 have ap99 : ∀ g, blk (some ⟨b59, 0, none⟩) = some g → ¬ (fun k => blk a26 = some k) g := fun g e hx => nl (lowo hbe63 g e) ((fun k (hk : blk a26 = some k) => hk71.lt k hk) _ hx)
 have ap100 : ∀ g, blk (some ⟨b59, 0, none⟩) = some g → ¬ (fun k => blk a30 = some k) g := fun g e hx => nl (lowo hbe63 g e) ((fun k (hk : blk a30 = some k) => hk72.lt k hk) _ hx)
 have ap101 : ∀ g, blk (some ⟨b59, 0, none⟩) = some g → ¬ (fun k => blk a47 = some k) g := fun g e hx => nl (lowo hbe63 g e) ((fun k (hk : blk a47 = some k) => ho49.lt k hk) _ hx)
 have ap102 : ∀ g, blk (some ⟨b59, 0, none⟩) = some g → ¬ (fun k => blk a51 = some k) g := fun g e hx => nl (lowo hbe63 g e) ((fun k (hk : blk a51 = some k) => ho53.lt k hk) _ hx)
 refine bindE h0 ?_; clear h0; intro r103 hr104 h0
 have hk105 := hk83.grown hg61 (fun _ h => h.elim) nb
 refine gv_call0 kr rfl kr enters9 (packing_Pack_ok fuel a6 c7 r1.1 (some ⟨b59, 0, none⟩) 2 ([(r21.1, (r21.2.1.1, r21.2.1.2), (r21.2.2.1.1, r21.2.2.1.2), r21.2.2.2.1, r21.2.2.2.2), (r42.1, (r42.2.1.1, r42.2.1.2), (r42.2.2.1.1, r42.2.2.1.2), r42.2.2.2.1, r42.2.2.2.2)] : List (Int × (Bool × (List Int)) × (Bool × (List Int)) × ByteArray × Int)) w60 (fun k => (fun k => blk a6 = some k) k ∨ (fun k => blk (some ⟨b59, 0, none⟩) = some k ∨ X70 k) k) (fun k hk => (hk).elim (fun h => (fun k (hk : blk a6 = some k) => hk105.lt k hk) k h) (fun h => (fun k (hk : blk (some ⟨b59, 0, none⟩) = some k ∨ X70 k) => hk.elim (fun h => ho65.lt k h) (fun h => hx67 k h)) k h)) ((hk105.rd (Y := fun k => blk a6 = some k) (fun _ h => h.elim) (fun g e => e)).wide (fun k hk => (.inl hk))) ((ho65.rd (Y := fun k => blk (some ⟨b59, 0, none⟩) = some k ∨ X70 k) (fun _ h => .inr h) (fun g e => .inl e)).wide (fun k hk => (.inr hk))) r103 hr104) ?_
 rintro v108 w106 ⟨hg107, a109, c110, rfl, ho111, hl112⟩
 have hB114 := bg hB79 hg61 nb
 have hl113 : ∀ g, blk a109 = some g → w0.heap.size ≤ g := fun g e => Nat.le_trans hB114.size (hl112 g e)
 refine pN 3 [11, 17, 18] [(17, (.slice a109 (length r103.1) c110)), (18, (.agg #[(.int .i64 r103.2.1), (.int .i64 r103.2.2)]))] ?_
 refine gv_new0 (fun b => .pointer (some ⟨b, 0, none⟩)) #[(.int .i64 0), (.int .i64 0)] 26 kr kr ?_
 intro b115 w116 hg117 hb118 hbe119 hz120
 clear hz120 hr104 ap102 ap101 ap100 ap99 ap93 ap98 ap97 hk96 ap95 ap94 ap91 ap84 ap90 ap89 hk88 ap87 ap86 hk85 ap80 hk83 hg82 hl66 hB79 hx78 ho65 hk77 hk76 hk75 hk74 hx69 hx67 hz73 hx68 hk72 hk71 hz64 hbe63 hb62 hl58 hl56 hB57 ap55 hl54 ho53 hl50 ho49 hg45 hr43 hl41 hl35 hB40 hB38 hB37 hg36 ap34 hl33 ho32 hl29 ho28 hg24 hr22 hz20 hb19 hg18 hz16 hb14 hg13 hl9 hg4 hr2
 refine pN 1 [3] [(3, (.slice a109 (length r103.1) c110))] ?_
 refine gv_sub [1, 2, 3, 4, 18] (σ' := [(1, (.slice a6 (length r1.1) c7)), (2, (bp b11)), (3, (.slice a109 (length r103.1) c110)), (4, (bp b115)), (18, (.agg #[(.int .i64 r103.2.1), (.int .i64 r103.2.2)]))]) kr ?_
 refine gv_store0 26 0 (.agg #[(.int .i64 r103.2.1), (.int .i64 r103.2.2)]) #[(.int .i64 r103.2.1), (.int .i64 r103.2.2)] hb118 kr kr kr ?_
 intro w121 hg122 hb123 hz124
 refine gv_nil <| gv_seq <| gv_region <| pN 2 [20, 21] [(20, (.slice a6 (length r1.1) c7)), (21, (.slice a109 (length r103.1) c110))] ?_
 refine bindE h0 ?_; clear h0; intro r125 hr126 h0
 have hg127 := (grown_trans hg107 hg117)
 have hk128 := hk105.grown hg107 (fun _ h => h.elim) nb
 have ap129 : ¬ (fun k => blk a6 = some k) b115 := fun hx => nl ((lowb hbe119) _ rfl) ((fun k (hk : blk a6 = some k) => hk128.lt k hk) _ hx)
 have hk130 := (hk105.grown hg127 (fun _ h => h.elim) nb).grown hg122 (fun _ h => h.elim) (rdnn (rowne ap129))
 have ap131 : ¬ (fun k => blk a109 = some k) b115 := fun hx => nl ((lowb hbe119) _ rfl) ((fun k (hk : blk a109 = some k) => ho111.lt k hk) _ hx)
 have hk132 := (ho111.grown hg117 (fun _ h => h.elim) nb).grown hg122 (fun _ h => h.elim) (rdnn (rowne ap131))
 refine gv_call0 kr rfl kr enters5 (packing_Unpack_ok fuel a6 c7 r1.1 a109 c110 r103.1 w121 (fun k => (fun k => blk a6 = some k) k ∨ (fun k => blk a109 = some k) k) (fun k hk => (hk).elim (fun h => (fun k (hk : blk a6 = some k) => hk130.lt k hk) k h) (fun h => (fun k (hk : blk a109 = some k) => hk132.lt k hk) k h)) ((hk130.rd (Y := fun k => blk a6 = some k) (fun _ h => h.elim) (fun g e => e)).wide (fun k hk => (.inl hk))) ((hk132.rd (Y := fun k => blk a109 = some k) (fun _ h => h.elim) (fun g e => e)).wide (fun k hk => (.inr hk))) r125 hr126) ?_
 rintro v135 w133 ⟨hg134, a136, c137, X140, rfl, ho138, hl139, hx141⟩
 have hB143 := bg hB114 hg127 nb
 have hB144 := bg hB114 hg107 nb
 have hlo145 : w0.heap.size ≤ b115 := lob hbe119 hB144.size
 have hB146 := bg hB143 hg122 (rowlo hlo145)
 have hl142 : ∀ g, blk a136 = some g → w0.heap.size ≤ g := fun g e => Nat.le_trans hB146.size (hl139 g e)
 have hx147 : ∀ k, X140 k → k < w133.heap.size := fun k hk => (hx141 k hk).1
 have hx148 : ∀ k, X140 k → X0 k ∨ w0.heap.size ≤ k := fun k hk => (hx141 k hk).2.elim (fun h => (h).elim (fun h => (fun k (hk : blk a6 = some k) => Or.inr (hl10 k hk)) k h) (fun h => (fun k (hk : blk a109 = some k) => Or.inr (hl113 k hk)) k h)) (fun h => .inr (Nat.le_trans hB146.size h))
 refine pN 3 [19, 23, 24] [(23, (.slice a136 (length r125.1) c137)), (24, (.agg #[(.int .i64 r125.2.1), (.int .i64 r125.2.2)]))] ?_
 refine gv_new0 (fun b => .pointer (some ⟨b, 0, none⟩)) #[(.int .i64 0), (.int .i64 0)] 26 kr kr ?_
 intro b149 w150 hg151 hb152 hbe153 hz154
 refine pN 1 [5] [(5, (.slice a136 (length r125.1) c137))] ?_
 refine gv_store0 26 0 (.agg #[(.int .i64 r125.2.1), (.int .i64 r125.2.2)]) #[(.int .i64 r125.2.1), (.int .i64 r125.2.2)] hb152 kr kr kr ?_
 intro w155 hg156 hb157 hz158
 refine gv_nil <| gv_seq <| gv_region <| bindE h0 ?_; clear h0; intro j159 h1 h0
 refine gv_cut_ops (J := fun a w160 => Below w0.heap.size w0 w160 ∧ w155.heap.size ≤ w160.heap.size ∧ a.defers = [] ∧ a.tmps.size = 50 ∧ Ok [(0, (.bool j159))] a.tmps) ?_ ?_
 ·skip
  refine pN 1 [25] [(25, (bp b11))] ?_
  have hg161 := (grown_trans hg61 hg127)
  have hg162 := (grown_trans hg61 hg107)
  have hk163 := hk92.grown hg162 nb
  have lt164 := ltl ((ltb hk163) _ rfl) ((lowb hbe119) _ rfl)
  have hg165 := (grown_trans hg134 hg151)
  have hk166 := hb123.grown hg134 nb
  have lt167 := ltl ((ltb hk166) _ rfl) ((lowb hbe153) _ rfl)
  have lt168 := ltt lt164 lt167
  have hk169 := (((hk92.grown hg161 nb).grown hg122 (rowne (ng lt164))).grown hg165 nb).grown hg156 (rowne (ng lt168))
  refine gv_load (t := 3) (A := ⟨b11, 0, none⟩) (.int .i64 r1.2.1) [] (fun e => by cases e) rfl rfl rfl kr kr kr (inw0 (hk169.cell 0 rfl)) rfl ?_
  refine pN 2 [27, 28] [(28, (.bool (r1.2.1 == 0)))] ?_
  refine gv_split (s := 28) (g := (r1.2.1 == 0)) kr (fun hc170 => ?_) (fun hc170 => ?_)
  ·skip
   replace h1 := ite_t hc170 h1
   refine pN 1 [29] [(29, (bp b115))] ?_
   have hk171 := (hk166.grown hg151 nb).grown hg156 (rowne (ng lt167))
   refine gv_load (t := 3) (A := ⟨b115, 0, none⟩) (.int .i64 r103.2.1) [] (fun e => by cases e) rfl rfl rfl kr kr kr (inw0 (hk171.cell 0 rfl)) rfl ?_
   refine pN 3 [31, 32, 33] [(33, (.bool (r103.2.1 == 0)))] ?_
   refine gv_split (s := 33) (g := (r103.2.1 == 0)) kr (fun hc172 => ?_) (fun hc172 => ?_)
   ·skip
    replace h1 := ite_t hc172 h1
    refine pN 1 [34] [(34, (bp b149))] ?_
    refine gv_sub [3, 5, 33, 34] (σ' := [(3, (.slice a109 (length r103.1) c110)), (5, (.slice a136 (length r125.1) c137)), (33, (.bool true)), (34, (bp b149))]) kr ?_
    refine gv_load (t := 3) (A := ⟨b149, 0, none⟩) (.int .i64 r125.2.1) [] (fun e => by cases e) rfl rfl rfl kr kr kr (inw0 (hb157.cell 0 rfl)) rfl ?_
    refine pN 3 [36, 37, 38] [(38, (.bool (r125.2.1 == 0)))] ?_
    refine gv_split (s := 38) (g := (r125.2.1 == 0)) kr (fun hc173 => ?_) (fun hc173 => ?_)
    ·skip
     replace h1 := ite_t hc173 h1
     refine pN 1 [39] [(39, (.slice a109 (length r103.1) c110))] ?_
     refine gv_new0 (fun b => .slice (some ⟨b, 0, none⟩) 3 3) #[(.int .u8 1), (.int .u8 2), (.int .u8 5)] 5 kr kr ?_
     intro b174 w175 hg176 hb177 hbe178 hz179
     have ho180 : Gv.Own bE 5 w175 (fun _ => False) (some ⟨b174, 0, none⟩) 3 ([(1 : UInt8), (2 : UInt8), (5 : UInt8)] : List UInt8) := Box.ownE hb177 ⟨[(.int .u8 1)], [(.int .u8 2), (.int .u8 5)], rfl, rfl, ⟨[(.int .u8 2)], [(.int .u8 5)], rfl, rfl, ⟨[(.int .u8 5)], [], rfl, rfl, rfl⟩⟩⟩ (show 3 ≤ maxLen by decide) (fun h => h)
     have hB185 := bg hB146 hg165 nb
     have hB186 := bg hB146 hg134 nb
     have hlo187 : w0.heap.size ≤ b149 := lob hbe153 hB186.size
     have hB188 := bg hB185 hg156 (rowlo hlo187)
     have hl181 : ∀ g, blk (some ⟨b174, 0, none⟩) = some g → w0.heap.size ≤ g := loo hbe178 hB188.size
     refine bindE h1 ?_; clear h1; intro r189 hr190 h1
     have hk191 := hk132.grown hg134 (fun _ h => h.elim) nb
     have ap192 : ¬ (fun k => blk a109 = some k) b149 := fun hx => nl ((lowb hbe153) _ rfl) ((fun k (hk : blk a109 = some k) => hk191.lt k hk) _ hx)
     have hk193 := ((hk132.grown hg165 (fun _ h => h.elim) nb).grown hg156 (fun _ h => h.elim) (rdnn (rowne ap192))).grown hg176 (fun _ h => h.elim) nb
     refine gv_call0 kr rfl kr enters10 (ref4_SameBytes_ok fuel a109 c110 r103.1 (some ⟨b174, 0, none⟩) 3 ([(1 : UInt8), (2 : UInt8), (5 : UInt8)] : List UInt8) w175 (fun k => (fun k => blk a109 = some k) k ∨ (fun k => blk (some ⟨b174, 0, none⟩) = some k) k) (fun k hk => (hk).elim (fun h => (fun k (hk : blk a109 = some k) => hk193.lt k hk) k h) (fun h => (fun k (hk : blk (some ⟨b174, 0, none⟩) = some k) => ho180.lt k hk) k h)) ((hk193.rd (Y := fun k => blk a109 = some k) (fun _ h => h.elim) (fun g e => e)).wide (fun k hk => (.inl hk))) ((ho180.rd (Y := fun k => blk (some ⟨b174, 0, none⟩) = some k) (fun _ h => h.elim) (fun g e => e)).wide (fun k hk => (.inr hk))) r189 hr190) ?_
     rintro v196 w194 ⟨hg195, rfl⟩
     refine pN 2 [42, 43] [(43, (.bool r189))] ?_
     refine gv_split (s := 43) (g := r189) kr (fun hc197 => ?_) (fun hc197 => ?_)
     ·skip
      replace h1 := ite_t hc197 h1
      refine pN 1 [44] [(44, (.slice a136 (length r125.1) c137))] ?_
      refine bindE h1 ?_; clear h1; intro r198 hr199 h1
      refine gv_call0 kr rfl kr enters30 (law4_whole_ok fuel 258 w194  r198 hr199) ?_
      rintro v202 w200 ⟨hg201, a203, c204, a207, c208, rfl, ho205, hl206, ho209, hl210, ap211⟩
      have hg213 := (grown_trans hg176 hg195)
      have hB214 := bg hB188 hg213 nb
      have hl212 : ∀ g, blk a203 = some g → w0.heap.size ≤ g := fun g e => Nat.le_trans hB214.size (hl206 g e)
      have hl215 : ∀ g, blk a207 = some g → w0.heap.size ≤ g := fun g e => Nat.le_trans hB214.size (hl210 g e)
      refine bindE h1 ?_; clear h1; intro r216 hr217 h1
      refine gv_call0 kr rfl kr enters30 (law4_whole_ok fuel (-3) w200  r216 hr217) ?_
      rintro v220 w218 ⟨hg219, a221, c222, a225, c226, rfl, ho223, hl224, ho227, hl228, ap229⟩
      have hB231 := bg hB214 hg201 nb
      have hl230 : ∀ g, blk a221 = some g → w0.heap.size ≤ g := fun g e => Nat.le_trans hB231.size (hl224 g e)
      have hl232 : ∀ g, blk a225 = some g → w0.heap.size ≤ g := fun g e => Nat.le_trans hB231.size (hl228 g e)
      have hz233 := (nt (nt (nt hg176.size hg195.size) hg201.size) hg219.size)
      clear hr217 hB214 hg213 hr199 hc197 hk193 ap192 hk191 hr190 hl181 hB188 hlo187 hB186 hB185 ho180 hz179 hbe178 hb177 hc173 hc172 hk171 hc170 hk169 lt168 lt167 hk166 hg165 lt164 hk163 hg162 hg161 hz158 hb157 hz154 hb152 hB146 hlo145 hB144 hB143 hx141 hl139 hg134 hk132 ap131 hk130 ap129 hk128 hg127 hr126 hz124 hb123 hg122 hbe119 hb118 hg117 hl113 hB114 hl112 ho111 hg107 hk105 hk92 ap81 hg61 hlo39 hbe15 hl10 ho8
      refine gv_new0 (fun b => .slice (some ⟨b, 0, none⟩) 2 2) #[(.int .i64 r198.1), (.bool r198.2.1.1), (.slice a203 (length r198.2.1.2) c204), (.bool r198.2.2.1.1), (.slice a207 (length r198.2.2.1.2) c208), (.string r198.2.2.2.1), (.int .i64 r198.2.2.2.2), (.int .i64 r216.1), (.bool r216.2.1.1), (.slice a221 (length r216.2.1.2) c222), (.bool r216.2.2.1.1), (.slice a225 (length r216.2.2.1.2) c226), (.string r216.2.2.2.1), (.int .i64 r216.2.2.2.2)] 41 kr kr ?_
      intro b234 w235 hg236 hb237 hbe238 hz239
      obtain ⟨X245, e⟩ : ∃ X : Nat → Prop, X = (fun k => (fun k => blk a203 = some k) k ∨ (fun k => blk a207 = some k) k ∨ (fun k => blk a221 = some k) k ∨ (fun k => blk a225 = some k) k) := ⟨_, rfl⟩
      have hk246 := ho205.grown hg219 (fun _ h => h.elim) nb
      have hk247 := ho209.grown hg219 (fun _ h => h.elim) nb
      have hx243 : ∀ k, X245 k → k < w218.heap.size := fun k h => by rw [e] at h; exact (h).elim (fun h => (fun k (hk : blk a203 = some k) => hk246.lt k hk) k h) (fun h => (h).elim (fun h => (fun k (hk : blk a207 = some k) => hk247.lt k hk) k h) (fun h => (h).elim (fun h => (fun k (hk : blk a221 = some k) => ho223.lt k hk) k h) (fun h => (fun k (hk : blk a225 = some k) => ho227.lt k hk) k h)))
      have hz248 := hg236.size
      have hx242 : ∀ k, X245 k → k < w235.heap.size := fun k h => ltl (hx243 k h) hz248
      have hx244 : ∀ k, X245 k → X0 k ∨ w0.heap.size ≤ k := fun k h => by rw [e] at h; exact (h).elim (fun h => (fun k (hk : blk a203 = some k) => Or.inr (hl212 k hk)) k h) (fun h => (h).elim (fun h => (fun k (hk : blk a207 = some k) => Or.inr (hl215 k hk)) k h) (fun h => (h).elim (fun h => (fun k (hk : blk a221 = some k) => Or.inr (hl230 k hk)) k h) (fun h => (fun k (hk : blk a225 = some k) => Or.inr (hl232 k hk)) k h)))
      have hk249 := hk246.grown hg236 (fun _ h => h.elim) nb
      have hk250 := hk247.grown hg236 (fun _ h => h.elim) nb
      have hk251 := ho223.grown hg236 (fun _ h => h.elim) nb
      have hk252 := ho227.grown hg236 (fun _ h => h.elim) nb
      have ho240 : Gv.Own (prE (iE .i64) (prE (prE tE (slE (iE .u32))) (prE (prE tE (slE (iE .u32))) (prE sE (iE .i64))))) 41 w235 X245 (some ⟨b234, 0, none⟩) 2 ([(r198.1, (r198.2.1.1, r198.2.1.2), (r198.2.2.1.1, r198.2.2.1.2), r198.2.2.2.1, r198.2.2.2.2), (r216.1, (r216.2.1.1, r216.2.1.2), (r216.2.2.1.1, r216.2.2.1.2), r216.2.2.2.1, r216.2.2.2.2)] : List (Int × (Bool × (List Int)) × (Bool × (List Int)) × ByteArray × Int)) := Box.ownE hb237 (by rw [e]; exact ⟨[(.int .i64 r198.1), (.bool r198.2.1.1), (.slice a203 (length r198.2.1.2) c204), (.bool r198.2.2.1.1), (.slice a207 (length r198.2.2.1.2) c208), (.string r198.2.2.2.1), (.int .i64 r198.2.2.2.2)], [(.int .i64 r216.1), (.bool r216.2.1.1), (.slice a221 (length r216.2.1.2) c222), (.bool r216.2.2.1.1), (.slice a225 (length r216.2.2.1.2) c226), (.string r216.2.2.2.1), (.int .i64 r216.2.2.2.2)], rfl, ⟨[(.int .i64 r198.1)], [(.bool r198.2.1.1), (.slice a203 (length r198.2.1.2) c204), (.bool r198.2.2.1.1), (.slice a207 (length r198.2.2.1.2) c208), (.string r198.2.2.2.1), (.int .i64 r198.2.2.2.2)], rfl, rfl, ⟨[(.bool r198.2.1.1), (.slice a203 (length r198.2.1.2) c204)], [(.bool r198.2.2.1.1), (.slice a207 (length r198.2.2.1.2) c208), (.string r198.2.2.2.1), (.int .i64 r198.2.2.2.2)], rfl, ⟨[(.bool r198.2.1.1)], [(.slice a203 (length r198.2.1.2) c204)], rfl, rfl, ⟨a203, c204, rfl, ((hk249.rd (Y := fun k => blk a203 = some k) (fun _ h => h.elim) (fun g e => e)).wide (fun _ h => (.inl h)))⟩⟩, ⟨[(.bool r198.2.2.1.1), (.slice a207 (length r198.2.2.1.2) c208)], [(.string r198.2.2.2.1), (.int .i64 r198.2.2.2.2)], rfl, ⟨[(.bool r198.2.2.1.1)], [(.slice a207 (length r198.2.2.1.2) c208)], rfl, rfl, ⟨a207, c208, rfl, ((hk250.rd (Y := fun k => blk a207 = some k) (fun _ h => h.elim) (fun g e => e)).wide (fun _ h => (.inr (.inl h))))⟩⟩, ⟨[(.string r198.2.2.2.1)], [(.int .i64 r198.2.2.2.2)], rfl, rfl, rfl⟩⟩⟩⟩, ⟨[(.int .i64 r216.1), (.bool r216.2.1.1), (.slice a221 (length r216.2.1.2) c222), (.bool r216.2.2.1.1), (.slice a225 (length r216.2.2.1.2) c226), (.string r216.2.2.2.1), (.int .i64 r216.2.2.2.2)], [], rfl, ⟨[(.int .i64 r216.1)], [(.bool r216.2.1.1), (.slice a221 (length r216.2.1.2) c222), (.bool r216.2.2.1.1), (.slice a225 (length r216.2.2.1.2) c226), (.string r216.2.2.2.1), (.int .i64 r216.2.2.2.2)], rfl, rfl, ⟨[(.bool r216.2.1.1), (.slice a221 (length r216.2.1.2) c222)], [(.bool r216.2.2.1.1), (.slice a225 (length r216.2.2.1.2) c226), (.string r216.2.2.2.1), (.int .i64 r216.2.2.2.2)], rfl, ⟨[(.bool r216.2.1.1)], [(.slice a221 (length r216.2.1.2) c222)], rfl, rfl, ⟨a221, c222, rfl, ((hk251.rd (Y := fun k => blk a221 = some k) (fun _ h => h.elim) (fun g e => e)).wide (fun _ h => (.inr (.inr (.inl h)))))⟩⟩, ⟨[(.bool r216.2.2.1.1), (.slice a225 (length r216.2.2.1.2) c226)], [(.string r216.2.2.2.1), (.int .i64 r216.2.2.2.2)], rfl, ⟨[(.bool r216.2.2.1.1)], [(.slice a225 (length r216.2.2.1.2) c226)], rfl, rfl, ⟨a225, c226, rfl, ((hk252.rd (Y := fun k => blk a225 = some k) (fun _ h => h.elim) (fun g e => e)).wide (fun _ h => (.inr (.inr (.inr h)))))⟩⟩, ⟨[(.string r216.2.2.2.1)], [(.int .i64 r216.2.2.2.2)], rfl, rfl, rfl⟩⟩⟩⟩, rfl⟩⟩) (show 2 ≤ maxLen by decide) (fun h => noteq hbe238 (hx243 _ h))
      have hx253 : ∀ k, X245 k → (fun k => (fun k => blk a203 = some k) k ∨ (fun k => blk a207 = some k) k ∨ (fun k => blk a221 = some k) k ∨ (fun k => blk a225 = some k) k) k := fun k h => by rw [e] at h; exact h
      clear e
      have hB254 := bg hB231 hg219 nb
      have hl241 : ∀ g, blk (some ⟨b234, 0, none⟩) = some g → w0.heap.size ≤ g := loo hbe238 hB254.size
      have ap256 : ¬ (fun k => blk a136 = some k ∨ X140 k) b149 := fun hx => nl ((lowb hbe153) _ rfl) ((fun k (hk : blk a136 = some k ∨ X140 k) => hk.elim (fun h => ho138.lt k h) (fun h => hx147 k h)) _ hx)
      have hx257 := ltx hx147 hg151.size
      have hg258 := (grown_trans (grown_trans (grown_trans hg176 hg195) hg201) hg219)
      have hx259 := ltx hx257 hg156.size
      have hk260 := ((ho138.grown hg151 hx147 nb).grown hg156 hx257 (rdnx (rowne ap256))).grown hg258 hx259 nb
      have hx261 := ltx hx259 hg258.size
      have ap255 : ∀ g, blk (some ⟨b234, 0, none⟩) = some g → ¬ (fun k => blk a136 = some k ∨ X140 k) g := fun g e hx => nl (lowo hbe238 g e) ((fun k (hk : blk a136 = some k ∨ X140 k) => hk.elim (fun h => hk260.lt k h) (fun h => hx261 k h)) _ hx)
      have hg263 := (grown_trans hg176 hg195)
      have hk264 := ((ho138.grown hg151 hx147 nb).grown hg156 hx257 (rdnx (rowne ap256))).grown hg263 hx259 nb
      have hx265 := ltx hx259 hg263.size
      have ap266 : ∀ g, blk a136 = some g → ¬ (fun k => blk a203 = some k) g := fun g e hx => nl ((show ∀ k, blk a203 = some k → w194.heap.size ≤ k from hl206) _ hx) ((fun k (hk : blk a136 = some k ∨ X140 k) => hk.elim (fun h => hk264.lt k h) (fun h => hx265 k h)) g (.inl e))
      have ap267 : ∀ g, blk a136 = some g → ¬ (fun k => blk a207 = some k) g := fun g e hx => nl ((show ∀ k, blk a207 = some k → w194.heap.size ≤ k from hl210) _ hx) ((fun k (hk : blk a136 = some k ∨ X140 k) => hk.elim (fun h => hk264.lt k h) (fun h => hx265 k h)) g (.inl e))
      have hk268 := hk264.grown hg201 hx265 nb
      have hx269 := ltx hx265 hg201.size
      have ap270 : ∀ g, blk a136 = some g → ¬ (fun k => blk a221 = some k) g := fun g e hx => nl ((show ∀ k, blk a221 = some k → w200.heap.size ≤ k from hl224) _ hx) ((fun k (hk : blk a136 = some k ∨ X140 k) => hk.elim (fun h => hk268.lt k h) (fun h => hx269 k h)) g (.inl e))
      have ap271 : ∀ g, blk a136 = some g → ¬ (fun k => blk a225 = some k) g := fun g e hx => nl ((show ∀ k, blk a225 = some k → w200.heap.size ≤ k from hl228) _ hx) ((fun k (hk : blk a136 = some k ∨ X140 k) => hk.elim (fun h => hk268.lt k h) (fun h => hx269 k h)) g (.inl e))
      have ap262 : ∀ g, blk a136 = some g → ¬ (fun k => blk (some ⟨b234, 0, none⟩) = some k ∨ X245 k) g := fun g e h => h.elim (fun h => nl (lowo hbe238 _ h) ((fun k (hk : blk a136 = some k ∨ X140 k) => hk.elim (fun h => hk260.lt k h) (fun h => hx261 k h)) g (.inl e))) (fun h => ((hx253 _ h)).elim (fun h => (ap266) g e h) (fun h => (h).elim (fun h => (ap267) g e h) (fun h => (h).elim (fun h => (ap270) g e h) (fun h => (ap271) g e h))))
      have ap272 : ∀ g, blk (some ⟨b234, 0, none⟩) = some g → ¬ (fun k => blk a203 = some k) g := fun g e hx => nl (lowo hbe238 g e) ((fun k (hk : blk a203 = some k) => hk246.lt k hk) _ hx)
      have ap273 : ∀ g, blk (some ⟨b234, 0, none⟩) = some g → ¬ (fun k => blk a207 = some k) g := fun g e hx => nl (lowo hbe238 g e) ((fun k (hk : blk a207 = some k) => hk247.lt k hk) _ hx)
      have ap274 : ∀ g, blk (some ⟨b234, 0, none⟩) = some g → ¬ (fun k => blk a221 = some k) g := fun g e hx => nl (lowo hbe238 g e) ((fun k (hk : blk a221 = some k) => ho223.lt k hk) _ hx)
      have ap275 : ∀ g, blk (some ⟨b234, 0, none⟩) = some g → ¬ (fun k => blk a225 = some k) g := fun g e hx => nl (lowo hbe238 g e) ((fun k (hk : blk a225 = some k) => ho227.lt k hk) _ hx)
      refine bindE h1 ?_; clear h1; intro r276 hr277 h1
      have hk278 := hk260.grown hg236 hx261 nb
      have hx279 := ltx hx261 hg236.size
      refine gv_call0 kr rfl kr enters8 (ref3_SameValues_ok fuel a136 c137 r125.1 (some ⟨b234, 0, none⟩) 2 ([(r198.1, (r198.2.1.1, r198.2.1.2), (r198.2.2.1.1, r198.2.2.1.2), r198.2.2.2.1, r198.2.2.2.2), (r216.1, (r216.2.1.1, r216.2.1.2), (r216.2.2.1.1, r216.2.2.1.2), r216.2.2.2.1, r216.2.2.2.2)] : List (Int × (Bool × (List Int)) × (Bool × (List Int)) × ByteArray × Int)) w235 (fun k => (fun k => blk a136 = some k ∨ X140 k) k ∨ (fun k => blk (some ⟨b234, 0, none⟩) = some k ∨ X245 k) k) (fun k hk => (hk).elim (fun h => (fun k (hk : blk a136 = some k ∨ X140 k) => hk.elim (fun h => hk278.lt k h) (fun h => hx279 k h)) k h) (fun h => (fun k (hk : blk (some ⟨b234, 0, none⟩) = some k ∨ X245 k) => hk.elim (fun h => ho240.lt k h) (fun h => hx242 k h)) k h)) ((hk278.rd (Y := fun k => blk a136 = some k ∨ X140 k) (fun _ h => .inr h) (fun g e => .inl e)).wide (fun k hk => (.inl hk))) ((ho240.rd (Y := fun k => blk (some ⟨b234, 0, none⟩) = some k ∨ X245 k) (fun _ h => .inr h) (fun g e => .inl e)).wide (fun k hk => (.inr hk))) r276 hr277) ?_
      rintro v282 w280 ⟨hg281, rfl⟩
      refine pN 2 [0, 49] [(0, (.bool r276))] ?_
      refine gv_nil ?_
      have e := sj h1; subst e
      refine gv_goal fun a hd hs hok => ?_
      have hg283 := (grown_trans hg236 hg281)
      have hB284 := bg hB254 hg283 nb
      have hz285 := (nt (nt hz233 hg236.size) hg281.size)
      exact ⟨hB284, hz285, hd, hs, okp [0] hok⟩
     ·skip
      replace h1 := ite_f hc197 h1
      refine pN 7 [0, 44, 45, 46, 47, 48, 49] [(0, (.bool false))] ?_
      refine gv_nil ?_
      have e := sj h1; subst e
      refine gv_goal fun a hd hs hok => ?_
      have hg286 := (grown_trans hg176 hg195)
      have hB287 := bg hB188 hg286 nb
      have hz288 := (nt hg176.size hg195.size)
      exact ⟨hB287, hz288, hd, hs, okp [0] hok⟩
    ·skip
     replace h1 := ite_f hc173 h1
     refine pN 12 [0, 39, 40, 41, 42, 43, 44, 45, 46, 47, 48, 49] [(0, (.bool false))] ?_
     refine gv_nil ?_
     have e := sj h1; subst e
     refine gv_goal fun a hd hs hok => ?_
     have hB289 := bg hB146 hg165 nb
     have hB290 := bg hB146 hg134 nb
     have hlo291 : w0.heap.size ≤ b149 := lob hbe153 hB290.size
     have hB292 := bg hB289 hg156 (rowlo hlo291)
     exact ⟨hB292, nrf, hd, hs, okp [0] hok⟩
   ·skip
    replace h1 := ite_f hc172 h1
    refine pN 17 [0, 34, 35, 36, 37, 38, 39, 40, 41, 42, 43, 44, 45, 46, 47, 48, 49] [(0, (.bool false))] ?_
    refine gv_sub [0] (σ' := [(0, (.bool false))]) kr ?_
    refine gv_nil ?_
    have e := sj h1; subst e
    refine gv_goal fun a hd hs hok => ?_
    have hB293 := bg hB146 hg165 nb
    have hB294 := bg hB146 hg134 nb
    have hlo295 : w0.heap.size ≤ b149 := lob hbe153 hB294.size
    have hB296 := bg hB293 hg156 (rowlo hlo295)
    exact ⟨hB296, nrf, hd, hs, okp [0] hok⟩
  ·skip
   replace h1 := ite_f hc170 h1
   refine pN 22 [0, 29, 30, 31, 32, 33, 34, 35, 36, 37, 38, 39, 40, 41, 42, 43, 44, 45, 46, 47, 48, 49] [(0, (.bool false))] ?_
   refine gv_nil ?_
   have e := sj h1; subst e
   refine gv_goal fun a hd hs hok => ?_
   have hB297 := bg hB146 hg165 nb
   have hB298 := bg hB146 hg134 nb
   have hlo299 : w0.heap.size ≤ b149 := lob hbe153 hB298.size
   have hB300 := bg hB297 hg156 (rowlo hlo299)
   exact ⟨hB300, nrf, hd, hs, okp [0] hok⟩
 ·rintro a w160 ⟨hB301, hz302, hd, hs, hok⟩
  refine gv_in ?_ hd hs hok
  clear hd hs hok
  clear hz302 hz158 hb157 hg156 hz154 hbe153 hb152 hg151 hx148 hx147 hl142 hB146 hlo145 hB144 hB143 hx141 hl139 ho138 hg134 hk132 ap131 hk130 ap129 hk128 hg127 hr126 hz124 hb123 hg122 hbe119 hb118 hg117 hl113 hB114 hl112 ho111 hg107 hk105 hk92 ap81 hg61 hlo39 hbe15 hl10 ho8
  refine gv_cret ?_
  have e := sj h0; subst e
  refine gv_ret (gv_done [(.bool j159)] rfl ⟨kr, trivial⟩ ?_)
  exact ⟨grown_of_below hB301, rfl⟩

theorem ref3_IntOk_ok (fuel : Nat) (pa0_0 : Option Addr) (pc0_0 : Nat) (a_0 : (Bool × (List Int))) (w0 : World) (X0 : Nat → Prop) (hX0 : ∀ k, X0 k → k < w0.heap.size) (hpa0_0 : Rd (iE .u32) w0 X0 pa0_0 pc0_0 a_0.2) (r0 : Bool) (h0 : ref3_IntOk fuel a_0 = some r0) :
    Calls Tryz.prog 61 ([(.agg #[(.bool a_0.1), (.slice pa0_0 (length a_0.2) pc0_0)])] : List Value).toArray w0 (Ret fun v w' => w0.grownBy w' none ∧ v = tup [(.bool r0)]) := by
 have hB0 : Below w0.heap.size w0 w0 := Below.refl _ _
 unfold ref3_IntOk at h0
 refine calls_run Tryz.func61 rfl Tryz.ntmps61 kr ?_
 refine gv_sub [0] (σ' := [(0, (.agg #[(.bool a_0.1), (.slice pa0_0 (length a_0.2) pc0_0)]))]) kr ?_
 refine gv_seq <| gv_region <| gv_new0 (fun b => .pointer (some ⟨b, 0, none⟩)) #[(.bool a_0.1), (.slice pa0_0 (length a_0.2) pc0_0)] 39 kr kr ?_
 intro b1 w2 hg3 hb4 hbe5 hz6
 refine pN 1 [2] [] ?_
 refine gv_nil <| gv_seq <| gv_region <| pN 1 [4] [(4, (.pointer (some ⟨b1, 1, none⟩)))] ?_
 refine gv_load (t := 37) (A := ⟨b1, 1, none⟩) (.slice pa0_0 (length a_0.2) pc0_0) [] (fun e => by cases e) rfl rfl rfl kr kr kr (inw0 (hb4.cell 1 rfl)) rfl ?_
 refine pN 2 [3, 6] [(3, (.int .i64 ((length a_0.2 : Nat) : Int)))] ?_
 refine gv_nil <| gv_seq <| gv_region <| bindE h0 ?_; clear h0; intro j7 h1 h0
 refine gv_cut_ops (J := fun a w8 => Below w0.heap.size w0 w8 ∧ w2.heap.size ≤ w8.heap.size ∧ a.defers = [] ∧ a.tmps.size = 31 ∧ Ok [(2, (.bool j7))] a.tmps) ?_ ?_
 ·skip
  refine pN 3 [7, 8, 9] [(9, (.bool (decide (((length a_0.2 : Nat) : Int) ≤ 128))))] ?_
  refine gv_split (s := 9) (g := (decide (((length a_0.2 : Nat) : Int) ≤ 128))) kr (fun hc9 => ?_) (fun hc9 => ?_)
  ·skip
   replace h1 := ite_t hc9 h1
   refine pN 3 [10, 11, 12] [(12, (.bool (((length a_0.2 : Nat) : Int) == 0)))] ?_
   refine gv_split (s := 12) (g := (((length a_0.2 : Nat) : Int) == 0)) kr (fun hc10 => ?_) (fun hc10 => ?_)
   ·skip
    replace h1 := ite_t hc10 h1
    refine pN 1 [13] [(13, (bp b1))] ?_
    refine gv_load (t := 4) (A := ⟨b1, 0, none⟩) (.bool a_0.1) [] (fun e => by cases e) rfl rfl rfl kr kr kr (inw0 (hb4.cell 0 rfl)) rfl ?_
    refine pN 3 [15, 16, 17] [(17, (.bool (!a_0.1)))] ?_
    refine gv_split (s := 17) (g := (!a_0.1)) kr (fun hc11 => ?_) (fun hc11 => ?_)
    ·skip
     replace h1 := ite_t hc11 h1
     refine pN 14 [2, 18, 19, 20, 21, 22, 23, 24, 25, 26, 27, 28, 29, 30] [(2, (.bool true))] ?_
     refine gv_nil ?_
     have e := sj h1; subst e
     refine gv_goal fun a hd hs hok => ?_
     have hB12 := bg hB0 hg3 nb
     exact ⟨hB12, nrf, hd, hs, okp [2] hok⟩
    ·skip
     replace h1 := ite_f hc11 h1
     refine pN 3 [18, 19, 20] [(20, (.bool (decide (((length a_0.2 : Nat) : Int) > 0))))] ?_
     refine gv_split (s := 20) (g := (decide (((length a_0.2 : Nat) : Int) > 0))) kr (fun hc13 => ?_) (fun hc13 => ?_)
     ·skip
      replace h1 := ite_t hc13 h1
      refine pN 1 [21] [(21, (.pointer (some ⟨b1, 1, none⟩)))] ?_
      refine gv_load (t := 37) (A := ⟨b1, 1, none⟩) (.slice pa0_0 (length a_0.2) pc0_0) [] (fun e => by cases e) rfl rfl rfl kr kr kr (inw0 (hb4.cell 1 rfl)) rfl ?_
      refine pN 2 [23, 24] [(24, (.int .i64 (IntKind.i64.wrap (((length a_0.2 : Nat) : Int) - 1))))] ?_
      refine gv_sub [9, 17, 20, 22, 24] (σ' := [(9, (.bool true)), (17, (.bool false)), (20, (.bool true)), (22, (.slice pa0_0 (length a_0.2) pc0_0)), (24, (.int .i64 (IntKind.i64.wrap (((length a_0.2 : Nat) : Int) - 1))))]) kr ?_
      refine bindE h1 ?_; clear h1; intro x14 hx15 h1
      have hB16 := bg hB0 hg3 nb
      refine gv_idxaddr (t := 37) (e := 107) (a := pa0_0) (len := length a_0.2) (cap := pc0_0) (kk := .i64) (i := (IntKind.i64.wrap (((length a_0.2 : Nat) : Int) - 1))) (sz := 1) [] (fun e => by cases e) rfl rfl rfl kr kr Tryz.underlying37 kr ((hpa0_0.below hB16 hX0).has hx15) (idx_spec hx15).1 (idx_spec hx15).2.1 rfl ?_
      refine gv_load (t := 107) (A := (elemAddr pa0_0 (((IntKind.i64.wrap (((length a_0.2 : Nat) : Int) - 1)) : Int).toNat * 1))) (.int .u32 x14) [] (fun e => by cases e) rfl rfl rfl kr kr kr (inw0 ((hpa0_0.below hB16 hX0).cell hx15)) rfl ?_
      refine pN 5 [2, 27, 28, 29, 30] [(2, (.bool (x14 != 0)))] ?_
      refine gv_nil ?_
      have e := sj h1; subst e
      refine gv_goal fun a hd hs hok => ?_
      exact ⟨hB16, nrf, hd, hs, okp [2] hok⟩
     ·skip
      replace h1 := ite_f hc13 h1
      refine pN 11 [2, 21, 22, 23, 24, 25, 26, 27, 28, 29, 30] [(2, (.bool false))] ?_
      refine gv_nil ?_
      have e := sj h1; subst e
      refine gv_goal fun a hd hs hok => ?_
      have hB17 := bg hB0 hg3 nb
      exact ⟨hB17, nrf, hd, hs, okp [2] hok⟩
   ·skip
    replace h1 := ite_f hc10 h1
    refine pN 8 [13, 14, 15, 16, 17, 18, 19, 20] [(17, (.bool false)), (20, (.bool (decide (((length a_0.2 : Nat) : Int) > 0))))] ?_
    refine gv_split (s := 20) (g := (decide (((length a_0.2 : Nat) : Int) > 0))) kr (fun hc18 => ?_) (fun hc18 => ?_)
    ·skip
     replace h1 := ite_t hc18 h1
     refine pN 1 [21] [(21, (.pointer (some ⟨b1, 1, none⟩)))] ?_
     refine gv_load (t := 37) (A := ⟨b1, 1, none⟩) (.slice pa0_0 (length a_0.2) pc0_0) [] (fun e => by cases e) rfl rfl rfl kr kr kr (inw0 (hb4.cell 1 rfl)) rfl ?_
     refine pN 2 [23, 24] [(24, (.int .i64 (IntKind.i64.wrap (((length a_0.2 : Nat) : Int) - 1))))] ?_
     refine bindE h1 ?_; clear h1; intro x19 hx20 h1
     have hB21 := bg hB0 hg3 nb
     refine gv_idxaddr (t := 37) (e := 107) (a := pa0_0) (len := length a_0.2) (cap := pc0_0) (kk := .i64) (i := (IntKind.i64.wrap (((length a_0.2 : Nat) : Int) - 1))) (sz := 1) [] (fun e => by cases e) rfl rfl rfl kr kr Tryz.underlying37 kr ((hpa0_0.below hB21 hX0).has hx20) (idx_spec hx20).1 (idx_spec hx20).2.1 rfl ?_
     refine gv_load (t := 107) (A := (elemAddr pa0_0 (((IntKind.i64.wrap (((length a_0.2 : Nat) : Int) - 1)) : Int).toNat * 1))) (.int .u32 x19) [] (fun e => by cases e) rfl rfl rfl kr kr kr (inw0 ((hpa0_0.below hB21 hX0).cell hx20)) rfl ?_
     refine pN 5 [2, 27, 28, 29, 30] [(2, (.bool (x19 != 0)))] ?_
     refine gv_sub [2] (σ' := [(2, (.bool (x19 != 0)))]) kr ?_
     refine gv_nil ?_
     have e := sj h1; subst e
     refine gv_goal fun a hd hs hok => ?_
     exact ⟨hB21, nrf, hd, hs, okp [2] hok⟩
    ·skip
     replace h1 := ite_f hc18 h1
     refine pN 11 [2, 21, 22, 23, 24, 25, 26, 27, 28, 29, 30] [(2, (.bool false))] ?_
     refine gv_nil ?_
     have e := sj h1; subst e
     refine gv_goal fun a hd hs hok => ?_
     have hB22 := bg hB0 hg3 nb
     exact ⟨hB22, nrf, hd, hs, okp [2] hok⟩
  ·skip
   replace h1 := ite_f hc9 h1
   refine pN 22 [2, 10, 11, 12, 13, 14, 15, 16, 17, 18, 19, 20, 21, 22, 23, 24, 25, 26, 27, 28, 29, 30] [(2, (.bool false))] ?_
   refine gv_nil ?_
   have e := sj h1; subst e
   refine gv_goal fun a hd hs hok => ?_
   have hB23 := bg hB0 hg3 nb
   exact ⟨hB23, nrf, hd, hs, okp [2] hok⟩
 ·rintro a w8 ⟨hB24, hz25, hd, hs, hok⟩
  refine gv_in ?_ hd hs hok
  clear hd hs hok
  clear hz25 hz6 hbe5 hb4 hg3
  refine gv_cret ?_
  have e := sj h0; subst e
  refine gv_ret (gv_done [(.bool j7)] rfl ⟨kr, trivial⟩ ?_)
  exact ⟨grown_of_below hB24, rfl⟩

theorem ref3_Of_ok (fuel : Nat) (pa0_0 : Option Addr) (pc0_0 : Nat) (limbs_0 : (List Int)) (w0 : World) (X0 : Nat → Prop) (hX0 : ∀ k, X0 k → k < w0.heap.size) (hpa0_0 : Rd (iE .u32) w0 X0 pa0_0 pc0_0 limbs_0) (r0 : (List Int)) (h0 : ref3_Of fuel limbs_0 = some r0) :
    Calls Tryz.prog 78 ([(.slice pa0_0 (length limbs_0) pc0_0)] : List Value).toArray w0 (Ret fun v w' => w0.grownBy w' none ∧ ∃ (a0_0r : Option Addr) (c0_0r : Nat), ∃ (X0_0r : Nat → Prop), v = tup [(.slice a0_0r (length r0) c0_0r)] ∧ Rd (iE .i64) w' X0_0r a0_0r c0_0r r0 ∧ (∀ k, X0_0r k → k < w'.heap.size ∧ (X0 k ∨ w0.heap.size ≤ k))) := by
 have hB0 : Below w0.heap.size w0 w0 := Below.refl _ _
 unfold ref3_Of at h0
 refine calls_run Tryz.func78 rfl Tryz.ntmps78 kr ?_
 refine gv_sub [0] (σ' := [(0, (.slice pa0_0 (length limbs_0) pc0_0))]) kr ?_
 refine gv_seq <| gv_region <| pN 1 [2] [] ?_
 refine gv_nil <| gv_seq <| gv_region <| pN 1 [3] [(3, (.slice none (length ([] : List Int)) 0))] ?_
 refine gv_nil <| gv_seq <| gv_seq <| gv_region <| pN 1 [4] [(4, (.int .i64 0))] ?_
 refine gv_nil <| bindE h0 ?_; clear h0; intro j1 h1 h0
 refine gv_cut_code (J := fun a w2 => ∃ (a3_0j : Option Addr) (c3_0j : Nat), Below w0.heap.size w0 w2 ∧ w0.heap.size ≤ w2.heap.size ∧ Gv.Own (iE .i64) 3 w2 (fun _ => False) a3_0j c3_0j j1 ∧ (∀ g, blk a3_0j = some g → w0.heap.size ≤ g) ∧ a.defers = [] ∧ a.tmps.size = 28 ∧ Ok [(3, (.slice a3_0j (length j1) c3_0j))] a.tmps) ?_ ?_
 ·skip
  refine gv_block <| gv_loop (A := fun (s3 : ((List Int) × Int)) a w4 => ∃ (a3_0j : Option Addr) (c3_0j : Nat), Below w0.heap.size w0 w4 ∧ w0.heap.size ≤ w4.heap.size ∧ Gv.Own (iE .i64) 3 w4 (fun _ => False) a3_0j c3_0j s3.1 ∧ (∀ g, blk a3_0j = some g → w0.heap.size ≤ g) ∧ a.defers = [] ∧ a.tmps.size = 28 ∧ Ok [(0, (.slice pa0_0 (length limbs_0) pc0_0)), (3, (.slice a3_0j (length s3.1) c3_0j)), (4, (.int .i64 s3.2))] a.tmps) h1 ?_ ?_
  ·intro a hd hs hok
   exact ⟨none, 0, hB0, nrf, (Gv.Own.nil (iE .i64) 3 w0 (fun _ => False)), (fun _ h => by cases h), hd, hs, okp [0, 3, 4] hok⟩
  ·rintro s3 r2 h2 hR2 a w4 ⟨a7, c8, hB5, hz6, ho9, hl10, hd, hs, hok⟩
   refine gv_in ?_ hd hs hok
   clear hd hs hok
   refine gv_seq <| gv_seq <| gv_region <| pN 4 [5, 6, 7, 8] [(8, (.bool (decide (s3.2 < ((length limbs_0 : Nat) : Int)))))] ?_
   refine gv_nil <| gv_cond (b := (decide (s3.2 < ((length limbs_0 : Nat) : Int)))) kr (fun hc11 => ?_) (fun hc11 => ?_)
   ·replace h2 := ite_t hc11 h2
    refine gv_skip <| gv_seq <| gv_block <| gv_drawA kr ?_
    intro w12 hg13
    refine gv_pre [0, 1, 2, 3, 7, 8, 9] (bA 16 [0, 1, 2, 3, 7, 8, 9]) 9 kr kr ?_
    refine pN 3 [11, 12, 13] [(11, (.slice a7 (length s3.1) c8)), (12, (.slice pa0_0 (length limbs_0) pc0_0)), (13, (.int .i64 s3.2))] ?_
    refine bindE h2 ?_; clear h2; intro x14 hx15 h2
    have hB16 := bg hB5 hg13 nb
    refine gv_idxaddr (t := 37) (e := 107) (a := pa0_0) (len := length limbs_0) (cap := pc0_0) (kk := .i64) (i := s3.2) (sz := 1) [] (fun e => by cases e) rfl rfl rfl kr kr Tryz.underlying37 kr ((hpa0_0.below hB16 hX0).has hx15) (idx_spec hx15).1 (idx_spec hx15).2.1 rfl ?_
    refine pN 2 [18, 19] [(18, (.slice pa0_0 (length limbs_0) pc0_0)), (19, (.int .i64 s3.2))] ?_
    refine bindE h2 ?_; clear h2; intro x17 hx18 h2
    refine gv_idxaddr (t := 37) (e := 107) (a := pa0_0) (len := length limbs_0) (cap := pc0_0) (kk := .i64) (i := s3.2) (sz := 1) [] (fun e => by cases e) rfl rfl rfl kr kr Tryz.underlying37 kr ((hpa0_0.below hB16 hX0).has hx18) (idx_spec hx18).1 (idx_spec hx18).2.1 rfl ?_
    refine gv_nil <| gv_goA ?_
    refine gv_stage (Cls w12 []) [4, 5, 6, 10, 11, 12] [(4, some true), (5, some true), (6, some true), (10, some true), (11, some true), (12, some true)] (bA 16 [0, 1, 2, 3, 4, 5, 6, 7, 8, 9, 10, 11, 12]) 3 kr kr (Cls.refl _ _) ?_
    have hC19 := Cls.refl w12 []
    refine gv_load (t := 107) (A := (elemAddr pa0_0 ((s3.2 : Int).toNat * 1))) (.int .u32 x14) [] (fun e => by cases e) rfl rfl rfl kr kr kr (inw1 fun w' hC' => ((hC'.rd (hpa0_0.below hB16 hX0) (fun k (hk : X0 k) => ltl (hX0 k hk) hB16.size) nmx_nil).cell hx15)) rfl ?_
    refine pN 2 [16, 17] [(17, (.int .i64 (IntKind.i64.wrap (((x14).tmod 65536)))))] ?_
    refine gv_load (t := 107) (A := (elemAddr pa0_0 ((s3.2 : Int).toNat * 1))) (.int .u32 x17) [] (fun e => by cases e) rfl rfl rfl kr kr kr (inw1 fun w' hC' => ((hC'.rd (hpa0_0.below hB16 hX0) (fun k (hk : X0 k) => ltl (hX0 k hk) hB16.size) nmx_nil).cell hx18)) rfl ?_
    refine pN 2 [22, 23] [(23, (.int .i64 (IntKind.i64.wrap ((IntKind.u32.wrap ((x17).tdiv 65536))))))] ?_
    refine gv_nil <| gv_goA ?_
    refine gv_stage (fun _ => True) [13] [(13, some false)] (bA 16 [0, 1, 2, 3, 4, 5, 6, 7, 8, 9, 10, 11, 12, 13]) 2 kr kr trivial ?_
    refine gv_new (fun b => .slice (some ⟨b, 0, none⟩) 2 2) #[(.int .i64 (IntKind.i64.wrap (((x14).tmod 65536)))), (.int .i64 (IntKind.i64.wrap ((IntKind.u32.wrap ((x17).tdiv 65536)))))] 3 (by decide) rfl rfl kr kr ?_
    intro b20 w21 hg22 hb23 hbe24 hz25
    refine ⟨(fun _ => trivial), ?_⟩
    have ho26 : Gv.Own (iE .i64) 3 w21 (fun _ => False) (some ⟨b20, 0, none⟩) 2 ([(IntKind.i64.wrap (((x14).tmod 65536))), (IntKind.i64.wrap ((IntKind.u32.wrap ((x17).tdiv 65536))))] : List Int) := Box.ownE hb23 ⟨[(.int .i64 (IntKind.i64.wrap (((x14).tmod 65536))))], [(.int .i64 (IntKind.i64.wrap ((IntKind.u32.wrap ((x17).tdiv 65536)))))], rfl, rfl, ⟨[(.int .i64 (IntKind.i64.wrap ((IntKind.u32.wrap ((x17).tdiv 65536)))))], [], rfl, rfl, rfl⟩⟩ (show 2 ≤ maxLen by decide) (fun h => h)
    have hl27 : ∀ g, blk (some ⟨b20, 0, none⟩) = some g → w0.heap.size ≤ g := loo hbe24 hB16.size
    refine gv_nil <| gv_goA ?_
    refine gv_stage (fun _ => True) [14] [(14, some false)] (bA 16 [0, 1, 2, 3, 4, 5, 6, 7, 8, 9, 10, 11, 12, 13, 14]) 1 kr kr trivial ?_
    refine bindE h2 ?_; clear h2; intro l31 hx32 h2
    have hg39 := (grown_trans hg13 hg22)
    have hk40 := ho9.grown hg39 (fun _ h => h.elim) nb
    refine gv_append (iE .i64) (t := 55) (ty := 55) (e := 3) (a := a7) (ax := (some ⟨b20, 0, none⟩)) (cap := c8) (cx := 2) (xs := s3.1) (ys := ([(IntKind.i64.wrap (((x14).tmod 65536))), (IntKind.i64.wrap ((IntKind.u32.wrap ((x17).tdiv 65536))))] : List Int)) l31 (X := (fun _ => False)) (Y := (fun k => blk (some ⟨b20, 0, none⟩) = some k)) (by decide) rfl rfl kr kr Tryz.underlying55 info3 hk40 (ho26.rd (Y := fun k => blk (some ⟨b20, 0, none⟩) = some k) (fun _ h => h.elim) (fun g e => e)) hx32 (.inr fun _ _ _ _ _ h => h) (fun _ h => h.elim) ?_
    intro a33 c34 w35 hg36 ho37 hk38
    refine ⟨(fun _ => trivial), ?_⟩
    have hB42 := bg hB16 hg22 nb
    have hl41 : ∀ g, blk a33 = some g → w0.heap.size ≤ g := blk_step hk38 hl10 hB42.size
    have hk44 := ho9.grown hg13 (fun _ h => h.elim) nb
    have ap45 : ∀ g, blk a7 = some g → ¬ (fun k => blk (some ⟨b20, 0, none⟩) = some k) g := fun g e hx => nl ((lowo hbe24) _ hx) ((fun k (hk : blk a7 = some k) => hk44.lt k hk) g e)
    have ap43 : ∀ g, blk a33 = some g → ¬ (fun k => blk (some ⟨b20, 0, none⟩) = some k) g := blk_neX hk38 ap45 (fun k (hk : blk (some ⟨b20, 0, none⟩) = some k) => ho26.lt k hk)
    have ap47 : ∀ g, blk (some ⟨b20, 0, none⟩) = some g → ¬ (fun k => blk a7 = some k) g := fun g e hx => nl ((lowo hbe24) g e) ((fun k (hk : blk a7 = some k) => hk44.lt k hk) _ hx)
    have ap46 : ∀ g, blk (some ⟨b20, 0, none⟩) = some g → ¬ (fun k => blk a33 = some k) g := fun g e h => blk_rev hk38 (fun h => ((ap47) g e) h) (ho26.lt g e) h
    refine gv_nil <| gv_goA ?_
    refine gv_pre [15] (bA 16 [0, 1, 2, 3, 4, 5, 6, 7, 8, 9, 10, 11, 12, 13, 14, 15]) 0 kr kr ?_
    refine pN 1 [3] [(3, (.slice a33 (length l31) c34))] ?_
    refine gv_nil <| gv_goA ?_
    refine gv_stageE kr ?_
    refine gv_blk <| gv_region <| pN 3 [4, 9, 10] [(4, (.int .i64 (IntKind.i64.wrap (s3.2 + 1))))] ?_
    refine gv_nil ?_
    have e := sj h2; subst e
    refine gv_goal fun a hd hs hok => ?_
    have hB48 := bg hB42 hg36 hl10
    have hz49 := (nt (nt (nt hz6 hg13.size) hg22.size) hg36.size)
    exact ⟨(l31, (IntKind.i64.wrap (s3.2 + 1))), rfl, a33, c34, hB48, hz49, ho37, hl41, hd, hs, okp [0, 3, 4] hok⟩
   ·replace h2 := ite_f hc11 h2
    refine gv_cexit <| gv_exit rfl ?_
    have e := sj h2; subst e
    replace h1 := congrArg some (hR2 _ rfl)
    have e := sj h1; subst e
    refine gv_goal fun a hd hs hok => ?_
    have hz50 := hz6
    exact ⟨a7, c8, hB5, hz50, ho9, hl10, hd, hs, okp [3] hok⟩
 ·rintro a w2 ⟨a53, c54, hB51, hz52, ho55, hl56, hd, hs, hok⟩
  refine gv_in ?_ hd hs hok
  clear hd hs hok
  refine gv_seq <| gv_region <| pN 1 [26] [(26, (.slice a53 (length j1) c54))] ?_
  refine bindE h0 ?_; clear h0; intro r57 hr58 h0
  refine gv_call0 kr rfl kr enters50 (ref3_trim_ok fuel a53 c54 j1 w2 (fun k => (fun k => blk a53 = some k) k) (fun k hk => (fun k (hk : blk a53 = some k) => ho55.lt k hk) k hk) ((ho55.rd (Y := fun k => blk a53 = some k) (fun _ h => h.elim) (fun g e => e)).wide (fun k hk => hk)) r57 hr58) ?_
  rintro v61 w59 ⟨hg60, a62, c63, X65, rfl, ho64, hx66⟩
  have hx67 : ∀ k, X65 k → k < w59.heap.size := fun k hk => (hx66 k hk).1
  have hx68 : ∀ k, X65 k → X0 k ∨ w0.heap.size ≤ k := fun k hk => (hx66 k hk).2.elim (fun h => (fun k (hk : blk a53 = some k) => Or.inr (hl56 k hk)) k h) (fun h => .inr (Nat.le_trans hB51.size h))
  refine pN 1 [2] [(2, (.slice a62 (length r57) c63))] ?_
  refine gv_nil <| gv_cret ?_
  have e := sj h0; subst e
  refine gv_ret (gv_done [(.slice a62 (length r57) c63)] rfl ⟨kr, trivial⟩ ?_)
  have hB69 := bg hB51 hg60 nb
  exact ⟨grown_of_below hB69, a62, c63, X65, rfl, ho64, (fun k hk => ⟨hx67 k hk, hx68 k hk⟩)⟩

theorem ref3_IntOf_ok (fuel : Nat) (pa0_0 : Option Addr) (pc0_0 : Nat) (a_0 : (Bool × (List Int))) (w0 : World) (X0 : Nat → Prop) (hX0 : ∀ k, X0 k → k < w0.heap.size) (hpa0_0 : Rd (iE .u32) w0 X0 pa0_0 pc0_0 a_0.2) (r0 : (Bool × (List Int))) (h0 : ref3_IntOf fuel a_0 = some r0) :
    Calls Tryz.prog 62 ([(.agg #[(.bool a_0.1), (.slice pa0_0 (length a_0.2) pc0_0)])] : List Value).toArray w0 (Ret fun v w' => w0.grownBy w' none ∧ ∃ (a0_0r : Option Addr) (c0_0r : Nat), ∃ (X0_0r : Nat → Prop), v = tup [(.agg #[(.bool r0.1), (.slice a0_0r (length r0.2) c0_0r)])] ∧ Rd (iE .i64) w' X0_0r a0_0r c0_0r r0.2 ∧ (∀ k, X0_0r k → k < w'.heap.size ∧ (X0 k ∨ w0.heap.size ≤ k))) := by
 have hB0 : Below w0.heap.size w0 w0 := Below.refl _ _
 unfold ref3_IntOf at h0
 refine calls_run Tryz.func62 rfl Tryz.ntmps62 kr ?_
 refine gv_sub [0] (σ' := [(0, (.agg #[(.bool a_0.1), (.slice pa0_0 (length a_0.2) pc0_0)]))]) kr ?_
 refine gv_seq <| gv_region <| gv_new0 (fun b => .pointer (some ⟨b, 0, none⟩)) #[(.bool a_0.1), (.slice pa0_0 (length a_0.2) pc0_0)] 39 kr kr ?_
 intro b1 w2 hg3 hb4 hbe5 hz6
 refine gv_new0 (fun b => .pointer (some ⟨b, 0, none⟩)) #[(.bool false), (.slice none (length ([] : List Int)) 0)] 57 kr kr ?_
 intro b7 w8 hg9 hb10 hbe11 hz12
 refine gv_nil <| gv_seq <| gv_drawA kr ?_
 intro w13 hg14
 refine gv_pre [0, 2] (bA 7 [0, 2]) 5 kr kr ?_
 refine pN 2 [3, 5] [(3, (bp b1)), (5, (.pointer (some ⟨b1, 1, none⟩)))] ?_
 refine gv_nil <| gv_goA ?_
 refine gv_stage (Cls w13 []) [1, 3, 4] [(1, some true), (3, some true), (4, some false)] (bA 7 [0, 1, 2, 3, 4]) 2 kr kr (Cls.refl _ _) ?_
 have hC15 := Cls.refl w13 []
 have hg16 := (grown_trans hg9 hg14)
 have hk17 := hb4.grown hg16 nb
 refine gv_load (t := 4) (A := ⟨b1, 0, none⟩) (.bool a_0.1) [] (fun e => by cases e) rfl rfl rfl kr kr kr (inw1 fun w' hC' => ((hC'.box hk17 nm_nil).cell 0 rfl)) rfl ?_
 refine gv_load (t := 37) (A := ⟨b1, 1, none⟩) (.slice pa0_0 (length a_0.2) pc0_0) [] (fun e => by cases e) rfl rfl rfl kr kr kr (inw1 fun w' hC' => ((hC'.box hk17 nm_nil).cell 1 rfl)) rfl ?_
 refine bindE h0 ?_; clear h0; intro r18 hr19 h0
 have hg20 := (grown_trans hg3 hg16)
 have hB21 := bg hB0 hg20 nb
 refine gv_call (f := 78) (vs := [(.slice pa0_0 (length a_0.2) pc0_0)]) (cap := []) _ (by decide) rfl rfl rfl kr kr enters78 (ref3_Of_ok fuel pa0_0 pc0_0 a_0.2 w13 (fun k => X0 k) (fun k hk => (fun k (hk : X0 k) => ltl (hX0 k hk) hB21.size) k hk) ((hpa0_0.below hB21 hX0).wide (fun k hk => hk)) r18 hr19) ?_
 rintro v24 w22 ⟨hg23, a25, c26, X28, rfl, ho27, hx29⟩
 refine ⟨(fun _ => hC15.grown hg23 nb), ?_⟩
 have hx30 : ∀ k, X28 k → k < w22.heap.size := fun k hk => (hx29 k hk).1
 have hx31 : ∀ k, X28 k → X0 k ∨ w0.heap.size ≤ k := fun k hk => (hx29 k hk).2.elim (fun h => (fun k (hk : X0 k) => Or.inl hk) k h) (fun h => .inr (Nat.le_trans hB21.size h))
 refine gv_nil <| gv_goA ?_
 refine gv_pre [5] (bA 7 [0, 1, 2, 3, 4, 5]) 1 kr kr ?_
 refine pN 1 [8] [(8, (.agg #[(.bool a_0.1), (.slice a25 (length r18) c26)]))] ?_
 refine gv_nil <| gv_goA ?_
 refine gv_stage (fun _ => True) [6] [(6, some false)] (bA 7 [0, 1, 2, 3, 4, 5, 6]) 0 kr kr trivial ?_
 have hg36 := (grown_trans hg14 hg23)
 have hk37 := hb10.grown hg36 nb
 refine gv_store (t := 57) (b := b7) (off := 0) (v := (.agg #[(.bool a_0.1), (.slice a25 (length r18) c26)])) (t' := 57) (cs := #[(.bool false), (.slice none (length ([] : List Int)) 0)]) #[(.bool a_0.1), (.slice a25 (length r18) c26)] (by decide) rfl rfl kr kr kr (by intro u hu; simp [Value.cells] at hu; rcases hu with rfl | rfl <;> rfl) (show 0 + 2 ≤ 2 by decide) (by rfl) hk37 ?_
 intro w32 hg33 hb34 hz35
 refine ⟨(fun _ => trivial), ?_⟩
 refine gv_nil <| gv_goA ?_
 refine gv_stageE kr ?_
 refine gv_cret ?_
 have e := sj h0; subst e
 refine gv_ret (gv_done [(.agg #[(.bool a_0.1), (.slice a25 (length r18) c26)])] rfl ⟨⟨⟨b7, 0, none⟩, kr, run_loadVar_row w32 b7 _ 57 _ _ _ hb34 Tryz.underlying57 rfl kr⟩, trivial⟩ ?_)
 have hB38 := bg hB21 hg23 nb
 have hB39 := bg hB0 hg3 nb
 have hlo40 : w0.heap.size ≤ b7 := lob hbe11 hB39.size
 have hB41 := bg hB38 hg33 (rowlo hlo40)
 have hk42 := hb10.grown hg14 nb
 have ap43 : ¬ X28 b7 := fun h => ((hx29 _ h).2.elim (fun h => ((fun (hx : X0 b7) => nl hlo40 (hX0 _ hx)))  h) (fun h => nl h (hk42.lt)))
 have hk44 := ho27.grown hg33 hx30 (rowne ap43)
 have hx45 := ltx hx30 hg33.size
 exact ⟨grown_of_below hB41, a25, c26, X28, rfl, hk44, (fun k hk => ⟨hx45 k hk, hx31 k hk⟩)⟩

theorem ref4_base256_ok (fuel : Nat) (pa0_0 : Option Addr) (pc0_0 : Nat) (a_0 : (Bool × (List Int))) (n_1 : Int) (w0 : World) (X0 : Nat → Prop) (hX0 : ∀ k, X0 k → k < w0.heap.size) (hpa0_0 : Rd (iE .i64) w0 X0 pa0_0 pc0_0 a_0.2) (r0 : (List UInt8)) (h0 : ref4_base256 fuel a_0 n_1 = some r0) :
    Calls Tryz.prog 63 ([(.agg #[(.bool a_0.1), (.slice pa0_0 (length a_0.2) pc0_0)]), (.int .i64 n_1)] : List Value).toArray w0 (Ret fun v w' => w0.grownBy w' none ∧ ∃ (a0_0r : Option Addr) (c0_0r : Nat), v = tup [(.slice a0_0r (length r0) c0_0r)] ∧ Gv.Own bE 5 w' (fun _ => False) a0_0r c0_0r r0 ∧ (∀ g, blk a0_0r = some g → w0.heap.size ≤ g)) := by
 have hB0 : Below w0.heap.size w0 w0 := Below.refl _ _
 unfold ref4_base256 at h0
 refine calls_run Tryz.func63 rfl Tryz.ntmps63 kr ?_
 refine gv_sub [0, 1] (σ' := [(0, (.agg #[(.bool a_0.1), (.slice pa0_0 (length a_0.2) pc0_0)])), (1, (.int .i64 n_1))]) kr ?_
 refine gv_seq <| gv_region <| gv_new0 (fun b => .pointer (some ⟨b, 0, none⟩)) #[(.bool a_0.1), (.slice pa0_0 (length a_0.2) pc0_0)] 57 kr kr ?_
 intro b1 w2 hg3 hb4 hbe5 hz6
 refine pN 1 [4] [] ?_
 refine gv_nil <| gv_seq <| gv_region <| pN 1 [10] [(10, (.pointer (some ⟨b1, 1, none⟩)))] ?_
 refine gv_load (t := 55) (A := ⟨b1, 1, none⟩) (.slice pa0_0 (length a_0.2) pc0_0) [] (fun e => by cases e) rfl rfl rfl kr kr kr (inw0 (hb4.cell 1 rfl)) rfl ?_
 refine bindE h0 ?_; clear h0; intro r7 hr8 h0
 have hB9 := bg hB0 hg3 nb
 refine gv_call0 kr rfl kr enters74 (ref3_Ones_ok fuel pa0_0 pc0_0 a_0.2 w2 (fun k => X0 k) (fun k hk => (fun k (hk : X0 k) => ltl (hX0 k hk) hB9.size) k hk) ((hpa0_0.below hB9 hX0).wide (fun k hk => hk)) r7 hr8) ?_
 rintro v12 w10 ⟨hg11, a13, c14, rfl, ho15, hl16⟩
 have hl17 : ∀ g, blk a13 = some g → w0.heap.size ≤ g := fun g e => Nat.le_trans hB9.size (hl16 g e)
 refine pN 1 [5] [(5, (.slice a13 (length r7) c14))] ?_
 refine gv_nil <| gv_seq <| gv_region <| pN 1 [6] [(6, (.slice none (length ([] : List UInt8)) 0))] ?_
 refine gv_nil <| gv_seq <| gv_seq <| gv_region <| pN 1 [7] [(7, (.int .i64 0))] ?_
 refine gv_nil <| bindE h0 ?_; clear h0; intro j18 h1 h0
 refine gv_cut_code (J := fun a w19 => ∃ (a6_0j : Option Addr) (c6_0j : Nat), Below w0.heap.size w0 w19 ∧ w10.heap.size ≤ w19.heap.size ∧ Gv.Own bE 5 w19 (fun _ => False) a6_0j c6_0j j18 ∧ (∀ g, blk a6_0j = some g → w0.heap.size ≤ g) ∧ a.defers = [] ∧ a.tmps.size = 48 ∧ Ok [(6, (.slice a6_0j (length j18) c6_0j))] a.tmps) ?_ ?_
 ·skip
  refine gv_block <| gv_loop (A := fun (s20 : ((List UInt8) × Int)) a w21 => ∃ (a6_0j : Option Addr) (c6_0j : Nat), Below w0.heap.size w0 w21 ∧ w10.heap.size ≤ w21.heap.size ∧ Gv.Own bE 5 w21 (fun _ => False) a6_0j c6_0j s20.1 ∧ (∀ g, blk a6_0j = some g → w0.heap.size ≤ g) ∧ (∀ g, blk a6_0j = some g → ¬ (fun k => blk a13 = some k) g) ∧ (∀ g, blk a13 = some g → ¬ (fun k => blk a6_0j = some k) g) ∧ Gv.Own tE 4 w21 (fun _ => False) a13 c14 r7 ∧ a.defers = [] ∧ a.tmps.size = 48 ∧ Ok [(1, (.int .i64 n_1)), (5, (.slice a13 (length r7) c14)), (6, (.slice a6_0j (length s20.1) c6_0j)), (7, (.int .i64 s20.2))] a.tmps) h1 ?_ ?_
  ·intro a hd hs hok
   have hB22 := bg hB9 hg11 nb
   exact ⟨none, 0, hB22, nrf, (Gv.Own.nil bE 5 w10 (fun _ => False)), (fun _ h => by cases h), (fun _ h => by cases h), (fun _ _ h => by cases h), ho15, hd, hs, okp [1, 5, 6, 7] hok⟩
  ·rintro s20 r2 h2 hR2 a w21 ⟨a25, c26, hB23, hz24, ho27, hl28, ap29, ap30, hk31, hd, hs, hok⟩
   refine gv_in ?_ hd hs hok
   clear hd hs hok
   clear hl16 ho15 hg11 hB9 hr8 hz6 hbe5 hb4 hg3
   refine gv_seq <| gv_seq <| gv_region <| pN 3 [13, 14, 15] [(15, (.bool (decide (s20.2 < n_1))))] ?_
   refine gv_nil <| gv_cond (b := (decide (s20.2 < n_1))) kr (fun hc32 => ?_) (fun hc32 => ?_)
   ·replace h2 := ite_t hc32 h2
    refine gv_skip <| gv_seq <| gv_block <| gv_seq <| gv_region <| pN 1 [8] [(8, (.int .i64 0))] ?_
    refine gv_nil <| gv_seq <| gv_seq <| gv_region <| pN 1 [9] [(9, (.int .i64 7))] ?_
    refine gv_nil <| bindE h2 ?_; clear h2; intro j33 h3 h2
    refine gv_cut_code (J := fun a w34 => Below w0.heap.size w0 w34 ∧ w21.heap.size ≤ w34.heap.size ∧ Gv.Own tE 4 w34 (fun _ => False) a13 c14 r7 ∧ Gv.Own bE 5 w34 (fun _ => False) a25 c26 s20.1 ∧ a.defers = [] ∧ a.tmps.size = 48 ∧ Ok [(1, (.int .i64 n_1)), (5, (.slice a13 (length r7) c14)), (6, (.slice a25 (length s20.1) c26)), (7, (.int .i64 s20.2)), (8, (.int .i64 j33))] a.tmps) ?_ ?_
    ·skip
     refine gv_block <| gv_loop (A := fun (s35 : (Int × Int)) a w36 => Below w0.heap.size w0 w36 ∧ w21.heap.size ≤ w36.heap.size ∧ Gv.Own tE 4 w36 (fun _ => False) a13 c14 r7 ∧ Gv.Own bE 5 w36 (fun _ => False) a25 c26 s20.1 ∧ a.defers = [] ∧ a.tmps.size = 48 ∧ Ok [(1, (.int .i64 n_1)), (5, (.slice a13 (length r7) c14)), (6, (.slice a25 (length s20.1) c26)), (7, (.int .i64 s20.2)), (8, (.int .i64 s35.1)), (9, (.int .i64 s35.2))] a.tmps) h3 ?_ ?_
     ·intro a hd hs hok
      exact ⟨hB23, nrf, hk31, ho27, hd, hs, okp [1, 5, 6, 7, 8, 9] hok⟩
     ·rintro s35 r4 h4 hR4 a w36 ⟨hB37, hz38, hk39, hk40, hd, hs, hok⟩
      refine gv_in ?_ hd hs hok
      clear hd hs hok
      clear hc32 hk31 ho27 hB23
      refine gv_seq <| gv_seq <| gv_region <| pN 2 [18, 19] [(19, (.bool (decide (s35.2 ≥ 0))))] ?_
      refine gv_nil <| gv_cond (b := (decide (s35.2 ≥ 0))) kr (fun hc41 => ?_) (fun hc41 => ?_)
      ·replace h4 := ite_t hc41 h4
       refine gv_skip <| gv_seq <| gv_block <| gv_seq <| gv_region <| pN 3 [8, 22, 23] [(8, (.int .i64 (IntKind.i64.wrap (s35.1 * 2))))] ?_
       refine gv_nil <| gv_seq <| gv_region <| bindE h4 ?_; clear h4; intro j42 h5 h4
       refine gv_cut_ops (J := fun a w43 => Below w0.heap.size w0 w43 ∧ w36.heap.size ≤ w43.heap.size ∧ Gv.Own tE 4 w43 (fun _ => False) a13 c14 r7 ∧ Gv.Own bE 5 w43 (fun _ => False) a25 c26 s20.1 ∧ a.defers = [] ∧ a.tmps.size = 48 ∧ Ok [(1, (.int .i64 n_1)), (5, (.slice a13 (length r7) c14)), (6, (.slice a25 (length s20.1) c26)), (7, (.int .i64 s20.2)), (8, (.int .i64 (IntKind.i64.wrap (s35.1 * 2)))), (9, (.int .i64 s35.2)), (39, (.bool j42))] a.tmps) ?_ ?_
       ·skip
        refine pN 8 [24, 25, 26, 27, 28, 29, 30, 31] [(31, (.bool (decide ((IntKind.i64.wrap ((IntKind.i64.wrap (8 * s20.2)) + s35.2)) < ((length r7 : Nat) : Int)))))] ?_
        refine gv_split (s := 31) (g := (decide ((IntKind.i64.wrap ((IntKind.i64.wrap (8 * s20.2)) + s35.2)) < ((length r7 : Nat) : Int)))) kr (fun hc44 => ?_) (fun hc44 => ?_)
        ·skip
         replace h5 := ite_t hc44 h5
         refine pN 5 [32, 33, 34, 35, 36] [(32, (.slice a13 (length r7) c14)), (36, (.int .i64 (IntKind.i64.wrap ((IntKind.i64.wrap (8 * s20.2)) + s35.2))))] ?_
         refine bindE h5 ?_; clear h5; intro x45 hx46 h5
         refine gv_idxaddr (t := 87) (e := 4) (a := a13) (len := length r7) (cap := c14) (kk := .i64) (i := (IntKind.i64.wrap ((IntKind.i64.wrap (8 * s20.2)) + s35.2))) (sz := 1) [] (fun e => by cases e) rfl rfl rfl kr kr Tryz.underlying87 kr ((hk39.rd (Y := fun k => blk a13 = some k) (fun _ h => h.elim) (fun g e => e)).has hx46) (idx_spec hx46).1 (idx_spec hx46).2.1 rfl ?_
         refine gv_load (t := 4) (A := (elemAddr a13 (((IntKind.i64.wrap ((IntKind.i64.wrap (8 * s20.2)) + s35.2)) : Int).toNat * 1))) (.bool x45) [] (fun e => by cases e) rfl rfl rfl kr kr kr (inw0 ((hk39.rd (Y := fun k => blk a13 = some k) (fun _ h => h.elim) (fun g e => e)).cell hx46)) rfl ?_
         refine pN 1 [39] [(39, (.bool x45))] ?_
         refine gv_nil ?_
         have e := sj h5; subst e
         refine gv_goal fun a hd hs hok => ?_
         exact ⟨hB37, nrf, hk39, hk40, hd, hs, okp [1, 5, 6, 7, 8, 9, 39] hok⟩
        ·skip
         replace h5 := ite_f hc44 h5
         refine pN 8 [32, 33, 34, 35, 36, 37, 38, 39] [(39, (.bool false))] ?_
         refine gv_nil ?_
         have e := sj h5; subst e
         refine gv_goal fun a hd hs hok => ?_
         exact ⟨hB37, nrf, hk39, hk40, hd, hs, okp [1, 5, 6, 7, 8, 9, 39] hok⟩
       ·rintro a w43 ⟨hB47, hz48, hk49, hk50, hd, hs, hok⟩
        refine gv_in ?_ hd hs hok
        clear hd hs hok
        have hz51 := (nt hz38 hz48)
        clear hz48 hc41 hk40 hk39 hz38 hB37
        refine bindE h4 ?_; clear h4; intro j52 h5 h4
        refine gv_cut_code (J := fun a w53 => Below w0.heap.size w0 w53 ∧ w43.heap.size ≤ w53.heap.size ∧ Gv.Own tE 4 w53 (fun _ => False) a13 c14 r7 ∧ Gv.Own bE 5 w53 (fun _ => False) a25 c26 s20.1 ∧ a.defers = [] ∧ a.tmps.size = 48 ∧ Ok [(1, (.int .i64 n_1)), (5, (.slice a13 (length r7) c14)), (6, (.slice a25 (length s20.1) c26)), (7, (.int .i64 s20.2)), (8, (.int .i64 j52)), (9, (.int .i64 s35.2))] a.tmps) ?_ ?_
        ·skip
         refine gv_cond (b := j42) kr (fun hc54 => ?_) (fun hc54 => ?_)
         ·replace h5 := ite_t hc54 h5
          refine gv_region <| pN 3 [8, 40, 41] [(8, (.int .i64 (IntKind.i64.wrap ((IntKind.i64.wrap (s35.1 * 2)) + 1))))] ?_
          refine bindE h5 ?_; clear h5; intro n55 hn56 h5
          refine gv_name (s := 8) (v := (.int .i64 (IntKind.i64.wrap ((IntKind.i64.wrap (s35.1 * 2)) + 1)))) (v' := (.int .i64 n55)) kr (congrArg (Value.int .i64) (sj hn56)) ?_
          refine gv_nil ?_
          have e := sj h5; subst e
          refine gv_goal fun a hd hs hok => ?_
          exact ⟨hB47, nrf, hk49, hk50, hd, hs, okp [1, 5, 6, 7, 8, 9] hok⟩
         ·replace h5 := ite_f hc54 h5
          refine gv_skip ?_
          have e := sj h5; subst e
          refine gv_goal fun a hd hs hok => ?_
          exact ⟨hB47, nrf, hk49, hk50, hd, hs, okp [1, 5, 6, 7, 8, 9] hok⟩
        ·rintro a w53 ⟨hB57, hz58, hk59, hk60, hd, hs, hok⟩
         refine gv_in ?_ hd hs hok
         clear hd hs hok
         have hz61 := (nt hz51 hz58)
         clear hz58 hz51 hk50 hk49 hB47
         refine gv_blk <| gv_region <| pN 3 [9, 20, 21] [(9, (.int .i64 (IntKind.i64.wrap (s35.2 - 1))))] ?_
         refine gv_nil ?_
         have e := sj h4; subst e
         refine gv_goal fun a hd hs hok => ?_
         have hz62 := hz61
         exact ⟨(j52, (IntKind.i64.wrap (s35.2 - 1))), rfl, hB57, hz62, hk59, hk60, hd, hs, okp [1, 5, 6, 7, 8, 9] hok⟩
      ·replace h4 := ite_f hc41 h4
       refine gv_cexit <| gv_exit rfl ?_
       have e := sj h4; subst e
       replace h3 := congrArg some (hR4 _ rfl)
       have e := sj h3; subst e
       refine gv_goal fun a hd hs hok => ?_
       have hz63 := hz38
       exact ⟨hB37, hz63, hk39, hk40, hd, hs, okp [1, 5, 6, 7, 8] hok⟩
    ·rintro a w34 ⟨hB64, hz65, hk66, hk67, hd, hs, hok⟩
     refine gv_in ?_ hd hs hok
     clear hd hs hok
     have hz68 := (nt hz24 hz65)
     clear hz65 hc32 hk31 ho27 hz24 hB23
     refine gv_region <| pN 3 [42, 43, 44] [(42, (.slice a25 (length s20.1) c26)), (44, (.int .u8 (IntKind.u8.wrap (j33))))] ?_
     refine bindE h2 ?_; clear h2; intro b69 hb70 h2
     have hu71 := u8_spec hb70
     refine gv_new0 (fun b => .slice (some ⟨b, 0, none⟩) 1 1) #[(.int .u8 (IntKind.u8.wrap (j33)))] 5 kr kr ?_
     intro b72 w73 hg74 hb75 hbe76 hz77
     have ho78 : Gv.Own bE 5 w73 (fun _ => False) (some ⟨b72, 0, none⟩) 1 ([b69] : List UInt8) := Box.ownE hb75 ⟨[(.int .u8 (IntKind.u8.wrap (j33)))], [], rfl, (by simp only [bE, flat, hu71]), rfl⟩ (show 1 ≤ maxLen by decide) (fun h => h)
     have hl79 : ∀ g, blk (some ⟨b72, 0, none⟩) = some g → w0.heap.size ≤ g := loo hbe76 hB64.size
     refine bindE h2 ?_; clear h2; intro l83 hx84 h2
     have hk91 := hk67.grown hg74 (fun _ h => h.elim) nb
     refine gv_append bE (t := 23) (ty := 23) (e := 5) (a := a25) (ax := (some ⟨b72, 0, none⟩)) (cap := c26) (cx := 1) (xs := s20.1) (ys := ([b69] : List UInt8)) l83 (X := (fun _ => False)) (Y := (fun k => blk (some ⟨b72, 0, none⟩) = some k)) (by decide) rfl rfl kr kr Tryz.underlying23 info5 hk91 (ho78.rd (Y := fun k => blk (some ⟨b72, 0, none⟩) = some k) (fun _ h => h.elim) (fun g e => e)) hx84 (.inr fun _ _ _ _ _ h => h) (fun _ h => h.elim) ?_
     intro a85 c86 w87 hg88 ho89 hk90
     refine ⟨(fun e => by cases e), ?_⟩
     have hB93 := bg hB64 hg74 nb
     have hl92 : ∀ g, blk a85 = some g → w0.heap.size ≤ g := blk_step hk90 hl28 hB93.size
     have hk95 := hk66.grown hg74 (fun _ h => h.elim) nb
     have ap94 : ∀ g, blk a85 = some g → ¬ (fun k => blk a13 = some k) g := blk_neX hk90 ap29 (fun k (hk : blk a13 = some k) => hk95.lt k hk)
     have ap96 : ∀ g, blk a13 = some g → ¬ (fun k => blk a85 = some k) g := fun g e h => blk_rev hk90 (fun h => ((ap30) g e) h) (hk95.lt g e) h
     have ap98 : ∀ g, blk a25 = some g → ¬ (fun k => blk (some ⟨b72, 0, none⟩) = some k) g := fun g e hx => nl ((lowo hbe76) _ hx) ((fun k (hk : blk a25 = some k) => hk67.lt k hk) g e)
     have ap97 : ∀ g, blk a85 = some g → ¬ (fun k => blk (some ⟨b72, 0, none⟩) = some k) g := blk_neX hk90 ap98 (fun k (hk : blk (some ⟨b72, 0, none⟩) = some k) => ho78.lt k hk)
     have ap100 : ∀ g, blk (some ⟨b72, 0, none⟩) = some g → ¬ (fun k => blk a25 = some k) g := fun g e hx => nl ((lowo hbe76) g e) ((fun k (hk : blk a25 = some k) => hk67.lt k hk) _ hx)
     have ap99 : ∀ g, blk (some ⟨b72, 0, none⟩) = some g → ¬ (fun k => blk a85 = some k) g := fun g e h => blk_rev hk90 (fun h => ((ap100) g e) h) (ho78.lt g e) h
     refine pN 1 [6] [(6, (.slice a85 (length l83) c86))] ?_
     refine gv_nil <| gv_blk <| gv_region <| pN 3 [7, 16, 17] [(7, (.int .i64 (IntKind.i64.wrap (s20.2 + 1))))] ?_
     refine gv_nil ?_
     have e := sj h2; subst e
     refine gv_goal fun a hd hs hok => ?_
     have hB101 := bg hB93 hg88 hl28
     have hz102 := (nt (nt hz68 hg74.size) hg88.size)
     have hk103 := hk95.grown hg88 (fun _ h => h.elim) (rdnn ap29)
     exact ⟨(l83, (IntKind.i64.wrap (s20.2 + 1))), rfl, a85, c86, hB101, hz102, ho89, hl92, ap94, ap96, hk103, hd, hs, okp [1, 5, 6, 7] hok⟩
   ·replace h2 := ite_f hc32 h2
    refine gv_cexit <| gv_exit rfl ?_
    have e := sj h2; subst e
    replace h1 := congrArg some (hR2 _ rfl)
    have e := sj h1; subst e
    refine gv_goal fun a hd hs hok => ?_
    have hz104 := hz24
    exact ⟨a25, c26, hB23, hz104, ho27, hl28, hd, hs, okp [6] hok⟩
 ·rintro a w19 ⟨a107, c108, hB105, hz106, ho109, hl110, hd, hs, hok⟩
  refine gv_in ?_ hd hs hok
  clear hd hs hok
  clear hz106 hl17 hl16 ho15 hg11 hB9 hr8 hz6 hbe5 hb4 hg3
  refine gv_seq <| gv_region <| pN 2 [4, 47] [(4, (.slice a107 (length j18) c108))] ?_
  refine gv_nil <| gv_cret ?_
  have e := sj h0; subst e
  refine gv_ret (gv_done [(.slice a107 (length j18) c108)] rfl ⟨kr, trivial⟩ ?_)
  exact ⟨grown_of_below hB105, a107, c108, rfl, ho109, hl110⟩

theorem ref4_packed_ok (fuel : Nat) (f_0 : (Int × Int × Bool)) (pa1_0 : Option Addr) (pc1_0 : Nat) (pa1_1 : Option Addr) (pc1_1 : Nat) (v_1 : (Int × (Bool × (List Int)) × (Bool × (List Int)) × ByteArray × Int)) (w0 : World) (X0 : Nat → Prop) (hX0 : ∀ k, X0 k → k < w0.heap.size) (hpa1_0 : Rd (iE .u32) w0 X0 pa1_0 pc1_0 v_1.2.1.2) (hpa1_1 : Rd (iE .u32) w0 X0 pa1_1 pc1_1 v_1.2.2.1.2) (r0 : ((List UInt8) × Int)) (h0 : ref4_packed fuel f_0 v_1 = some r0) :
    Calls Tryz.prog 35 ([(.agg #[(.int .u8 f_0.1), (.int .i64 f_0.2.1), (.bool f_0.2.2)]), (.agg #[(.int .i64 v_1.1), (.bool v_1.2.1.1), (.slice pa1_0 (length v_1.2.1.2) pc1_0), (.bool v_1.2.2.1.1), (.slice pa1_1 (length v_1.2.2.1.2) pc1_1), (.string v_1.2.2.2.1), (.int .i64 v_1.2.2.2.2)])] : List Value).toArray w0 (Ret fun v w' => w0.grownBy w' none ∧ ∃ (a0_0r : Option Addr) (c0_0r : Nat), ∃ (X0_0r : Nat → Prop), v = tup [(.slice a0_0r (length r0.1) c0_0r), (.int .i64 r0.2)] ∧ Rd bE w' X0_0r a0_0r c0_0r r0.1 ∧ (∀ k, X0_0r k → k < w'.heap.size ∧ (X0 k ∨ w0.heap.size ≤ k))) := by
 have hB0 : Below w0.heap.size w0 w0 := Below.refl _ _
 unfold ref4_packed at h0
 refine calls_run Tryz.func35 rfl Tryz.ntmps35 kr ?_
 refine gv_sub [0, 1] (σ' := [(0, (.agg #[(.int .u8 f_0.1), (.int .i64 f_0.2.1), (.bool f_0.2.2)])), (1, (.agg #[(.int .i64 v_1.1), (.bool v_1.2.1.1), (.slice pa1_0 (length v_1.2.1.2) pc1_0), (.bool v_1.2.2.1.1), (.slice pa1_1 (length v_1.2.2.1.2) pc1_1), (.string v_1.2.2.2.1), (.int .i64 v_1.2.2.2.2)]))]) kr ?_
 refine gv_seq <| gv_region <| gv_new0 (fun b => .pointer (some ⟨b, 0, none⟩)) #[(.int .u8 f_0.1), (.int .i64 f_0.2.1), (.bool f_0.2.2)] 49 kr kr ?_
 intro b1 w2 hg3 hb4 hbe5 hz6
 refine gv_new0 (fun b => .pointer (some ⟨b, 0, none⟩)) #[(.int .i64 v_1.1), (.bool v_1.2.1.1), (.slice pa1_0 (length v_1.2.1.2) pc1_0), (.bool v_1.2.2.1.1), (.slice pa1_1 (length v_1.2.2.1.2) pc1_1), (.string v_1.2.2.2.1), (.int .i64 v_1.2.2.2.2)] 41 kr kr ?_
 intro b7 w8 hg9 hb10 hbe11 hz12
 refine pN 2 [4, 5] [] ?_
 refine gv_nil <| gv_seq <| gv_region <| pN 1 [6] [(6, (.int .i64 2))] ?_
 refine gv_nil <| gv_seq <| gv_seq <| gv_region <| bindE h0 ?_; clear h0; intro j13 h1 h0
 refine gv_cut_ops (J := fun a w14 => Below w0.heap.size w0 w14 ∧ w8.heap.size ≤ w14.heap.size ∧ Box w14 b1 49 #[(.int .u8 f_0.1), (.int .i64 f_0.2.1), (.bool f_0.2.2)] ∧ Box w14 b7 41 #[(.int .i64 v_1.1), (.bool v_1.2.1.1), (.slice pa1_0 (length v_1.2.1.2) pc1_0), (.bool v_1.2.2.1.1), (.slice pa1_1 (length v_1.2.2.1.2) pc1_1), (.string v_1.2.2.2.1), (.int .i64 v_1.2.2.2.2)] ∧ a.defers = [] ∧ a.tmps.size = 190 ∧ Ok [(2, (bp b1)), (3, (bp b7)), (6, (.int .i64 2)), (25, (.bool j13))] a.tmps) ?_ ?_
 ·skip
  refine pN 1 [18] [(18, (bp b1))] ?_
  have hk15 := hb4.grown hg9 nb
  refine gv_load (t := 5) (A := ⟨b1, 0, none⟩) (.int .u8 f_0.1) [] (fun e => by cases e) rfl rfl rfl kr kr kr (inw0 (hk15.cell 0 rfl)) rfl ?_
  refine pN 2 [20, 21] [(21, (.bool (f_0.1 == 115)))] ?_
  refine gv_split (s := 21) (g := (f_0.1 == 115)) kr (fun hc16 => ?_) (fun hc16 => ?_)
  ·skip
   replace h1 := ite_t hc16 h1
   refine pN 4 [22, 23, 24, 25] [(25, (.bool true))] ?_
   refine gv_nil ?_
   have e := sj h1; subst e
   refine gv_goal fun a hd hs hok => ?_
   have hg17 := (grown_trans hg3 hg9)
   have hB18 := bg hB0 hg17 nb
   exact ⟨hB18, nrf, hk15, hb10, hd, hs, okp [2, 3, 6, 25] hok⟩
  ·skip
   replace h1 := ite_f hc16 h1
   refine pN 1 [22] [(22, (bp b1))] ?_
   refine gv_load (t := 5) (A := ⟨b1, 0, none⟩) (.int .u8 f_0.1) [] (fun e => by cases e) rfl rfl rfl kr kr kr (inw0 (hk15.cell 0 rfl)) rfl ?_
   refine pN 2 [24, 25] [(25, (.bool (f_0.1 == 112)))] ?_
   refine gv_nil ?_
   have e := sj h1; subst e
   refine gv_goal fun a hd hs hok => ?_
   have hg19 := (grown_trans hg3 hg9)
   have hB20 := bg hB0 hg19 nb
   exact ⟨hB20, nrf, hk15, hb10, hd, hs, okp [2, 3, 6, 25] hok⟩
 ·rintro a w14 ⟨hB21, hz22, hb23, hb24, hd, hs, hok⟩
  refine gv_in ?_ hd hs hok
  clear hd hs hok
  clear hz22 hz12 hb10 hg9 hz6
  refine bindE h0 ?_; clear h0; intro j25 h1 h0
  refine gv_cut_code (J := fun a w26 => Below w0.heap.size w0 w26 ∧ w14.heap.size ≤ w26.heap.size ∧ Box w26 b1 49 #[(.int .u8 f_0.1), (.int .i64 f_0.2.1), (.bool f_0.2.2)] ∧ Box w26 b7 41 #[(.int .i64 v_1.1), (.bool v_1.2.1.1), (.slice pa1_0 (length v_1.2.1.2) pc1_0), (.bool v_1.2.2.1.1), (.slice pa1_1 (length v_1.2.2.1.2) pc1_1), (.string v_1.2.2.2.1), (.int .i64 v_1.2.2.2.2)] ∧ a.defers = [] ∧ a.tmps.size = 190 ∧ Ok [(2, (bp b1)), (3, (bp b7)), (6, (.int .i64 j25))] a.tmps) ?_ ?_
  ·skip
   refine gv_cond (b := j13) kr (fun hc27 => ?_) (fun hc27 => ?_)
   ·replace h1 := ite_t hc27 h1
    refine gv_region <| pN 1 [6] [(6, (.int .i64 5))] ?_
    refine gv_nil ?_
    have e := sj h1; subst e
    refine gv_goal fun a hd hs hok => ?_
    exact ⟨hB21, nrf, hb23, hb24, hd, hs, okp [2, 3, 6] hok⟩
   ·replace h1 := ite_f hc27 h1
    refine gv_skip ?_
    have e := sj h1; subst e
    refine gv_goal fun a hd hs hok => ?_
    exact ⟨hB21, nrf, hb23, hb24, hd, hs, okp [2, 3, 6] hok⟩
  ·rintro a w26 ⟨hB28, hz29, hb30, hb31, hd, hs, hok⟩
   refine gv_in ?_ hd hs hok
   clear hd hs hok
   clear hz29 hb24 hb23 hB21
   refine gv_seq <| gv_seq <| gv_region <| pN 1 [26] [(26, (bp b1))] ?_
   refine gv_load (t := 5) (A := ⟨b1, 0, none⟩) (.int .u8 f_0.1) [] (fun e => by cases e) rfl rfl rfl kr kr kr (inw0 (hb30.cell 0 rfl)) rfl ?_
   refine pN 1 [28] [(28, (.bool (f_0.1 == 63)))] ?_
   refine gv_nil <| bindE h0 ?_; clear h0; intro j32 h1 h0
   refine gv_cut_code (J := fun a w33 => Below w0.heap.size w0 w33 ∧ w26.heap.size ≤ w33.heap.size ∧ Box w33 b1 49 #[(.int .u8 f_0.1), (.int .i64 f_0.2.1), (.bool f_0.2.2)] ∧ Box w33 b7 41 #[(.int .i64 v_1.1), (.bool v_1.2.1.1), (.slice pa1_0 (length v_1.2.1.2) pc1_0), (.bool v_1.2.2.1.1), (.slice pa1_1 (length v_1.2.2.1.2) pc1_1), (.string v_1.2.2.2.1), (.int .i64 v_1.2.2.2.2)] ∧ a.defers = [] ∧ a.tmps.size = 190 ∧ Ok [(2, (bp b1)), (3, (bp b7)), (6, (.int .i64 j32))] a.tmps) ?_ ?_
   ·skip
    refine gv_cond (b := (f_0.1 == 63)) kr (fun hc34 => ?_) (fun hc34 => ?_)
    ·replace h1 := ite_t hc34 h1
     refine gv_region <| pN 1 [6] [(6, (.int .i64 1))] ?_
     refine gv_nil ?_
     have e := sj h1; subst e
     refine gv_goal fun a hd hs hok => ?_
     exact ⟨hB28, nrf, hb30, hb31, hd, hs, okp [2, 3, 6] hok⟩
    ·replace h1 := ite_f hc34 h1
     refine gv_skip ?_
     have e := sj h1; subst e
     refine gv_goal fun a hd hs hok => ?_
     exact ⟨hB28, nrf, hb30, hb31, hd, hs, okp [2, 3, 6] hok⟩
   ·rintro a w33 ⟨hB35, hz36, hb37, hb38, hd, hs, hok⟩
    refine gv_in ?_ hd hs hok
    clear hd hs hok
    clear hz36 hb31 hb30 hB28
    refine gv_seq <| gv_block <| gv_seq <| gv_seq <| gv_region <| bindE h0 ?_; clear h0; intro j39 h1 h0
    refine gv_cut_ops (J := fun a w40 => Below w0.heap.size w0 w40 ∧ w33.heap.size ≤ w40.heap.size ∧ Box w40 b1 49 #[(.int .u8 f_0.1), (.int .i64 f_0.2.1), (.bool f_0.2.2)] ∧ Box w40 b7 41 #[(.int .i64 v_1.1), (.bool v_1.2.1.1), (.slice pa1_0 (length v_1.2.1.2) pc1_0), (.bool v_1.2.2.1.1), (.slice pa1_1 (length v_1.2.2.1.2) pc1_1), (.string v_1.2.2.2.1), (.int .i64 v_1.2.2.2.2)] ∧ a.defers = [] ∧ a.tmps.size = 190 ∧ Ok [(2, (bp b1)), (3, (bp b7)), (6, (.int .i64 j32)), (29, (.bool j39))] a.tmps) ?_ ?_
    ·skip
     refine pN 1 [30] [(30, (bp b7))] ?_
     refine gv_load (t := 3) (A := ⟨b7, 0, none⟩) (.int .i64 v_1.1) [] (fun e => by cases e) rfl rfl rfl kr kr kr (inw0 (hb38.cell 0 rfl)) rfl ?_
     refine pN 2 [32, 33] [(33, (.bool (v_1.1 == 2)))] ?_
     refine gv_split (s := 33) (g := (v_1.1 == 2)) kr (fun hc41 => ?_) (fun hc41 => ?_)
     ·skip
      replace h1 := ite_t hc41 h1
      refine pN 1 [34] [(34, (.pointer (some ⟨b7, 1, none⟩)))] ?_
      refine gv_loadAgg (t := 39) (A := ⟨b7, 1, none⟩) #[(.bool v_1.2.1.1), (.slice pa1_0 (length v_1.2.1.2) pc1_0)] [] (fun e => by cases e) rfl rfl rfl kr kr kr kr (inw0 (Box.part hb38 1 _ rfl)) rfl ?_
      refine bindE h1 ?_; clear h1; intro r42 hr43 h1
      refine gv_call0 kr rfl kr enters61 (ref3_IntOk_ok fuel pa1_0 pc1_0 (v_1.2.1.1, v_1.2.1.2) w33 (fun k => X0 k) (fun k hk => (fun k (hk : X0 k) => ltl (hX0 k hk) hB35.size) k hk) ((hpa1_0.below hB35 hX0).wide (fun k hk => hk)) r42 hr43) ?_
      rintro v46 w44 ⟨hg45, rfl⟩
      refine pN 3 [29, 37, 38] [(29, (.bool (!r42)))] ?_
      refine gv_nil ?_
      have e := sj h1; subst e
      refine gv_goal fun a hd hs hok => ?_
      have hB47 := bg hB35 hg45 nb
      have hz48 := hg45.size
      have hk49 := hb37.grown hg45 nb
      have hk50 := hb38.grown hg45 nb
      exact ⟨hB47, hz48, hk49, hk50, hd, hs, okp [2, 3, 6, 29] hok⟩
     ·skip
      replace h1 := ite_f hc41 h1
      refine pN 6 [29, 34, 35, 36, 37, 38] [(29, (.bool false))] ?_
      refine gv_nil ?_
      have e := sj h1; subst e
      refine gv_goal fun a hd hs hok => ?_
      exact ⟨hB35, nrf, hb37, hb38, hd, hs, okp [2, 3, 6, 29] hok⟩
    ·rintro a w40 ⟨hB51, hz52, hb53, hb54, hd, hs, hok⟩
     refine gv_in ?_ hd hs hok
     clear hd hs hok
     clear hz52 hb38 hb37 hB35
     refine bindE h0 ?_; clear h0; intro j55 h1 h0
     refine gv_cut_code (J := fun a w56 => Below w0.heap.size w0 w56 ∧ w40.heap.size ≤ w56.heap.size ∧ Box w56 b1 49 #[(.int .u8 f_0.1), (.int .i64 f_0.2.1), (.bool f_0.2.2)] ∧ Box w56 b7 41 #[(.int .i64 v_1.1), (.bool v_1.2.1.1), (.slice pa1_0 (length v_1.2.1.2) pc1_0), (.bool v_1.2.2.1.1), (.slice pa1_1 (length v_1.2.2.1.2) pc1_1), (.string v_1.2.2.2.1), (.int .i64 v_1.2.2.2.2)] ∧ a.defers = [] ∧ a.tmps.size = 190 ∧ Ok [(2, (bp b1)), (3, (bp b7)), (6, (.int .i64 j32)), (29, (.bool j55))] a.tmps) ?_ ?_
     ·skip
      refine gv_cond (b := j39) kr (fun hc57 => ?_) (fun hc57 => ?_)
      ·replace h1 := ite_t hc57 h1
       refine gv_skip ?_
       have e := sj h1; subst e
       refine gv_goal fun a hd hs hok => ?_
       exact ⟨hB51, nrf, hb53, hb54, hd, hs, okp [2, 3, 6, 29] hok⟩
      ·replace h1 := ite_f hc57 h1
       refine gv_region <| pN 1 [39] [(39, (bp b7))] ?_
       refine gv_load (t := 3) (A := ⟨b7, 0, none⟩) (.int .i64 v_1.1) [] (fun e => by cases e) rfl rfl rfl kr kr kr (inw0 (hb54.cell 0 rfl)) rfl ?_
       refine pN 2 [41, 42] [(42, (.bool (v_1.1 == 1)))] ?_
       refine gv_split (s := 42) (g := (v_1.1 == 1)) kr (fun hc58 => ?_) (fun hc58 => ?_)
       ·skip
        replace h1 := ite_t hc58 h1
        refine pN 1 [43] [(43, (.pointer (some ⟨b7, 6, none⟩)))] ?_
        refine gv_load (t := 3) (A := ⟨b7, 6, none⟩) (.int .i64 v_1.2.2.2.2) [] (fun e => by cases e) rfl rfl rfl kr kr kr (inw0 (hb54.cell 6 rfl)) rfl ?_
        refine pN 3 [45, 46, 47] [(47, (.bool (v_1.2.2.2.2 != 0)))] ?_
        refine gv_split (s := 47) (g := (v_1.2.2.2.2 != 0)) kr (fun hc59 => ?_) (fun hc59 => ?_)
        ·skip
         replace h1 := ite_t hc59 h1
         refine pN 1 [48] [(48, (.pointer (some ⟨b7, 6, none⟩)))] ?_
         refine gv_load (t := 3) (A := ⟨b7, 6, none⟩) (.int .i64 v_1.2.2.2.2) [] (fun e => by cases e) rfl rfl rfl kr kr kr (inw0 (hb54.cell 6 rfl)) rfl ?_
         refine pN 3 [29, 50, 51] [(29, (.bool (v_1.2.2.2.2 != 1)))] ?_
         refine gv_nil ?_
         have e := sj h1; subst e
         refine gv_goal fun a hd hs hok => ?_
         exact ⟨hB51, nrf, hb53, hb54, hd, hs, okp [2, 3, 6, 29] hok⟩
        ·skip
         replace h1 := ite_f hc59 h1
         refine pN 5 [29, 48, 49, 50, 51] [(29, (.bool false))] ?_
         refine gv_nil ?_
         have e := sj h1; subst e
         refine gv_goal fun a hd hs hok => ?_
         exact ⟨hB51, nrf, hb53, hb54, hd, hs, okp [2, 3, 6, 29] hok⟩
       ·skip
        replace h1 := ite_f hc58 h1
        refine pN 10 [29, 43, 44, 45, 46, 47, 48, 49, 50, 51] [(29, (.bool false))] ?_
        refine gv_nil ?_
        have e := sj h1; subst e
        refine gv_goal fun a hd hs hok => ?_
        exact ⟨hB51, nrf, hb53, hb54, hd, hs, okp [2, 3, 6, 29] hok⟩
     ·rintro a w56 ⟨hB60, hz61, hb62, hb63, hd, hs, hok⟩
      refine gv_in ?_ hd hs hok
      clear hd hs hok
      clear hz61 hb54 hb53 hB51
      refine gv_cond (b := j55) kr (fun hc64 => ?_) (fun hc64 => ?_)
      ·replace h0 := ite_t hc64 h0
       refine gv_seq <| gv_region <| pN 2 [4, 5] [(4, (.slice none (length ([] : List UInt8)) 0)), (5, (.int .i64 6))] ?_
       refine gv_nil <| gv_cret ?_
       have e := sj h0; subst e
       refine gv_ret (gv_done [(.slice none (length ([] : List UInt8)) 0), (.int .i64 6)] rfl ⟨kr, kr, trivial⟩ ?_)
       exact ⟨grown_of_below hB60, none, 0, (fun _ => False), rfl, (Rd.nil bE w56 (fun _ => False) none 0), (fun k hk => ⟨(fun _ h => h.elim) k hk, (fun _ h => h.elim) k hk⟩)⟩
      ·replace h0 := ite_f hc64 h0
       refine gv_seq <| gv_region <| pN 1 [53] [(53, (bp b7))] ?_
       refine gv_load (t := 3) (A := ⟨b7, 0, none⟩) (.int .i64 v_1.1) [] (fun e => by cases e) rfl rfl rfl kr kr kr (inw0 (hb63.cell 0 rfl)) rfl ?_
       refine pN 3 [52, 55, 56] [(52, (.bool (v_1.1 != j32)))] ?_
       refine gv_nil <| gv_cond (b := (v_1.1 != j32)) kr (fun hc65 => ?_) (fun hc65 => ?_)
       ·replace h0 := ite_t hc65 h0
        refine gv_seq <| gv_region <| pN 2 [4, 5] [(4, (.slice none (length ([] : List UInt8)) 0)), (5, (.int .i64 13))] ?_
        refine gv_nil <| gv_cret ?_
        have e := sj h0; subst e
        refine gv_ret (gv_done [(.slice none (length ([] : List UInt8)) 0), (.int .i64 13)] rfl ⟨kr, kr, trivial⟩ ?_)
        exact ⟨grown_of_below hB60, none, 0, (fun _ => False), rfl, (Rd.nil bE w56 (fun _ => False) none 0), (fun k hk => ⟨(fun _ h => h.elim) k hk, (fun _ h => h.elim) k hk⟩)⟩
       ·replace h0 := ite_f hc65 h0
        refine gv_seq <| gv_seq <| gv_region <| bindE h0 ?_; clear h0; intro j66 h1 h0
        refine gv_cut_ops (J := fun a w67 => Below w0.heap.size w0 w67 ∧ w56.heap.size ≤ w67.heap.size ∧ Box w67 b1 49 #[(.int .u8 f_0.1), (.int .i64 f_0.2.1), (.bool f_0.2.2)] ∧ Box w67 b7 41 #[(.int .i64 v_1.1), (.bool v_1.2.1.1), (.slice pa1_0 (length v_1.2.1.2) pc1_0), (.bool v_1.2.2.1.1), (.slice pa1_1 (length v_1.2.2.1.2) pc1_1), (.string v_1.2.2.2.1), (.int .i64 v_1.2.2.2.2)] ∧ a.defers = [] ∧ a.tmps.size = 190 ∧ Ok [(2, (bp b1)), (3, (bp b7)), (57, (.bool j66))] a.tmps) ?_ ?_
        ·skip
         refine pN 1 [58] [(58, (bp b1))] ?_
         refine gv_load (t := 5) (A := ⟨b1, 0, none⟩) (.int .u8 f_0.1) [] (fun e => by cases e) rfl rfl rfl kr kr kr (inw0 (hb62.cell 0 rfl)) rfl ?_
         refine pN 2 [60, 61] [(61, (.bool (f_0.1 == 115)))] ?_
         refine gv_split (s := 61) (g := (f_0.1 == 115)) kr (fun hc68 => ?_) (fun hc68 => ?_)
         ·skip
          replace h1 := ite_t hc68 h1
          refine pN 1 [62] [(62, (.pointer (some ⟨b7, 5, none⟩)))] ?_
          refine gv_load (t := 9) (A := ⟨b7, 5, none⟩) (.string v_1.2.2.2.1) [] (fun e => by cases e) rfl rfl rfl kr kr kr (inw0 (hb63.cell 5 rfl)) rfl ?_
          refine pN 2 [64, 65] [(64, (.int .i64 ((ByteArray.size v_1.2.2.2.1 : Nat) : Int))), (65, (.pointer (some ⟨b1, 1, none⟩)))] ?_
          refine gv_load (t := 3) (A := ⟨b1, 1, none⟩) (.int .i64 f_0.2.1) [] (fun e => by cases e) rfl rfl rfl kr kr kr (inw0 (hb62.cell 1 rfl)) rfl ?_
          refine pN 3 [57, 67, 68] [(57, (.bool (((ByteArray.size v_1.2.2.2.1 : Nat) : Int) != f_0.2.1)))] ?_
          refine bindE h1 ?_; clear h1; intro n69 hn70 h1
          refine gv_name (s := 57) (v := (.bool (((ByteArray.size v_1.2.2.2.1 : Nat) : Int) != f_0.2.1))) (v' := (.bool n69)) kr (congrArg (Value.bool) (sj hn70)) ?_
          refine gv_nil ?_
          have e := sj h1; subst e
          refine gv_goal fun a hd hs hok => ?_
          exact ⟨hB60, nrf, hb62, hb63, hd, hs, okp [2, 3, 57] hok⟩
         ·skip
          replace h1 := ite_f hc68 h1
          refine pN 8 [57, 62, 63, 64, 65, 66, 67, 68] [(57, (.bool false))] ?_
          refine gv_nil ?_
          have e := sj h1; subst e
          refine gv_goal fun a hd hs hok => ?_
          exact ⟨hB60, nrf, hb62, hb63, hd, hs, okp [2, 3, 57] hok⟩
        ·rintro a w67 ⟨hB71, hz72, hb73, hb74, hd, hs, hok⟩
         refine gv_in ?_ hd hs hok
         clear hd hs hok
         clear hz72 hc65 hc64 hb63 hb62 hB60
         refine bindE h0 ?_; clear h0; intro j75 h1 h0
         refine gv_cut_code (J := fun a w76 => Below w0.heap.size w0 w76 ∧ w67.heap.size ≤ w76.heap.size ∧ Box w76 b1 49 #[(.int .u8 f_0.1), (.int .i64 f_0.2.1), (.bool f_0.2.2)] ∧ Box w76 b7 41 #[(.int .i64 v_1.1), (.bool v_1.2.1.1), (.slice pa1_0 (length v_1.2.1.2) pc1_0), (.bool v_1.2.2.1.1), (.slice pa1_1 (length v_1.2.2.1.2) pc1_1), (.string v_1.2.2.2.1), (.int .i64 v_1.2.2.2.2)] ∧ a.defers = [] ∧ a.tmps.size = 190 ∧ Ok [(2, (bp b1)), (3, (bp b7)), (57, (.bool j75))] a.tmps) ?_ ?_
         ·skip
          refine gv_cond (b := j66) kr (fun hc77 => ?_) (fun hc77 => ?_)
          ·replace h1 := ite_t hc77 h1
           refine gv_skip ?_
           have e := sj h1; subst e
           refine gv_goal fun a hd hs hok => ?_
           exact ⟨hB71, nrf, hb73, hb74, hd, hs, okp [2, 3, 57] hok⟩
          ·replace h1 := ite_f hc77 h1
           refine gv_region <| pN 1 [69] [(69, (bp b1))] ?_
           refine gv_load (t := 5) (A := ⟨b1, 0, none⟩) (.int .u8 f_0.1) [] (fun e => by cases e) rfl rfl rfl kr kr kr (inw0 (hb73.cell 0 rfl)) rfl ?_
           refine pN 2 [71, 72] [(72, (.bool (f_0.1 == 112)))] ?_
           refine gv_split (s := 72) (g := (f_0.1 == 112)) kr (fun hc78 => ?_) (fun hc78 => ?_)
           ·skip
            replace h1 := ite_t hc78 h1
            refine pN 1 [73] [(73, (.pointer (some ⟨b7, 5, none⟩)))] ?_
            refine gv_load (t := 9) (A := ⟨b7, 5, none⟩) (.string v_1.2.2.2.1) [] (fun e => by cases e) rfl rfl rfl kr kr kr (inw0 (hb74.cell 5 rfl)) rfl ?_
            refine pN 4 [57, 75, 76, 77] [(57, (.bool (decide (((ByteArray.size v_1.2.2.2.1 : Nat) : Int) > 255))))] ?_
            refine bindE h1 ?_; clear h1; intro n79 hn80 h1
            refine gv_name (s := 57) (v := (.bool (decide (((ByteArray.size v_1.2.2.2.1 : Nat) : Int) > 255)))) (v' := (.bool n79)) kr (congrArg (Value.bool) (sj hn80)) ?_
            refine gv_nil ?_
            have e := sj h1; subst e
            refine gv_goal fun a hd hs hok => ?_
            exact ⟨hB71, nrf, hb73, hb74, hd, hs, okp [2, 3, 57] hok⟩
           ·skip
            replace h1 := ite_f hc78 h1
            refine pN 6 [57, 73, 74, 75, 76, 77] [(57, (.bool false))] ?_
            refine gv_nil ?_
            have e := sj h1; subst e
            refine gv_goal fun a hd hs hok => ?_
            exact ⟨hB71, nrf, hb73, hb74, hd, hs, okp [2, 3, 57] hok⟩
         ·rintro a w76 ⟨hB81, hz82, hb83, hb84, hd, hs, hok⟩
          refine gv_in ?_ hd hs hok
          clear hd hs hok
          clear hz82 hb74 hb73 hB71
          refine gv_cond (b := j75) kr (fun hc85 => ?_) (fun hc85 => ?_)
          ·replace h0 := ite_t hc85 h0
           refine gv_seq <| gv_region <| pN 2 [4, 5] [(4, (.slice none (length ([] : List UInt8)) 0)), (5, (.int .i64 9))] ?_
           refine gv_nil <| gv_cret ?_
           have e := sj h0; subst e
           refine gv_ret (gv_done [(.slice none (length ([] : List UInt8)) 0), (.int .i64 9)] rfl ⟨kr, kr, trivial⟩ ?_)
           exact ⟨grown_of_below hB81, none, 0, (fun _ => False), rfl, (Rd.nil bE w76 (fun _ => False) none 0), (fun k hk => ⟨(fun _ h => h.elim) k hk, (fun _ h => h.elim) k hk⟩)⟩
          ·replace h0 := ite_f hc85 h0
           refine gv_seq <| gv_region <| pN 1 [79] [(79, (bp b1))] ?_
           refine gv_load (t := 5) (A := ⟨b1, 0, none⟩) (.int .u8 f_0.1) [] (fun e => by cases e) rfl rfl rfl kr kr kr (inw0 (hb83.cell 0 rfl)) rfl ?_
           refine pN 2 [78, 81] [(78, (.bool (f_0.1 == 115)))] ?_
           refine gv_nil <| gv_cond (b := (f_0.1 == 115)) kr (fun hc86 => ?_) (fun hc86 => ?_)
           ·replace h0 := ite_t hc86 h0
            refine gv_seq <| gv_region <| pN 1 [82] [(82, (.pointer (some ⟨b7, 5, none⟩)))] ?_
            refine gv_load (t := 9) (A := ⟨b7, 5, none⟩) (.string v_1.2.2.2.1) [] (fun e => by cases e) rfl rfl rfl kr kr kr (inw0 (hb84.cell 5 rfl)) rfl ?_
            refine gv_s2b (src := 9) (dst := 23) (e := 5) (s := v_1.2.2.2.1) (by decide) rfl rfl kr kr Tryz.underlying9 Tryz.underlying23 Tryz.underlying5 ?_
            rintro a87 c88 w89 hg90 hr91 hz93
            refine ⟨(fun e => by cases e), ?_⟩
            have hx94 : ∀ k, k = w76.heap.size → k < w89.heap.size := lts hz93
            have hx95 : ∀ k, k = w76.heap.size → X0 k ∨ w0.heap.size ≤ k := fun k hk => .inr (lowe hB81.size k hk)
            refine pN 2 [4, 5] [(4, (.slice a87 (length (bytesOf v_1.2.2.2.1)) c88)), (5, (.int .i64 0))] ?_
            refine gv_nil <| gv_cret ?_
            have e := sj h0; subst e
            refine gv_ret (gv_done [(.slice a87 (length (bytesOf v_1.2.2.2.1)) c88), (.int .i64 0)] rfl ⟨kr, kr, trivial⟩ ?_)
            have hB96 := bg hB81 hg90 nb
            exact ⟨grown_of_below hB96, a87, c88, (· = w76.heap.size), rfl, hr91, (fun k hk => ⟨hx94 k hk, hx95 k hk⟩)⟩
           ·replace h0 := ite_f hc86 h0
            refine gv_seq <| gv_region <| pN 1 [86] [(86, (bp b1))] ?_
            refine gv_load (t := 5) (A := ⟨b1, 0, none⟩) (.int .u8 f_0.1) [] (fun e => by cases e) rfl rfl rfl kr kr kr (inw0 (hb83.cell 0 rfl)) rfl ?_
            refine pN 2 [85, 88] [(85, (.bool (f_0.1 == 112)))] ?_
            refine gv_nil <| gv_cond (b := (f_0.1 == 112)) kr (fun hc97 => ?_) (fun hc97 => ?_)
            ·replace h0 := ite_t hc97 h0
             refine gv_seq <| gv_region <| pN 1 [89] [(89, (.pointer (some ⟨b7, 5, none⟩)))] ?_
             refine gv_load (t := 9) (A := ⟨b7, 5, none⟩) (.string v_1.2.2.2.1) [] (fun e => by cases e) rfl rfl rfl kr kr kr (inw0 (hb84.cell 5 rfl)) rfl ?_
             refine pN 2 [91, 92] [(92, (.int .u8 (IntKind.u8.wrap (((ByteArray.size v_1.2.2.2.1 : Nat) : Int)))))] ?_
             refine bindE h0 ?_; clear h0; intro b98 hb99 h0
             have hu100 := u8_spec hb99
             refine gv_new0 (fun b => .slice (some ⟨b, 0, none⟩) 1 1) #[(.int .u8 (IntKind.u8.wrap (((ByteArray.size v_1.2.2.2.1 : Nat) : Int))))] 5 kr kr ?_
             intro b101 w102 hg103 hb104 hbe105 hz106
             have ho107 : Gv.Own bE 5 w102 (fun _ => False) (some ⟨b101, 0, none⟩) 1 ([b98] : List UInt8) := Box.ownE hb104 ⟨[(.int .u8 (IntKind.u8.wrap (((ByteArray.size v_1.2.2.2.1 : Nat) : Int))))], [], rfl, (by simp only [bE, flat, hu100]), rfl⟩ (show 1 ≤ maxLen by decide) (fun h => h)
             have hl108 : ∀ g, blk (some ⟨b101, 0, none⟩) = some g → w0.heap.size ≤ g := loo hbe105 hB81.size
             refine pN 1 [94] [(94, (.pointer (some ⟨b7, 5, none⟩)))] ?_
             have hk112 := hb84.grown hg103 nb
             refine gv_load (t := 9) (A := ⟨b7, 5, none⟩) (.string v_1.2.2.2.1) [] (fun e => by cases e) rfl rfl rfl kr kr kr (inw0 (hk112.cell 5 rfl)) rfl ?_
             refine gv_s2b (src := 9) (dst := 23) (e := 5) (s := v_1.2.2.2.1) (by decide) rfl rfl kr kr Tryz.underlying9 Tryz.underlying23 Tryz.underlying5 ?_
             rintro a113 c114 w115 hg116 hr117 hz119
             refine ⟨(fun e => by cases e), ?_⟩
             have hx120 : ∀ k, k = w102.heap.size → k < w115.heap.size := lts hz119
             have hB122 := bg hB81 hg103 nb
             have hx121 : ∀ k, k = w102.heap.size → X0 k ∨ w0.heap.size ≤ k := fun k hk => .inr (lowe hB122.size k hk)
             refine bindE h0 ?_; clear h0; intro l123 hx124 h0
             have hk131 := ho107.grown hg116 (fun _ h => h.elim) nb
             refine gv_append bE (t := 23) (ty := 23) (e := 5) (a := (some ⟨b101, 0, none⟩)) (ax := a113) (cap := 1) (cx := c114) (xs := ([b98] : List UInt8)) (ys := (bytesOf v_1.2.2.2.1)) l123 (X := (fun _ => False)) (Y := (· = w102.heap.size)) (by decide) rfl rfl kr kr Tryz.underlying23 info5 hk131 hr117 hx124 (.inr fun _ _ _ _ _ h => h) (fun _ h => h.elim) ?_
             intro a125 c126 w127 hg128 ho129 hk130
             refine ⟨(fun e => by cases e), ?_⟩
             have hB133 := bg hB122 hg116 nb
             have hl132 : ∀ g, blk a125 = some g → w0.heap.size ≤ g := blk_step hk130 hl108 hB133.size
             have ap135 : ∀ g, blk (some ⟨b101, 0, none⟩) = some g → ¬ (· = b1) g := fun g e hx => nl ((lowo hbe105) g e) ((ltb hb83) _ hx)
             have hg136 := (grown_trans hg103 hg116)
             have hk137 := hb83.grown hg136 nb
             have ap134 : ∀ g, blk a125 = some g → ¬ (· = b1) g := blk_neX hk130 ap135 (ltb hk137)
             have ap139 : ¬ (fun k => blk (some ⟨b101, 0, none⟩) = some k) b1 := fun hx => nl ((lowo hbe105) _ hx) ((ltb hb83) _ rfl)
             have ap138 : ¬ (fun k => blk a125 = some k) b1 := fun h => blk_rev hk130 (fun h => (ap139) h) (hk137.lt) h
             have ap141 : ∀ g, blk (some ⟨b101, 0, none⟩) = some g → ¬ (· = b7) g := fun g e hx => nl ((lowo hbe105) g e) ((ltb hb84) _ hx)
             have hk142 := hk112.grown hg116 nb
             have ap140 : ∀ g, blk a125 = some g → ¬ (· = b7) g := blk_neX hk130 ap141 (ltb hk142)
             have ap144 : ¬ (fun k => blk (some ⟨b101, 0, none⟩) = some k) b7 := fun hx => nl ((lowo hbe105) _ hx) ((ltb hb84) _ rfl)
             have ap143 : ¬ (fun k => blk a125 = some k) b7 := fun h => blk_rev hk130 (fun h => (ap144) h) (hk142.lt) h
             have ap146 : ∀ g, blk (some ⟨b101, 0, none⟩) = some g → ¬ (· = w102.heap.size) g := fun g e hx => nl ((lowe (Nat.le_refl w102.heap.size)) _ hx) ((fun k (hk : blk (some ⟨b101, 0, none⟩) = some k) => ho107.lt k hk) g e)
             have ap145 : ∀ g, blk a125 = some g → ¬ (· = w102.heap.size) g := blk_neX hk130 ap146 hx120
             refine pN 2 [4, 5] [(4, (.slice a125 (length l123) c126)), (5, (.int .i64 0))] ?_
             refine gv_sub [4, 5] (σ' := [(4, (.slice a125 (length l123) c126)), (5, (.int .i64 0))]) kr ?_
             refine gv_nil <| gv_cret ?_
             have e := sj h0; subst e
             refine gv_ret (gv_done [(.slice a125 (length l123) c126), (.int .i64 0)] rfl ⟨kr, kr, trivial⟩ ?_)
             have hB147 := bg hB133 hg128 hl108
             exact ⟨grown_of_below hB147, a125, c126, (fun k => blk a125 = some k), rfl, (ho129.rd (Y := fun k => blk a125 = some k) (fun _ h => h.elim) (fun g e => e)), (fun k hk => ⟨(fun k (hk : blk a125 = some k) => ho129.lt k hk) k hk, (fun k (hk : blk a125 = some k) => Or.inr (hl132 k hk)) k hk⟩)⟩
            ·replace h0 := ite_f hc97 h0
             refine gv_seq <| gv_region <| pN 1 [99] [(99, (bp b1))] ?_
             refine gv_load (t := 5) (A := ⟨b1, 0, none⟩) (.int .u8 f_0.1) [] (fun e => by cases e) rfl rfl rfl kr kr kr (inw0 (hb83.cell 0 rfl)) rfl ?_
             refine pN 2 [98, 101] [(98, (.bool (f_0.1 == 63)))] ?_
             refine gv_nil <| gv_cond (b := (f_0.1 == 63)) kr (fun hc148 => ?_) (fun hc148 => ?_)
             ·replace h0 := ite_t hc148 h0
              refine gv_seq <| gv_region <| pN 1 [102] [(102, (.pointer (some ⟨b7, 6, none⟩)))] ?_
              refine gv_load (t := 3) (A := ⟨b7, 6, none⟩) (.int .i64 v_1.2.2.2.2) [] (fun e => by cases e) rfl rfl rfl kr kr kr (inw0 (hb84.cell 6 rfl)) rfl ?_
              refine pN 1 [104] [(104, (.int .u8 (IntKind.u8.wrap (v_1.2.2.2.2))))] ?_
              refine bindE h0 ?_; clear h0; intro b149 hb150 h0
              have hu151 := u8_spec hb150
              refine gv_new0 (fun b => .slice (some ⟨b, 0, none⟩) 1 1) #[(.int .u8 (IntKind.u8.wrap (v_1.2.2.2.2)))] 5 kr kr ?_
              intro b152 w153 hg154 hb155 hbe156 hz157
              have ho158 : Gv.Own bE 5 w153 (fun _ => False) (some ⟨b152, 0, none⟩) 1 ([b149] : List UInt8) := Box.ownE hb155 ⟨[(.int .u8 (IntKind.u8.wrap (v_1.2.2.2.2)))], [], rfl, (by simp only [bE, flat, hu151]), rfl⟩ (show 1 ≤ maxLen by decide) (fun h => h)
              have hl159 : ∀ g, blk (some ⟨b152, 0, none⟩) = some g → w0.heap.size ≤ g := loo hbe156 hB81.size
              clear hz157 hbe156 hb155 hu151 hb150 hc148 hc97 hc86 hc85 hb84 hb83 hbe11 hbe5 hb4 hg3
              refine pN 2 [4, 5] [(4, (.slice (some ⟨b152, 0, none⟩) (length ([b149] : List UInt8)) 1)), (5, (.int .i64 0))] ?_
              refine gv_sub [4, 5] (σ' := [(4, (.slice (some ⟨b152, 0, none⟩) (length ([b149] : List UInt8)) 1)), (5, (.int .i64 0))]) kr ?_
              refine gv_nil <| gv_cret ?_
              have e := sj h0; subst e
              refine gv_ret (gv_done [(.slice (some ⟨b152, 0, none⟩) (length ([b149] : List UInt8)) 1), (.int .i64 0)] rfl ⟨kr, kr, trivial⟩ ?_)
              have hB163 := bg hB81 hg154 nb
              exact ⟨grown_of_below hB163, (some ⟨b152, 0, none⟩), 1, (fun k => blk (some ⟨b152, 0, none⟩) = some k), rfl, (ho158.rd (Y := fun k => blk (some ⟨b152, 0, none⟩) = some k) (fun _ h => h.elim) (fun g e => e)), (fun k hk => ⟨(fun k (hk : blk (some ⟨b152, 0, none⟩) = some k) => ho158.lt k hk) k hk, (fun k (hk : blk (some ⟨b152, 0, none⟩) = some k) => Or.inr (hl159 k hk)) k hk⟩)⟩
             ·replace h0 := ite_f hc148 h0
              refine gv_skip <| gv_blk <| gv_seq <| gv_region <| pN 1 [106] [(106, (.pointer (some ⟨b7, 1, none⟩)))] ?_
              refine gv_loadAgg (t := 39) (A := ⟨b7, 1, none⟩) #[(.bool v_1.2.1.1), (.slice pa1_0 (length v_1.2.1.2) pc1_0)] [] (fun e => by cases e) rfl rfl rfl kr kr kr kr (inw0 (Box.part hb84 1 _ rfl)) rfl ?_
              refine bindE h0 ?_; clear h0; intro r164 hr165 h0
              refine gv_call0 kr rfl kr enters62 (ref3_IntOf_ok fuel pa1_0 pc1_0 (v_1.2.1.1, v_1.2.1.2) w76 (fun k => X0 k) (fun k hk => (fun k (hk : X0 k) => ltl (hX0 k hk) hB81.size) k hk) ((hpa1_0.below hB81 hX0).wide (fun k hk => hk)) r164 hr165) ?_
              rintro v168 w166 ⟨hg167, a169, c170, X172, rfl, ho171, hx173⟩
              have hx174 : ∀ k, X172 k → k < w166.heap.size := fun k hk => (hx173 k hk).1
              have hx175 : ∀ k, X172 k → X0 k ∨ w0.heap.size ≤ k := fun k hk => (hx173 k hk).2.elim (fun h => (fun k (hk : X0 k) => Or.inl hk) k h) (fun h => .inr (Nat.le_trans hB81.size h))
              refine gv_new0 (fun b => .pointer (some ⟨b, 0, none⟩)) #[(.bool false), (.slice none (length ([] : List Int)) 0)] 57 kr kr ?_
              intro b176 w177 hg178 hb179 hbe180 hz181
              refine gv_store0 57 0 (.agg #[(.bool r164.1), (.slice a169 (length r164.2) c170)]) #[(.bool r164.1), (.slice a169 (length r164.2) c170)] hb179 kr kr kr ?_
              intro w182 hg183 hb184 hz185
              refine gv_nil <| gv_seq <| gv_region <| pN 1 [110] [(110, (bp b1))] ?_
              refine gv_sub [2, 7, 110] (σ' := [(2, (bp b1)), (7, (bp b176)), (110, (bp b1))]) kr ?_
              have hg186 := (grown_trans hg167 hg178)
              have lt187 := ltl ((ltb hb4) _ rfl) ((lowb hbe11) _ rfl)
              have hk188 := hb84.grown hg167 nb
              have lt189 := ltl ((ltb hk188) _ rfl) ((lowb hbe180) _ rfl)
              have lt190 := ltt lt187 lt189
              have hk191 := (hb83.grown hg186 nb).grown hg183 (rowne (ng lt190))
              refine gv_load (t := 5) (A := ⟨b1, 0, none⟩) (.int .u8 f_0.1) [] (fun e => by cases e) rfl rfl rfl kr kr kr (inw0 (hk191.cell 0 rfl)) rfl ?_
              refine bindE h0 ?_; clear h0; intro r192 hr193 h0
              refine gv_call0 kr rfl kr enters26 (ref4_bounds_ok fuel f_0.1 w182  r192 hr193) ?_
              rintro v196 w194 ⟨hg195, a197, c198, X200, a202, c203, X205, rfl, ho199, hx201, ho204, hx206⟩
              have hx207 : ∀ k, X200 k → k < w194.heap.size := fun k hk => (hx201 k hk).1
              have hB209 := bg hB81 hg186 nb
              have hB210 := bg hB81 hg167 nb
              have hlo211 : w0.heap.size ≤ b176 := lob hbe180 hB210.size
              have hB212 := bg hB209 hg183 (rowlo hlo211)
              have hx208 : ∀ k, X200 k → X0 k ∨ w0.heap.size ≤ k := fun k hk => (hx201 k hk).2.elim (fun h => h.elim) (fun h => .inr (Nat.le_trans hB212.size h))
              have hx213 : ∀ k, X205 k → k < w194.heap.size := fun k hk => (hx206 k hk).1
              have hx214 : ∀ k, X205 k → X0 k ∨ w0.heap.size ≤ k := fun k hk => (hx206 k hk).2.elim (fun h => h.elim) (fun h => .inr (Nat.le_trans hB212.size h))
              refine pN 3 [109, 113, 114] [(113, (.agg #[(.bool r192.1.1), (.slice a197 (length r192.1.2) c198)])), (114, (.agg #[(.bool r192.2.1), (.slice a202 (length r192.2.2) c203)]))] ?_
              refine gv_new0 (fun b => .pointer (some ⟨b, 0, none⟩)) #[(.bool false), (.slice none (length ([] : List Int)) 0)] 57 kr kr ?_
              intro b215 w216 hg217 hb218 hbe219 hz220
              refine gv_new0 (fun b => .pointer (some ⟨b, 0, none⟩)) #[(.bool false), (.slice none (length ([] : List Int)) 0)] 57 kr kr ?_
              intro b221 w222 hg223 hb224 hbe225 hz226
              have hk231 := hb218.grown hg223 nb
              refine gv_store0 57 0 (.agg #[(.bool r192.1.1), (.slice a197 (length r192.1.2) c198)]) #[(.bool r192.1.1), (.slice a197 (length r192.1.2) c198)] hk231 kr kr kr ?_
              intro w227 hg228 hb229 hz230
              have lt236 := ltl ((ltb hb218) _ rfl) ((lowb hbe225) _ rfl)
              have hk237 := hb224.grown hg228 (rowne (Nat.ne_of_lt lt236))
              refine gv_store0 57 0 (.agg #[(.bool r192.2.1), (.slice a202 (length r192.2.2) c203)]) #[(.bool r192.2.1), (.slice a202 (length r192.2.2) c203)] hk237 kr kr kr ?_
              intro w232 hg233 hb234 hz235
              clear hz235 hk237 hz230 hk231 hz226 hb224 hz220 hb218 hB210 hB209 hr193 lt189 hk188 lt187 hg186 hz185 hz181 hb179 hg167 hr165 hc148 hc97 hc86 hc85 hb84 hB81 hbe11 hb4 hg3
              refine gv_nil <| gv_seq <| gv_seq <| gv_region <| bindE h0 ?_; clear h0; intro j238 h1 h0
              refine gv_cut_ops (J := fun a w239 => Below w0.heap.size w0 w239 ∧ w232.heap.size ≤ w239.heap.size ∧ Box w239 b1 49 #[(.int .u8 f_0.1), (.int .i64 f_0.2.1), (.bool f_0.2.2)] ∧ Box w239 b176 57 #[(.bool r164.1), (.slice a169 (length r164.2) c170)] ∧ Rd (iE .i64) w239 X172 a169 c170 r164.2 ∧ a.defers = [] ∧ a.tmps.size = 190 ∧ Ok [(2, (bp b1)), (7, (bp b176)), (124, (.bool j238))] a.tmps) ?_ ?_
              ·skip
               have hg240 := (grown_trans (grown_trans hg195 hg217) hg223)
               have hk241 := hb184.grown hg195 nb
               have lt242 := ltl ((ltb hk241) _ rfl) ((lowb hbe219) _ rfl)
               have lt243 := ltt lt242 lt236
               have hk244 := ((hb184.grown hg240 nb).grown hg228 (rowne (ng lt242))).grown hg233 (rowne (ng lt243))
               refine gv_loadBox (t := 57) (b := b176) (t' := 57) (fr := (0, 0)) #[(.bool r164.1), (.slice a169 (length r164.2) c170)] [] (fun e => by cases e) rfl rfl rfl kr kr kr kr (inw0 hk244) rfl ?_
               have hk245 := hb229.grown hg233 (rowne (ng lt236))
               refine gv_loadBox (t := 57) (b := b215) (t' := 57) (fr := (0, 0)) #[(.bool r192.1.1), (.slice a197 (length r192.1.2) c198)] [] (fun e => by cases e) rfl rfl rfl kr kr kr kr (inw0 hk245) rfl ?_
               refine bindE h1 ?_; clear h1; intro r246 hr247 h1
               have hx248 := ltx (ltx (ltx (ltx (ltx hx174 hg178.size) hg183.size) hg240.size) hg228.size) hg233.size
               have hg249 := (grown_trans hg217 hg223)
               have hx250 := ltx (ltx (ltx hx207 hg249.size) hg228.size) hg233.size
               have ap251 : ¬ X172 b176 := fun hx => nl ((lowb hbe180) _ rfl) (hx174 _ hx)
               have hx252 := ltx hx174 hg178.size
               have hx253 := ltx hx252 hg183.size
               have hx254 := ltx hx253 hg195.size
               have ap255 : ¬ X172 b215 := fun hx => nl ((lowb hbe219) _ rfl) (hx254 _ hx)
               have hx256 := ltx hx254 hg249.size
               have hx257 := ltx hx254 hg217.size
               have ap258 : ¬ X172 b221 := fun hx => nl ((lowb hbe225) _ rfl) (hx257 _ hx)
               have hx259 := ltx hx256 hg228.size
               have hk260 := ((((ho171.grown hg178 hx174 nb).grown hg183 hx252 (rowne ap251)).grown hg240 hx253 nb).grown hg228 hx256 (rowne ap255)).grown hg233 hx259 (rowne ap258)
               have ap261 : ¬ X200 b215 := fun hx => nl ((lowb hbe219) _ rfl) (hx207 _ hx)
               have hx262 := ltx hx207 hg249.size
               have hx263 := ltx hx207 hg217.size
               have ap264 : ¬ X200 b221 := fun hx => nl ((lowb hbe225) _ rfl) (hx263 _ hx)
               have hx265 := ltx hx262 hg228.size
               have hk266 := ((ho199.grown hg249 hx207 nb).grown hg228 hx262 (rowne ap261)).grown hg233 hx265 (rowne ap264)
               refine gv_call0 kr rfl kr enters27 (ref3_Int_Order_ok fuel a169 c170 (r164.1, r164.2) a197 c198 (r192.1.1, r192.1.2) w232 (fun k => X172 k ∨ X200 k) (fun k hk => (hk).elim (fun h => hx248 k h) (fun h => hx250 k h)) (hk260.wide (fun k hk => (.inl hk))) (hk266.wide (fun k hk => (.inr hk))) r246 hr247) ?_
               rintro v269 w267 ⟨hg268, rfl⟩
               refine pN 2 [118, 119] [(119, (.bool (decide (r246 < 0))))] ?_
               refine gv_split (s := 119) (g := (decide (r246 < 0))) kr (fun hc270 => ?_) (fun hc270 => ?_)
               ·skip
                replace h1 := ite_t hc270 h1
                refine pN 5 [120, 121, 122, 123, 124] [(124, (.bool true))] ?_
                refine gv_nil ?_
                have e := sj h1; subst e
                refine gv_goal fun a hd hs hok => ?_
                have hB271 := bg hB212 hg240 nb
                have hB272 := bg hB212 hg195 nb
                have hlo273 : w0.heap.size ≤ b215 := lob hbe219 hB272.size
                have hB274 := bg hB271 hg228 (rowlo hlo273)
                have hB275 := bg hB272 hg217 nb
                have hlo276 : w0.heap.size ≤ b221 := lob hbe225 hB275.size
                have hB277 := bg hB274 hg233 (rowlo hlo276)
                have hB278 := bg hB277 hg268 nb
                have hz279 := hg268.size
                have lt280 := ltt lt190 lt242
                have lt281 := ltt lt280 lt236
                have hk282 := (((hk191.grown hg240 nb).grown hg228 (rowne (ng lt280))).grown hg233 (rowne (ng lt281))).grown hg268 nb
                have hk283 := hk244.grown hg268 nb
                have hk284 := hk260.grown hg268 hx248 nb
                exact ⟨hB278, hz279, hk282, hk283, hk284, hd, hs, okp [2, 7, 124] hok⟩
               ·skip
                replace h1 := ite_f hc270 h1
                have hk285 := hk244.grown hg268 nb
                refine gv_loadBox (t := 57) (b := b176) (t' := 57) (fr := (0, 0)) #[(.bool r164.1), (.slice a169 (length r164.2) c170)] [] (fun e => by cases e) rfl rfl rfl kr kr kr kr (inw0 hk285) rfl ?_
                have hk286 := hb234.grown hg268 nb
                refine gv_loadBox (t := 57) (b := b221) (t' := 57) (fr := (0, 0)) #[(.bool r192.2.1), (.slice a202 (length r192.2.2) c203)] [] (fun e => by cases e) rfl rfl rfl kr kr kr kr (inw0 hk286) rfl ?_
                refine bindE h1 ?_; clear h1; intro r287 hr288 h1
                have hx289 := ltx hx248 hg268.size
                have hx290 := ltx (ltx (ltx (ltx hx213 hg249.size) hg228.size) hg233.size) hg268.size
                have hk291 := hk260.grown hg268 hx248 nb
                have ap292 : ¬ X205 b215 := fun hx => nl ((lowb hbe219) _ rfl) (hx213 _ hx)
                have hx293 := ltx hx213 hg249.size
                have hx294 := ltx hx213 hg217.size
                have ap295 : ¬ X205 b221 := fun hx => nl ((lowb hbe225) _ rfl) (hx294 _ hx)
                have hx296 := ltx hx293 hg228.size
                have hx297 := ltx hx296 hg233.size
                have hk298 := (((ho204.grown hg249 hx213 nb).grown hg228 hx293 (rowne ap292)).grown hg233 hx296 (rowne ap295)).grown hg268 hx297 nb
                refine gv_call0 kr rfl kr enters27 (ref3_Int_Order_ok fuel a169 c170 (r164.1, r164.2) a202 c203 (r192.2.1, r192.2.2) w267 (fun k => X172 k ∨ X205 k) (fun k hk => (hk).elim (fun h => hx289 k h) (fun h => hx290 k h)) (hk291.wide (fun k hk => (.inl hk))) (hk298.wide (fun k hk => (.inr hk))) r287 hr288) ?_
                rintro v301 w299 ⟨hg300, rfl⟩
                refine pN 2 [123, 124] [(124, (.bool (decide (r287 > 0))))] ?_
                refine gv_sub [2, 7, 124] (σ' := [(2, (bp b1)), (7, (bp b176)), (124, (.bool (decide (r287 > 0))))]) kr ?_
                refine gv_nil ?_
                have e := sj h1; subst e
                refine gv_goal fun a hd hs hok => ?_
                have hB302 := bg hB212 hg240 nb
                have hB303 := bg hB212 hg195 nb
                have hlo304 : w0.heap.size ≤ b215 := lob hbe219 hB303.size
                have hB305 := bg hB302 hg228 (rowlo hlo304)
                have hB306 := bg hB303 hg217 nb
                have hlo307 : w0.heap.size ≤ b221 := lob hbe225 hB306.size
                have hB308 := bg hB305 hg233 (rowlo hlo307)
                have hg309 := (grown_trans hg268 hg300)
                have hB310 := bg hB308 hg309 nb
                have hz311 := (nt hg268.size hg300.size)
                have lt312 := ltt lt190 lt242
                have lt313 := ltt lt312 lt236
                have hk314 := (((hk191.grown hg240 nb).grown hg228 (rowne (ng lt312))).grown hg233 (rowne (ng lt313))).grown hg309 nb
                have hk315 := hk285.grown hg300 nb
                have hk316 := hk291.grown hg300 hx289 nb
                exact ⟨hB310, hz311, hk314, hk315, hk316, hd, hs, okp [2, 7, 124] hok⟩
              ·rintro a w239 ⟨hB317, hz318, hb319, hb320, hk321, hd, hs, hok⟩
               refine gv_in ?_ hd hs hok
               clear hd hs hok
               clear hb234 lt236 hb229 hbe225 hbe219 hx214 hx213 hx208 hB212 hx207 hx206 ho204 hx201 ho199 hk191 hb184 ho171
               refine gv_cond (b := j238) kr (fun hc322 => ?_) (fun hc322 => ?_)
               ·replace h0 := ite_t hc322 h0
                refine gv_seq <| gv_region <| pN 2 [4, 5] [(4, (.slice none (length ([] : List UInt8)) 0)), (5, (.int .i64 4))] ?_
                refine gv_nil <| gv_cret ?_
                have e := sj h0; subst e
                refine gv_ret (gv_done [(.slice none (length ([] : List UInt8)) 0), (.int .i64 4)] rfl ⟨kr, kr, trivial⟩ ?_)
                exact ⟨grown_of_below hB317, none, 0, (fun _ => False), rfl, (Rd.nil bE w239 (fun _ => False) none 0), (fun k hk => ⟨(fun _ h => h.elim) k hk, (fun _ h => h.elim) k hk⟩)⟩
               ·replace h0 := ite_f hc322 h0
                refine gv_skip <| gv_seq <| gv_seq <| gv_region <| pN 1 [125] [(125, (bp b1))] ?_
                refine gv_load (t := 5) (A := ⟨b1, 0, none⟩) (.int .u8 f_0.1) [] (fun e => by cases e) rfl rfl rfl kr kr kr (inw0 (hb319.cell 0 rfl)) rfl ?_
                refine pN 1 [127] [(127, (.bool (f_0.1 == 118)))] ?_
                refine gv_nil <| gv_cond (b := (f_0.1 == 118)) kr (fun hc323 => ?_) (fun hc323 => ?_)
                ·replace h0 := ite_t hc323 h0
                 refine gv_seq <| gv_region <| gv_loadBox (t := 57) (b := b176) (t' := 57) (fr := (0, 0)) #[(.bool r164.1), (.slice a169 (length r164.2) c170)] [] (fun e => by cases e) rfl rfl rfl kr kr kr kr (inw0 hb320) rfl ?_
                 refine gv_loadBox (t := 57) (b := b176) (t' := 57) (fr := (0, 0)) #[(.bool r164.1), (.slice a169 (length r164.2) c170)] [] (fun e => by cases e) rfl rfl rfl kr kr kr kr (inw0 hb320) rfl ?_
                 refine bindE h0 ?_; clear h0; intro r324 hr325 h0
                 have hg326 := (grown_trans (grown_trans hg195 hg217) hg223)
                 have hx327 := ltx (ltx (ltx (ltx (ltx hx174 hg178.size) hg183.size) hg326.size) hg228.size) hg233.size
                 refine gv_call0 kr rfl kr enters21 (ref3_Int_Plus_ok fuel a169 c170 (r164.1, r164.2) a169 c170 (r164.1, r164.2) w239 (fun k => X172 k ∨ X172 k) (fun k hk => (hk).elim (fun h => (fun k hk => ltl (hx327 k hk) hz318) k h) (fun h => (fun k hk => ltl (hx327 k hk) hz318) k h)) (hk321.wide (fun k hk => (.inl hk))) (hk321.wide (fun k hk => (.inr hk))) r324 hr325) ?_
                 rintro v330 w328 ⟨hg329, a331, c332, X334, rfl, ho333, hx335⟩
                 have hx336 : ∀ k, X334 k → k < w328.heap.size := fun k hk => (hx335 k hk).1
                 have hx337 : ∀ k, X334 k → X0 k ∨ w0.heap.size ≤ k := fun k hk => (hx335 k hk).2.elim (fun h => (h).elim (fun h => hx175 k h) (fun h => hx175 k h)) (fun h => .inr (Nat.le_trans hB317.size h))
                 refine gv_new0 (fun b => .pointer (some ⟨b, 0, none⟩)) #[(.bool false), (.slice none (length ([] : List Int)) 0)] 57 kr kr ?_
                 intro b338 w339 hg340 hb341 hbe342 hz343
                 refine gv_store0 57 0 (.agg #[(.bool r324.1), (.slice a331 (length r324.2) c332)]) #[(.bool r324.1), (.slice a331 (length r324.2) c332)] hb341 kr kr kr ?_
                 intro w344 hg345 hb346 hz347
                 refine gv_nil <| gv_seq <| gv_seq <| gv_region <| pN 1 [131] [(131, (bp b176))] ?_
                 have hg348 := (grown_trans hg329 hg340)
                 have hk349 := hb320.grown hg329 nb
                 have lt350 := ltl ((ltb hk349) _ rfl) ((lowb hbe342) _ rfl)
                 have hk351 := (hb320.grown hg348 nb).grown hg345 (rowne (ng lt350))
                 refine gv_load (t := 4) (A := ⟨b176, 0, none⟩) (.bool r164.1) [] (fun e => by cases e) rfl rfl rfl kr kr kr (inw0 (hk351.cell 0 rfl)) rfl ?_
                 refine gv_nil <| bindE h0 ?_; clear h0; intro j352 h1 h0
                 refine gv_cut_code (J := fun a w353 => ∃ (abb338_0j : Option Addr) (cbb338_0j : Nat), ∃ (Xbb338_0j : Nat → Prop), Below w0.heap.size w0 w353 ∧ w344.heap.size ≤ w353.heap.size ∧ Rd (iE .i64) w353 Xbb338_0j abb338_0j cbb338_0j j352.2 ∧ (∀ k, Xbb338_0j k → k < w353.heap.size) ∧ (∀ k, Xbb338_0j k → X0 k ∨ w0.heap.size ≤ k) ∧ ¬ Xbb338_0j b338 ∧ Box w353 b338 57 #[(.bool j352.1), (.slice abb338_0j (length j352.2) cbb338_0j)] ∧ a.defers = [] ∧ a.tmps.size = 190 ∧ Ok [(10, (bp b338))] a.tmps) ?_ ?_
                 ·skip
                  refine gv_cond (b := r164.1) kr (fun hc354 => ?_) (fun hc354 => ?_)
                  ·replace h1 := ite_t hc354 h1
                   refine gv_region <| gv_loadBox (t := 57) (b := b338) (t' := 57) (fr := (0, 0)) #[(.bool r324.1), (.slice a331 (length r324.2) c332)] [] (fun e => by cases e) rfl rfl rfl kr kr kr kr (inw0 hb346) rfl ?_
                   refine bindE h1 ?_; clear h1; intro r355 hr356 h1
                   have hx357 := ltx (ltx hx336 hg340.size) hg345.size
                   have ap358 : ¬ X334 b338 := fun hx => nl ((lowb hbe342) _ rfl) (hx336 _ hx)
                   have hx359 := ltx hx336 hg340.size
                   have hk360 := (ho333.grown hg340 hx336 nb).grown hg345 hx359 (rowne ap358)
                   refine gv_call0 kr rfl kr enters24 (ref3_Int_Minus_ok fuel a331 c332 (r324.1, r324.2) w344 (fun k => X334 k) (fun k hk => hx357 k hk) (hk360.wide (fun k hk => hk)) r355 hr356) ?_
                   rintro v363 w361 ⟨hg362, a364, c365, X367, rfl, ho366, hx368⟩
                   have hx369 : ∀ k, X367 k → k < w361.heap.size := fun k hk => (hx368 k hk).1
                   have hB371 := bg hB317 hg348 nb
                   have hB372 := bg hB317 hg329 nb
                   have hlo373 : w0.heap.size ≤ b338 := lob hbe342 hB372.size
                   have hB374 := bg hB371 hg345 (rowlo hlo373)
                   have hx370 : ∀ k, X367 k → X0 k ∨ w0.heap.size ≤ k := fun k hk => (hx368 k hk).2.elim (fun h => hx337 k h) (fun h => .inr (Nat.le_trans hB374.size h))
                   refine bindE h1 ?_; clear h1; intro r375 hr376 h1
                   refine gv_call0 kr rfl kr enters20 (ref3_Number_ok fuel (-1) w361  r375 hr376) ?_
                   rintro v379 w377 ⟨hg378, a380, c381, X383, rfl, ho382, hx384⟩
                   have hx385 : ∀ k, X383 k → k < w377.heap.size := fun k hk => (hx384 k hk).1
                   have hB387 := bg hB374 hg362 nb
                   have hx386 : ∀ k, X383 k → X0 k ∨ w0.heap.size ≤ k := fun k hk => (hx384 k hk).2.elim (fun h => h.elim) (fun h => .inr (Nat.le_trans hB387.size h))
                   refine bindE h1 ?_; clear h1; intro r388 hr389 h1
                   have hx390 := ltx hx369 hg378.size
                   have hk391 := ho366.grown hg378 hx369 nb
                   refine gv_call0 kr rfl kr enters21 (ref3_Int_Plus_ok fuel a364 c365 (r355.1, r355.2) a380 c381 (r375.1, r375.2) w377 (fun k => X367 k ∨ X383 k) (fun k hk => (hk).elim (fun h => hx390 k h) (fun h => hx385 k h)) (hk391.wide (fun k hk => (.inl hk))) (ho382.wide (fun k hk => (.inr hk))) r388 hr389) ?_
                   rintro v394 w392 ⟨hg393, a395, c396, X398, rfl, ho397, hx399⟩
                   have hx400 : ∀ k, X398 k → k < w392.heap.size := fun k hk => (hx399 k hk).1
                   have hB402 := bg hB387 hg378 nb
                   have hx401 : ∀ k, X398 k → X0 k ∨ w0.heap.size ≤ k := fun k hk => (hx399 k hk).2.elim (fun h => (h).elim (fun h => hx370 k h) (fun h => hx386 k h)) (fun h => .inr (Nat.le_trans hB402.size h))
                   have hz403 := (nt (nt hg362.size hg378.size) hg393.size)
                   clear hk391 hx390 hr389 hx386 hB387 hx385 ho382 hr376 hx370 hB374 hB372 hB371 hx369 ho366 hx359 hr356 hc354 hk351 lt350 hk349 hg348 hz347 hg345 hz343 hbe342 hb341 hg340 hx336 hx335 ho333 hg329 hx327 hg326 hr325 hc323 hc322 hk321 hb320 hb319 hz318 hB317 hg233 hg228 hg223 hg217 hlo211 hg195 lt190 hg183 hbe180 hg178 hx175 hx174 hx173 hb83 hbe5
                   refine gv_sub [10, 136] (σ' := [(10, (bp b338)), (136, (.agg #[(.bool r388.1), (.slice a395 (length r388.2) c396)]))]) kr ?_
                   have hg408 := (grown_trans (grown_trans hg362 hg378) hg393)
                   have hk409 := hb346.grown hg408 nb
                   refine gv_store0 57 0 (.agg #[(.bool r388.1), (.slice a395 (length r388.2) c396)]) #[(.bool r388.1), (.slice a395 (length r388.2) c396)] hk409 kr kr kr ?_
                   intro w404 hg405 hb406 hz407
                   refine gv_nil ?_
                   have e := sj h1; subst e
                   refine gv_goal fun a hd hs hok => ?_
                   have hB410 := bg hB402 hg393 nb
                   have hB411 := bg hB410 hg405 (rowlo hlo373)
                   have hz412 := (nt hz403 hg405.size)
                   have ap413 : ¬ X367 b338 := fun h => ((hx368 _ h).2.elim (fun h => (ap358)  h) (fun h => nl h (hb346.lt)))
                   have hk414 := hb346.grown hg362 nb
                   have ap415 : ¬ X383 b338 := fun h => ((hx384 _ h).2.elim (fun h => h.elim) (fun h => nl h (hk414.lt)))
                   have hk416 := hk414.grown hg378 nb
                   have ap417 : ¬ X398 b338 := fun h => ((hx399 _ h).2.elim (fun h => (h).elim (fun h => (ap413)  h) (fun h => (ap415)  h)) (fun h => nl h (hk416.lt)))
                   have hk418 := ho397.grown hg405 hx400 (rowne ap417)
                   have hx419 := ltx hx400 hg405.size
                   exact ⟨a395, c396, X398, hB411, hz412, hk418, hx419, hx401, ap417, hb406, hd, hs, okp [10] hok⟩
                  ·replace h1 := ite_f hc354 h1
                   refine gv_skip ?_
                   have e := sj h1; subst e
                   refine gv_goal fun a hd hs hok => ?_
                   have hB420 := bg hB317 hg348 nb
                   have hB421 := bg hB317 hg329 nb
                   have hlo422 : w0.heap.size ≤ b338 := lob hbe342 hB421.size
                   have hB423 := bg hB420 hg345 (rowlo hlo422)
                   have ap424 : ¬ X334 b338 := fun hx => nl ((lowb hbe342) _ rfl) (hx336 _ hx)
                   have hx425 := ltx hx336 hg340.size
                   have hk426 := (ho333.grown hg340 hx336 nb).grown hg345 hx425 (rowne ap424)
                   have hx427 := ltx hx425 hg345.size
                   exact ⟨a331, c332, X334, hB423, nrf, hk426, hx427, hx337, ap424, hb346, hd, hs, okp [10] hok⟩
                 ·rintro a w353 ⟨a430, c431, X430, hB428, hz429, hr432, hx433, hx434, ap435, hb436, hd, hs, hok⟩
                  refine gv_in ?_ hd hs hok
                  clear hd hs hok
                  clear hz429 hk351 lt350 hk349 hg348 hz347 hb346 hg345 hz343 hb341 hg340 hx337 hx336 hx335 ho333 hx327 hg326 hr325 hc323 hc322 hk321 hb320 hb319 hz318 hg233 hg228 hg223 hg217 hlo211 hg195 lt190 hg183 hbe180 hg178 hx175 hx174 hx173 hb83 hbe5
                  refine gv_seq <| gv_region <| pN 1 [11] [(11, (.slice none (length ([] : List UInt8)) 0))] ?_
                  refine gv_nil <| bindE h0 ?_; clear h0; intro j437 h1 h0
                  refine gv_cut_code (J := fun a w439 => ∃ s438 : Unit, j437 = .inl s438 ∧ Below w0.heap.size w0 w439 ∧ w353.heap.size ≤ w439.heap.size ∧ a.defers = [] ∧ a.tmps.size = 190 ∧ Ok [] a.tmps) ?_ ?_
                  ·skip
                   refine gv_block <| gv_loop (A := fun (s440 : ((List UInt8) × (Bool × (List Int)))) a w441 => ∃ (a11_0j : Option Addr) (c11_0j : Nat), ∃ (abb338_0j : Option Addr) (cbb338_0j : Nat), ∃ (Xbb338_0j : Nat → Prop), Below w0.heap.size w0 w441 ∧ w353.heap.size ≤ w441.heap.size ∧ Gv.Own bE 5 w441 (fun _ => False) a11_0j c11_0j s440.1 ∧ (∀ g, blk a11_0j = some g → w0.heap.size ≤ g) ∧ Rd (iE .i64) w441 Xbb338_0j abb338_0j cbb338_0j s440.2.2 ∧ (∀ k, Xbb338_0j k → k < w441.heap.size) ∧ (∀ k, Xbb338_0j k → X0 k ∨ w0.heap.size ≤ k) ∧ (∀ g, blk a11_0j = some g → ¬ Xbb338_0j g) ∧ (∀ g, blk a11_0j = some g → ¬ (· = b338) g) ∧ ¬ (fun k => blk a11_0j = some k) b338 ∧ ¬ Xbb338_0j b338 ∧ Box w441 b338 57 #[(.bool s440.2.1), (.slice abb338_0j (length s440.2.2) cbb338_0j)] ∧ a.defers = [] ∧ a.tmps.size = 190 ∧ Ok [(10, (bp b338)), (11, (.slice a11_0j (length s440.1) c11_0j))] a.tmps) h1 ?_ ?_
                   ·intro a hd hs hok
                    exact ⟨none, 0, a430, c431, X430, hB428, nrf, (Gv.Own.nil bE 5 w353 (fun _ => False)), (fun _ h => by cases h), hr432, hx433, hx434, (fun _ h => by cases h), (fun _ h => by cases h), (fun h => by cases h), ap435, hb436, hd, hs, okp [10, 11] hok⟩
                   ·rintro s440 r2 h2 hR2 a w441 ⟨a444, c445, a446, c447, X446, hB442, hz443, ho448, hl449, hr450, hx451, hx452, ap453, ap454, ap455, ap456, hb457, hd, hs, hok⟩
                    refine gv_in ?_ hd hs hok
                    clear hd hs hok
                    clear hb436 ap435 hx434 hx433 hr432 hB428
                    refine gv_block <| gv_seq <| gv_region <| pN 1 [138] [(138, (.pointer (some ⟨b338, 1, none⟩)))] ?_
                    refine gv_load (t := 55) (A := ⟨b338, 1, none⟩) (.slice a446 (length s440.2.2) c447) [] (fun e => by cases e) rfl rfl rfl kr kr kr (inw0 (hb457.cell 1 rfl)) rfl ?_
                    refine bindE h2 ?_; clear h2; intro r458 hr459 h2
                    refine gv_call0 kr rfl kr enters23 (ref3_Halve_ok fuel a446 c447 s440.2.2 128 w441 (fun k => X446 k) (fun k hk => hx451 k hk) (hr450.wide (fun k hk => hk)) r458 hr459) ?_
                    rintro v462 w460 ⟨hg461, a463, c464, X466, rfl, ho465, hx467⟩
                    have hx468 : ∀ k, X466 k → k < w460.heap.size := fun k hk => (hx467 k hk).1
                    have hx469 : ∀ k, X466 k → X0 k ∨ w0.heap.size ≤ k := fun k hk => (hx467 k hk).2.elim (fun h => hx452 k h) (fun h => .inr (Nat.le_trans hB442.size h))
                    refine pN 5 [12, 13, 137, 141, 142] [(12, (.slice a463 (length r458.1) c464)), (13, (.int .i64 r458.2))] ?_
                    refine gv_nil <| gv_seq <| gv_seq <| gv_region <| pN 3 [143, 144, 145] [(145, (.bool (((length r458.1 : Nat) : Int) == 0)))] ?_
                    refine gv_nil <| gv_cond (b := (((length r458.1 : Nat) : Int) == 0)) kr (fun hc470 => ?_) (fun hc470 => ?_)
                    ·replace h2 := ite_t hc470 h2
                     refine gv_seq <| gv_region <| pN 3 [146, 147, 148] [(146, (.slice a444 (length s440.1) c445)), (148, (.int .u8 (IntKind.u8.wrap (r458.2))))] ?_
                     refine bindE h2 ?_; clear h2; intro b471 hb472 h2
                     have hu473 := u8_spec hb472
                     refine gv_new0 (fun b => .slice (some ⟨b, 0, none⟩) 1 1) #[(.int .u8 (IntKind.u8.wrap (r458.2)))] 5 kr kr ?_
                     intro b474 w475 hg476 hb477 hbe478 hz479
                     have ho480 : Gv.Own bE 5 w475 (fun _ => False) (some ⟨b474, 0, none⟩) 1 ([b471] : List UInt8) := Box.ownE hb477 ⟨[(.int .u8 (IntKind.u8.wrap (r458.2)))], [], rfl, (by simp only [bE, flat, hu473]), rfl⟩ (show 1 ≤ maxLen by decide) (fun h => h)
                     have hB485 := bg hB442 hg461 nb
                     have hl481 : ∀ g, blk (some ⟨b474, 0, none⟩) = some g → w0.heap.size ≤ g := loo hbe478 hB485.size
                     refine bindE h2 ?_; clear h2; intro l486 hx487 h2
                     have hg494 := (grown_trans hg461 hg476)
                     have hk495 := ho448.grown hg494 (fun _ h => h.elim) nb
                     refine gv_append bE (t := 23) (ty := 23) (e := 5) (a := a444) (ax := (some ⟨b474, 0, none⟩)) (cap := c445) (cx := 1) (xs := s440.1) (ys := ([b471] : List UInt8)) l486 (X := (fun _ => False)) (Y := (fun k => blk (some ⟨b474, 0, none⟩) = some k)) (by decide) rfl rfl kr kr Tryz.underlying23 info5 hk495 (ho480.rd (Y := fun k => blk (some ⟨b474, 0, none⟩) = some k) (fun _ h => h.elim) (fun g e => e)) hx487 (.inr fun _ _ _ _ _ h => h) (fun _ h => h.elim) ?_
                     intro a488 c489 w490 hg491 ho492 hk493
                     refine ⟨(fun e => by cases e), ?_⟩
                     have hB497 := bg hB485 hg476 nb
                     have hl496 : ∀ g, blk a488 = some g → w0.heap.size ≤ g := blk_step hk493 hl449 hB497.size
                     have hx499 := ltx hx451 hg494.size
                     have ap498 : ∀ g, blk a488 = some g → ¬ X446 g := blk_neX hk493 ap453 hx499
                     have hk501 := hb457.grown hg494 nb
                     have ap500 : ∀ g, blk a488 = some g → ¬ (· = b338) g := blk_neX hk493 ap454 (ltb hk501)
                     have ap502 : ¬ (fun k => blk a488 = some k) b338 := fun h => blk_rev hk493 (fun h => (ap455) h) (hk501.lt) h
                     have ap504 : ∀ g, blk a444 = some g → ¬ X466 g := fun g e h => ((hx467 _ h).2.elim (fun h => (ap453) g e h) (fun h => nl h (ho448.lt g e)))
                     have hx505 := ltx hx468 hg476.size
                     have ap503 : ∀ g, blk a488 = some g → ¬ X466 g := blk_neX hk493 ap504 hx505
                     have hk507 := ho448.grown hg461 (fun _ h => h.elim) nb
                     have ap508 : ∀ g, blk a444 = some g → ¬ (fun k => blk (some ⟨b474, 0, none⟩) = some k) g := fun g e hx => nl ((lowo hbe478) _ hx) ((fun k (hk : blk a444 = some k) => hk507.lt k hk) g e)
                     have ap506 : ∀ g, blk a488 = some g → ¬ (fun k => blk (some ⟨b474, 0, none⟩) = some k) g := blk_neX hk493 ap508 (fun k (hk : blk (some ⟨b474, 0, none⟩) = some k) => ho480.lt k hk)
                     have ap510 : ∀ g, blk (some ⟨b474, 0, none⟩) = some g → ¬ (fun k => blk a444 = some k) g := fun g e hx => nl ((lowo hbe478) g e) ((fun k (hk : blk a444 = some k) => hk507.lt k hk) _ hx)
                     have ap509 : ∀ g, blk (some ⟨b474, 0, none⟩) = some g → ¬ (fun k => blk a488 = some k) g := fun g e h => blk_rev hk493 (fun h => ((ap510) g e) h) (ho480.lt g e) h
                     refine pN 2 [4, 5] [(4, (.slice a488 (length l486) c489)), (5, (.int .i64 0))] ?_
                     refine gv_nil <| gv_cret ?_
                     have e := sj h2; subst e
                     replace h1 := congrArg some (hR2 _ rfl)
                     have e := sj h1; subst e
                     replace h0 := cont_inr h0
                     have e := sj h0; subst e
                     refine gv_ret (gv_done [(.slice a488 (length l486) c489), (.int .i64 0)] rfl ⟨kr, kr, trivial⟩ ?_)
                     have hB511 := bg hB497 hg491 hl449
                     exact ⟨grown_of_below hB511, a488, c489, (fun k => blk a488 = some k), rfl, (ho492.rd (Y := fun k => blk a488 = some k) (fun _ h => h.elim) (fun g e => e)), (fun k hk => ⟨(fun k (hk : blk a488 = some k) => ho492.lt k hk) k hk, (fun k (hk : blk a488 = some k) => Or.inr (hl496 k hk)) k hk⟩)⟩
                    ·replace h2 := ite_f hc470 h2
                     refine gv_skip <| gv_seq <| gv_region <| pN 4 [151, 152, 153, 154] [(151, (.slice a444 (length s440.1) c445)), (154, (.int .u8 (IntKind.u8.wrap ((IntKind.i64.wrap (r458.2 + 128))))))] ?_
                     refine bindE h2 ?_; clear h2; intro b512 hb513 h2
                     have hu514 := u8_spec hb513
                     refine gv_new0 (fun b => .slice (some ⟨b, 0, none⟩) 1 1) #[(.int .u8 (IntKind.u8.wrap ((IntKind.i64.wrap (r458.2 + 128)))))] 5 kr kr ?_
                     intro b515 w516 hg517 hb518 hbe519 hz520
                     have ho521 : Gv.Own bE 5 w516 (fun _ => False) (some ⟨b515, 0, none⟩) 1 ([b512] : List UInt8) := Box.ownE hb518 ⟨[(.int .u8 (IntKind.u8.wrap ((IntKind.i64.wrap (r458.2 + 128)))))], [], rfl, (by simp only [bE, flat, hu514]), rfl⟩ (show 1 ≤ maxLen by decide) (fun h => h)
                     have hB526 := bg hB442 hg461 nb
                     have hl522 : ∀ g, blk (some ⟨b515, 0, none⟩) = some g → w0.heap.size ≤ g := loo hbe519 hB526.size
                     refine bindE h2 ?_; clear h2; intro l527 hx528 h2
                     have hg535 := (grown_trans hg461 hg517)
                     have hk536 := ho448.grown hg535 (fun _ h => h.elim) nb
                     refine gv_append bE (t := 23) (ty := 23) (e := 5) (a := a444) (ax := (some ⟨b515, 0, none⟩)) (cap := c445) (cx := 1) (xs := s440.1) (ys := ([b512] : List UInt8)) l527 (X := (fun _ => False)) (Y := (fun k => blk (some ⟨b515, 0, none⟩) = some k)) (by decide) rfl rfl kr kr Tryz.underlying23 info5 hk536 (ho521.rd (Y := fun k => blk (some ⟨b515, 0, none⟩) = some k) (fun _ h => h.elim) (fun g e => e)) hx528 (.inr fun _ _ _ _ _ h => h) (fun _ h => h.elim) ?_
                     intro a529 c530 w531 hg532 ho533 hk534
                     refine ⟨(fun e => by cases e), ?_⟩
                     have hB538 := bg hB526 hg517 nb
                     have hl537 : ∀ g, blk a529 = some g → w0.heap.size ≤ g := blk_step hk534 hl449 hB538.size
                     have hx540 := ltx hx451 hg535.size
                     have ap539 : ∀ g, blk a529 = some g → ¬ X446 g := blk_neX hk534 ap453 hx540
                     have hk542 := hb457.grown hg535 nb
                     have ap541 : ∀ g, blk a529 = some g → ¬ (· = b338) g := blk_neX hk534 ap454 (ltb hk542)
                     have ap543 : ¬ (fun k => blk a529 = some k) b338 := fun h => blk_rev hk534 (fun h => (ap455) h) (hk542.lt) h
                     have ap545 : ∀ g, blk a444 = some g → ¬ X466 g := fun g e h => ((hx467 _ h).2.elim (fun h => (ap453) g e h) (fun h => nl h (ho448.lt g e)))
                     have hx546 := ltx hx468 hg517.size
                     have ap544 : ∀ g, blk a529 = some g → ¬ X466 g := blk_neX hk534 ap545 hx546
                     have hk548 := ho448.grown hg461 (fun _ h => h.elim) nb
                     have ap549 : ∀ g, blk a444 = some g → ¬ (fun k => blk (some ⟨b515, 0, none⟩) = some k) g := fun g e hx => nl ((lowo hbe519) _ hx) ((fun k (hk : blk a444 = some k) => hk548.lt k hk) g e)
                     have ap547 : ∀ g, blk a529 = some g → ¬ (fun k => blk (some ⟨b515, 0, none⟩) = some k) g := blk_neX hk534 ap549 (fun k (hk : blk (some ⟨b515, 0, none⟩) = some k) => ho521.lt k hk)
                     have ap551 : ∀ g, blk (some ⟨b515, 0, none⟩) = some g → ¬ (fun k => blk a444 = some k) g := fun g e hx => nl ((lowo hbe519) g e) ((fun k (hk : blk a444 = some k) => hk548.lt k hk) _ hx)
                     have ap550 : ∀ g, blk (some ⟨b515, 0, none⟩) = some g → ¬ (fun k => blk a529 = some k) g := fun g e h => blk_rev hk534 (fun h => ((ap551) g e) h) (ho521.lt g e) h
                     refine pN 1 [11] [(11, (.slice a529 (length l527) c530))] ?_
                     refine gv_nil <| gv_region <| pN 2 [157, 158] [(157, (.slice a463 (length r458.1) c464)), (158, (.pointer (some ⟨b338, 1, none⟩)))] ?_
                     have hk556 := hk542.grown hg532 ap454
                     refine gv_store0 55 1 (.slice a463 (length r458.1) c464) #[(.bool s440.2.1), (.slice a463 (length r458.1) c464)] hk556 kr kr kr ?_
                     intro w552 hg553 hb554 hz555
                     refine gv_nil <| gv_blk ?_
                     have e := sj h2; subst e
                     refine gv_goal fun a hd hs hok => ?_
                     have hB557 := bg hB538 hg532 hl449
                     have hB558 := bg hB317 hg329 nb
                     have hlo559 : w0.heap.size ≤ b338 := lob hbe342 hB558.size
                     have hB560 := bg hB557 hg553 (rowlo hlo559)
                     have hz561 := (nt (nt (nt (nt hz443 hg461.size) hg517.size) hg532.size) hg553.size)
                     have hk562 := ho533.grown hg553 (fun _ h => h.elim) (rdnn (rowne ap543))
                     have ap563 : ¬ X466 b338 := fun h => ((hx467 _ h).2.elim (fun h => (ap456)  h) (fun h => nl h (hb457.lt)))
                     have hx564 := ltx hx546 hg532.size
                     have hk565 := ((ho465.grown hg517 hx468 nb).grown hg532 hx546 ap545).grown hg553 hx564 (rowne ap563)
                     have hx566 := ltx hx564 hg553.size
                     exact ⟨(l527, (s440.2.1, r458.1)), rfl, a529, c530, a463, c464, X466, hB560, hz561, hk562, hl537, hk565, hx566, hx469, ap544, ap541, ap543, ap563, hb554, hd, hs, okp [10, 11] hok⟩
                  ·rintro a w439 ⟨s438, e, hB567, hz568, hd, hs, hok⟩
                   subst e
                   refine gv_in ?_ hd hs hok
                   clear hd hs hok
                   replace h0 := cont_inl h0
                   cases h0
                ·replace h0 := ite_f hc323 h0
                 refine gv_skip <| gv_seq <| gv_region <| pN 1 [159] [(159, (bp b1))] ?_
                 refine gv_load (t := 5) (A := ⟨b1, 0, none⟩) (.int .u8 f_0.1) [] (fun e => by cases e) rfl rfl rfl kr kr kr (inw0 (hb319.cell 0 rfl)) rfl ?_
                 refine bindE h0 ?_; clear h0; intro r569 hr570 h0
                 refine gv_call0 kr rfl kr enters18 (ref4_widthOf_ok fuel f_0.1 w239  r569 hr570) ?_
                 rintro v573 w571 ⟨hg572, rfl⟩
                 refine pN 1 [14] [(14, (.int .i64 r569))] ?_
                 refine gv_nil <| gv_seq <| gv_seq <| gv_region <| pN 1 [162] [(162, (bp b176))] ?_
                 have hk574 := hb320.grown hg572 nb
                 refine gv_load (t := 4) (A := ⟨b176, 0, none⟩) (.bool r164.1) [] (fun e => by cases e) rfl rfl rfl kr kr kr (inw0 (hk574.cell 0 rfl)) rfl ?_
                 refine gv_nil <| bindE h0 ?_; clear h0; intro j575 h1 h0
                 refine gv_cut_code (J := fun a w576 => ∃ (abb176_0j : Option Addr) (cbb176_0j : Nat), ∃ (Xbb176_0j : Nat → Prop), Below w0.heap.size w0 w576 ∧ w571.heap.size ≤ w576.heap.size ∧ Rd (iE .i64) w576 Xbb176_0j abb176_0j cbb176_0j j575.2 ∧ (∀ k, Xbb176_0j k → k < w576.heap.size) ∧ (∀ k, Xbb176_0j k → X0 k ∨ w0.heap.size ≤ k) ∧ ¬ Xbb176_0j b1 ∧ ¬ Xbb176_0j b176 ∧ Box w576 b1 49 #[(.int .u8 f_0.1), (.int .i64 f_0.2.1), (.bool f_0.2.2)] ∧ Box w576 b176 57 #[(.bool j575.1), (.slice abb176_0j (length j575.2) cbb176_0j)] ∧ a.defers = [] ∧ a.tmps.size = 190 ∧ Ok [(2, (bp b1)), (7, (bp b176)), (14, (.int .i64 r569))] a.tmps) ?_ ?_
                 ·skip
                  refine gv_cond (b := r164.1) kr (fun hc577 => ?_) (fun hc577 => ?_)
                  ·replace h1 := ite_t hc577 h1
                   refine gv_drawA kr ?_
                   intro w578 hg579
                   refine gv_pre [2, 3] (bA 7 [2, 3]) 5 kr kr ?_
                   refine pN 2 [166, 167] [(167, (.int .i64 (IntKind.i64.wrap (8 * r569))))] ?_
                   refine gv_nil <| gv_goA ?_
                   refine gv_stage (Cls w578 []) [0, 1, 4] [(0, some true), (1, some false), (4, some false)] (bA 7 [0, 1, 2, 3, 4]) 2 kr kr (Cls.refl _ _) ?_
                   have hC580 := Cls.refl w578 []
                   have hk581 := hk574.grown hg579 nb
                   refine gv_loadBox (t := 57) (b := b176) (t' := 57) (fr := (0, 0)) #[(.bool r164.1), (.slice a169 (length r164.2) c170)] [] (fun e => by cases e) rfl rfl rfl kr kr kr kr (inw1 fun w' hC' => (hC'.box hk581 nm_nil)) rfl ?_
                   refine bindE h1 ?_; clear h1; intro r582 hr583 h1
                   refine gv_call (f := 20) (vs := [(.int .i64 1)]) (cap := []) _ (by decide) rfl rfl rfl kr kr enters20 (ref3_Number_ok fuel 1 w578  r582 hr583) ?_
                   rintro v586 w584 ⟨hg585, a587, c588, X590, rfl, ho589, hx591⟩
                   refine ⟨(fun _ => hC580.grown hg585 nb), ?_⟩
                   have hx592 : ∀ k, X590 k → k < w584.heap.size := fun k hk => (hx591 k hk).1
                   have hg594 := (grown_trans hg572 hg579)
                   have hB595 := bg hB317 hg594 nb
                   have hx593 : ∀ k, X590 k → X0 k ∨ w0.heap.size ≤ k := fun k hk => (hx591 k hk).2.elim (fun h => h.elim) (fun h => .inr (Nat.le_trans hB595.size h))
                   refine bindE h1 ?_; clear h1; intro r596 hr597 h1
                   refine gv_call (f := 28) (vs := [(.agg #[(.bool r582.1), (.slice a587 (length r582.2) c588)]), (.int .i64 (IntKind.i64.wrap (8 * r569)))]) (cap := []) _ (by decide) rfl rfl rfl kr kr enters28 (ref3_Int_Moved_ok fuel a587 c588 (r582.1, r582.2) (IntKind.i64.wrap (8 * r569)) w584 (fun k => X590 k) (fun k hk => hx592 k hk) (ho589.wide (fun k hk => hk)) r596 hr597) ?_
                   rintro v600 w598 ⟨hg599, a601, c602, X604, rfl, ho603, hx605⟩
                   have hC606 := hC580.grown hg585 nb
                   refine ⟨(fun _ => hC606.grown hg599 nb), ?_⟩
                   have hx607 : ∀ k, X604 k → k < w598.heap.size := fun k hk => (hx605 k hk).1
                   have hB609 := bg hB595 hg585 nb
                   have hx608 : ∀ k, X604 k → X0 k ∨ w0.heap.size ≤ k := fun k hk => (hx605 k hk).2.elim (fun h => hx593 k h) (fun h => .inr (Nat.le_trans hB609.size h))
                   refine gv_nil <| gv_goA ?_
                   refine gv_stage (fun _ => True) [5] [(5, some false)] (bA 7 [0, 1, 2, 3, 4, 5]) 1 kr kr trivial ?_
                   refine bindE h1 ?_; clear h1; intro r610 hr611 h1
                   have hg612 := (grown_trans (grown_trans hg195 hg217) hg223)
                   have hx613 := ltx (ltx (ltx (ltx (ltx hx174 hg178.size) hg183.size) hg612.size) hg228.size) hg233.size
                   have hg614 := (grown_trans (grown_trans hg594 hg585) hg599)
                   have hx615 := ltx (fun k hk => ltl (hx613 k hk) hz318) hg614.size
                   have hk616 := hk321.grown hg614 (fun k hk => ltl (hx613 k hk) hz318) nb
                   refine gv_call (f := 21) (vs := [(.agg #[(.bool r164.1), (.slice a169 (length r164.2) c170)]), (.agg #[(.bool r596.1), (.slice a601 (length r596.2) c602)])]) (cap := []) _ (by decide) rfl rfl rfl kr kr enters21 (ref3_Int_Plus_ok fuel a169 c170 (r164.1, r164.2) a601 c602 (r596.1, r596.2) w598 (fun k => X172 k ∨ X604 k) (fun k hk => (hk).elim (fun h => hx615 k h) (fun h => hx607 k h)) (hk616.wide (fun k hk => (.inl hk))) (ho603.wide (fun k hk => (.inr hk))) r610 hr611) ?_
                   rintro v619 w617 ⟨hg618, a620, c621, X623, rfl, ho622, hx624⟩
                   refine ⟨(fun _ => trivial), ?_⟩
                   have hx625 : ∀ k, X623 k → k < w617.heap.size := fun k hk => (hx624 k hk).1
                   have hB627 := bg hB609 hg599 nb
                   have hx626 : ∀ k, X623 k → X0 k ∨ w0.heap.size ≤ k := fun k hk => (hx624 k hk).2.elim (fun h => (h).elim (fun h => hx175 k h) (fun h => hx608 k h)) (fun h => .inr (Nat.le_trans hB627.size h))
                   refine gv_nil <| gv_goA ?_
                   refine gv_stage (fun _ => True) [6] [(6, some false)] (bA 7 [0, 1, 2, 3, 4, 5, 6]) 0 kr kr trivial ?_
                   refine gv_sub [2, 7, 14, 169] (σ' := [(2, (bp b1)), (7, (bp b176)), (14, (.int .i64 r569)), (169, (.agg #[(.bool r610.1), (.slice a620 (length r610.2) c621)]))]) kr ?_
                   have hg632 := (grown_trans (grown_trans hg585 hg599) hg618)
                   have hk633 := hk581.grown hg632 nb
                   refine gv_store (t := 57) (b := b176) (off := 0) (v := (.agg #[(.bool r610.1), (.slice a620 (length r610.2) c621)])) (t' := 57) (cs := #[(.bool r164.1), (.slice a169 (length r164.2) c170)]) #[(.bool r610.1), (.slice a620 (length r610.2) c621)] (by decide) rfl rfl kr kr kr (by intro u hu; simp [Value.cells] at hu; rcases hu with rfl | rfl <;> rfl) (show 0 + 2 ≤ 2 by decide) (by rfl) hk633 ?_
                   intro w628 hg629 hb630 hz631
                   refine ⟨(fun _ => trivial), ?_⟩
                   refine gv_nil <| gv_goA ?_
                   refine gv_stageE kr ?_
                   have e := sj h1; subst e
                   refine gv_goal fun a hd hs hok => ?_
                   have hB634 := bg hB627 hg618 nb
                   have hB635 := bg hB634 hg629 (rowlo hlo211)
                   have hz636 := (nt (nt (nt (nt hg579.size hg585.size) hg599.size) hg618.size) hg629.size)
                   have ap637 : ¬ X172 b176 := fun hx => nl ((lowb hbe180) _ rfl) (hx174 _ hx)
                   have ap638 : ¬ X590 b176 := fun h => ((hx591 _ h).2.elim (fun h => h.elim) (fun h => nl h (hk581.lt)))
                   have hk639 := hk581.grown hg585 nb
                   have ap640 : ¬ X604 b176 := fun h => ((hx605 _ h).2.elim (fun h => (ap638)  h) (fun h => nl h (hk639.lt)))
                   have hk641 := hk639.grown hg599 nb
                   have ap642 : ¬ X623 b176 := fun h => ((hx624 _ h).2.elim (fun h => (h).elim (fun h => (ap637)  h) (fun h => (ap640)  h)) (fun h => nl h (hk641.lt)))
                   have hk643 := ho622.grown hg629 hx625 (rowne ap642)
                   have hx644 := ltx hx625 hg629.size
                   have hlo645 : w0.heap.size ≤ b1 := lob hbe5 hB0.size
                   have ap646 : ¬ X172 b1 := fun h => ((hx173 _ h).2.elim (fun h => ((fun (hx : X0 b1) => nl hlo645 (hX0 _ hx)))  h) (fun h => nl h (hb83.lt)))
                   have hk647 := hb319.grown hg594 nb
                   have ap648 : ¬ X590 b1 := fun h => ((hx591 _ h).2.elim (fun h => h.elim) (fun h => nl h (hk647.lt)))
                   have hk649 := hk647.grown hg585 nb
                   have ap650 : ¬ X604 b1 := fun h => ((hx605 _ h).2.elim (fun h => (ap648)  h) (fun h => nl h (hk649.lt)))
                   have hk651 := hk649.grown hg599 nb
                   have ap652 : ¬ X623 b1 := fun h => ((hx624 _ h).2.elim (fun h => (h).elim (fun h => (ap646)  h) (fun h => (ap650)  h)) (fun h => nl h (hk651.lt)))
                   have hk653 := (hk651.grown hg618 nb).grown hg629 (rowne (ng lt190))
                   exact ⟨a620, c621, X623, hB635, hz636, hk643, hx644, hx626, ap652, ap642, hk653, hb630, hd, hs, okp [2, 7, 14] hok⟩
                  ·replace h1 := ite_f hc577 h1
                   refine gv_skip ?_
                   have e := sj h1; subst e
                   refine gv_goal fun a hd hs hok => ?_
                   have hB654 := bg hB317 hg572 nb
                   have hg655 := (grown_trans (grown_trans hg195 hg217) hg223)
                   have hx656 := ltx (ltx (ltx (ltx (ltx hx174 hg178.size) hg183.size) hg655.size) hg228.size) hg233.size
                   have hk657 := hk321.grown hg572 (fun k hk => ltl (hx656 k hk) hz318) nb
                   have hx658 := ltx (fun k hk => ltl (hx656 k hk) hz318) hg572.size
                   have hlo659 : w0.heap.size ≤ b1 := lob hbe5 hB0.size
                   have ap660 : ¬ X172 b1 := fun h => ((hx173 _ h).2.elim (fun h => ((fun (hx : X0 b1) => nl hlo659 (hX0 _ hx)))  h) (fun h => nl h (hb83.lt)))
                   have ap661 : ¬ X172 b176 := fun hx => nl ((lowb hbe180) _ rfl) (hx174 _ hx)
                   have hk662 := hb319.grown hg572 nb
                   exact ⟨a169, c170, X172, hB654, nrf, hk657, hx658, hx175, ap660, ap661, hk662, hk574, hd, hs, okp [2, 7, 14] hok⟩
                 ·rintro a w576 ⟨a665, c666, X665, hB663, hz664, hr667, hx668, hx669, ap670, ap671, hb672, hb673, hd, hs, hok⟩
                  refine gv_in ?_ hd hs hok
                  clear hd hs hok
                  clear hz664 hk574 hg572 hr570 hc323 hc322 hk321 hb320 hb319 hz318 hB317 hg233 hg228 hg223 hg217 hg195 hg183 hbe180 hg178 hx175 hx174 hx173 hb83
                  refine gv_seq <| gv_region <| gv_loadBox (t := 57) (b := b176) (t' := 57) (fr := (0, 0)) #[(.bool j575.1), (.slice a665 (length j575.2) c666)] [] (fun e => by cases e) rfl rfl rfl kr kr kr kr (inw0 hb673) rfl ?_
                  refine pN 1 [171] [(171, (.int .i64 r569))] ?_
                  refine bindE h0 ?_; clear h0; intro r674 hr675 h0
                  refine gv_call0 kr rfl kr enters63 (ref4_base256_ok fuel a665 c666 (j575.1, j575.2) r569 w576 (fun k => X665 k) (fun k hk => hx668 k hk) (hr667.wide (fun k hk => hk)) r674 hr675) ?_
                  rintro v678 w676 ⟨hg677, a679, c680, rfl, ho681, hl682⟩
                  have hl683 : ∀ g, blk a679 = some g → w0.heap.size ≤ g := fun g e => Nat.le_trans hB663.size (hl682 g e)
                  refine pN 1 [15] [(15, (.slice a679 (length r674) c680))] ?_
                  refine gv_nil <| gv_seq <| gv_seq <| gv_region <| pN 1 [173] [(173, (.pointer (some ⟨b1, 2, none⟩)))] ?_
                  have hk684 := hb672.grown hg677 nb
                  refine gv_load (t := 4) (A := ⟨b1, 2, none⟩) (.bool f_0.2.2) [] (fun e => by cases e) rfl rfl rfl kr kr kr (inw0 (hk684.cell 2 rfl)) rfl ?_
                  refine gv_nil <| bindE h0 ?_; clear h0; intro j685 h1 h0
                  refine gv_cut_code (J := fun a w686 => ∃ (a15_0j : Option Addr) (c15_0j : Nat), Below w0.heap.size w0 w686 ∧ w676.heap.size ≤ w686.heap.size ∧ Gv.Own bE 5 w686 (fun _ => False) a15_0j c15_0j j685 ∧ (∀ g, blk a15_0j = some g → w0.heap.size ≤ g) ∧ a.defers = [] ∧ a.tmps.size = 190 ∧ Ok [(15, (.slice a15_0j (length j685) c15_0j))] a.tmps) ?_ ?_
                  ·skip
                   refine gv_cond (b := f_0.2.2) kr (fun hc687 => ?_) (fun hc687 => ?_)
                   ·replace h1 := ite_t hc687 h1
                    refine gv_seq <| gv_region <| pN 1 [16] [(16, (.slice none (length ([] : List UInt8)) 0))] ?_
                    refine gv_nil <| gv_seq <| gv_seq <| gv_region <| pN 3 [17, 175, 176] [(17, (.int .i64 (IntKind.i64.wrap (r569 - 1))))] ?_
                    refine gv_nil <| bindE h1 ?_; clear h1; intro j688 h2 h1
                    refine gv_cut_code (J := fun a w689 => ∃ (a16_0j : Option Addr) (c16_0j : Nat), Below w0.heap.size w0 w689 ∧ w676.heap.size ≤ w689.heap.size ∧ Gv.Own bE 5 w689 (fun _ => False) a16_0j c16_0j j688 ∧ (∀ g, blk a16_0j = some g → w0.heap.size ≤ g) ∧ a.defers = [] ∧ a.tmps.size = 190 ∧ Ok [(16, (.slice a16_0j (length j688) c16_0j))] a.tmps) ?_ ?_
                    ·skip
                     refine gv_block <| gv_loop (A := fun (s690 : ((List UInt8) × Int)) a w691 => ∃ (a16_0j : Option Addr) (c16_0j : Nat), Below w0.heap.size w0 w691 ∧ w676.heap.size ≤ w691.heap.size ∧ Gv.Own bE 5 w691 (fun _ => False) a16_0j c16_0j s690.1 ∧ (∀ g, blk a16_0j = some g → w0.heap.size ≤ g) ∧ (∀ g, blk a16_0j = some g → ¬ (fun k => blk a679 = some k) g) ∧ (∀ g, blk a679 = some g → ¬ (fun k => blk a16_0j = some k) g) ∧ Gv.Own bE 5 w691 (fun _ => False) a679 c680 r674 ∧ a.defers = [] ∧ a.tmps.size = 190 ∧ Ok [(15, (.slice a679 (length r674) c680)), (16, (.slice a16_0j (length s690.1) c16_0j)), (17, (.int .i64 s690.2))] a.tmps) h2 ?_ ?_
                     ·intro a hd hs hok
                      have hB692 := bg hB663 hg677 nb
                      exact ⟨none, 0, hB692, nrf, (Gv.Own.nil bE 5 w676 (fun _ => False)), (fun _ h => by cases h), (fun _ h => by cases h), (fun _ _ h => by cases h), ho681, hd, hs, okp [15, 16, 17] hok⟩
                     ·rintro s690 r3 h3 hR3 a w691 ⟨a695, c696, hB693, hz694, ho697, hl698, ap699, ap700, hk701, hd, hs, hok⟩
                      refine gv_in ?_ hd hs hok
                      clear hd hs hok
                      clear hc687 hk684 hl682 ho681 hg677 hr675 hb673 hb672 ap671 ap670 hx669 hx668 hr667 hB663 hlo211 lt190 hbe5
                      refine gv_seq <| gv_seq <| gv_region <| pN 2 [177, 178] [(178, (.bool (decide (s690.2 ≥ 0))))] ?_
                      refine gv_nil <| gv_cond (b := (decide (s690.2 ≥ 0))) kr (fun hc702 => ?_) (fun hc702 => ?_)
                      ·replace h3 := ite_t hc702 h3
                       refine gv_skip <| gv_seq <| gv_block <| gv_region <| pN 3 [181, 182, 183] [(181, (.slice a695 (length s690.1) c696)), (182, (.slice a679 (length r674) c680)), (183, (.int .i64 s690.2))] ?_
                       refine bindE h3 ?_; clear h3; intro x703 hx704 h3
                       refine gv_idxaddr (t := 23) (e := 5) (a := a679) (len := length r674) (cap := c680) (kk := .i64) (i := s690.2) (sz := 1) [] (fun e => by cases e) rfl rfl rfl kr kr Tryz.underlying23 kr ((hk701.rd (Y := fun k => blk a679 = some k) (fun _ h => h.elim) (fun g e => e)).has hx704) (idx_spec hx704).1 (idx_spec hx704).2.1 rfl ?_
                       refine gv_load (t := 5) (A := (elemAddr a679 ((s690.2 : Int).toNat * 1))) (.int .u8 ((x703).toNat : Int)) [] (fun e => by cases e) rfl rfl rfl kr kr kr (inw0 ((hk701.rd (Y := fun k => blk a679 = some k) (fun _ h => h.elim) (fun g e => e)).cell hx704)) rfl ?_
                       refine gv_new0 (fun b => .slice (some ⟨b, 0, none⟩) 1 1) #[(.int .u8 ((x703).toNat : Int))] 5 kr kr ?_
                       intro b705 w706 hg707 hb708 hbe709 hz710
                       have ho711 : Gv.Own bE 5 w706 (fun _ => False) (some ⟨b705, 0, none⟩) 1 ([x703] : List UInt8) := Box.ownE hb708 ⟨[(.int .u8 ((x703).toNat : Int))], [], rfl, rfl, rfl⟩ (show 1 ≤ maxLen by decide) (fun h => h)
                       have hl712 : ∀ g, blk (some ⟨b705, 0, none⟩) = some g → w0.heap.size ≤ g := loo hbe709 hB693.size
                       refine bindE h3 ?_; clear h3; intro l716 hx717 h3
                       have hk724 := ho697.grown hg707 (fun _ h => h.elim) nb
                       refine gv_append bE (t := 23) (ty := 23) (e := 5) (a := a695) (ax := (some ⟨b705, 0, none⟩)) (cap := c696) (cx := 1) (xs := s690.1) (ys := ([x703] : List UInt8)) l716 (X := (fun _ => False)) (Y := (fun k => blk (some ⟨b705, 0, none⟩) = some k)) (by decide) rfl rfl kr kr Tryz.underlying23 info5 hk724 (ho711.rd (Y := fun k => blk (some ⟨b705, 0, none⟩) = some k) (fun _ h => h.elim) (fun g e => e)) hx717 (.inr fun _ _ _ _ _ h => h) (fun _ h => h.elim) ?_
                       intro a718 c719 w720 hg721 ho722 hk723
                       refine ⟨(fun e => by cases e), ?_⟩
                       have hB726 := bg hB693 hg707 nb
                       have hl725 : ∀ g, blk a718 = some g → w0.heap.size ≤ g := blk_step hk723 hl698 hB726.size
                       have hk728 := hk701.grown hg707 (fun _ h => h.elim) nb
                       have ap727 : ∀ g, blk a718 = some g → ¬ (fun k => blk a679 = some k) g := blk_neX hk723 ap699 (fun k (hk : blk a679 = some k) => hk728.lt k hk)
                       have ap729 : ∀ g, blk a679 = some g → ¬ (fun k => blk a718 = some k) g := fun g e h => blk_rev hk723 (fun h => ((ap700) g e) h) (hk728.lt g e) h
                       have ap731 : ∀ g, blk a695 = some g → ¬ (fun k => blk (some ⟨b705, 0, none⟩) = some k) g := fun g e hx => nl ((lowo hbe709) _ hx) ((fun k (hk : blk a695 = some k) => ho697.lt k hk) g e)
                       have ap730 : ∀ g, blk a718 = some g → ¬ (fun k => blk (some ⟨b705, 0, none⟩) = some k) g := blk_neX hk723 ap731 (fun k (hk : blk (some ⟨b705, 0, none⟩) = some k) => ho711.lt k hk)
                       have ap733 : ∀ g, blk (some ⟨b705, 0, none⟩) = some g → ¬ (fun k => blk a695 = some k) g := fun g e hx => nl ((lowo hbe709) g e) ((fun k (hk : blk a695 = some k) => ho697.lt k hk) _ hx)
                       have ap732 : ∀ g, blk (some ⟨b705, 0, none⟩) = some g → ¬ (fun k => blk a718 = some k) g := fun g e h => blk_rev hk723 (fun h => ((ap733) g e) h) (ho711.lt g e) h
                       have hz734 := (nt (nt hz694 hg707.size) hg721.size)
                       clear ap732 ap733 ap730 ap731 hk723 hk724 hx717 hl712 ho711 hz710 hbe709 hb708 hg707 hx704 hc702 hk701 ap700 ho697 hz694 hB693
                       refine pN 1 [16] [(16, (.slice a718 (length l716) c719))] ?_
                       refine gv_nil <| gv_blk <| gv_region <| pN 3 [17, 179, 180] [(17, (.int .i64 (IntKind.i64.wrap (s690.2 - 1))))] ?_
                       refine gv_nil ?_
                       have e := sj h3; subst e
                       refine gv_goal fun a hd hs hok => ?_
                       have hB735 := bg hB726 hg721 hl698
                       have hz736 := hz734
                       have hk737 := hk728.grown hg721 (fun _ h => h.elim) (rdnn ap699)
                       exact ⟨(l716, (IntKind.i64.wrap (s690.2 - 1))), rfl, a718, c719, hB735, hz736, ho722, hl725, ap727, ap729, hk737, hd, hs, okp [15, 16, 17] hok⟩
                      ·replace h3 := ite_f hc702 h3
                       refine gv_cexit <| gv_exit rfl ?_
                       have e := sj h3; subst e
                       replace h2 := congrArg some (hR3 _ rfl)
                       have e := sj h2; subst e
                       refine gv_goal fun a hd hs hok => ?_
                       have hz738 := hz694
                       exact ⟨a695, c696, hB693, hz738, ho697, hl698, hd, hs, okp [16] hok⟩
                    ·rintro a w689 ⟨a741, c742, hB739, hz740, ho743, hl744, hd, hs, hok⟩
                     refine gv_in ?_ hd hs hok
                     clear hd hs hok
                     clear hc687 hk684 hl683 hl682 ho681 hg677 hr675 hb673 hb672 ap671 ap670 hx669 hx668 hr667 hB663 hlo211 lt190 hbe5
                     refine gv_region <| pN 2 [15, 188] [(15, (.slice a741 (length j688) c742))] ?_
                     refine gv_nil ?_
                     have e := sj h1; subst e
                     refine gv_goal fun a hd hs hok => ?_
                     have hz745 := hz740
                     exact ⟨a741, c742, hB739, hz745, ho743, hl744, hd, hs, okp [15] hok⟩
                   ·replace h1 := ite_f hc687 h1
                    refine gv_skip ?_
                    have e := sj h1; subst e
                    refine gv_goal fun a hd hs hok => ?_
                    have hB746 := bg hB663 hg677 nb
                    exact ⟨a679, c680, hB746, nrf, ho681, hl683, hd, hs, okp [15] hok⟩
                  ·rintro a w686 ⟨a749, c750, hB747, hz748, ho751, hl752, hd, hs, hok⟩
                   refine gv_in ?_ hd hs hok
                   clear hd hs hok
                   clear hz748 hk684 hl683 hl682 ho681 hg677 hr675 hb673 hb672 ap671 ap670 hx669 hx668 hr667 hB663 hlo211 lt190 hbe5
                   refine gv_seq <| gv_region <| pN 3 [4, 5, 189] [(4, (.slice a749 (length j685) c750)), (5, (.int .i64 0))] ?_
                   refine gv_nil <| gv_cret ?_
                   have e := sj h0; subst e
                   refine gv_ret (gv_done [(.slice a749 (length j685) c750), (.int .i64 0)] rfl ⟨kr, kr, trivial⟩ ?_)
                   exact ⟨grown_of_below hB747, a749, c750, (fun k => blk a749 = some k), rfl, (ho751.rd (Y := fun k => blk a749 = some k) (fun _ h => h.elim) (fun g e => e)), (fun k hk => ⟨(fun k (hk : blk a749 = some k) => ho751.lt k hk) k hk, (fun k (hk : blk a749 = some k) => Or.inr (hl752 k hk)) k hk⟩)⟩

theorem ref4_Packed_ok (fuel : Nat) (pa0_0 : Option Addr) (pc0_0 : Nat) (l_0 : (List (Int × Int × Bool))) (pa1_0 : Option Addr) (pc1_0 : Nat) (vs_1 : (List (Int × (Bool × (List Int)) × (Bool × (List Int)) × ByteArray × Int))) (w0 : World) (X0 : Nat → Prop) (hX0 : ∀ k, X0 k → k < w0.heap.size) (hpa0_0 : Rd (prE (iE .u8) (prE (iE .i64) tE)) w0 X0 pa0_0 pc0_0 l_0) (hpa1_0 : Rd (prE (iE .i64) (prE (prE tE (slE (iE .u32))) (prE (prE tE (slE (iE .u32))) (prE sE (iE .i64))))) w0 X0 pa1_0 pc1_0 vs_1) (r0 : ((List UInt8) × (Int × Int))) (h0 : ref4_Packed fuel l_0 vs_1 = some r0) :
    Calls Tryz.prog 11 ([(.slice pa0_0 (length l_0) pc0_0), (.slice pa1_0 (length vs_1) pc1_0)] : List Value).toArray w0 (Ret fun v w' => w0.grownBy w' none ∧ ∃ (a0_0r : Option Addr) (c0_0r : Nat), v = tup [(.slice a0_0r (length r0.1) c0_0r), (.agg #[(.int .i64 r0.2.1), (.int .i64 r0.2.2)])] ∧ Gv.Own bE 5 w' (fun _ => False) a0_0r c0_0r r0.1 ∧ (∀ g, blk a0_0r = some g → w0.heap.size ≤ g)) := by
 have hB0 : Below w0.heap.size w0 w0 := Below.refl _ _
 unfold ref4_Packed at h0
 refine calls_run Tryz.func11 rfl Tryz.ntmps11 kr ?_
 refine gv_sub [0, 1] (σ' := [(0, (.slice pa0_0 (length l_0) pc0_0)), (1, (.slice pa1_0 (length vs_1) pc1_0))]) kr ?_
 refine gv_seq <| gv_region <| pN 1 [4] [] ?_
 refine gv_new0 (fun b => .pointer (some ⟨b, 0, none⟩)) #[(.int .i64 0), (.int .i64 0)] 26 kr kr ?_
 intro b1 w2 hg3 hb4 hbe5 hz6
 refine gv_nil <| gv_seq <| gv_seq <| gv_region <| pN 1 [14] [(14, (.slice pa0_0 (length l_0) pc0_0))] ?_
 refine bindE h0 ?_; clear h0; intro r7 hr8 h0
 have hB9 := bg hB0 hg3 nb
 refine gv_call0 kr rfl kr enters17 (ref4_FieldsFault_ok fuel pa0_0 pc0_0 l_0 w2 (fun k => X0 k) (fun k hk => (fun k (hk : X0 k) => ltl (hX0 k hk) hB9.size) k hk) ((hpa0_0.below hB9 hX0).wide (fun k hk => hk)) r7 hr8) ?_
 rintro v12 w10 ⟨hg11, rfl⟩
 refine gv_new0 (fun b => .pointer (some ⟨b, 0, none⟩)) #[(.int .i64 0), (.int .i64 0)] 26 kr kr ?_
 intro b13 w14 hg15 hb16 hbe17 hz18
 refine gv_store0 26 0 (.agg #[(.int .i64 r7.1), (.int .i64 r7.2)]) #[(.int .i64 r7.1), (.int .i64 r7.2)] hb16 kr kr kr ?_
 intro w19 hg20 hb21 hz22
 refine gv_nil <| gv_seq <| gv_region <| pN 1 [16] [(16, (bp b13))] ?_
 refine gv_load (t := 3) (A := ⟨b13, 0, none⟩) (.int .i64 r7.1) [] (fun e => by cases e) rfl rfl rfl kr kr kr (inw0 (hb21.cell 0 rfl)) rfl ?_
 refine pN 1 [18] [(18, (.bool (r7.1 != 0)))] ?_
 refine gv_nil <| gv_cond (b := (r7.1 != 0)) kr (fun hc23 => ?_) (fun hc23 => ?_)
 ·replace h0 := ite_t hc23 h0
  refine gv_seq <| gv_drawA kr ?_
  intro w24 hg25
  refine gv_pre [1] (bA 3 [1]) 2 kr kr ?_
  refine pN 1 [4] [(4, (.slice none (length ([] : List UInt8)) 0))] ?_
  refine gv_nil <| gv_goA ?_
  refine gv_stage (Cls w24 []) [0] [(0, some true)] (bA 3 [0, 1]) 1 kr kr (Cls.refl _ _) ?_
  have hC26 := Cls.refl w24 []
  have hk27 := hb21.grown hg25 nb
  refine gv_loadBox (t := 26) (b := b13) (t' := 26) (fr := (0, 0)) #[(.int .i64 r7.1), (.int .i64 r7.2)] [] (fun e => by cases e) rfl rfl rfl kr kr kr kr (inw1 fun w' hC' => (hC'.box hk27 nm_nil)) rfl ?_
  refine gv_nil <| gv_goA ?_
  refine gv_stage (fun _ => True) [2] [(2, some false)] (bA 3 [0, 1, 2]) 0 kr kr trivial ?_
  have hg32 := (grown_trans hg11 hg15)
  have hk33 := hb4.grown hg11 nb
  have lt34 := ltl ((ltb hk33) _ rfl) ((lowb hbe17) _ rfl)
  have hk35 := ((hb4.grown hg32 nb).grown hg20 (rowne (ng lt34))).grown hg25 nb
  refine gv_store (t := 26) (b := b1) (off := 0) (v := (.agg #[(.int .i64 r7.1), (.int .i64 r7.2)])) (t' := 26) (cs := #[(.int .i64 0), (.int .i64 0)]) #[(.int .i64 r7.1), (.int .i64 r7.2)] (by decide) rfl rfl kr kr kr (by intro u hu; simp [Value.cells] at hu; rcases hu with rfl | rfl <;> rfl) (show 0 + 2 ≤ 2 by decide) (by rfl) hk35 ?_
  intro w28 hg29 hb30 hz31
  refine ⟨(fun _ => trivial), ?_⟩
  refine gv_nil <| gv_goA ?_
  refine gv_stageE kr ?_
  refine gv_cret ?_
  have e := sj h0; subst e
  refine gv_ret (gv_done [(.slice none (length ([] : List UInt8)) 0), (.agg #[(.int .i64 r7.1), (.int .i64 r7.2)])] rfl ⟨kr, ⟨⟨b1, 0, none⟩, kr, run_loadVar_row w28 b1 _ 26 _ _ _ hb30 Tryz.underlying26 rfl kr⟩, trivial⟩ ?_)
  have hB36 := bg hB9 hg32 nb
  have hB37 := bg hB9 hg11 nb
  have hlo38 : w0.heap.size ≤ b13 := lob hbe17 hB37.size
  have hB39 := bg hB36 hg20 (rowlo hlo38)
  have hB40 := bg hB39 hg25 nb
  have hlo41 : w0.heap.size ≤ b1 := lob hbe5 hB0.size
  have hB42 := bg hB40 hg29 (rowlo hlo41)
  exact ⟨grown_of_below hB42, none, 0, rfl, (Gv.Own.nil bE 5 w28 (fun _ => False)), (fun _ h => by cases h)⟩
 ·replace h0 := ite_f hc23 h0
  refine gv_skip <| gv_seq <| gv_region <| pN 1 [7] [(7, (.int .i64 0))] ?_
  refine gv_nil <| gv_seq <| gv_seq <| gv_region <| pN 1 [8] [(8, (.int .i64 0))] ?_
  refine gv_nil <| bindE h0 ?_; clear h0; intro j43 h1 h0
  refine gv_cut_code (J := fun a w44 => Below w0.heap.size w0 w44 ∧ w19.heap.size ≤ w44.heap.size ∧ Box w44 b1 26 #[(.int .i64 0), (.int .i64 0)] ∧ a.defers = [] ∧ a.tmps.size = 82 ∧ Ok [(0, (.slice pa0_0 (length l_0) pc0_0)), (1, (.slice pa1_0 (length vs_1) pc1_0)), (5, (bp b1)), (7, (.int .i64 j43))] a.tmps) ?_ ?_
  ·skip
   refine gv_block <| gv_loop (A := fun (s45 : (Int × Int)) a w46 => Below w0.heap.size w0 w46 ∧ w19.heap.size ≤ w46.heap.size ∧ Box w46 b1 26 #[(.int .i64 0), (.int .i64 0)] ∧ a.defers = [] ∧ a.tmps.size = 82 ∧ Ok [(0, (.slice pa0_0 (length l_0) pc0_0)), (1, (.slice pa1_0 (length vs_1) pc1_0)), (5, (bp b1)), (7, (.int .i64 s45.1)), (8, (.int .i64 s45.2))] a.tmps) h1 ?_ ?_
   ·intro a hd hs hok
    have hg47 := (grown_trans hg11 hg15)
    have hB48 := bg hB9 hg47 nb
    have hB49 := bg hB9 hg11 nb
    have hlo50 : w0.heap.size ≤ b13 := lob hbe17 hB49.size
    have hB51 := bg hB48 hg20 (rowlo hlo50)
    have hk52 := hb4.grown hg11 nb
    have lt53 := ltl ((ltb hk52) _ rfl) ((lowb hbe17) _ rfl)
    have hk54 := (hb4.grown hg47 nb).grown hg20 (rowne (ng lt53))
    exact ⟨hB51, nrf, hk54, hd, hs, okp [0, 1, 5, 7, 8] hok⟩
   ·rintro s45 r2 h2 hR2 a w46 ⟨hB55, hz56, hb57, hd, hs, hok⟩
    refine gv_in ?_ hd hs hok
    clear hd hs hok
    clear hc23 hz22 hb21 hg20 hz18 hbe17 hb16 hg15 hg11 hB9 hr8 hz6 hb4 hg3
    refine gv_seq <| gv_seq <| gv_region <| pN 4 [20, 21, 22, 23] [(23, (.bool (decide (s45.2 < ((length l_0 : Nat) : Int)))))] ?_
    refine gv_nil <| gv_cond (b := (decide (s45.2 < ((length l_0 : Nat) : Int)))) kr (fun hc58 => ?_) (fun hc58 => ?_)
    ·replace h2 := ite_t hc58 h2
     refine gv_skip <| gv_seq <| gv_block <| gv_seq <| gv_region <| pN 2 [26, 27] [(26, (.slice pa0_0 (length l_0) pc0_0)), (27, (.int .i64 s45.2))] ?_
     refine bindE h2 ?_; clear h2; intro x59 hx60 h2
     refine gv_idxaddr (t := 22) (e := 49) (a := pa0_0) (len := length l_0) (cap := pc0_0) (kk := .i64) (i := s45.2) (sz := 3) [] (fun e => by cases e) rfl rfl rfl kr kr Tryz.underlying22 kr ((hpa0_0.below hB55 hX0).has hx60) (idx_spec hx60).1 (idx_spec hx60).2.1 rfl ?_
     refine pN 1 [29] [(29, (.pointer (some (elemAddr pa0_0 ((s45.2 : Int).toNat * 3)))))] ?_
     obtain ⟨_, ⟨_, _, rfl, rfl, ⟨_, _, rfl, rfl, rfl⟩⟩, hc61⟩ := hpa0_0.cellsK hx60
     refine gv_load (t := 5) (A := (elemAddr pa0_0 ((s45.2 : Int).toNat * 3))) (.int .u8 x59.1) [] (fun e => by cases e) rfl rfl rfl kr kr kr (inw0 ((hc61 w46 (fun k hk => hB55.block k (hX0 k hk))).zero rfl)) rfl ?_
     refine pN 1 [31] [(31, (.bool (x59.1 != 120)))] ?_
     refine gv_nil <| bindE h2 ?_; clear h2; intro j62 h3 h2
     refine gv_cut_code (J := fun a w63 => Below w0.heap.size w0 w63 ∧ w46.heap.size ≤ w63.heap.size ∧ Box w63 b1 26 #[(.int .i64 0), (.int .i64 0)] ∧ a.defers = [] ∧ a.tmps.size = 82 ∧ Ok [(0, (.slice pa0_0 (length l_0) pc0_0)), (1, (.slice pa1_0 (length vs_1) pc1_0)), (5, (bp b1)), (7, (.int .i64 j62)), (8, (.int .i64 s45.2))] a.tmps) ?_ ?_
     ·skip
      refine gv_cond (b := (x59.1 != 120)) kr (fun hc64 => ?_) (fun hc64 => ?_)
      ·replace h3 := ite_t hc64 h3
       refine gv_region <| pN 3 [7, 32, 33] [(7, (.int .i64 (IntKind.i64.wrap (s45.1 + 1))))] ?_
       refine gv_nil ?_
       have e := sj h3; subst e
       refine gv_goal fun a hd hs hok => ?_
       exact ⟨hB55, nrf, hb57, hd, hs, okp [0, 1, 5, 7, 8] hok⟩
      ·replace h3 := ite_f hc64 h3
       refine gv_skip ?_
       have e := sj h3; subst e
       refine gv_goal fun a hd hs hok => ?_
       exact ⟨hB55, nrf, hb57, hd, hs, okp [0, 1, 5, 7, 8] hok⟩
     ·rintro a w63 ⟨hB65, hz66, hb67, hd, hs, hok⟩
      refine gv_in ?_ hd hs hok
      clear hd hs hok
      have hz68 := (nt hz56 hz66)
      clear hz66 hc61 hx60 hc58 hb57 hz56 hB55
      refine gv_blk <| gv_region <| pN 3 [8, 24, 25] [(8, (.int .i64 (IntKind.i64.wrap (s45.2 + 1))))] ?_
      refine gv_nil ?_
      have e := sj h2; subst e
      refine gv_goal fun a hd hs hok => ?_
      have hz69 := hz68
      exact ⟨(j62, (IntKind.i64.wrap (s45.2 + 1))), rfl, hB65, hz69, hb67, hd, hs, okp [0, 1, 5, 7, 8] hok⟩
    ·replace h2 := ite_f hc58 h2
     refine gv_cexit <| gv_exit rfl ?_
     have e := sj h2; subst e
     replace h1 := congrArg some (hR2 _ rfl)
     have e := sj h1; subst e
     refine gv_goal fun a hd hs hok => ?_
     have hz70 := hz56
     exact ⟨hB55, hz70, hb57, hd, hs, okp [0, 1, 5, 7] hok⟩
  ·rintro a w44 ⟨hB71, hz72, hb73, hd, hs, hok⟩
   refine gv_in ?_ hd hs hok
   clear hd hs hok
   clear hz72 hc23 hz22 hb21 hg20 hz18 hbe17 hb16 hg15 hg11 hB9 hr8 hz6 hb4 hg3
   refine gv_seq <| gv_seq <| gv_region <| pN 4 [34, 35, 36, 37] [(37, (.bool (j43 != ((length vs_1 : Nat) : Int))))] ?_
   refine gv_nil <| gv_cond (b := (j43 != ((length vs_1 : Nat) : Int))) kr (fun hc74 => ?_) (fun hc74 => ?_)
   ·replace h0 := ite_t hc74 h0
    refine gv_seq <| gv_region <| bindE h0 ?_; clear h0; intro r75 hr76 h0
    refine gv_call0 kr rfl kr enters19 (ref4_At_ok fuel 9 (-2) w44  r75 hr76) ?_
    rintro v79 w77 ⟨hg78, rfl⟩
    refine pN 1 [4] [(4, (.slice none (length ([] : List UInt8)) 0))] ?_
    have hk84 := hb73.grown hg78 nb
    refine gv_store0 26 0 (.agg #[(.int .i64 r75.1), (.int .i64 r75.2)]) #[(.int .i64 r75.1), (.int .i64 r75.2)] hk84 kr kr kr ?_
    intro w80 hg81 hb82 hz83
    clear hz83 hk84 hr76 hc74 hb73
    refine gv_nil <| gv_cret ?_
    have e := sj h0; subst e
    refine gv_ret (gv_done [(.slice none (length ([] : List UInt8)) 0), (.agg #[(.int .i64 r75.1), (.int .i64 r75.2)])] rfl ⟨kr, ⟨⟨b1, 0, none⟩, kr, run_loadVar_row w80 b1 _ 26 _ _ _ hb82 Tryz.underlying26 rfl kr⟩, trivial⟩ ?_)
    have hB85 := bg hB71 hg78 nb
    have hlo86 : w0.heap.size ≤ b1 := lob hbe5 hB0.size
    have hB87 := bg hB85 hg81 (rowlo hlo86)
    exact ⟨grown_of_below hB87, none, 0, rfl, (Gv.Own.nil bE 5 w80 (fun _ => False)), (fun _ h => by cases h)⟩
   ·replace h0 := ite_f hc74 h0
    refine gv_skip <| gv_seq <| gv_region <| pN 1 [9] [(9, (.slice none (length ([] : List UInt8)) 0))] ?_
    refine gv_nil <| gv_seq <| gv_region <| pN 1 [10] [(10, (.int .i64 0))] ?_
    refine gv_nil <| gv_seq <| gv_seq <| gv_region <| pN 1 [11] [(11, (.int .i64 0))] ?_
    refine gv_nil <| bindE h0 ?_; clear h0; intro j88 h1 h0
    refine gv_cut_code (J := fun a w90 => ∃ s89 : ((List UInt8) × (Int × Int)), j88 = .inl s89 ∧ ∃ (a9_0j : Option Addr) (c9_0j : Nat), Below w0.heap.size w0 w90 ∧ w44.heap.size ≤ w90.heap.size ∧ Gv.Own bE 5 w90 (fun _ => False) a9_0j c9_0j s89.1 ∧ (∀ g, blk a9_0j = some g → w0.heap.size ≤ g) ∧ (∀ g, blk a9_0j = some g → ¬ (· = b1) g) ∧ ¬ (fun k => blk a9_0j = some k) b1 ∧ Box w90 b1 26 #[(.int .i64 s89.2.1), (.int .i64 s89.2.2)] ∧ a.defers = [] ∧ a.tmps.size = 82 ∧ Ok [(5, (bp b1)), (9, (.slice a9_0j (length s89.1) c9_0j))] a.tmps) ?_ ?_
    ·skip
     refine gv_block <| gv_loop (A := fun (s91 : ((List UInt8) × Int × Int × (Int × Int))) a w92 => ∃ (a9_0j : Option Addr) (c9_0j : Nat), Below w0.heap.size w0 w92 ∧ w44.heap.size ≤ w92.heap.size ∧ Gv.Own bE 5 w92 (fun _ => False) a9_0j c9_0j s91.1 ∧ (∀ g, blk a9_0j = some g → w0.heap.size ≤ g) ∧ (∀ g, blk a9_0j = some g → ¬ (· = b1) g) ∧ ¬ (fun k => blk a9_0j = some k) b1 ∧ Box w92 b1 26 #[(.int .i64 s91.2.2.2.1), (.int .i64 s91.2.2.2.2)] ∧ a.defers = [] ∧ a.tmps.size = 82 ∧ Ok [(0, (.slice pa0_0 (length l_0) pc0_0)), (1, (.slice pa1_0 (length vs_1) pc1_0)), (5, (bp b1)), (9, (.slice a9_0j (length s91.1) c9_0j)), (10, (.int .i64 s91.2.1)), (11, (.int .i64 s91.2.2.1))] a.tmps) h1 ?_ ?_
     ·intro a hd hs hok
      exact ⟨none, 0, hB71, nrf, (Gv.Own.nil bE 5 w44 (fun _ => False)), (fun _ h => by cases h), (fun _ h => by cases h), (fun h => by cases h), hb73, hd, hs, okp [0, 1, 5, 9, 10, 11] hok⟩
     ·rintro s91 r2 h2 hR2 a w92 ⟨a95, c96, hB93, hz94, ho97, hl98, ap99, ap100, hb101, hd, hs, hok⟩
      refine gv_in ?_ hd hs hok
      clear hd hs hok
      refine gv_seq <| gv_seq <| gv_region <| pN 4 [39, 40, 41, 42] [(42, (.bool (decide (s91.2.2.1 < ((length l_0 : Nat) : Int)))))] ?_
      refine gv_nil <| gv_cond (b := (decide (s91.2.2.1 < ((length l_0 : Nat) : Int)))) kr (fun hc102 => ?_) (fun hc102 => ?_)
      ·replace h2 := ite_t hc102 h2
       refine gv_skip <| gv_seq <| bindE h2 ?_; clear h2; intro j103 h3 h2
       refine gv_cut_code (J := fun a w105 => ∃ s104 : ((List UInt8) × Int × (Int × Int)), j103 = .inl s104 ∧ ∃ (a9_0j : Option Addr) (c9_0j : Nat), Below w0.heap.size w0 w105 ∧ w92.heap.size ≤ w105.heap.size ∧ Gv.Own bE 5 w105 (fun _ => False) a9_0j c9_0j s104.1 ∧ (∀ g, blk a9_0j = some g → w0.heap.size ≤ g) ∧ (∀ g, blk a9_0j = some g → ¬ (· = b1) g) ∧ ¬ (fun k => blk a9_0j = some k) b1 ∧ Box w105 b1 26 #[(.int .i64 s104.2.2.1), (.int .i64 s104.2.2.2)] ∧ a.defers = [] ∧ a.tmps.size = 82 ∧ Ok [(0, (.slice pa0_0 (length l_0) pc0_0)), (1, (.slice pa1_0 (length vs_1) pc1_0)), (5, (bp b1)), (9, (.slice a9_0j (length s104.1) c9_0j)), (10, (.int .i64 s104.2.1)), (11, (.int .i64 s91.2.2.1))] a.tmps) ?_ ?_
       ·skip
        refine gv_block <| gv_seq <| gv_seq <| gv_region <| pN 2 [45, 46] [(45, (.slice pa0_0 (length l_0) pc0_0)), (46, (.int .i64 s91.2.2.1))] ?_
        refine bindE h3 ?_; clear h3; intro x106 hx107 h3
        refine gv_idxaddr (t := 22) (e := 49) (a := pa0_0) (len := length l_0) (cap := pc0_0) (kk := .i64) (i := s91.2.2.1) (sz := 3) [] (fun e => by cases e) rfl rfl rfl kr kr Tryz.underlying22 kr ((hpa0_0.below hB93 hX0).has hx107) (idx_spec hx107).1 (idx_spec hx107).2.1 rfl ?_
        refine pN 1 [48] [(48, (.pointer (some (elemAddr pa0_0 ((s91.2.2.1 : Int).toNat * 3)))))] ?_
        obtain ⟨_, ⟨_, _, rfl, rfl, ⟨_, _, rfl, rfl, rfl⟩⟩, hc108⟩ := hpa0_0.cellsK hx107
        refine gv_load (t := 5) (A := (elemAddr pa0_0 ((s91.2.2.1 : Int).toNat * 3))) (.int .u8 x106.1) [] (fun e => by cases e) rfl rfl rfl kr kr kr (inw0 ((hc108 w92 (fun k hk => hB93.block k (hX0 k hk))).zero rfl)) rfl ?_
        refine pN 1 [50] [(50, (.bool (x106.1 == 120)))] ?_
        refine gv_nil <| gv_cond (b := (x106.1 == 120)) kr (fun hc109 => ?_) (fun hc109 => ?_)
        ·replace h3 := ite_t hc109 h3
         refine gv_seq <| gv_region <| pN 3 [51, 52, 53] [(51, (.slice a95 (length s91.1) c96)), (52, (.slice pa0_0 (length l_0) pc0_0)), (53, (.int .i64 s91.2.2.1))] ?_
         refine bindE h3 ?_; clear h3; intro x110 hx111 h3
         refine gv_idxaddr (t := 22) (e := 49) (a := pa0_0) (len := length l_0) (cap := pc0_0) (kk := .i64) (i := s91.2.2.1) (sz := 3) [] (fun e => by cases e) rfl rfl rfl kr kr Tryz.underlying22 kr ((hpa0_0.below hB93 hX0).has hx111) (idx_spec hx111).1 (idx_spec hx111).2.1 rfl ?_
         refine pN 1 [55] [(55, (.pointer (some (Addr.add (elemAddr pa0_0 ((s91.2.2.1 : Int).toNat * 3)) 1))))] ?_
         obtain ⟨_, ⟨_, _, rfl, rfl, ⟨_, _, rfl, rfl, rfl⟩⟩, hc112⟩ := hpa0_0.cellsK hx111
         refine gv_load (t := 3) (A := (Addr.add (elemAddr pa0_0 ((s91.2.2.1 : Int).toNat * 3)) 1)) (.int .i64 x110.2.1) [] (fun e => by cases e) rfl rfl rfl kr kr kr (inw0 ((hc112 w92 (fun k hk => hB93.block k (hX0 k hk))) 1 _ rfl)) rfl ?_
         refine bindE h3 ?_; clear h3; intro l113 hx114 h3
         refine bindE h3 ?_; clear h3; intro l115 hx116 h3
         refine gv_appendA (t := 23) (tx := 3) (ty := 23) (e := 5) (z := .int .u8 0) (x := (.int .i64 x110.2.1)) (a := a95) (cap := c96) (xs := s91.1) l113 l115 (by decide) rfl rfl kr kr (asrc_zeroB w92 Tryz.underlying23 Tryz.underlying3 kr hx114) rfl ho97 hx116 ?_
         intro a117 c118 w119 hg120 ho121 hk122
         refine ⟨(fun e => by cases e), ?_⟩
         have hl123 : ∀ g, blk a117 = some g → w0.heap.size ≤ g := blk_step hk122 hl98 hB93.size
         have ap124 : ∀ g, blk a117 = some g → ¬ (· = b1) g := blk_neX hk122 ap99 (ltb hb101)
         have ap125 : ¬ (fun k => blk a117 = some k) b1 := fun h => blk_rev hk122 (fun h => (ap100) h) (hb101.lt) h
         refine pN 1 [9] [(9, (.slice a117 (length l115) c118))] ?_
         refine gv_nil <| gv_cexit <| gv_exit rfl ?_
         have e := sj h3; subst e
         refine gv_goal fun a hd hs hok => ?_
         have hB126 := bg hB93 hg120 hl98
         have hz127 := hg120.size
         have hk128 := hb101.grown hg120 ap99
         exact ⟨(l115, s91.2.1, (s91.2.2.2.1, s91.2.2.2.2)), rfl, a117, c118, hB126, hz127, ho121, hl123, ap124, ap125, hk128, hd, hs, okp [0, 1, 5, 9, 10, 11] hok⟩
        ·replace h3 := ite_f hc109 h3
         refine gv_skip <| gv_seq <| gv_drawA kr ?_
         intro w129 hg130
         refine gv_pre [0, 1, 2, 4, 5, 6] (bA 14 [0, 1, 2, 4, 5, 6]) 8 kr kr ?_
         refine pN 2 [59, 60] [(59, (.slice pa0_0 (length l_0) pc0_0)), (60, (.int .i64 s91.2.2.1))] ?_
         refine bindE h3 ?_; clear h3; intro x131 hx132 h3
         have hB133 := bg hB93 hg130 nb
         refine gv_idxaddr (t := 22) (e := 49) (a := pa0_0) (len := length l_0) (cap := pc0_0) (kk := .i64) (i := s91.2.2.1) (sz := 3) [] (fun e => by cases e) rfl rfl rfl kr kr Tryz.underlying22 kr ((hpa0_0.below hB133 hX0).has hx132) (idx_spec hx132).1 (idx_spec hx132).2.1 rfl ?_
         refine pN 2 [63, 64] [(63, (.slice pa1_0 (length vs_1) pc1_0)), (64, (.int .i64 s91.2.1))] ?_
         refine bindE h3 ?_; clear h3; intro x134 hx135 h3
         refine gv_idxaddr (t := 24) (e := 41) (a := pa1_0) (len := length vs_1) (cap := pc1_0) (kk := .i64) (i := s91.2.1) (sz := 7) [] (fun e => by cases e) rfl rfl rfl kr kr Tryz.underlying24 kr ((hpa1_0.below hB133 hX0).has hx135) (idx_spec hx135).1 (idx_spec hx135).2.1 rfl ?_
         refine gv_nil <| gv_goA ?_
         refine gv_stage (Cls w129 []) [3, 7] [(3, some true), (7, some true)] (bA 14 [0, 1, 2, 3, 4, 5, 6, 7]) 6 kr kr (Cls.refl _ _) ?_
         have hC136 := Cls.refl w129 []
         obtain ⟨_, ⟨_, _, rfl, rfl, ⟨_, _, rfl, rfl, rfl⟩⟩, hc137⟩ := hpa0_0.cellsK hx132
         refine gv_loadAgg (t := 49) (A := (elemAddr pa0_0 ((s91.2.2.1 : Int).toNat * 3))) #[(.int .u8 x131.1), (.int .i64 x131.2.1), (.bool x131.2.2)] [] (fun e => by cases e) rfl rfl rfl kr kr kr kr (inw1 fun w' hC' => (hc137 w' (fun k hk => (hC'.2 k ((fun k (hk : X0 k) => ltl (hX0 k hk) hB133.size) k hk) (fun hg => nmx_nil k hg hk)).trans (hB133.block k (hX0 k hk))))) rfl ?_
         obtain ⟨_, ⟨_, _, rfl, rfl, ⟨_, _, rfl, ⟨_, _, rfl, rfl, ⟨a139, c140, rfl, hr141⟩⟩, ⟨_, _, rfl, ⟨_, _, rfl, rfl, ⟨a142, c143, rfl, hr144⟩⟩, ⟨_, _, rfl, rfl, rfl⟩⟩⟩⟩, hc138⟩ := hpa1_0.cellsK hx135
         refine gv_loadAgg (t := 41) (A := (elemAddr pa1_0 ((s91.2.1 : Int).toNat * 7))) #[(.int .i64 x134.1), (.bool x134.2.1.1), (.slice a139 (length x134.2.1.2) c140), (.bool x134.2.2.1.1), (.slice a142 (length x134.2.2.1.2) c143), (.string x134.2.2.2.1), (.int .i64 x134.2.2.2.2)] [] (fun e => by cases e) rfl rfl rfl kr kr kr kr (inw1 fun w' hC' => (hc138 w' (fun k hk => (hC'.2 k ((fun k (hk : X0 k) => ltl (hX0 k hk) hB133.size) k hk) (fun hg => nmx_nil k hg hk)).trans (hB133.block k (hX0 k hk))))) rfl ?_
         refine gv_nil <| gv_goA ?_
         refine gv_stage (fun _ => True) [8] [(8, some false)] (bA 14 [0, 1, 2, 3, 4, 5, 6, 7, 8]) 5 kr kr trivial ?_
         refine bindE h3 ?_; clear h3; intro r145 hr146 h3
         refine gv_call (f := 35) (vs := [(.agg #[(.int .u8 x131.1), (.int .i64 x131.2.1), (.bool x131.2.2)]), (.agg #[(.int .i64 x134.1), (.bool x134.2.1.1), (.slice a139 (length x134.2.1.2) c140), (.bool x134.2.2.1.1), (.slice a142 (length x134.2.2.1.2) c143), (.string x134.2.2.2.1), (.int .i64 x134.2.2.2.2)])]) (cap := []) _ (by decide) rfl rfl rfl kr kr enters35 (ref4_packed_ok fuel (x131.1, x131.2.1, x131.2.2) a139 c140 a142 c143 (x134.1, (x134.2.1.1, x134.2.1.2), (x134.2.2.1.1, x134.2.2.1.2), x134.2.2.2.1, x134.2.2.2.2) w129 (fun k => X0 k ∨ X0 k) (fun k hk => (hk).elim (fun h => (fun k (hk : X0 k) => ltl (hX0 k hk) hB133.size) k h) (fun h => (fun k (hk : X0 k) => ltl (hX0 k hk) hB133.size) k h)) ((hr141.below hB133 hX0).wide (fun k hk => (.inl hk))) ((hr144.below hB133 hX0).wide (fun k hk => (.inr hk))) r145 hr146) ?_
         rintro v149 w147 ⟨hg148, a150, c151, X153, rfl, ho152, hx154⟩
         refine ⟨(fun _ => trivial), ?_⟩
         have hx155 : ∀ k, X153 k → k < w147.heap.size := fun k hk => (hx154 k hk).1
         have hx156 : ∀ k, X153 k → X0 k ∨ w0.heap.size ≤ k := fun k hk => (hx154 k hk).2.elim (fun h => (h).elim (fun h => (fun k (hk : X0 k) => Or.inl hk) k h) (fun h => (fun k (hk : X0 k) => Or.inl hk) k h)) (fun h => .inr (Nat.le_trans hB133.size h))
         refine gv_nil <| gv_goA ?_
         refine gv_pre [9, 10, 11, 12, 13] (bA 14 [0, 1, 2, 3, 4, 5, 6, 7, 8, 9, 10, 11, 12, 13]) 0 kr kr ?_
         refine pN 5 [12, 13, 58, 68, 69] [(12, (.slice a150 (length r145.1) c151)), (13, (.int .i64 r145.2))] ?_
         refine gv_sub [0, 1, 5, 9, 10, 11, 12, 13] (σ' := [(0, (.slice pa0_0 (length l_0) pc0_0)), (1, (.slice pa1_0 (length vs_1) pc1_0)), (5, (bp b1)), (9, (.slice a95 (length s91.1) c96)), (10, (.int .i64 s91.2.1)), (11, (.int .i64 s91.2.2.1)), (12, (.slice a150 (length r145.1) c151)), (13, (.int .i64 r145.2))]) kr ?_
         refine gv_nil <| gv_goA ?_
         refine gv_stageE kr ?_
         refine gv_seq <| gv_seq <| gv_region <| pN 2 [70, 71] [(71, (.bool (r145.2 != 0)))] ?_
         refine gv_nil <| gv_cond (b := (r145.2 != 0)) kr (fun hc157 => ?_) (fun hc157 => ?_)
         ·replace h3 := ite_t hc157 h3
          refine gv_seq <| gv_region <| pN 2 [72, 73] [(72, (.int .i64 r145.2)), (73, (.int .i64 s91.2.1))] ?_
          refine bindE h3 ?_; clear h3; intro r158 hr159 h3
          refine gv_call0 kr rfl kr enters19 (ref4_At_ok fuel r145.2 s91.2.1 w147  r158 hr159) ?_
          rintro v162 w160 ⟨hg161, rfl⟩
          refine pN 1 [4] [(4, (.slice none (length ([] : List UInt8)) 0))] ?_
          have hg167 := (grown_trans (grown_trans hg130 hg148) hg161)
          have hk168 := hb101.grown hg167 nb
          refine gv_store0 26 0 (.agg #[(.int .i64 r158.1), (.int .i64 r158.2)]) #[(.int .i64 r158.1), (.int .i64 r158.2)] hk168 kr kr kr ?_
          intro w163 hg164 hb165 hz166
          refine gv_nil <| gv_cret ?_
          have e := sj h3; subst e
          replace h2 := cont_inr h2
          have e := sj h2; subst e
          replace h1 := congrArg some (hR2 _ rfl)
          have e := sj h1; subst e
          replace h0 := cont_inr h0
          have e := sj h0; subst e
          refine gv_ret (gv_done [(.slice none (length ([] : List UInt8)) 0), (.agg #[(.int .i64 r158.1), (.int .i64 r158.2)])] rfl ⟨kr, ⟨⟨b1, 0, none⟩, kr, run_loadVar_row w163 b1 _ 26 _ _ _ hb165 Tryz.underlying26 rfl kr⟩, trivial⟩ ?_)
          have hg169 := (grown_trans hg148 hg161)
          have hB170 := bg hB133 hg169 nb
          have hlo171 : w0.heap.size ≤ b1 := lob hbe5 hB0.size
          have hB172 := bg hB170 hg164 (rowlo hlo171)
          exact ⟨grown_of_below hB172, none, 0, rfl, (Gv.Own.nil bE 5 w163 (fun _ => False)), (fun _ h => by cases h)⟩
         ·replace h3 := ite_f hc157 h3
          refine gv_skip <| gv_seq <| gv_region <| pN 2 [75, 76] [(75, (.slice a95 (length s91.1) c96)), (76, (.slice a150 (length r145.1) c151))] ?_
          refine bindE h3 ?_; clear h3; intro l173 hx174 h3
          have hg181 := (grown_trans hg130 hg148)
          have hk182 := ho97.grown hg181 (fun _ h => h.elim) nb
          refine gv_append bE (t := 23) (ty := 23) (e := 5) (a := a95) (ax := a150) (cap := c96) (cx := c151) (xs := s91.1) (ys := r145.1) l173 (X := (fun _ => False)) (Y := X153) (by decide) rfl rfl kr kr Tryz.underlying23 info5 hk182 ho152 hx174 (.inr fun _ _ _ _ _ h => h) (fun _ h => h.elim) ?_
          intro a175 c176 w177 hg178 ho179 hk180
          refine ⟨(fun e => by cases e), ?_⟩
          have hB184 := bg hB133 hg148 nb
          have hl183 : ∀ g, blk a175 = some g → w0.heap.size ≤ g := blk_step hk180 hl98 hB184.size
          have hk186 := hb101.grown hg181 nb
          have ap185 : ∀ g, blk a175 = some g → ¬ (· = b1) g := blk_neX hk180 ap99 (ltb hk186)
          have ap187 : ¬ (fun k => blk a175 = some k) b1 := fun h => blk_rev hk180 (fun h => (ap100) h) (hk186.lt) h
          have hk189 := ho97.grown hg130 (fun _ h => h.elim) nb
          have ap190 : ∀ g, blk a95 = some g → ¬ X153 g := fun g e h => ((hx154 _ h).2.elim (fun h => (h).elim (fun h => ((fun g (e : blk a95 = some g) (hx : X0 g) => nl (hl98 g e) (hX0 _ hx))) g e h) (fun h => ((fun g (e : blk a95 = some g) (hx : X0 g) => nl (hl98 g e) (hX0 _ hx))) g e h)) (fun h => nl h (hk189.lt g e)))
          have ap188 : ∀ g, blk a175 = some g → ¬ X153 g := blk_neX hk180 ap190 hx155
          refine pN 1 [9] [(9, (.slice a175 (length l173) c176))] ?_
          refine gv_nil <| gv_region <| pN 3 [10, 78, 79] [(10, (.int .i64 (IntKind.i64.wrap (s91.2.1 + 1))))] ?_
          refine gv_nil <| gv_blk ?_
          have e := sj h3; subst e
          refine gv_goal fun a hd hs hok => ?_
          have hB191 := bg hB184 hg178 hl98
          have hz192 := (nt (nt hg130.size hg148.size) hg178.size)
          have hk193 := hk186.grown hg178 ap99
          exact ⟨(l173, (IntKind.i64.wrap (s91.2.1 + 1)), (s91.2.2.2.1, s91.2.2.2.2)), rfl, a175, c176, hB191, hz192, ho179, hl183, ap185, ap187, hk193, hd, hs, okp [0, 1, 5, 9, 10, 11] hok⟩
       ·rintro a w105 ⟨s104, e, a196, c197, hB194, hz195, ho198, hl199, ap200, ap201, hb202, hd, hs, hok⟩
        subst e
        refine gv_in ?_ hd hs hok
        clear hd hs hok
        replace h2 := cont_inl h2
        have hz203 := (nt hz94 hz195)
        clear hz195 hc102 hb101 ap100 ap99 hl98 ho97 hz94 hB93 hc74 hb73 hB71
        refine gv_region <| pN 3 [11, 43, 44] [(11, (.int .i64 (IntKind.i64.wrap (s91.2.2.1 + 1))))] ?_
        refine gv_nil ?_
        have e := sj h2; subst e
        refine gv_goal fun a hd hs hok => ?_
        have hz204 := hz203
        exact ⟨(s104.1, s104.2.1, (IntKind.i64.wrap (s91.2.2.1 + 1)), (s104.2.2.1, s104.2.2.2)), rfl, a196, c197, hB194, hz204, ho198, hl199, ap200, ap201, hb202, hd, hs, okp [0, 1, 5, 9, 10, 11] hok⟩
      ·replace h2 := ite_f hc102 h2
       refine gv_cexit <| gv_exit rfl ?_
       have e := sj h2; subst e
       replace h1 := congrArg some (hR2 _ rfl)
       have e := sj h1; subst e
       refine gv_goal fun a hd hs hok => ?_
       have hz205 := hz94
       exact ⟨(s91.1, (s91.2.2.2.1, s91.2.2.2.2)), rfl, a95, c96, hB93, hz205, ho97, hl98, ap99, ap100, hb101, hd, hs, okp [5, 9] hok⟩
    ·rintro a w90 ⟨s89, e, a208, c209, hB206, hz207, ho210, hl211, ap212, ap213, hb214, hd, hs, hok⟩
     subst e
     refine gv_in ?_ hd hs hok
     clear hd hs hok
     replace h0 := cont_inl h0
     clear hz207 hc74 hb73 hB71
     refine gv_seq <| gv_region <| pN 3 [4, 80, 81] [(4, (.slice a208 (length s89.1) c209)), (81, (.agg #[(.int .i64 0), (.int .i64 0)]))] ?_
     refine gv_store0 26 0 (.agg #[(.int .i64 0), (.int .i64 0)]) #[(.int .i64 0), (.int .i64 0)] hb214 kr kr kr ?_
     intro w215 hg216 hb217 hz218
     refine gv_nil <| gv_cret ?_
     have e := sj h0; subst e
     refine gv_ret (gv_done [(.slice a208 (length s89.1) c209), (.agg #[(.int .i64 0), (.int .i64 0)])] rfl ⟨kr, ⟨⟨b1, 0, none⟩, kr, run_loadVar_row w215 b1 _ 26 _ _ _ hb217 Tryz.underlying26 rfl kr⟩, trivial⟩ ?_)
     have hlo219 : w0.heap.size ≤ b1 := lob hbe5 hB0.size
     have hB220 := bg hB206 hg216 (rowlo hlo219)
     have hk221 := ho210.grown hg216 (fun _ h => h.elim) (rdnn (rowne ap213))
     exact ⟨grown_of_below hB220, a208, c209, rfl, hk221, hl211⟩

theorem packing_Sizes_ok (fuel : Nat) (pa0_0 : Option Addr) (pc0_0 : Nat) (l_0 : (List (Int × Int × Bool))) (w0 : World) (X0 : Nat → Prop) (hX0 : ∀ k, X0 k → k < w0.heap.size) (hpa0_0 : Rd (prE (iE .u8) (prE (iE .i64) tE)) w0 X0 pa0_0 pc0_0 l_0) (r0 : (Int × Int × (Int × Int))) (h0 : packing_Sizes fuel l_0 = some r0) :
    Calls Tryz.prog 12 ([(.slice pa0_0 (length l_0) pc0_0)] : List Value).toArray w0 (Ret fun v w' => w0.grownBy w' none ∧ v = tup [(.int .i64 r0.1), (.int .i64 r0.2.1), (.agg #[(.int .i64 r0.2.2.1), (.int .i64 r0.2.2.2)])]) := by
 have hB0 : Below w0.heap.size w0 w0 := Below.refl _ _
 unfold packing_Sizes at h0
 refine calls_run Tryz.func12 rfl Tryz.ntmps12 kr ?_
 refine gv_sub [0] (σ' := [(0, (.slice pa0_0 (length l_0) pc0_0))]) kr ?_
 refine gv_seq <| gv_region <| pN 2 [2, 3] [(2, (.int .i64 0)), (3, (.int .i64 0))] ?_
 refine gv_new0 (fun b => .pointer (some ⟨b, 0, none⟩)) #[(.int .i64 0), (.int .i64 0)] 26 kr kr ?_
 intro b1 w2 hg3 hb4 hbe5 hz6
 refine gv_nil <| gv_seq <| gv_seq <| gv_region <| pN 1 [12] [(12, (.slice pa0_0 (length l_0) pc0_0))] ?_
 refine bindE h0 ?_; clear h0; intro r7 hr8 h0
 have hB9 := bg hB0 hg3 nb
 refine gv_call0 kr rfl kr enters14 (packing_Check_ok fuel pa0_0 pc0_0 l_0 w2 (fun k => X0 k) (fun k hk => (fun k (hk : X0 k) => ltl (hX0 k hk) hB9.size) k hk) ((hpa0_0.below hB9 hX0).wide (fun k hk => hk)) r7 hr8) ?_
 rintro v12 w10 ⟨hg11, rfl⟩
 refine gv_new0 (fun b => .pointer (some ⟨b, 0, none⟩)) #[(.int .i64 0), (.int .i64 0)] 26 kr kr ?_
 intro b13 w14 hg15 hb16 hbe17 hz18
 refine gv_store0 26 0 (.agg #[(.int .i64 r7.1), (.int .i64 r7.2)]) #[(.int .i64 r7.1), (.int .i64 r7.2)] hb16 kr kr kr ?_
 intro w19 hg20 hb21 hz22
 refine gv_nil <| gv_seq <| gv_region <| pN 1 [14] [(14, (bp b13))] ?_
 refine gv_load (t := 3) (A := ⟨b13, 0, none⟩) (.int .i64 r7.1) [] (fun e => by cases e) rfl rfl rfl kr kr kr (inw0 (hb21.cell 0 rfl)) rfl ?_
 refine pN 1 [16] [(16, (.bool (r7.1 != 0)))] ?_
 refine gv_nil <| gv_cond (b := (r7.1 != 0)) kr (fun hc23 => ?_) (fun hc23 => ?_)
 ·replace h0 := ite_t hc23 h0
  refine gv_seq <| gv_drawA kr ?_
  intro w24 hg25
  refine gv_pre [1, 2] (bA 4 [1, 2]) 2 kr kr ?_
  refine pN 2 [2, 3] [(2, (.int .i64 0)), (3, (.int .i64 0))] ?_
  refine gv_nil <| gv_goA ?_
  refine gv_stage (Cls w24 []) [0] [(0, some true)] (bA 4 [0, 1, 2]) 1 kr kr (Cls.refl _ _) ?_
  have hC26 := Cls.refl w24 []
  have hk27 := hb21.grown hg25 nb
  refine gv_loadBox (t := 26) (b := b13) (t' := 26) (fr := (0, 0)) #[(.int .i64 r7.1), (.int .i64 r7.2)] [] (fun e => by cases e) rfl rfl rfl kr kr kr kr (inw1 fun w' hC' => (hC'.box hk27 nm_nil)) rfl ?_
  refine gv_nil <| gv_goA ?_
  refine gv_stage (fun _ => True) [3] [(3, some false)] (bA 4 [0, 1, 2, 3]) 0 kr kr trivial ?_
  have hg32 := (grown_trans hg11 hg15)
  have hk33 := hb4.grown hg11 nb
  have lt34 := ltl ((ltb hk33) _ rfl) ((lowb hbe17) _ rfl)
  have hk35 := ((hb4.grown hg32 nb).grown hg20 (rowne (ng lt34))).grown hg25 nb
  refine gv_store (t := 26) (b := b1) (off := 0) (v := (.agg #[(.int .i64 r7.1), (.int .i64 r7.2)])) (t' := 26) (cs := #[(.int .i64 0), (.int .i64 0)]) #[(.int .i64 r7.1), (.int .i64 r7.2)] (by decide) rfl rfl kr kr kr (by intro u hu; simp [Value.cells] at hu; rcases hu with rfl | rfl <;> rfl) (show 0 + 2 ≤ 2 by decide) (by rfl) hk35 ?_
  intro w28 hg29 hb30 hz31
  refine ⟨(fun _ => trivial), ?_⟩
  refine gv_nil <| gv_goA ?_
  refine gv_stageE kr ?_
  refine gv_cret ?_
  have e := sj h0; subst e
  refine gv_ret (gv_done [(.int .i64 0), (.int .i64 0), (.agg #[(.int .i64 r7.1), (.int .i64 r7.2)])] rfl ⟨kr, kr, ⟨⟨b1, 0, none⟩, kr, run_loadVar_row w28 b1 _ 26 _ _ _ hb30 Tryz.underlying26 rfl kr⟩, trivial⟩ ?_)
  have hB36 := bg hB9 hg32 nb
  have hB37 := bg hB9 hg11 nb
  have hlo38 : w0.heap.size ≤ b13 := lob hbe17 hB37.size
  have hB39 := bg hB36 hg20 (rowlo hlo38)
  have hB40 := bg hB39 hg25 nb
  have hlo41 : w0.heap.size ≤ b1 := lob hbe5 hB0.size
  have hB42 := bg hB40 hg29 (rowlo hlo41)
  exact ⟨grown_of_below hB42, rfl⟩
 ·replace h0 := ite_f hc23 h0
  refine gv_skip <| gv_seq <| gv_seq <| gv_region <| pN 3 [18, 19, 20] [(18, (.slice pa0_0 (length l_0) pc0_0)), (19, (.int .i64 ((length l_0 : Nat) : Int))), (20, (.int .i64 0))] ?_
  refine gv_nil <| bindE h0 ?_; clear h0; intro j43 h1 h0
  refine gv_cut_code (J := fun a w44 => Below w0.heap.size w0 w44 ∧ w19.heap.size ≤ w44.heap.size ∧ Box w44 b1 26 #[(.int .i64 0), (.int .i64 0)] ∧ a.defers = [] ∧ a.tmps.size = 57 ∧ Ok [(2, (.int .i64 j43.1)), (3, (.int .i64 j43.2)), (4, (bp b1))] a.tmps) ?_ ?_
  ·skip
   refine gv_block <| gv_loop (A := fun (s45 : (Int × Int × Int)) a w46 => Below w0.heap.size w0 w46 ∧ w19.heap.size ≤ w46.heap.size ∧ Box w46 b1 26 #[(.int .i64 0), (.int .i64 0)] ∧ a.defers = [] ∧ a.tmps.size = 57 ∧ Ok [(2, (.int .i64 s45.1)), (3, (.int .i64 s45.2.1)), (4, (bp b1)), (18, (.slice pa0_0 (length l_0) pc0_0)), (19, (.int .i64 ((length l_0 : Nat) : Int))), (20, (.int .i64 s45.2.2))] a.tmps) h1 ?_ ?_
   ·intro a hd hs hok
    have hg47 := (grown_trans hg11 hg15)
    have hB48 := bg hB9 hg47 nb
    have hB49 := bg hB9 hg11 nb
    have hlo50 : w0.heap.size ≤ b13 := lob hbe17 hB49.size
    have hB51 := bg hB48 hg20 (rowlo hlo50)
    have hk52 := hb4.grown hg11 nb
    have lt53 := ltl ((ltb hk52) _ rfl) ((lowb hbe17) _ rfl)
    have hk54 := (hb4.grown hg47 nb).grown hg20 (rowne (ng lt53))
    exact ⟨hB51, nrf, hk54, hd, hs, okp [2, 3, 4, 18, 19, 20] hok⟩
   ·rintro s45 r2 h2 hR2 a w46 ⟨hB55, hz56, hb57, hd, hs, hok⟩
    refine gv_in ?_ hd hs hok
    clear hd hs hok
    clear hc23 hz22 hb21 hg20 hz18 hbe17 hb16 hg15 hg11 hB9 hr8 hz6 hb4 hg3
    refine gv_seq <| gv_region <| pN 1 [21] [(21, (.bool (decide (s45.2.2 < ((length l_0 : Nat) : Int)))))] ?_
    refine gv_nil <| gv_seq <| gv_cond (b := (decide (s45.2.2 < ((length l_0 : Nat) : Int)))) kr (fun hc58 => ?_) (fun hc58 => ?_)
    ·replace h2 := ite_t hc58 h2
     refine gv_skip <| gv_seq <| gv_block <| gv_seq <| gv_region <| bindE h2 ?_; clear h2; intro x59 hx60 h2
     refine gv_idxaddr (t := 22) (e := 49) (a := pa0_0) (len := length l_0) (cap := pc0_0) (kk := .i64) (i := s45.2.2) (sz := 3) [] (fun e => by cases e) rfl rfl rfl kr kr Tryz.underlying22 kr ((hpa0_0.below hB55 hX0).has hx60) (idx_spec hx60).1 (idx_spec hx60).2.1 rfl ?_
     obtain ⟨_, ⟨_, _, rfl, rfl, ⟨_, _, rfl, rfl, rfl⟩⟩, hc61⟩ := hpa0_0.cellsK hx60
     refine gv_loadAgg (t := 49) (A := (elemAddr pa0_0 ((s45.2.2 : Int).toNat * 3))) #[(.int .u8 x59.1), (.int .i64 x59.2.1), (.bool x59.2.2)] [] (fun e => by cases e) rfl rfl rfl kr kr kr kr (inw0 (hc61 w46 (fun k hk => hB55.block k (hX0 k hk)))) rfl ?_
     refine gv_new0 (fun b => .pointer (some ⟨b, 0, none⟩)) #[(.int .u8 0), (.int .i64 0), (.bool false)] 49 kr kr ?_
     intro b62 w63 hg64 hb65 hbe66 hz67
     refine gv_store0 49 0 (.agg #[(.int .u8 x59.1), (.int .i64 x59.2.1), (.bool x59.2.2)]) #[(.int .u8 x59.1), (.int .i64 x59.2.1), (.bool x59.2.2)] hb65 kr kr kr ?_
     intro w68 hg69 hb70 hz71
     have hz72 := (nt (nt hz56 hg64.size) hg69.size)
     clear hz71 hz67 hb65 hc61 hx60 hc58 hz56
     refine gv_nil <| gv_seq <| gv_drawA kr ?_
     intro w73 hg74
     refine gv_pre [0, 2] (bA 6 [0, 2]) 4 kr kr ?_
     refine pN 2 [24, 26] [(24, (.pointer (some ⟨b62, 1, none⟩))), (26, (.pointer (some ⟨b62, 1, none⟩)))] ?_
     refine gv_nil <| gv_goA ?_
     refine gv_stage (Cls w73 []) [1, 3, 4] [(1, some true), (3, some true), (4, some true)] (bA 6 [0, 1, 2, 3, 4]) 1 kr kr (Cls.refl _ _) ?_
     have hC75 := Cls.refl w73 []
     have hk76 := hb70.grown hg74 nb
     refine gv_load (t := 3) (A := ⟨b62, 1, none⟩) (.int .i64 x59.2.1) [] (fun e => by cases e) rfl rfl rfl kr kr kr (inw1 fun w' hC' => ((hC'.box hk76 nm_nil).cell 1 rfl)) rfl ?_
     refine gv_load (t := 3) (A := ⟨b62, 1, none⟩) (.int .i64 x59.2.1) [] (fun e => by cases e) rfl rfl rfl kr kr kr (inw1 fun w' hC' => ((hC'.box hk76 nm_nil).cell 1 rfl)) rfl ?_
     refine pN 1 [8] [(8, (.int .i64 x59.2.1))] ?_
     refine gv_nil <| gv_goA ?_
     refine gv_pre [5] (bA 6 [0, 1, 2, 3, 4, 5]) 0 kr kr ?_
     refine pN 1 [9] [(9, (.int .i64 x59.2.1))] ?_
     refine gv_nil <| gv_goA ?_
     refine gv_stageE kr ?_
     refine gv_seq <| gv_seq <| gv_region <| pN 1 [29] [(29, (bp b62))] ?_
     refine gv_load (t := 5) (A := ⟨b62, 0, none⟩) (.int .u8 x59.1) [] (fun e => by cases e) rfl rfl rfl kr kr kr (inw0 (hk76.cell 0 rfl)) rfl ?_
     refine bindE h2 ?_; clear h2; intro r77 hr78 h2
     refine gv_call0 kr rfl kr enters36 (packing_width_ok fuel x59.1 w73  r77 hr78) ?_
     rintro v81 w79 ⟨hg80, rfl⟩
     refine pN 5 [10, 11, 28, 32, 33] [(10, (.int .i64 r77.1))] ?_
     refine gv_sub [2, 3, 4, 7, 8, 9, 10, 18, 19, 20] (σ' := [(2, (.int .i64 s45.1)), (3, (.int .i64 s45.2.1)), (4, (bp b1)), (7, (bp b62)), (8, (.int .i64 x59.2.1)), (9, (.int .i64 x59.2.1)), (10, (.int .i64 r77.1)), (18, (.slice pa0_0 (length l_0) pc0_0)), (19, (.int .i64 ((length l_0 : Nat) : Int))), (20, (.int .i64 s45.2.2))]) kr ?_
     refine gv_nil <| gv_block <| gv_seq <| gv_region <| pN 3 [34, 35, 36] [(34, (.bool (decide (r77.1 > 0))))] ?_
     refine gv_nil <| bindE h2 ?_; clear h2; intro j82 h3 h2
     refine gv_cut_code (J := fun a w83 => Below w0.heap.size w0 w83 ∧ w79.heap.size ≤ w83.heap.size ∧ Box w83 b1 26 #[(.int .i64 0), (.int .i64 0)] ∧ a.defers = [] ∧ a.tmps.size = 57 ∧ Ok [(2, (.int .i64 s45.1)), (3, (.int .i64 s45.2.1)), (4, (bp b1)), (8, (.int .i64 j82.1)), (9, (.int .i64 j82.2)), (18, (.slice pa0_0 (length l_0) pc0_0)), (19, (.int .i64 ((length l_0 : Nat) : Int))), (20, (.int .i64 s45.2.2))] a.tmps) ?_ ?_
     ·skip
      refine gv_cond (b := (decide (r77.1 > 0))) kr (fun hc84 => ?_) (fun hc84 => ?_)
      ·replace h3 := ite_t hc84 h3
       refine gv_region <| pN 4 [8, 9, 37, 38] [(8, (.int .i64 r77.1)), (9, (.int .i64 r77.1))] ?_
       refine gv_nil ?_
       have e := sj h3; subst e
       refine gv_goal fun a hd hs hok => ?_
       have hB85 := bg hB55 hg64 nb
       have hlo86 : w0.heap.size ≤ b62 := lob hbe66 hB55.size
       have hB87 := bg hB85 hg69 (rowlo hlo86)
       have hg88 := (grown_trans hg74 hg80)
       have hB89 := bg hB87 hg88 nb
       have lt90 := ltl ((ltb hb57) _ rfl) ((lowb hbe66) _ rfl)
       have hk91 := ((hb57.grown hg64 nb).grown hg69 (rowne (ng lt90))).grown hg88 nb
       exact ⟨hB89, nrf, hk91, hd, hs, okp [2, 3, 4, 8, 9, 18, 19, 20] hok⟩
      ·replace h3 := ite_f hc84 h3
       refine gv_seq <| gv_region <| pN 1 [40] [(40, (bp b62))] ?_
       have hk92 := hk76.grown hg80 nb
       refine gv_load (t := 5) (A := ⟨b62, 0, none⟩) (.int .u8 x59.1) [] (fun e => by cases e) rfl rfl rfl kr kr kr (inw0 (hk92.cell 0 rfl)) rfl ?_
       refine pN 2 [39, 42] [(39, (.bool (x59.1 == 118)))] ?_
       refine gv_nil <| gv_cond (b := (x59.1 == 118)) kr (fun hc93 => ?_) (fun hc93 => ?_)
       ·replace h3 := ite_t hc93 h3
        refine gv_region <| pN 2 [8, 9] [(8, (.int .i64 1)), (9, (.int .i64 10))] ?_
        refine gv_nil ?_
        have e := sj h3; subst e
        refine gv_goal fun a hd hs hok => ?_
        have hB94 := bg hB55 hg64 nb
        have hlo95 : w0.heap.size ≤ b62 := lob hbe66 hB55.size
        have hB96 := bg hB94 hg69 (rowlo hlo95)
        have hg97 := (grown_trans hg74 hg80)
        have hB98 := bg hB96 hg97 nb
        have lt99 := ltl ((ltb hb57) _ rfl) ((lowb hbe66) _ rfl)
        have hk100 := ((hb57.grown hg64 nb).grown hg69 (rowne (ng lt99))).grown hg97 nb
        exact ⟨hB98, nrf, hk100, hd, hs, okp [2, 3, 4, 8, 9, 18, 19, 20] hok⟩
       ·replace h3 := ite_f hc93 h3
        refine gv_seq <| gv_region <| pN 1 [44] [(44, (bp b62))] ?_
        refine gv_load (t := 5) (A := ⟨b62, 0, none⟩) (.int .u8 x59.1) [] (fun e => by cases e) rfl rfl rfl kr kr kr (inw0 (hk92.cell 0 rfl)) rfl ?_
        refine pN 2 [43, 46] [(43, (.bool (x59.1 == 112)))] ?_
        refine gv_nil <| gv_cond (b := (x59.1 == 112)) kr (fun hc101 => ?_) (fun hc101 => ?_)
        ·replace h3 := ite_t hc101 h3
         refine gv_region <| pN 2 [8, 9] [(8, (.int .i64 1)), (9, (.int .i64 256))] ?_
         refine gv_nil ?_
         have e := sj h3; subst e
         refine gv_goal fun a hd hs hok => ?_
         have hB102 := bg hB55 hg64 nb
         have hlo103 : w0.heap.size ≤ b62 := lob hbe66 hB55.size
         have hB104 := bg hB102 hg69 (rowlo hlo103)
         have hg105 := (grown_trans hg74 hg80)
         have hB106 := bg hB104 hg105 nb
         have lt107 := ltl ((ltb hb57) _ rfl) ((lowb hbe66) _ rfl)
         have hk108 := ((hb57.grown hg64 nb).grown hg69 (rowne (ng lt107))).grown hg105 nb
         exact ⟨hB106, nrf, hk108, hd, hs, okp [2, 3, 4, 8, 9, 18, 19, 20] hok⟩
        ·replace h3 := ite_f hc101 h3
         refine gv_skip ?_
         have e := sj h3; subst e
         refine gv_goal fun a hd hs hok => ?_
         have hB109 := bg hB55 hg64 nb
         have hlo110 : w0.heap.size ≤ b62 := lob hbe66 hB55.size
         have hB111 := bg hB109 hg69 (rowlo hlo110)
         have hg112 := (grown_trans hg74 hg80)
         have hB113 := bg hB111 hg112 nb
         have lt114 := ltl ((ltb hb57) _ rfl) ((lowb hbe66) _ rfl)
         have hk115 := ((hb57.grown hg64 nb).grown hg69 (rowne (ng lt114))).grown hg112 nb
         exact ⟨hB113, nrf, hk115, hd, hs, okp [2, 3, 4, 8, 9, 18, 19, 20] hok⟩
     ·rintro a w83 ⟨hB116, hz117, hb118, hd, hs, hok⟩
      refine gv_in ?_ hd hs hok
      clear hd hs hok
      have hz119 := (nt hz72 hg74.size)
      have hz120 := (nt hg80.size hz117)
      clear hz117 hg80 hr78 hC75 hz72 hb70
      refine gv_blk <| gv_region <| pN 8 [2, 3, 47, 48, 49, 50, 51, 52] [(2, (.int .i64 (IntKind.i64.wrap (s45.1 + j82.1)))), (3, (.int .i64 (IntKind.i64.wrap (s45.2.1 + j82.2))))] ?_
      refine gv_nil <| gv_blk <| gv_region <| pN 2 [20, 53] [(20, (.int .i64 (IntKind.i64.wrap (s45.2.2 + 1))))] ?_
      refine gv_nil ?_
      have e := sj h2; subst e
      refine gv_goal fun a hd hs hok => ?_
      have hz121 := (nt hz119 hz120)
      exact ⟨((IntKind.i64.wrap (s45.1 + j82.1)), (IntKind.i64.wrap (s45.2.1 + j82.2)), (IntKind.i64.wrap (s45.2.2 + 1))), rfl, hB116, hz121, hb118, hd, hs, okp [2, 3, 4, 18, 19, 20] hok⟩
    ·replace h2 := ite_f hc58 h2
     refine gv_cexit <| gv_exit rfl ?_
     have e := sj h2; subst e
     replace h1 := congrArg some (hR2 _ rfl)
     have e := sj h1; subst e
     refine gv_goal fun a hd hs hok => ?_
     have hz122 := hz56
     exact ⟨hB55, hz122, hb57, hd, hs, okp [2, 3, 4] hok⟩
  ·rintro a w44 ⟨hB123, hz124, hb125, hd, hs, hok⟩
   refine gv_in ?_ hd hs hok
   clear hd hs hok
   clear hz124 hc23 hz22 hb21 hg20 hz18 hbe17 hb16 hg15 hg11 hB9 hr8 hz6 hb4 hg3
   refine gv_seq <| gv_region <| pN 5 [2, 3, 54, 55, 56] [(2, (.int .i64 j43.1)), (3, (.int .i64 j43.2)), (56, (.agg #[(.int .i64 0), (.int .i64 0)]))] ?_
   refine gv_store0 26 0 (.agg #[(.int .i64 0), (.int .i64 0)]) #[(.int .i64 0), (.int .i64 0)] hb125 kr kr kr ?_
   intro w126 hg127 hb128 hz129
   refine gv_nil <| gv_cret ?_
   have e := sj h0; subst e
   refine gv_ret (gv_done [(.int .i64 j43.1), (.int .i64 j43.2), (.agg #[(.int .i64 0), (.int .i64 0)])] rfl ⟨kr, kr, ⟨⟨b1, 0, none⟩, kr, run_loadVar_row w126 b1 _ 26 _ _ _ hb128 Tryz.underlying26 rfl kr⟩, trivial⟩ ?_)
   have hlo130 : w0.heap.size ≤ b1 := lob hbe5 hB0.size
   have hB131 := bg hB123 hg127 (rowlo hlo130)
   exact ⟨grown_of_below hB131, rfl⟩

end Go.Proofs.YtdpmkphjcjacfaaGreatDoor
