import Derived.Test.YtdpmkphjcjacfaaGreatDoorP1
set_option linter.all false
set_option maxHeartbeats 4000000
set_option maxRecDepth 100000
/- Own work, printed by a program of mine: the walk of each function: a call returns what the plain function says. -/
namespace Go.Proofs.YtdpmkphjcjacfaaGreatDoor
open Go.Gv Go.Gv.D Go.RowKit
open List (length)
theorem ref4_Unpacked_ok (fuel : Nat) (pa0_0 : Option Addr) (pc0_0 : Nat) (l_0 : (List (Int × Int × Bool))) (pa1_0 : Option Addr) (pc1_0 : Nat) (data_1 : (List UInt8)) (w0 : World) (X0 : Nat → Prop) (hX0 : ∀ k, X0 k → k < w0.heap.size) (hpa0_0 : Rd (prE (iE .u8) (prE (iE .i64) tE)) w0 X0 pa0_0 pc0_0 l_0) (hpa1_0 : Rd bE w0 X0 pa1_0 pc1_0 data_1) (r0 : ((List (Int × (Bool × (List Int)) × (Bool × (List Int)) × ByteArray × Int)) × (Int × Int))) (h0 : ref4_Unpacked fuel l_0 data_1 = some r0) :
    Calls Tryz.prog 6 ([(.slice pa0_0 (length l_0) pc0_0), (.slice pa1_0 (length data_1) pc1_0)] : List Value).toArray w0 (Ret fun v w' => w0.grownBy w' none ∧ ∃ (a0_0r : Option Addr) (c0_0r : Nat), ∃ (X0_0r : Nat → Prop), v = tup [(.slice a0_0r (length r0.1) c0_0r), (.agg #[(.int .i64 r0.2.1), (.int .i64 r0.2.2)])] ∧ Gv.Own (prE (iE .i64) (prE (prE tE (slE (iE .u32))) (prE (prE tE (slE (iE .u32))) (prE sE (iE .i64))))) 41 w' X0_0r a0_0r c0_0r r0.1 ∧ (∀ g, blk a0_0r = some g → w0.heap.size ≤ g) ∧ (∀ k, X0_0r k → k < w'.heap.size ∧ (X0 k ∨ w0.heap.size ≤ k))) := by
 have hB0 : Below w0.heap.size w0 w0 := Below.refl _ _
 unfold ref4_Unpacked at h0
 refine calls_run Tryz.func6 rfl Tryz.ntmps6 (by kernel_rfl) ?_
 refine gv_sub [0, 1] (σ' := [(0, (.slice pa0_0 (length l_0) pc0_0)), (1, (.slice pa1_0 (length data_1) pc1_0))]) (by kernel_rfl) ?_
 refine gv_seq <| gv_region <| pN 1 [4] [] ?_
 refine gv_new0 (fun b => .pointer (some ⟨b, 0, none⟩)) #[(.int .i64 0), (.int .i64 0)] 26 (by kernel_rfl) (by kernel_rfl) ?_
 intro b1 w2 hg3 hb4 hbe5 hz6
 refine gv_nil <| gv_seq <| gv_seq <| gv_region <| pN 1 [27] [(27, (.slice pa0_0 (length l_0) pc0_0))] ?_
 refine bindE h0 ?_; clear h0; intro r7 hr8 h0
 have hB9 := bg hB0 hg3 nb
 refine gv_call0 (by kernel_rfl) rfl (by kernel_rfl) enters17 (ref4_FieldsFault_ok fuel pa0_0 pc0_0 l_0 w2 (fun k => X0 k) (fun k hk => (fun k (hk : X0 k) => ltl (hX0 k hk) hB9.size) k hk) ((hpa0_0.below hB9 hX0).wide (fun k hk => hk)) r7 hr8) ?_
 rintro v12 w10 ⟨hg11, rfl⟩
 refine gv_new0 (fun b => .pointer (some ⟨b, 0, none⟩)) #[(.int .i64 0), (.int .i64 0)] 26 (by kernel_rfl) (by kernel_rfl) ?_
 intro b13 w14 hg15 hb16 hbe17 hz18
 refine gv_store0 26 0 (.agg #[(.int .i64 r7.1), (.int .i64 r7.2)]) #[(.int .i64 r7.1), (.int .i64 r7.2)] hb16 (by kernel_rfl) (by kernel_rfl) (by kernel_rfl) ?_
 intro w19 hg20 hb21 hz22
 refine gv_nil <| gv_seq <| gv_region <| pN 1 [29] [(29, (bp b13))] ?_
 refine gv_load (t := 3) (A := ⟨b13, 0, none⟩) (.int .i64 r7.1) [] (fun e => by cases e) rfl rfl rfl (by kernel_rfl) (by kernel_rfl) (by kernel_rfl) (inw0 (hb21.cell 0 rfl)) rfl ?_
 refine pN 1 [31] [(31, (.bool (r7.1 != 0)))] ?_
 refine gv_nil <| gv_cond (b := (r7.1 != 0)) (by kernel_rfl) (fun hc23 => ?_) (fun hc23 => ?_)
 ·replace h0 := ite_t hc23 h0
  refine gv_seq <| gv_drawA (by kernel_rfl) ?_
  intro w24 hg25
  refine gv_pre [1] (bA 3 [1]) 2 (by kernel_rfl) (by kernel_rfl) ?_
  refine pN 1 [4] [(4, (.slice none (length ([] : List (Int × (Bool × (List Int)) × (Bool × (List Int)) × ByteArray × Int))) 0))] ?_
  refine gv_nil <| gv_goA ?_
  refine gv_stage (Cls w24 []) [0, 1] [(0, some true)] (bA 3 [0, 1]) 1 (by kernel_rfl) (by kernel_rfl) (Cls.refl _ _) ?_
  have hC26 := Cls.refl w24 []
  have hk27 := hb21.grown hg25 nb
  refine gv_loadBox (t := 26) (b := b13) (t' := 26) (fr := (0, 0)) #[(.int .i64 r7.1), (.int .i64 r7.2)] [] (fun e => by cases e) rfl rfl rfl (by kernel_rfl) (by kernel_rfl) (by kernel_rfl) (by kernel_rfl) (inw1 fun w' hC' => (hC'.box hk27 nm_nil)) rfl ?_
  refine gv_nil <| gv_goA ?_
  refine gv_stage (fun _ => True) [0, 1, 2] [(2, some false)] (bA 3 [0, 1, 2]) 0 (by kernel_rfl) (by kernel_rfl) trivial ?_
  have hg32 := (grown_trans hg11 hg15)
  have hk33 := hb4.grown hg11 nb
  have lt34 := ltl ((ltb hk33) _ rfl) ((lowb hbe17) _ rfl)
  have hk35 := ((hb4.grown hg32 nb).grown hg20 (rowne (ng lt34))).grown hg25 nb
  refine gv_store (t := 26) (b := b1) (off := 0) (v := (.agg #[(.int .i64 r7.1), (.int .i64 r7.2)])) (t' := 26) (cs := #[(.int .i64 0), (.int .i64 0)]) #[(.int .i64 r7.1), (.int .i64 r7.2)] (by decide) rfl rfl (by kernel_rfl) (by kernel_rfl) (by kernel_rfl) (by intro u hu; simp [Value.cells] at hu; rcases hu with rfl | rfl <;> rfl) (show 0 + 2 ≤ 2 by decide) (by rfl) hk35 ?_
  intro w28 hg29 hb30 hz31
  refine ⟨(fun _ => trivial), ?_⟩
  refine gv_nil <| gv_goA ?_
  refine gv_stageE (by kernel_rfl) ?_
  refine gv_cret ?_
  have e := sj h0; subst e
  refine gv_ret (gv_done [(.slice none (length ([] : List (Int × (Bool × (List Int)) × (Bool × (List Int)) × ByteArray × Int))) 0), (.agg #[(.int .i64 r7.1), (.int .i64 r7.2)])] rfl ⟨(by kernel_rfl), ⟨⟨b1, 0, none⟩, (by kernel_rfl), run_loadVar_row w28 b1 _ 26 _ _ _ hb30 Tryz.underlying26 rfl (by kernel_rfl)⟩, trivial⟩ ?_)
  have hB36 := bg hB9 hg32 nb
  have hB37 := bg hB9 hg11 nb
  have hlo38 : w0.heap.size ≤ b13 := lob hbe17 hB37.size
  have hB39 := bg hB36 hg20 (rowlo hlo38)
  have hB40 := bg hB39 hg25 nb
  have hlo41 : w0.heap.size ≤ b1 := lob hbe5 hB0.size
  have hB42 := bg hB40 hg29 (rowlo hlo41)
  exact ⟨grown_of_below hB42, none, 0, (fun _ => False), rfl, (Gv.Own.nil (prE (iE .i64) (prE (prE tE (slE (iE .u32))) (prE (prE tE (slE (iE .u32))) (prE sE (iE .i64))))) 41 w28 (fun _ => False)), (fun _ h => by cases h), (fun k hk => ⟨(fun _ h => h.elim) k hk, (fun _ h => h.elim) k hk⟩)⟩
 ·replace h0 := ite_f hc23 h0
  refine gv_skip <| gv_seq <| gv_region <| pN 1 [7] [(7, (.slice none (length ([] : List (Int × (Bool × (List Int)) × (Bool × (List Int)) × ByteArray × Int))) 0))] ?_
  refine gv_nil <| gv_seq <| gv_region <| pN 1 [8] [(8, (.int .i64 0))] ?_
  refine gv_nil <| gv_seq <| gv_seq <| gv_region <| pN 1 [9] [(9, (.int .i64 0))] ?_
  refine gv_nil <| bindE h0 ?_; clear h0; intro j43 h1 h0
  refine gv_cut_code (J := fun a w45 => ∃ s44 : ((List (Int × (Bool × (List Int)) × (Bool × (List Int)) × ByteArray × Int)) × Int × (Int × Int)), j43 = .inl s44 ∧ ∃ (a7_0j : Option Addr) (c7_0j : Nat), ∃ (X7_0j : Nat → Prop), Below w0.heap.size w0 w45 ∧ w19.heap.size ≤ w45.heap.size ∧ Gv.Own (prE (iE .i64) (prE (prE tE (slE (iE .u32))) (prE (prE tE (slE (iE .u32))) (prE sE (iE .i64))))) 41 w45 X7_0j a7_0j c7_0j s44.1 ∧ (∀ g, blk a7_0j = some g → w0.heap.size ≤ g) ∧ (∀ k, X7_0j k → k < w45.heap.size) ∧ (∀ k, X7_0j k → X0 k ∨ w0.heap.size ≤ k) ∧ (∀ g, blk a7_0j = some g → ¬ (· = b1) g) ∧ ¬ (fun k => blk a7_0j = some k ∨ X7_0j k) b1 ∧ Box w45 b1 26 #[(.int .i64 s44.2.2.1), (.int .i64 s44.2.2.2)] ∧ a.defers = [] ∧ a.tmps.size = 265 ∧ Ok [(1, (.slice pa1_0 (length data_1) pc1_0)), (5, (bp b1)), (7, (.slice a7_0j (length s44.1) c7_0j)), (8, (.int .i64 s44.2.1))] a.tmps) ?_ ?_
  ·skip
   refine gv_block <| gv_loop (A := fun (s46 : ((List (Int × (Bool × (List Int)) × (Bool × (List Int)) × ByteArray × Int)) × Int × Int × (Int × Int))) a w47 => ∃ (a7_0j : Option Addr) (c7_0j : Nat), ∃ (X7_0j : Nat → Prop), Below w0.heap.size w0 w47 ∧ w19.heap.size ≤ w47.heap.size ∧ Gv.Own (prE (iE .i64) (prE (prE tE (slE (iE .u32))) (prE (prE tE (slE (iE .u32))) (prE sE (iE .i64))))) 41 w47 X7_0j a7_0j c7_0j s46.1 ∧ (∀ g, blk a7_0j = some g → w0.heap.size ≤ g) ∧ (∀ k, X7_0j k → k < w47.heap.size) ∧ (∀ k, X7_0j k → X0 k ∨ w0.heap.size ≤ k) ∧ (∀ g, blk a7_0j = some g → ¬ (· = b1) g) ∧ ¬ (fun k => blk a7_0j = some k ∨ X7_0j k) b1 ∧ Box w47 b1 26 #[(.int .i64 s46.2.2.2.1), (.int .i64 s46.2.2.2.2)] ∧ a.defers = [] ∧ a.tmps.size = 265 ∧ Ok [(0, (.slice pa0_0 (length l_0) pc0_0)), (1, (.slice pa1_0 (length data_1) pc1_0)), (5, (bp b1)), (7, (.slice a7_0j (length s46.1) c7_0j)), (8, (.int .i64 s46.2.1)), (9, (.int .i64 s46.2.2.1))] a.tmps) h1 ?_ ?_
   ·intro a hd hs hok
    have hg48 := (grown_trans hg11 hg15)
    have hB49 := bg hB9 hg48 nb
    have hB50 := bg hB9 hg11 nb
    have hlo51 : w0.heap.size ≤ b13 := lob hbe17 hB50.size
    have hB52 := bg hB49 hg20 (rowlo hlo51)
    have hk53 := hb4.grown hg11 nb
    have lt54 := ltl ((ltb hk53) _ rfl) ((lowb hbe17) _ rfl)
    have hk55 := (hb4.grown hg48 nb).grown hg20 (rowne (ng lt54))
    exact ⟨none, 0, (fun _ => False), hB52, nrf, (Gv.Own.nil (prE (iE .i64) (prE (prE tE (slE (iE .u32))) (prE (prE tE (slE (iE .u32))) (prE sE (iE .i64))))) 41 w19 (fun _ => False)), (fun _ h => by cases h), (fun _ h => h.elim), (fun _ h => h.elim), (fun _ h => by cases h), (fun h => h.elim (fun e => by cases e) (fun e => e)), hk55, hd, hs, okp [0, 1, 5, 7, 8, 9] hok⟩
   ·rintro s46 r2 h2 hR2 a w47 ⟨a58, c59, X58, hB56, hz57, ho60, hl61, hx62, hx63, ap64, ap65, hb66, hd, hs, hok⟩
    refine gv_in ?_ hd hs hok
    clear hd hs hok
    clear hc23 hz22 hb21 hg20 hz18 hbe17 hb16 hg15 hg11 hB9 hr8 hz6 hb4 hg3
    refine gv_seq <| gv_seq <| gv_region <| pN 4 [33, 34, 35, 36] [(36, (.bool (decide (s46.2.2.1 < ((length l_0 : Nat) : Int)))))] ?_
    refine gv_nil <| gv_cond (b := (decide (s46.2.2.1 < ((length l_0 : Nat) : Int)))) (by kernel_rfl) (fun hc67 => ?_) (fun hc67 => ?_)
    ·replace h2 := ite_t hc67 h2
     refine gv_skip <| gv_seq <| gv_block <| gv_seq <| gv_region <| pN 2 [39, 40] [(39, (.slice pa0_0 (length l_0) pc0_0)), (40, (.int .i64 s46.2.2.1))] ?_
     refine bindE h2 ?_; clear h2; intro x68 hx69 h2
     refine gv_idxaddr (t := 22) (e := 49) (a := pa0_0) (len := length l_0) (cap := pc0_0) (kk := .i64) (i := s46.2.2.1) (sz := 3) [] (fun e => by cases e) rfl rfl rfl (by kernel_rfl) (by kernel_rfl) Tryz.underlying22 (by kernel_rfl) ((hpa0_0.below hB56 hX0).has hx69) (idx_spec hx69).1 (idx_spec hx69).2.1 rfl ?_
     obtain ⟨_, ⟨_, _, rfl, rfl, ⟨_, _, rfl, rfl, rfl⟩⟩, hc70⟩ := hpa0_0.cellsK hx69
     refine gv_loadAgg (t := 49) (A := (elemAddr pa0_0 ((s46.2.2.1 : Int).toNat * 3))) #[(.int .u8 x68.1), (.int .i64 x68.2.1), (.bool x68.2.2)] [] (fun e => by cases e) rfl rfl rfl (by kernel_rfl) (by kernel_rfl) (by kernel_rfl) (by kernel_rfl) (inw0 (hc70 w47 (fun k hk => hB56.block k (hX0 k hk)))) rfl ?_
     refine gv_new0 (fun b => .pointer (some ⟨b, 0, none⟩)) #[(.int .u8 0), (.int .i64 0), (.bool false)] 49 (by kernel_rfl) (by kernel_rfl) ?_
     intro b71 w72 hg73 hb74 hbe75 hz76
     refine gv_store0 49 0 (.agg #[(.int .u8 x68.1), (.int .i64 x68.2.1), (.bool x68.2.2)]) #[(.int .u8 x68.1), (.int .i64 x68.2.1), (.bool x68.2.2)] hb74 (by kernel_rfl) (by kernel_rfl) (by kernel_rfl) ?_
     intro w77 hg78 hb79 hz80
     have hz81 := (nt (nt hz57 hg73.size) hg78.size)
     clear hz80 hz76 hb74 hc70 hx69 hc67 hz57
     refine gv_nil <| gv_seq <| gv_region <| pN 1 [43] [(43, (bp b71))] ?_
     refine gv_load (t := 5) (A := ⟨b71, 0, none⟩) (.int .u8 x68.1) [] (fun e => by cases e) rfl rfl rfl (by kernel_rfl) (by kernel_rfl) (by kernel_rfl) (inw0 (hb79.cell 0 rfl)) rfl ?_
     refine bindE h2 ?_; clear h2; intro r82 hr83 h2
     refine gv_call0 (by kernel_rfl) rfl (by kernel_rfl) enters18 (ref4_widthOf_ok fuel x68.1 w77  r82 hr83) ?_
     rintro v86 w84 ⟨hg85, rfl⟩
     refine pN 1 [11] [(11, (.int .i64 r82))] ?_
     refine gv_nil <| gv_seq <| gv_seq <| gv_region <| pN 1 [46] [(46, (bp b71))] ?_
     have hk87 := hb79.grown hg85 nb
     refine gv_load (t := 5) (A := ⟨b71, 0, none⟩) (.int .u8 x68.1) [] (fun e => by cases e) rfl rfl rfl (by kernel_rfl) (by kernel_rfl) (by kernel_rfl) (inw0 (hk87.cell 0 rfl)) rfl ?_
     refine gv_nil <| gv_block <| gv_seq <| gv_seq <| gv_region <| pN 2 [48, 49] [(48, (.bool (x68.1 == 115)))] ?_
     refine gv_nil <| bindE h2 ?_; clear h2; intro j88 h3 h2
     refine gv_cut_code (J := fun a w89 => Below w0.heap.size w0 w89 ∧ w84.heap.size ≤ w89.heap.size ∧ Box w89 b1 26 #[(.int .i64 s46.2.2.2.1), (.int .i64 s46.2.2.2.2)] ∧ Box w89 b71 49 #[(.int .u8 x68.1), (.int .i64 x68.2.1), (.bool x68.2.2)] ∧ Gv.Own (prE (iE .i64) (prE (prE tE (slE (iE .u32))) (prE (prE tE (slE (iE .u32))) (prE sE (iE .i64))))) 41 w89 X58 a58 c59 s46.1 ∧ a.defers = [] ∧ a.tmps.size = 265 ∧ Ok [(0, (.slice pa0_0 (length l_0) pc0_0)), (1, (.slice pa1_0 (length data_1) pc1_0)), (5, (bp b1)), (7, (.slice a58 (length s46.1) c59)), (8, (.int .i64 s46.2.1)), (9, (.int .i64 s46.2.2.1)), (10, (bp b71)), (11, (.int .i64 r82)), (47, (.int .u8 x68.1)), (48, (.bool j88))] a.tmps) ?_ ?_
     ·skip
      refine gv_cond (b := (x68.1 == 115)) (by kernel_rfl) (fun hc90 => ?_) (fun hc90 => ?_)
      ·replace h3 := ite_t hc90 h3
       refine gv_skip ?_
       have e := sj h3; subst e
       refine gv_goal fun a hd hs hok => ?_
       have hB91 := bg hB56 hg73 nb
       have hlo92 : w0.heap.size ≤ b71 := lob hbe75 hB56.size
       have hB93 := bg hB91 hg78 (rowlo hlo92)
       have hB94 := bg hB93 hg85 nb
       have lt95 := ltl ((ltb hb66) _ rfl) ((lowb hbe75) _ rfl)
       have hk96 := ((hb66.grown hg73 nb).grown hg78 (rowne (ng lt95))).grown hg85 nb
       have ap97 : ¬ (fun k => blk a58 = some k ∨ X58 k) b71 := fun hx => nl ((lowb hbe75) _ rfl) ((fun k (hk : blk a58 = some k ∨ X58 k) => hk.elim (fun h => ho60.lt k h) (fun h => hx62 k h)) _ hx)
       have hx98 := ltx hx62 hg73.size
       have hx99 := ltx hx98 hg78.size
       have hk100 := ((ho60.grown hg73 hx62 nb).grown hg78 hx98 (rdnx (rowne ap97))).grown hg85 hx99 nb
       exact ⟨hB94, nrf, hk96, hk87, hk100, hd, hs, okp [0, 1, 5, 7, 8, 9, 10, 11, 47, 48] hok⟩
      ·replace h3 := ite_f hc90 h3
       refine gv_region <| pN 2 [48, 50] [(48, (.bool (x68.1 == 120)))] ?_
       refine gv_sub [0, 1, 5, 7, 8, 9, 10, 11, 47, 48] (σ' := [(0, (.slice pa0_0 (length l_0) pc0_0)), (1, (.slice pa1_0 (length data_1) pc1_0)), (5, (bp b1)), (7, (.slice a58 (length s46.1) c59)), (8, (.int .i64 s46.2.1)), (9, (.int .i64 s46.2.2.1)), (10, (bp b71)), (11, (.int .i64 r82)), (47, (.int .u8 x68.1)), (48, (.bool (x68.1 == 120)))]) (by kernel_rfl) ?_
       refine gv_nil ?_
       have e := sj h3; subst e
       refine gv_goal fun a hd hs hok => ?_
       have hB101 := bg hB56 hg73 nb
       have hlo102 : w0.heap.size ≤ b71 := lob hbe75 hB56.size
       have hB103 := bg hB101 hg78 (rowlo hlo102)
       have hB104 := bg hB103 hg85 nb
       have lt105 := ltl ((ltb hb66) _ rfl) ((lowb hbe75) _ rfl)
       have hk106 := ((hb66.grown hg73 nb).grown hg78 (rowne (ng lt105))).grown hg85 nb
       have ap107 : ¬ (fun k => blk a58 = some k ∨ X58 k) b71 := fun hx => nl ((lowb hbe75) _ rfl) ((fun k (hk : blk a58 = some k ∨ X58 k) => hk.elim (fun h => ho60.lt k h) (fun h => hx62 k h)) _ hx)
       have hx108 := ltx hx62 hg73.size
       have hx109 := ltx hx108 hg78.size
       have hk110 := ((ho60.grown hg73 hx62 nb).grown hg78 hx108 (rdnx (rowne ap107))).grown hg85 hx109 nb
       exact ⟨hB104, nrf, hk106, hk87, hk110, hd, hs, okp [0, 1, 5, 7, 8, 9, 10, 11, 47, 48] hok⟩
     ·rintro a w89 ⟨hB111, hz112, hb113, hb114, hk115, hd, hs, hok⟩
      refine gv_in ?_ hd hs hok
      clear hd hs hok
      have hz116 := (nt (nt hz81 hg85.size) hz112)
      clear hk87 hr83 hz81 hb79
      refine bindE h2 ?_; clear h2; intro j117 h3 h2
      refine gv_cut_code (J := fun a w118 => Below w0.heap.size w0 w118 ∧ w89.heap.size ≤ w118.heap.size ∧ Box w118 b1 26 #[(.int .i64 s46.2.2.2.1), (.int .i64 s46.2.2.2.2)] ∧ Box w118 b71 49 #[(.int .u8 x68.1), (.int .i64 x68.2.1), (.bool x68.2.2)] ∧ Gv.Own (prE (iE .i64) (prE (prE tE (slE (iE .u32))) (prE (prE tE (slE (iE .u32))) (prE sE (iE .i64))))) 41 w118 X58 a58 c59 s46.1 ∧ a.defers = [] ∧ a.tmps.size = 265 ∧ Ok [(0, (.slice pa0_0 (length l_0) pc0_0)), (1, (.slice pa1_0 (length data_1) pc1_0)), (5, (bp b1)), (7, (.slice a58 (length s46.1) c59)), (8, (.int .i64 s46.2.1)), (9, (.int .i64 s46.2.2.1)), (10, (bp b71)), (11, (.int .i64 j117))] a.tmps) ?_ ?_
      ·skip
       refine gv_cond (b := j88) (by kernel_rfl) (fun hc119 => ?_) (fun hc119 => ?_)
       ·replace h3 := ite_t hc119 h3
        refine gv_region <| pN 1 [51] [(51, (.pointer (some ⟨b71, 1, none⟩)))] ?_
        refine gv_load (t := 3) (A := ⟨b71, 1, none⟩) (.int .i64 x68.2.1) [] (fun e => by cases e) rfl rfl rfl (by kernel_rfl) (by kernel_rfl) (by kernel_rfl) (inw0 (hb114.cell 1 rfl)) rfl ?_
        refine pN 1 [11] [(11, (.int .i64 x68.2.1))] ?_
        refine gv_nil ?_
        have e := sj h3; subst e
        refine gv_goal fun a hd hs hok => ?_
        exact ⟨hB111, nrf, hb113, hb114, hk115, hd, hs, okp [0, 1, 5, 7, 8, 9, 10, 11] hok⟩
       ·replace h3 := ite_f hc119 h3
        refine gv_seq <| gv_seq <| gv_region <| pN 2 [53, 54] [(53, (.bool (x68.1 == 63)))] ?_
        refine gv_nil <| bindE h3 ?_; clear h3; intro j120 h4 h3
        refine gv_cut_code (J := fun a w121 => Below w0.heap.size w0 w121 ∧ w89.heap.size ≤ w121.heap.size ∧ Box w121 b1 26 #[(.int .i64 s46.2.2.2.1), (.int .i64 s46.2.2.2.2)] ∧ Box w121 b71 49 #[(.int .u8 x68.1), (.int .i64 x68.2.1), (.bool x68.2.2)] ∧ Gv.Own (prE (iE .i64) (prE (prE tE (slE (iE .u32))) (prE (prE tE (slE (iE .u32))) (prE sE (iE .i64))))) 41 w121 X58 a58 c59 s46.1 ∧ a.defers = [] ∧ a.tmps.size = 265 ∧ Ok [(0, (.slice pa0_0 (length l_0) pc0_0)), (1, (.slice pa1_0 (length data_1) pc1_0)), (5, (bp b1)), (7, (.slice a58 (length s46.1) c59)), (8, (.int .i64 s46.2.1)), (9, (.int .i64 s46.2.2.1)), (10, (bp b71)), (11, (.int .i64 r82)), (53, (.bool j120))] a.tmps) ?_ ?_
        ·skip
         refine gv_cond (b := (x68.1 == 63)) (by kernel_rfl) (fun hc122 => ?_) (fun hc122 => ?_)
         ·replace h4 := ite_t hc122 h4
          refine gv_skip ?_
          have e := sj h4; subst e
          refine gv_goal fun a hd hs hok => ?_
          exact ⟨hB111, nrf, hb113, hb114, hk115, hd, hs, okp [0, 1, 5, 7, 8, 9, 10, 11, 53] hok⟩
         ·replace h4 := ite_f hc122 h4
          refine gv_seq <| gv_region <| pN 2 [53, 55] [(53, (.bool (x68.1 == 118)))] ?_
          refine gv_nil <| gv_cond (b := (x68.1 == 118)) (by kernel_rfl) (fun hc123 => ?_) (fun hc123 => ?_)
          ·replace h4 := ite_t hc123 h4
           refine gv_skip ?_
           have e := sj h4; subst e
           refine gv_goal fun a hd hs hok => ?_
           exact ⟨hB111, nrf, hb113, hb114, hk115, hd, hs, okp [0, 1, 5, 7, 8, 9, 10, 11, 53] hok⟩
          ·replace h4 := ite_f hc123 h4
           refine gv_region <| pN 2 [53, 56] [(53, (.bool (x68.1 == 112)))] ?_
           refine gv_nil ?_
           have e := sj h4; subst e
           refine gv_goal fun a hd hs hok => ?_
           exact ⟨hB111, nrf, hb113, hb114, hk115, hd, hs, okp [0, 1, 5, 7, 8, 9, 10, 11, 53] hok⟩
        ·rintro a w121 ⟨hB124, hz125, hb126, hb127, hk128, hd, hs, hok⟩
         refine gv_in ?_ hd hs hok
         clear hd hs hok
         clear hc119 hk115 hb114 hb113 hB111
         refine gv_cond (b := j120) (by kernel_rfl) (fun hc129 => ?_) (fun hc129 => ?_)
         ·replace h3 := ite_t hc129 h3
          refine gv_region <| pN 1 [11] [(11, (.int .i64 1))] ?_
          refine gv_nil ?_
          have e := sj h3; subst e
          refine gv_goal fun a hd hs hok => ?_
          have hz130 := hz125
          exact ⟨hB124, hz130, hb126, hb127, hk128, hd, hs, okp [0, 1, 5, 7, 8, 9, 10, 11] hok⟩
         ·replace h3 := ite_f hc129 h3
          refine gv_skip ?_
          have e := sj h3; subst e
          refine gv_goal fun a hd hs hok => ?_
          have hz131 := hz125
          exact ⟨hB124, hz131, hb126, hb127, hk128, hd, hs, okp [0, 1, 5, 7, 8, 9, 10, 11] hok⟩
      ·rintro a w118 ⟨hB132, hz133, hb134, hb135, hk136, hd, hs, hok⟩
       refine gv_in ?_ hd hs hok
       clear hd hs hok
       have hz137 := (nt hz116 hz133)
       clear hz116 hk115 hb114 hb113 hB111
       refine gv_blk <| gv_seq <| gv_seq <| gv_region <| pN 6 [57, 58, 59, 60, 61, 62] [(62, (.bool (decide ((IntKind.i64.wrap (s46.2.1 + j117)) > ((length data_1 : Nat) : Int)))))] ?_
       refine gv_nil <| gv_cond (b := (decide ((IntKind.i64.wrap (s46.2.1 + j117)) > ((length data_1 : Nat) : Int)))) (by kernel_rfl) (fun hc138 => ?_) (fun hc138 => ?_)
       ·replace h2 := ite_t hc138 h2
        refine gv_seq <| gv_region <| pN 1 [63] [(63, (.int .i64 s46.2.2.1))] ?_
        refine bindE h2 ?_; clear h2; intro r139 hr140 h2
        refine gv_call0 (by kernel_rfl) rfl (by kernel_rfl) enters19 (ref4_At_ok fuel 15 s46.2.2.1 w118  r139 hr140) ?_
        rintro v143 w141 ⟨hg142, rfl⟩
        refine pN 1 [4] [(4, (.slice none (length ([] : List (Int × (Bool × (List Int)) × (Bool × (List Int)) × ByteArray × Int))) 0))] ?_
        have hk148 := hb134.grown hg142 nb
        refine gv_store0 26 0 (.agg #[(.int .i64 r139.1), (.int .i64 r139.2)]) #[(.int .i64 r139.1), (.int .i64 r139.2)] hk148 (by kernel_rfl) (by kernel_rfl) (by kernel_rfl) ?_
        intro w144 hg145 hb146 hz147
        refine gv_nil <| gv_cret ?_
        have e := sj h2; subst e
        replace h1 := congrArg some (hR2 _ rfl)
        have e := sj h1; subst e
        replace h0 := cont_inr h0
        have e := sj h0; subst e
        refine gv_ret (gv_done [(.slice none (length ([] : List (Int × (Bool × (List Int)) × (Bool × (List Int)) × ByteArray × Int))) 0), (.agg #[(.int .i64 r139.1), (.int .i64 r139.2)])] rfl ⟨(by kernel_rfl), ⟨⟨b1, 0, none⟩, (by kernel_rfl), run_loadVar_row w144 b1 _ 26 _ _ _ hb146 Tryz.underlying26 rfl (by kernel_rfl)⟩, trivial⟩ ?_)
        have hB149 := bg hB132 hg142 nb
        have hlo150 : w0.heap.size ≤ b1 := lob hbe5 hB0.size
        have hB151 := bg hB149 hg145 (rowlo hlo150)
        exact ⟨grown_of_below hB151, none, 0, (fun _ => False), rfl, (Gv.Own.nil (prE (iE .i64) (prE (prE tE (slE (iE .u32))) (prE (prE tE (slE (iE .u32))) (prE sE (iE .i64))))) 41 w144 (fun _ => False)), (fun _ h => by cases h), (fun k hk => ⟨(fun _ h => h.elim) k hk, (fun _ h => h.elim) k hk⟩)⟩
       ·replace h2 := ite_f hc138 h2
        refine gv_skip <| gv_seq <| gv_region <| pN 5 [65, 66, 67, 68, 69] [(65, (.slice pa1_0 (length data_1) pc1_0)), (66, (.int .i64 s46.2.1)), (69, (.int .i64 (IntKind.i64.wrap (s46.2.1 + j117))))] ?_
        refine bindE h2 ?_; clear h2; intro x152 hx153 h2
        refine gv_ssl2 bE (t := 23) (e := 5) (xs := data_1) (a := pa1_0) (cap := pc1_0) (lo := (some (.int .i64 s46.2.1))) (hi := (some (.int .i64 (IntKind.i64.wrap (s46.2.1 + j117))))) s46.2.1 (IntKind.i64.wrap (s46.2.1 + j117)) x152 (fun e => by cases e) rfl rfl rfl (by kernel_rfl) (by kernel_rfl) Tryz.underlying23 (by kernel_rfl) (.inr ⟨_, rfl⟩) (.inr ⟨_, rfl⟩) hx153 (hpa1_0.below hB132 hX0).1 ?_
        intro a154 c155 hsub156
        have hp157 := hsub156 _ _ hpa1_0
        refine pN 1 [12] [(12, (.slice a154 (length x152) c155))] ?_
        refine gv_nil <| gv_seq <| gv_region <| pN 4 [8, 71, 72, 73] [(8, (.int .i64 (IntKind.i64.wrap (s46.2.1 + j117))))] ?_
        refine gv_nil <| gv_seq <| gv_region <| pN 1 [74] [(74, (bp b71))] ?_
        refine gv_load (t := 5) (A := ⟨b71, 0, none⟩) (.int .u8 x68.1) [] (fun e => by cases e) rfl rfl rfl (by kernel_rfl) (by kernel_rfl) (by kernel_rfl) (inw0 (hb135.cell 0 rfl)) rfl ?_
        refine gv_nil <| gv_block <| gv_seq <| gv_region <| pN 2 [124, 125] [(124, (.bool (x68.1 == 115)))] ?_
        refine gv_nil <| bindE h2 ?_; clear h2; intro j158 h3 h2
        refine gv_cut_code (J := fun a w160 => ∃ s159 : ((List (Int × (Bool × (List Int)) × (Bool × (List Int)) × ByteArray × Int)) × Int × (Int × Int)), j158 = .inl s159 ∧ ∃ (a7_0j : Option Addr) (c7_0j : Nat), ∃ (X7_0j : Nat → Prop), Below w0.heap.size w0 w160 ∧ w118.heap.size ≤ w160.heap.size ∧ Gv.Own (prE (iE .i64) (prE (prE tE (slE (iE .u32))) (prE (prE tE (slE (iE .u32))) (prE sE (iE .i64))))) 41 w160 X7_0j a7_0j c7_0j s159.1 ∧ (∀ g, blk a7_0j = some g → w0.heap.size ≤ g) ∧ (∀ k, X7_0j k → k < w160.heap.size) ∧ (∀ k, X7_0j k → X0 k ∨ w0.heap.size ≤ k) ∧ (∀ g, blk a7_0j = some g → ¬ (· = b1) g) ∧ ¬ (fun k => blk a7_0j = some k ∨ X7_0j k) b1 ∧ Box w160 b1 26 #[(.int .i64 s159.2.2.1), (.int .i64 s159.2.2.2)] ∧ a.defers = [] ∧ a.tmps.size = 265 ∧ Ok [(0, (.slice pa0_0 (length l_0) pc0_0)), (1, (.slice pa1_0 (length data_1) pc1_0)), (5, (bp b1)), (7, (.slice a7_0j (length s159.1) c7_0j)), (8, (.int .i64 s159.2.1)), (9, (.int .i64 s46.2.2.1))] a.tmps) ?_ ?_
        ·skip
         refine gv_cond (b := (x68.1 == 115)) (by kernel_rfl) (fun hc161 => ?_) (fun hc161 => ?_)
         ·replace h3 := ite_t hc161 h3
          refine gv_region <| pN 2 [126, 127] [(126, (.slice a58 (length s46.1) c59)), (127, (.slice a154 (length x152) c155))] ?_
          refine gv_b2s (src := 23) (dst := 9) (e := 5) (xs := x152) (a := a154) (cap := c155) (X := X0) [] (fun e => by cases e) rfl rfl rfl (by kernel_rfl) (by kernel_rfl) Tryz.underlying23 Tryz.underlying5 Tryz.underlying9 (inw0 (hp157.below hB132 hX0)) rfl ?_
          refine pN 1 [129] [(129, (.agg #[(.int .i64 5), (.bool false), (.slice none (length ([] : List Int)) 0), (.bool false), (.slice none (length ([] : List Int)) 0), (.string (strOf x152)), (.int .i64 0)]))] ?_
          refine gv_new0 (fun b => .slice (some ⟨b, 0, none⟩) 1 1) #[(.int .i64 5), (.bool false), (.slice none (length ([] : List Int)) 0), (.bool false), (.slice none (length ([] : List Int)) 0), (.string (strOf x152)), (.int .i64 0)] 41 (by kernel_rfl) (by kernel_rfl) ?_
          intro b162 w163 hg164 hb165 hbe166 hz167
          obtain ⟨X173, e⟩ : ∃ X : Nat → Prop, X = (fun _ => False) := ⟨_, rfl⟩
          have hx171 : ∀ k, X173 k → k < w118.heap.size := fun k h => by rw [e] at h; exact h.elim
          have hz174 := hg164.size
          have hx170 : ∀ k, X173 k → k < w163.heap.size := fun k h => ltl (hx171 k h) hz174
          have hx172 : ∀ k, X173 k → X0 k ∨ w0.heap.size ≤ k := fun k h => by rw [e] at h; exact h.elim
          have ho168 : Gv.Own (prE (iE .i64) (prE (prE tE (slE (iE .u32))) (prE (prE tE (slE (iE .u32))) (prE sE (iE .i64))))) 41 w163 X173 (some ⟨b162, 0, none⟩) 1 ([(5, (false, ([] : List Int)), (false, ([] : List Int)), (strOf x152), 0)] : List (Int × (Bool × (List Int)) × (Bool × (List Int)) × ByteArray × Int)) := Box.ownE hb165 (by rw [e]; exact ⟨[(.int .i64 5), (.bool false), (.slice none (length ([] : List Int)) 0), (.bool false), (.slice none (length ([] : List Int)) 0), (.string (strOf x152)), (.int .i64 0)], [], rfl, ⟨[(.int .i64 5)], [(.bool false), (.slice none (length ([] : List Int)) 0), (.bool false), (.slice none (length ([] : List Int)) 0), (.string (strOf x152)), (.int .i64 0)], rfl, rfl, ⟨[(.bool false), (.slice none (length ([] : List Int)) 0)], [(.bool false), (.slice none (length ([] : List Int)) 0), (.string (strOf x152)), (.int .i64 0)], rfl, ⟨[(.bool false)], [(.slice none (length ([] : List Int)) 0)], rfl, rfl, ⟨none, 0, rfl, (Rd.nil _ _ _ none 0)⟩⟩, ⟨[(.bool false), (.slice none (length ([] : List Int)) 0)], [(.string (strOf x152)), (.int .i64 0)], rfl, ⟨[(.bool false)], [(.slice none (length ([] : List Int)) 0)], rfl, rfl, ⟨none, 0, rfl, (Rd.nil _ _ _ none 0)⟩⟩, ⟨[(.string (strOf x152))], [(.int .i64 0)], rfl, rfl, rfl⟩⟩⟩⟩, rfl⟩) (show 1 ≤ maxLen by decide) (fun h => noteq hbe166 (hx171 _ h))
          have hx175 : ∀ k, X173 k → (fun _ => False) k := fun k h => by rw [e] at h; exact h
          clear e
          have hl169 : ∀ g, blk (some ⟨b162, 0, none⟩) = some g → w0.heap.size ≤ g := loo hbe166 hB132.size
          have ap176 : ∀ g, blk (some ⟨b162, 0, none⟩) = some g → ¬ (· = b1) g := fun g e hx => nl (lowo hbe166 g e) ((ltb hb134) _ hx)
          have ap177 : ¬ (fun k => blk (some ⟨b162, 0, none⟩) = some k ∨ X173 k) b1 := fun h => h.elim (fun h => nl (lowo hbe166 _ h) ((ltb hb134) _ rfl)) (fun h => (hx175 _ h).elim)
          have ap178 : ∀ g, blk (some ⟨b162, 0, none⟩) = some g → ¬ (· = b71) g := fun g e hx => nl (lowo hbe166 g e) ((ltb hb135) _ hx)
          have ap179 : ¬ (fun k => blk (some ⟨b162, 0, none⟩) = some k ∨ X173 k) b71 := fun h => h.elim (fun h => nl (lowo hbe166 _ h) ((ltb hb135) _ rfl)) (fun h => (hx175 _ h).elim)
          have hx181 := ltx (ltx (ltx hx62 hg73.size) hg78.size) hg85.size
          have ap180 : ∀ g, blk (some ⟨b162, 0, none⟩) = some g → ¬ (fun k => blk a58 = some k ∨ X58 k) g := fun g e hx => nl (lowo hbe166 g e) ((fun k (hk : blk a58 = some k ∨ X58 k) => hk.elim (fun h => hk136.lt k h) (fun h => (fun k hk => ltl ((fun k hk => ltl (hx181 k hk) hz112) k hk) hz133) k h)) _ hx)
          have ap182 : ∀ g, blk a58 = some g → ¬ (fun k => blk (some ⟨b162, 0, none⟩) = some k ∨ X173 k) g := fun g e h => h.elim (fun h => nl (lowo hbe166 _ h) ((fun k (hk : blk a58 = some k ∨ X58 k) => hk.elim (fun h => hk136.lt k h) (fun h => (fun k hk => ltl ((fun k hk => ltl (hx181 k hk) hz112) k hk) hz133) k h)) g (.inl e))) (fun h => (hx175 _ h).elim)
          refine bindE h3 ?_; clear h3; intro l183 hx184 h3
          obtain ⟨X185, e⟩ : ∃ X : Nat → Prop, X = fun k => X58 k ∨ (fun k => blk (some ⟨b162, 0, none⟩) = some k ∨ X173 k) k := ⟨_, rfl⟩
          have hx189 := ltx (fun k hk => ltl ((fun k hk => ltl (hx181 k hk) hz112) k hk) hz133) hg164.size
          have hx186 : ∀ k, X185 k → k < w163.heap.size := fun k hk => by rw [e] at hk; exact hk.elim (fun h => hx189 k h) (fun h => (fun k (hk : blk (some ⟨b162, 0, none⟩) = some k ∨ X173 k) => hk.elim (fun h => ho168.lt k h) (fun h => hx170 k h)) k h)
          have hx187 : ∀ k, X185 k → X0 k ∨ w0.heap.size ≤ k := fun k hk => by rw [e] at hk; exact hk.elim (fun h => hx63 k h) (fun h => (fun k (hk : blk (some ⟨b162, 0, none⟩) = some k ∨ X173 k) => hk.elim (fun h => Or.inr (hl169 k h)) (fun h => hx172 k h)) k h)
          have hk190 := hk136.grown hg164 (fun k hk => ltl ((fun k hk => ltl (hx181 k hk) hz112) k hk) hz133) nb
          have ho188 : Gv.Own (prE (iE .i64) (prE (prE tE (slE (iE .u32))) (prE (prE tE (slE (iE .u32))) (prE sE (iE .i64))))) 41 w163 X185 a58 c59 s46.1 := (hk190).wide (fun k hk => by rw [e]; exact .inl hk) (fun g e1 hk => by rw [e] at hk; exact hk.elim (fun h => (hk190).out g e1 h) (fun h => ap182 g e1 h))
          have hx191 : ∀ k, (fun k => blk (some ⟨b162, 0, none⟩) = some k ∨ X173 k) k → X185 k := fun k hk => by rw [e]; exact .inr hk
          have hx192 : ∀ k, X185 k → X58 k ∨ (fun k => blk (some ⟨b162, 0, none⟩) = some k ∨ X173 k) k := fun k hk => by rw [e] at hk; exact hk
          clear e
          refine gv_append (prE (iE .i64) (prE (prE tE (slE (iE .u32))) (prE (prE tE (slE (iE .u32))) (prE sE (iE .i64))))) (t := 24) (ty := 24) (e := 41) (a := a58) (ax := (some ⟨b162, 0, none⟩)) (cap := c59) (cx := 1) (xs := s46.1) (ys := ([(5, (false, ([] : List Int)), (false, ([] : List Int)), (strOf x152), 0)] : List (Int × (Bool × (List Int)) × (Bool × (List Int)) × ByteArray × Int))) l183 (X := X185) (Y := (fun k => blk (some ⟨b162, 0, none⟩) = some k ∨ X173 k)) (by decide) rfl rfl (by kernel_rfl) (by kernel_rfl) Tryz.underlying24 info41 ho188 (ho168.rd (Y := fun k => blk (some ⟨b162, 0, none⟩) = some k ∨ X173 k) (fun _ h => .inr h) (fun g e => .inl e)) hx184 (.inl hx191) hx186 ?_
          intro a193 c194 w195 hg196 ho197 hk198
          refine ⟨(fun e => by cases e), ?_⟩
          have hB200 := bg hB132 hg164 nb
          have hl199 : ∀ g, blk a193 = some g → w0.heap.size ≤ g := blk_step hk198 hl61 hB200.size
          have hx201 : ∀ k, X185 k → k < w195.heap.size := fun k hk => ltl (hx186 k hk) hg196.size
          have hk203 := hb134.grown hg164 nb
          have ap202 : ∀ g, blk a193 = some g → ¬ (· = b1) g := blk_neX hk198 ap64 (ltb hk203)
          have ap204 : ¬ (fun k => blk a193 = some k ∨ X185 k) b1 := fun h => h.elim (fun h => blk_rev hk198 (fun h => (ap65) (.inl h)) (hk203.lt) h) (fun h => (hx192 _ h).elim (fun h => (ap65) (.inr h)) (fun h => (ap177) h))
          have ap206 : ∀ g, blk a58 = some g → ¬ (· = b71) g := fun g e hx => nl ((lowb hbe75) _ hx) ((fun k (hk : blk a58 = some k ∨ X58 k) => hk.elim (fun h => ho60.lt k h) (fun h => hx62 k h)) g (.inl e))
          have hk207 := hb135.grown hg164 nb
          have ap205 : ∀ g, blk a193 = some g → ¬ (· = b71) g := blk_neX hk198 ap206 (ltb hk207)
          have ap209 : ¬ (fun k => blk a58 = some k ∨ X58 k) b71 := fun hx => nl ((lowb hbe75) _ rfl) ((fun k (hk : blk a58 = some k ∨ X58 k) => hk.elim (fun h => ho60.lt k h) (fun h => hx62 k h)) _ hx)
          have ap208 : ¬ (fun k => blk a193 = some k ∨ X185 k) b71 := fun h => h.elim (fun h => blk_rev hk198 (fun h => (ap209) (.inl h)) (hk207.lt) h) (fun h => (hx192 _ h).elim (fun h => (ap209) (.inr h)) (fun h => (ap179) h))
          have ap210 : ∀ g, blk a193 = some g → ¬ (fun k => blk (some ⟨b162, 0, none⟩) = some k ∨ X173 k) g := blk_neX hk198 ap182 (fun k (hk : blk (some ⟨b162, 0, none⟩) = some k ∨ X173 k) => hk.elim (fun h => ho168.lt k h) (fun h => hx170 k h))
          refine pN 1 [7] [(7, (.slice a193 (length l183) c194))] ?_
          refine gv_sub [0, 1, 5, 7, 8, 9] (σ' := [(0, (.slice pa0_0 (length l_0) pc0_0)), (1, (.slice pa1_0 (length data_1) pc1_0)), (5, (bp b1)), (7, (.slice a193 (length l183) c194)), (8, (.int .i64 (IntKind.i64.wrap (s46.2.1 + j117)))), (9, (.int .i64 s46.2.2.1))]) (by kernel_rfl) ?_
          refine gv_nil ?_
          have e := sj h3; subst e
          refine gv_goal fun a hd hs hok => ?_
          have hB212 := bg hB200 hg196 hl61
          have hz213 := (nt hg164.size hg196.size)
          have hk214 := hk203.grown hg196 ap64
          exact ⟨(l183, (IntKind.i64.wrap (s46.2.1 + j117)), (s46.2.2.2.1, s46.2.2.2.2)), rfl, a193, c194, X185, hB212, hz213, ho197, hl199, hx201, hx187, ap202, ap204, hk214, hd, hs, okp [0, 1, 5, 7, 8, 9] hok⟩
         ·replace h3 := ite_f hc161 h3
          refine gv_seq <| gv_region <| pN 2 [132, 133] [(132, (.bool (x68.1 == 120)))] ?_
          refine gv_nil <| gv_cond (b := (x68.1 == 120)) (by kernel_rfl) (fun hc215 => ?_) (fun hc215 => ?_)
          ·replace h3 := ite_t hc215 h3
           refine gv_seq <| gv_region <| pN 1 [13] [(13, (.int .i64 0))] ?_
           refine gv_nil <| bindE h3 ?_; clear h3; intro j216 h4 h3
           refine gv_cut_code (J := fun a w218 => ∃ s217 : (Int × Int), j216 = .inl s217 ∧ Below w0.heap.size w0 w218 ∧ w118.heap.size ≤ w218.heap.size ∧ Box w218 b1 26 #[(.int .i64 s217.1), (.int .i64 s217.2)] ∧ Gv.Own (prE (iE .i64) (prE (prE tE (slE (iE .u32))) (prE (prE tE (slE (iE .u32))) (prE sE (iE .i64))))) 41 w218 X58 a58 c59 s46.1 ∧ a.defers = [] ∧ a.tmps.size = 265 ∧ Ok [(0, (.slice pa0_0 (length l_0) pc0_0)), (1, (.slice pa1_0 (length data_1) pc1_0)), (5, (bp b1)), (7, (.slice a58 (length s46.1) c59)), (8, (.int .i64 (IntKind.i64.wrap (s46.2.1 + j117)))), (9, (.int .i64 s46.2.2.1))] a.tmps) ?_ ?_
           ·skip
            refine gv_block <| gv_loop (A := fun (s219 : (Int × (Int × Int))) a w220 => Below w0.heap.size w0 w220 ∧ w118.heap.size ≤ w220.heap.size ∧ Box w220 b1 26 #[(.int .i64 s219.2.1), (.int .i64 s219.2.2)] ∧ Gv.Own (prE (iE .i64) (prE (prE tE (slE (iE .u32))) (prE (prE tE (slE (iE .u32))) (prE sE (iE .i64))))) 41 w220 X58 a58 c59 s46.1 ∧ a.defers = [] ∧ a.tmps.size = 265 ∧ Ok [(0, (.slice pa0_0 (length l_0) pc0_0)), (1, (.slice pa1_0 (length data_1) pc1_0)), (5, (bp b1)), (7, (.slice a58 (length s46.1) c59)), (8, (.int .i64 (IntKind.i64.wrap (s46.2.1 + j117)))), (9, (.int .i64 s46.2.2.1)), (11, (.int .i64 j117)), (12, (.slice a154 (length x152) c155)), (13, (.int .i64 s219.1))] a.tmps) h4 ?_ ?_
            ·intro a hd hs hok
             exact ⟨hB132, nrf, hb134, hk136, hd, hs, okp [0, 1, 5, 7, 8, 9, 11, 12, 13] hok⟩
            ·rintro s219 r5 h5 hR5 a w220 ⟨hB221, hz222, hb223, hk224, hd, hs, hok⟩
             refine gv_in ?_ hd hs hok
             clear hd hs hok
             clear hc215 hc161 hsub156 hx153 hc138 hk136 hb135 hb134 hB132 hbe75 hb66 ho60 hB56
             refine gv_seq <| gv_seq <| gv_region <| pN 3 [134, 135, 136] [(136, (.bool (decide (s219.1 < j117))))] ?_
             refine gv_nil <| gv_cond (b := (decide (s219.1 < j117))) (by kernel_rfl) (fun hc225 => ?_) (fun hc225 => ?_)
             ·replace h5 := ite_t hc225 h5
              refine gv_skip <| gv_seq <| gv_block <| gv_seq <| gv_region <| pN 2 [139, 140] [(139, (.slice a154 (length x152) c155)), (140, (.int .i64 s219.1))] ?_
              refine bindE h5 ?_; clear h5; intro x226 hx227 h5
              refine gv_idxaddr (t := 23) (e := 5) (a := a154) (len := length x152) (cap := c155) (kk := .i64) (i := s219.1) (sz := 1) [] (fun e => by cases e) rfl rfl rfl (by kernel_rfl) (by kernel_rfl) Tryz.underlying23 (by kernel_rfl) ((hp157.below hB221 hX0).has hx227) (idx_spec hx227).1 (idx_spec hx227).2.1 rfl ?_
              refine gv_load (t := 5) (A := (elemAddr a154 ((s219.1 : Int).toNat * 1))) (.int .u8 ((x226).toNat : Int)) [] (fun e => by cases e) rfl rfl rfl (by kernel_rfl) (by kernel_rfl) (by kernel_rfl) (inw0 ((hp157.below hB221 hX0).cell hx227)) rfl ?_
              refine pN 1 [143] [(143, (.bool (((x226).toNat : Int) != 0)))] ?_
              refine gv_nil <| gv_cond (b := (((x226).toNat : Int) != 0)) (by kernel_rfl) (fun hc228 => ?_) (fun hc228 => ?_)
              ·replace h5 := ite_t hc228 h5
               refine gv_seq <| gv_region <| pN 1 [144] [(144, (.int .i64 s46.2.2.1))] ?_
               refine bindE h5 ?_; clear h5; intro r229 hr230 h5
               refine gv_call0 (by kernel_rfl) rfl (by kernel_rfl) enters19 (ref4_At_ok fuel 16 s46.2.2.1 w220  r229 hr230) ?_
               rintro v233 w231 ⟨hg232, rfl⟩
               refine pN 1 [4] [(4, (.slice none (length ([] : List (Int × (Bool × (List Int)) × (Bool × (List Int)) × ByteArray × Int))) 0))] ?_
               have hk238 := hb223.grown hg232 nb
               refine gv_store0 26 0 (.agg #[(.int .i64 r229.1), (.int .i64 r229.2)]) #[(.int .i64 r229.1), (.int .i64 r229.2)] hk238 (by kernel_rfl) (by kernel_rfl) (by kernel_rfl) ?_
               intro w234 hg235 hb236 hz237
               refine gv_nil <| gv_cret ?_
               have e := sj h5; subst e
               replace h4 := congrArg some (hR5 _ rfl)
               have e := sj h4; subst e
               replace h3 := cont_inr h3
               have e := sj h3; subst e
               replace h2 := cont_inr h2
               have e := sj h2; subst e
               replace h1 := congrArg some (hR2 _ rfl)
               have e := sj h1; subst e
               replace h0 := cont_inr h0
               have e := sj h0; subst e
               refine gv_ret (gv_done [(.slice none (length ([] : List (Int × (Bool × (List Int)) × (Bool × (List Int)) × ByteArray × Int))) 0), (.agg #[(.int .i64 r229.1), (.int .i64 r229.2)])] rfl ⟨(by kernel_rfl), ⟨⟨b1, 0, none⟩, (by kernel_rfl), run_loadVar_row w234 b1 _ 26 _ _ _ hb236 Tryz.underlying26 rfl (by kernel_rfl)⟩, trivial⟩ ?_)
               have hB239 := bg hB221 hg232 nb
               have hlo240 : w0.heap.size ≤ b1 := lob hbe5 hB0.size
               have hB241 := bg hB239 hg235 (rowlo hlo240)
               exact ⟨grown_of_below hB241, none, 0, (fun _ => False), rfl, (Gv.Own.nil (prE (iE .i64) (prE (prE tE (slE (iE .u32))) (prE (prE tE (slE (iE .u32))) (prE sE (iE .i64))))) 41 w234 (fun _ => False)), (fun _ h => by cases h), (fun k hk => ⟨(fun _ h => h.elim) k hk, (fun _ h => h.elim) k hk⟩)⟩
              ·replace h5 := ite_f hc228 h5
               refine gv_skip <| gv_blk <| gv_region <| pN 3 [13, 137, 138] [(13, (.int .i64 (IntKind.i64.wrap (s219.1 + 1))))] ?_
               refine gv_nil ?_
               have e := sj h5; subst e
               refine gv_goal fun a hd hs hok => ?_
               have hz242 := hz222
               exact ⟨((IntKind.i64.wrap (s219.1 + 1)), (s219.2.1, s219.2.2)), rfl, hB221, hz242, hb223, hk224, hd, hs, okp [0, 1, 5, 7, 8, 9, 11, 12, 13] hok⟩
             ·replace h5 := ite_f hc225 h5
              refine gv_cexit <| gv_exit rfl ?_
              have e := sj h5; subst e
              replace h4 := congrArg some (hR5 _ rfl)
              have e := sj h4; subst e
              refine gv_goal fun a hd hs hok => ?_
              have hz243 := hz222
              exact ⟨(s219.2.1, s219.2.2), rfl, hB221, hz243, hb223, hk224, hd, hs, okp [0, 1, 5, 7, 8, 9] hok⟩
           ·rintro a w218 ⟨s217, e, hB244, hz245, hb246, hk247, hd, hs, hok⟩
            subst e
            refine gv_in ?_ hd hs hok
            clear hd hs hok
            replace h3 := cont_inl h3
            clear hc215 hc161 hsub156 hx153 hc138 hk136 hb135 hb134 hB132 hbe75 hb66 ho60 hB56
            have e := sj h3; subst e
            refine gv_goal fun a hd hs hok => ?_
            have hz248 := hz245
            have hx249 := ltx (ltx (ltx hx62 hg73.size) hg78.size) hg85.size
            exact ⟨(s46.1, (IntKind.i64.wrap (s46.2.1 + j117)), (s217.1, s217.2)), rfl, a58, c59, X58, hB244, hz248, hk247, hl61, (fun k hk => ltl ((fun k hk => ltl ((fun k hk => ltl (hx249 k hk) hz112) k hk) hz133) k hk) hz245), hx63, ap64, ap65, hb246, hd, hs, okp [0, 1, 5, 7, 8, 9] hok⟩
          ·replace h3 := ite_f hc215 h3
           refine gv_seq <| gv_region <| pN 2 [146, 147] [(146, (.bool (x68.1 == 63)))] ?_
           refine gv_nil <| gv_cond (b := (x68.1 == 63)) (by kernel_rfl) (fun hc250 => ?_) (fun hc250 => ?_)
           ·replace h3 := ite_t hc250 h3
            refine gv_seq <| gv_seq <| gv_region <| pN 1 [148] [(148, (.slice a154 (length x152) c155))] ?_
            refine bindE h3 ?_; clear h3; intro x251 hx252 h3
            refine gv_idxaddr (t := 23) (e := 5) (a := a154) (len := length x152) (cap := c155) (kk := .i64) (i := 0) (sz := 1) [] (fun e => by cases e) rfl rfl rfl (by kernel_rfl) (by kernel_rfl) Tryz.underlying23 (by kernel_rfl) ((hp157.below hB132 hX0).has hx252) (idx_spec hx252).1 (idx_spec hx252).2.1 rfl ?_
            refine gv_load (t := 5) (A := (elemAddr a154 ((0 : Int).toNat * 1))) (.int .u8 ((x251).toNat : Int)) [] (fun e => by cases e) rfl rfl rfl (by kernel_rfl) (by kernel_rfl) (by kernel_rfl) (inw0 ((hp157.below hB132 hX0).cell hx252)) rfl ?_
            refine pN 1 [151] [(151, (.bool (decide (((x251).toNat : Int) > 1))))] ?_
            refine gv_sub [0, 1, 5, 7, 8, 9, 12, 151] (σ' := [(0, (.slice pa0_0 (length l_0) pc0_0)), (1, (.slice pa1_0 (length data_1) pc1_0)), (5, (bp b1)), (7, (.slice a58 (length s46.1) c59)), (8, (.int .i64 (IntKind.i64.wrap (s46.2.1 + j117)))), (9, (.int .i64 s46.2.2.1)), (12, (.slice a154 (length x152) c155)), (151, (.bool (decide (((x251).toNat : Int) > 1))))]) (by kernel_rfl) ?_
            refine gv_nil <| gv_cond (b := (decide (((x251).toNat : Int) > 1))) (by kernel_rfl) (fun hc253 => ?_) (fun hc253 => ?_)
            ·replace h3 := ite_t hc253 h3
             refine gv_seq <| gv_region <| pN 1 [152] [(152, (.int .i64 s46.2.2.1))] ?_
             refine bindE h3 ?_; clear h3; intro r254 hr255 h3
             refine gv_call0 (by kernel_rfl) rfl (by kernel_rfl) enters19 (ref4_At_ok fuel 16 s46.2.2.1 w118  r254 hr255) ?_
             rintro v258 w256 ⟨hg257, rfl⟩
             clear hr255 hc253 hx252 hc250 hc215 hc161 hsub156 hx153 hc138 hk136 hb135 hz133 hz112 hg85 hg78 hbe75 hg73 hb66 ap65 ap64 hx63 hx62 hl61 ho60 hB56
             refine pN 1 [4] [(4, (.slice none (length ([] : List (Int × (Bool × (List Int)) × (Bool × (List Int)) × ByteArray × Int))) 0))] ?_
             have hk263 := hb134.grown hg257 nb
             refine gv_store0 26 0 (.agg #[(.int .i64 r254.1), (.int .i64 r254.2)]) #[(.int .i64 r254.1), (.int .i64 r254.2)] hk263 (by kernel_rfl) (by kernel_rfl) (by kernel_rfl) ?_
             intro w259 hg260 hb261 hz262
             refine gv_nil <| gv_cret ?_
             have e := sj h3; subst e
             replace h2 := cont_inr h2
             have e := sj h2; subst e
             replace h1 := congrArg some (hR2 _ rfl)
             have e := sj h1; subst e
             replace h0 := cont_inr h0
             have e := sj h0; subst e
             refine gv_ret (gv_done [(.slice none (length ([] : List (Int × (Bool × (List Int)) × (Bool × (List Int)) × ByteArray × Int))) 0), (.agg #[(.int .i64 r254.1), (.int .i64 r254.2)])] rfl ⟨(by kernel_rfl), ⟨⟨b1, 0, none⟩, (by kernel_rfl), run_loadVar_row w259 b1 _ 26 _ _ _ hb261 Tryz.underlying26 rfl (by kernel_rfl)⟩, trivial⟩ ?_)
             have hB264 := bg hB132 hg257 nb
             have hlo265 : w0.heap.size ≤ b1 := lob hbe5 hB0.size
             have hB266 := bg hB264 hg260 (rowlo hlo265)
             exact ⟨grown_of_below hB266, none, 0, (fun _ => False), rfl, (Gv.Own.nil (prE (iE .i64) (prE (prE tE (slE (iE .u32))) (prE (prE tE (slE (iE .u32))) (prE sE (iE .i64))))) 41 w259 (fun _ => False)), (fun _ h => by cases h), (fun k hk => ⟨(fun _ h => h.elim) k hk, (fun _ h => h.elim) k hk⟩)⟩
            ·replace h3 := ite_f hc253 h3
             refine gv_skip <| gv_region <| pN 2 [154, 155] [(154, (.slice a58 (length s46.1) c59)), (155, (.slice a154 (length x152) c155))] ?_
             refine bindE h3 ?_; clear h3; intro x267 hx268 h3
             refine gv_idxaddr (t := 23) (e := 5) (a := a154) (len := length x152) (cap := c155) (kk := .i64) (i := 0) (sz := 1) [] (fun e => by cases e) rfl rfl rfl (by kernel_rfl) (by kernel_rfl) Tryz.underlying23 (by kernel_rfl) ((hp157.below hB132 hX0).has hx268) (idx_spec hx268).1 (idx_spec hx268).2.1 rfl ?_
             refine gv_load (t := 5) (A := (elemAddr a154 ((0 : Int).toNat * 1))) (.int .u8 ((x267).toNat : Int)) [] (fun e => by cases e) rfl rfl rfl (by kernel_rfl) (by kernel_rfl) (by kernel_rfl) (inw0 ((hp157.below hB132 hX0).cell hx268)) rfl ?_
             refine pN 2 [158, 159] [(159, (.agg #[(.int .i64 1), (.bool false), (.slice none (length ([] : List Int)) 0), (.bool false), (.slice none (length ([] : List Int)) 0), (.string (strOf [])), (.int .i64 (IntKind.i64.wrap (((x267).toNat : Int))))]))] ?_
             refine gv_new0 (fun b => .slice (some ⟨b, 0, none⟩) 1 1) #[(.int .i64 1), (.bool false), (.slice none (length ([] : List Int)) 0), (.bool false), (.slice none (length ([] : List Int)) 0), (.string (strOf [])), (.int .i64 (IntKind.i64.wrap (((x267).toNat : Int))))] 41 (by kernel_rfl) (by kernel_rfl) ?_
             intro b269 w270 hg271 hb272 hbe273 hz274
             obtain ⟨X280, e⟩ : ∃ X : Nat → Prop, X = (fun _ => False) := ⟨_, rfl⟩
             have hx278 : ∀ k, X280 k → k < w118.heap.size := fun k h => by rw [e] at h; exact h.elim
             have hz281 := hg271.size
             have hx277 : ∀ k, X280 k → k < w270.heap.size := fun k h => ltl (hx278 k h) hz281
             have hx279 : ∀ k, X280 k → X0 k ∨ w0.heap.size ≤ k := fun k h => by rw [e] at h; exact h.elim
             have ho275 : Gv.Own (prE (iE .i64) (prE (prE tE (slE (iE .u32))) (prE (prE tE (slE (iE .u32))) (prE sE (iE .i64))))) 41 w270 X280 (some ⟨b269, 0, none⟩) 1 ([(1, (false, ([] : List Int)), (false, ([] : List Int)), (strOf []), (IntKind.i64.wrap (((x267).toNat : Int))))] : List (Int × (Bool × (List Int)) × (Bool × (List Int)) × ByteArray × Int)) := Box.ownE hb272 (by rw [e]; exact ⟨[(.int .i64 1), (.bool false), (.slice none (length ([] : List Int)) 0), (.bool false), (.slice none (length ([] : List Int)) 0), (.string (strOf [])), (.int .i64 (IntKind.i64.wrap (((x267).toNat : Int))))], [], rfl, ⟨[(.int .i64 1)], [(.bool false), (.slice none (length ([] : List Int)) 0), (.bool false), (.slice none (length ([] : List Int)) 0), (.string (strOf [])), (.int .i64 (IntKind.i64.wrap (((x267).toNat : Int))))], rfl, rfl, ⟨[(.bool false), (.slice none (length ([] : List Int)) 0)], [(.bool false), (.slice none (length ([] : List Int)) 0), (.string (strOf [])), (.int .i64 (IntKind.i64.wrap (((x267).toNat : Int))))], rfl, ⟨[(.bool false)], [(.slice none (length ([] : List Int)) 0)], rfl, rfl, ⟨none, 0, rfl, (Rd.nil _ _ _ none 0)⟩⟩, ⟨[(.bool false), (.slice none (length ([] : List Int)) 0)], [(.string (strOf [])), (.int .i64 (IntKind.i64.wrap (((x267).toNat : Int))))], rfl, ⟨[(.bool false)], [(.slice none (length ([] : List Int)) 0)], rfl, rfl, ⟨none, 0, rfl, (Rd.nil _ _ _ none 0)⟩⟩, ⟨[(.string (strOf []))], [(.int .i64 (IntKind.i64.wrap (((x267).toNat : Int))))], rfl, rfl, rfl⟩⟩⟩⟩, rfl⟩) (show 1 ≤ maxLen by decide) (fun h => noteq hbe273 (hx278 _ h))
             have hx282 : ∀ k, X280 k → (fun _ => False) k := fun k h => by rw [e] at h; exact h
             clear e
             have hl276 : ∀ g, blk (some ⟨b269, 0, none⟩) = some g → w0.heap.size ≤ g := loo hbe273 hB132.size
             have ap283 : ∀ g, blk (some ⟨b269, 0, none⟩) = some g → ¬ (· = b1) g := fun g e hx => nl (lowo hbe273 g e) ((ltb hb134) _ hx)
             have ap284 : ¬ (fun k => blk (some ⟨b269, 0, none⟩) = some k ∨ X280 k) b1 := fun h => h.elim (fun h => nl (lowo hbe273 _ h) ((ltb hb134) _ rfl)) (fun h => (hx282 _ h).elim)
             have ap285 : ∀ g, blk (some ⟨b269, 0, none⟩) = some g → ¬ (· = b71) g := fun g e hx => nl (lowo hbe273 g e) ((ltb hb135) _ hx)
             have ap286 : ¬ (fun k => blk (some ⟨b269, 0, none⟩) = some k ∨ X280 k) b71 := fun h => h.elim (fun h => nl (lowo hbe273 _ h) ((ltb hb135) _ rfl)) (fun h => (hx282 _ h).elim)
             have hx288 := ltx (ltx (ltx hx62 hg73.size) hg78.size) hg85.size
             have ap287 : ∀ g, blk (some ⟨b269, 0, none⟩) = some g → ¬ (fun k => blk a58 = some k ∨ X58 k) g := fun g e hx => nl (lowo hbe273 g e) ((fun k (hk : blk a58 = some k ∨ X58 k) => hk.elim (fun h => hk136.lt k h) (fun h => (fun k hk => ltl ((fun k hk => ltl (hx288 k hk) hz112) k hk) hz133) k h)) _ hx)
             have ap289 : ∀ g, blk a58 = some g → ¬ (fun k => blk (some ⟨b269, 0, none⟩) = some k ∨ X280 k) g := fun g e h => h.elim (fun h => nl (lowo hbe273 _ h) ((fun k (hk : blk a58 = some k ∨ X58 k) => hk.elim (fun h => hk136.lt k h) (fun h => (fun k hk => ltl ((fun k hk => ltl (hx288 k hk) hz112) k hk) hz133) k h)) g (.inl e))) (fun h => (hx282 _ h).elim)
             refine bindE h3 ?_; clear h3; intro l290 hx291 h3
             obtain ⟨X292, e⟩ : ∃ X : Nat → Prop, X = fun k => X58 k ∨ (fun k => blk (some ⟨b269, 0, none⟩) = some k ∨ X280 k) k := ⟨_, rfl⟩
             have hx296 := ltx (fun k hk => ltl ((fun k hk => ltl (hx288 k hk) hz112) k hk) hz133) hg271.size
             have hx293 : ∀ k, X292 k → k < w270.heap.size := fun k hk => by rw [e] at hk; exact hk.elim (fun h => hx296 k h) (fun h => (fun k (hk : blk (some ⟨b269, 0, none⟩) = some k ∨ X280 k) => hk.elim (fun h => ho275.lt k h) (fun h => hx277 k h)) k h)
             have hx294 : ∀ k, X292 k → X0 k ∨ w0.heap.size ≤ k := fun k hk => by rw [e] at hk; exact hk.elim (fun h => hx63 k h) (fun h => (fun k (hk : blk (some ⟨b269, 0, none⟩) = some k ∨ X280 k) => hk.elim (fun h => Or.inr (hl276 k h)) (fun h => hx279 k h)) k h)
             have hk297 := hk136.grown hg271 (fun k hk => ltl ((fun k hk => ltl (hx288 k hk) hz112) k hk) hz133) nb
             have ho295 : Gv.Own (prE (iE .i64) (prE (prE tE (slE (iE .u32))) (prE (prE tE (slE (iE .u32))) (prE sE (iE .i64))))) 41 w270 X292 a58 c59 s46.1 := (hk297).wide (fun k hk => by rw [e]; exact .inl hk) (fun g e1 hk => by rw [e] at hk; exact hk.elim (fun h => (hk297).out g e1 h) (fun h => ap289 g e1 h))
             have hx298 : ∀ k, (fun k => blk (some ⟨b269, 0, none⟩) = some k ∨ X280 k) k → X292 k := fun k hk => by rw [e]; exact .inr hk
             have hx299 : ∀ k, X292 k → X58 k ∨ (fun k => blk (some ⟨b269, 0, none⟩) = some k ∨ X280 k) k := fun k hk => by rw [e] at hk; exact hk
             clear e
             refine gv_append (prE (iE .i64) (prE (prE tE (slE (iE .u32))) (prE (prE tE (slE (iE .u32))) (prE sE (iE .i64))))) (t := 24) (ty := 24) (e := 41) (a := a58) (ax := (some ⟨b269, 0, none⟩)) (cap := c59) (cx := 1) (xs := s46.1) (ys := ([(1, (false, ([] : List Int)), (false, ([] : List Int)), (strOf []), (IntKind.i64.wrap (((x267).toNat : Int))))] : List (Int × (Bool × (List Int)) × (Bool × (List Int)) × ByteArray × Int))) l290 (X := X292) (Y := (fun k => blk (some ⟨b269, 0, none⟩) = some k ∨ X280 k)) (by decide) rfl rfl (by kernel_rfl) (by kernel_rfl) Tryz.underlying24 info41 ho295 (ho275.rd (Y := fun k => blk (some ⟨b269, 0, none⟩) = some k ∨ X280 k) (fun _ h => .inr h) (fun g e => .inl e)) hx291 (.inl hx298) hx293 ?_
             intro a300 c301 w302 hg303 ho304 hk305
             refine ⟨(fun e => by cases e), ?_⟩
             have hB307 := bg hB132 hg271 nb
             have hl306 : ∀ g, blk a300 = some g → w0.heap.size ≤ g := blk_step hk305 hl61 hB307.size
             have hx308 : ∀ k, X292 k → k < w302.heap.size := fun k hk => ltl (hx293 k hk) hg303.size
             have hk310 := hb134.grown hg271 nb
             have ap309 : ∀ g, blk a300 = some g → ¬ (· = b1) g := blk_neX hk305 ap64 (ltb hk310)
             have ap311 : ¬ (fun k => blk a300 = some k ∨ X292 k) b1 := fun h => h.elim (fun h => blk_rev hk305 (fun h => (ap65) (.inl h)) (hk310.lt) h) (fun h => (hx299 _ h).elim (fun h => (ap65) (.inr h)) (fun h => (ap284) h))
             have ap313 : ∀ g, blk a58 = some g → ¬ (· = b71) g := fun g e hx => nl ((lowb hbe75) _ hx) ((fun k (hk : blk a58 = some k ∨ X58 k) => hk.elim (fun h => ho60.lt k h) (fun h => hx62 k h)) g (.inl e))
             have hk314 := hb135.grown hg271 nb
             have ap312 : ∀ g, blk a300 = some g → ¬ (· = b71) g := blk_neX hk305 ap313 (ltb hk314)
             have ap316 : ¬ (fun k => blk a58 = some k ∨ X58 k) b71 := fun hx => nl ((lowb hbe75) _ rfl) ((fun k (hk : blk a58 = some k ∨ X58 k) => hk.elim (fun h => ho60.lt k h) (fun h => hx62 k h)) _ hx)
             have ap315 : ¬ (fun k => blk a300 = some k ∨ X292 k) b71 := fun h => h.elim (fun h => blk_rev hk305 (fun h => (ap316) (.inl h)) (hk314.lt) h) (fun h => (hx299 _ h).elim (fun h => (ap316) (.inr h)) (fun h => (ap286) h))
             have ap317 : ∀ g, blk a300 = some g → ¬ (fun k => blk (some ⟨b269, 0, none⟩) = some k ∨ X280 k) g := blk_neX hk305 ap289 (fun k (hk : blk (some ⟨b269, 0, none⟩) = some k ∨ X280 k) => hk.elim (fun h => ho275.lt k h) (fun h => hx277 k h))
             refine pN 1 [7] [(7, (.slice a300 (length l290) c301))] ?_
             refine gv_nil ?_
             have e := sj h3; subst e
             refine gv_goal fun a hd hs hok => ?_
             have hB319 := bg hB307 hg303 hl61
             have hz320 := (nt hg271.size hg303.size)
             have hk321 := hk310.grown hg303 ap64
             exact ⟨(l290, (IntKind.i64.wrap (s46.2.1 + j117)), (s46.2.2.2.1, s46.2.2.2.2)), rfl, a300, c301, X292, hB319, hz320, ho304, hl306, hx308, hx294, ap309, ap311, hk321, hd, hs, okp [0, 1, 5, 7, 8, 9] hok⟩
           ·replace h3 := ite_f hc250 h3
            refine gv_seq <| gv_region <| pN 2 [162, 163] [(162, (.bool (x68.1 == 112)))] ?_
            refine gv_nil <| gv_cond (b := (x68.1 == 112)) (by kernel_rfl) (fun hc322 => ?_) (fun hc322 => ?_)
            ·replace h3 := ite_t hc322 h3
             refine gv_seq <| gv_region <| pN 1 [164] [(164, (.slice a154 (length x152) c155))] ?_
             refine bindE h3 ?_; clear h3; intro x323 hx324 h3
             refine gv_idxaddr (t := 23) (e := 5) (a := a154) (len := length x152) (cap := c155) (kk := .i64) (i := 0) (sz := 1) [] (fun e => by cases e) rfl rfl rfl (by kernel_rfl) (by kernel_rfl) Tryz.underlying23 (by kernel_rfl) ((hp157.below hB132 hX0).has hx324) (idx_spec hx324).1 (idx_spec hx324).2.1 rfl ?_
             refine gv_load (t := 5) (A := (elemAddr a154 ((0 : Int).toNat * 1))) (.int .u8 ((x323).toNat : Int)) [] (fun e => by cases e) rfl rfl rfl (by kernel_rfl) (by kernel_rfl) (by kernel_rfl) (inw0 ((hp157.below hB132 hX0).cell hx324)) rfl ?_
             refine pN 2 [14, 167] [(14, (.int .i64 (IntKind.i64.wrap (((x323).toNat : Int)))))] ?_
             refine gv_sub [0, 1, 5, 7, 8, 9, 14] (σ' := [(0, (.slice pa0_0 (length l_0) pc0_0)), (1, (.slice pa1_0 (length data_1) pc1_0)), (5, (bp b1)), (7, (.slice a58 (length s46.1) c59)), (8, (.int .i64 (IntKind.i64.wrap (s46.2.1 + j117)))), (9, (.int .i64 s46.2.2.1)), (14, (.int .i64 (IntKind.i64.wrap (((x323).toNat : Int)))))]) (by kernel_rfl) ?_
             refine bindE h3 ?_; clear h3; intro n325 hn326 h3
             refine gv_name (s := 14) (v := (.int .i64 (IntKind.i64.wrap (((x323).toNat : Int))))) (v' := (.int .i64 n325)) (by kernel_rfl) (congrArg (Value.int .i64) (sj hn326)) ?_
             refine gv_nil <| gv_seq <| gv_seq <| gv_region <| pN 6 [168, 169, 170, 171, 172, 173] [(173, (.bool (decide ((IntKind.i64.wrap ((IntKind.i64.wrap (s46.2.1 + j117)) + n325)) > ((length data_1 : Nat) : Int)))))] ?_
             refine gv_nil <| gv_cond (b := (decide ((IntKind.i64.wrap ((IntKind.i64.wrap (s46.2.1 + j117)) + n325)) > ((length data_1 : Nat) : Int)))) (by kernel_rfl) (fun hc327 => ?_) (fun hc327 => ?_)
             ·replace h3 := ite_t hc327 h3
              refine gv_seq <| gv_region <| pN 1 [174] [(174, (.int .i64 s46.2.2.1))] ?_
              refine bindE h3 ?_; clear h3; intro r328 hr329 h3
              refine gv_call0 (by kernel_rfl) rfl (by kernel_rfl) enters19 (ref4_At_ok fuel 15 s46.2.2.1 w118  r328 hr329) ?_
              rintro v332 w330 ⟨hg331, rfl⟩
              refine pN 1 [4] [(4, (.slice none (length ([] : List (Int × (Bool × (List Int)) × (Bool × (List Int)) × ByteArray × Int))) 0))] ?_
              have hk337 := hb134.grown hg331 nb
              refine gv_store0 26 0 (.agg #[(.int .i64 r328.1), (.int .i64 r328.2)]) #[(.int .i64 r328.1), (.int .i64 r328.2)] hk337 (by kernel_rfl) (by kernel_rfl) (by kernel_rfl) ?_
              intro w333 hg334 hb335 hz336
              refine gv_nil <| gv_cret ?_
              have e := sj h3; subst e
              replace h2 := cont_inr h2
              have e := sj h2; subst e
              replace h1 := congrArg some (hR2 _ rfl)
              have e := sj h1; subst e
              replace h0 := cont_inr h0
              have e := sj h0; subst e
              refine gv_ret (gv_done [(.slice none (length ([] : List (Int × (Bool × (List Int)) × (Bool × (List Int)) × ByteArray × Int))) 0), (.agg #[(.int .i64 r328.1), (.int .i64 r328.2)])] rfl ⟨(by kernel_rfl), ⟨⟨b1, 0, none⟩, (by kernel_rfl), run_loadVar_row w333 b1 _ 26 _ _ _ hb335 Tryz.underlying26 rfl (by kernel_rfl)⟩, trivial⟩ ?_)
              have hB338 := bg hB132 hg331 nb
              have hlo339 : w0.heap.size ≤ b1 := lob hbe5 hB0.size
              have hB340 := bg hB338 hg334 (rowlo hlo339)
              exact ⟨grown_of_below hB340, none, 0, (fun _ => False), rfl, (Gv.Own.nil (prE (iE .i64) (prE (prE tE (slE (iE .u32))) (prE (prE tE (slE (iE .u32))) (prE sE (iE .i64))))) 41 w333 (fun _ => False)), (fun _ h => by cases h), (fun k hk => ⟨(fun _ h => h.elim) k hk, (fun _ h => h.elim) k hk⟩)⟩
             ·replace h3 := ite_f hc327 h3
              refine gv_skip <| gv_seq <| gv_region <| pN 6 [176, 177, 178, 179, 180, 181] [(176, (.slice a58 (length s46.1) c59)), (177, (.slice pa1_0 (length data_1) pc1_0)), (178, (.int .i64 (IntKind.i64.wrap (s46.2.1 + j117)))), (181, (.int .i64 (IntKind.i64.wrap ((IntKind.i64.wrap (s46.2.1 + j117)) + n325))))] ?_
              refine bindE h3 ?_; clear h3; intro x341 hx342 h3
              refine gv_ssl2 bE (t := 23) (e := 5) (xs := data_1) (a := pa1_0) (cap := pc1_0) (lo := (some (.int .i64 (IntKind.i64.wrap (s46.2.1 + j117))))) (hi := (some (.int .i64 (IntKind.i64.wrap ((IntKind.i64.wrap (s46.2.1 + j117)) + n325))))) (IntKind.i64.wrap (s46.2.1 + j117)) (IntKind.i64.wrap ((IntKind.i64.wrap (s46.2.1 + j117)) + n325)) x341 (fun e => by cases e) rfl rfl rfl (by kernel_rfl) (by kernel_rfl) Tryz.underlying23 (by kernel_rfl) (.inr ⟨_, rfl⟩) (.inr ⟨_, rfl⟩) hx342 (hpa1_0.below hB132 hX0).1 ?_
              intro a343 c344 hsub345
              have hp346 := hsub345 _ _ hpa1_0
              refine gv_b2s (src := 23) (dst := 9) (e := 5) (xs := x341) (a := a343) (cap := c344) (X := X0) [] (fun e => by cases e) rfl rfl rfl (by kernel_rfl) (by kernel_rfl) Tryz.underlying23 Tryz.underlying5 Tryz.underlying9 (inw0 (hp346.below hB132 hX0)) rfl ?_
              refine pN 1 [184] [(184, (.agg #[(.int .i64 5), (.bool false), (.slice none (length ([] : List Int)) 0), (.bool false), (.slice none (length ([] : List Int)) 0), (.string (strOf x341)), (.int .i64 0)]))] ?_
              refine gv_new0 (fun b => .slice (some ⟨b, 0, none⟩) 1 1) #[(.int .i64 5), (.bool false), (.slice none (length ([] : List Int)) 0), (.bool false), (.slice none (length ([] : List Int)) 0), (.string (strOf x341)), (.int .i64 0)] 41 (by kernel_rfl) (by kernel_rfl) ?_
              intro b347 w348 hg349 hb350 hbe351 hz352
              obtain ⟨X358, e⟩ : ∃ X : Nat → Prop, X = (fun _ => False) := ⟨_, rfl⟩
              have hx356 : ∀ k, X358 k → k < w118.heap.size := fun k h => by rw [e] at h; exact h.elim
              have hz359 := hg349.size
              have hx355 : ∀ k, X358 k → k < w348.heap.size := fun k h => ltl (hx356 k h) hz359
              have hx357 : ∀ k, X358 k → X0 k ∨ w0.heap.size ≤ k := fun k h => by rw [e] at h; exact h.elim
              have ho353 : Gv.Own (prE (iE .i64) (prE (prE tE (slE (iE .u32))) (prE (prE tE (slE (iE .u32))) (prE sE (iE .i64))))) 41 w348 X358 (some ⟨b347, 0, none⟩) 1 ([(5, (false, ([] : List Int)), (false, ([] : List Int)), (strOf x341), 0)] : List (Int × (Bool × (List Int)) × (Bool × (List Int)) × ByteArray × Int)) := Box.ownE hb350 (by rw [e]; exact ⟨[(.int .i64 5), (.bool false), (.slice none (length ([] : List Int)) 0), (.bool false), (.slice none (length ([] : List Int)) 0), (.string (strOf x341)), (.int .i64 0)], [], rfl, ⟨[(.int .i64 5)], [(.bool false), (.slice none (length ([] : List Int)) 0), (.bool false), (.slice none (length ([] : List Int)) 0), (.string (strOf x341)), (.int .i64 0)], rfl, rfl, ⟨[(.bool false), (.slice none (length ([] : List Int)) 0)], [(.bool false), (.slice none (length ([] : List Int)) 0), (.string (strOf x341)), (.int .i64 0)], rfl, ⟨[(.bool false)], [(.slice none (length ([] : List Int)) 0)], rfl, rfl, ⟨none, 0, rfl, (Rd.nil _ _ _ none 0)⟩⟩, ⟨[(.bool false), (.slice none (length ([] : List Int)) 0)], [(.string (strOf x341)), (.int .i64 0)], rfl, ⟨[(.bool false)], [(.slice none (length ([] : List Int)) 0)], rfl, rfl, ⟨none, 0, rfl, (Rd.nil _ _ _ none 0)⟩⟩, ⟨[(.string (strOf x341))], [(.int .i64 0)], rfl, rfl, rfl⟩⟩⟩⟩, rfl⟩) (show 1 ≤ maxLen by decide) (fun h => noteq hbe351 (hx356 _ h))
              have hx360 : ∀ k, X358 k → (fun _ => False) k := fun k h => by rw [e] at h; exact h
              clear e
              have hl354 : ∀ g, blk (some ⟨b347, 0, none⟩) = some g → w0.heap.size ≤ g := loo hbe351 hB132.size
              have ap361 : ∀ g, blk (some ⟨b347, 0, none⟩) = some g → ¬ (· = b1) g := fun g e hx => nl (lowo hbe351 g e) ((ltb hb134) _ hx)
              have ap362 : ¬ (fun k => blk (some ⟨b347, 0, none⟩) = some k ∨ X358 k) b1 := fun h => h.elim (fun h => nl (lowo hbe351 _ h) ((ltb hb134) _ rfl)) (fun h => (hx360 _ h).elim)
              have ap363 : ∀ g, blk (some ⟨b347, 0, none⟩) = some g → ¬ (· = b71) g := fun g e hx => nl (lowo hbe351 g e) ((ltb hb135) _ hx)
              have ap364 : ¬ (fun k => blk (some ⟨b347, 0, none⟩) = some k ∨ X358 k) b71 := fun h => h.elim (fun h => nl (lowo hbe351 _ h) ((ltb hb135) _ rfl)) (fun h => (hx360 _ h).elim)
              have hx366 := ltx (ltx (ltx hx62 hg73.size) hg78.size) hg85.size
              have ap365 : ∀ g, blk (some ⟨b347, 0, none⟩) = some g → ¬ (fun k => blk a58 = some k ∨ X58 k) g := fun g e hx => nl (lowo hbe351 g e) ((fun k (hk : blk a58 = some k ∨ X58 k) => hk.elim (fun h => hk136.lt k h) (fun h => (fun k hk => ltl ((fun k hk => ltl (hx366 k hk) hz112) k hk) hz133) k h)) _ hx)
              have ap367 : ∀ g, blk a58 = some g → ¬ (fun k => blk (some ⟨b347, 0, none⟩) = some k ∨ X358 k) g := fun g e h => h.elim (fun h => nl (lowo hbe351 _ h) ((fun k (hk : blk a58 = some k ∨ X58 k) => hk.elim (fun h => hk136.lt k h) (fun h => (fun k hk => ltl ((fun k hk => ltl (hx366 k hk) hz112) k hk) hz133) k h)) g (.inl e))) (fun h => (hx360 _ h).elim)
              refine bindE h3 ?_; clear h3; intro l368 hx369 h3
              obtain ⟨X370, e⟩ : ∃ X : Nat → Prop, X = fun k => X58 k ∨ (fun k => blk (some ⟨b347, 0, none⟩) = some k ∨ X358 k) k := ⟨_, rfl⟩
              have hx374 := ltx (fun k hk => ltl ((fun k hk => ltl (hx366 k hk) hz112) k hk) hz133) hg349.size
              have hx371 : ∀ k, X370 k → k < w348.heap.size := fun k hk => by rw [e] at hk; exact hk.elim (fun h => hx374 k h) (fun h => (fun k (hk : blk (some ⟨b347, 0, none⟩) = some k ∨ X358 k) => hk.elim (fun h => ho353.lt k h) (fun h => hx355 k h)) k h)
              have hx372 : ∀ k, X370 k → X0 k ∨ w0.heap.size ≤ k := fun k hk => by rw [e] at hk; exact hk.elim (fun h => hx63 k h) (fun h => (fun k (hk : blk (some ⟨b347, 0, none⟩) = some k ∨ X358 k) => hk.elim (fun h => Or.inr (hl354 k h)) (fun h => hx357 k h)) k h)
              have hk375 := hk136.grown hg349 (fun k hk => ltl ((fun k hk => ltl (hx366 k hk) hz112) k hk) hz133) nb
              have ho373 : Gv.Own (prE (iE .i64) (prE (prE tE (slE (iE .u32))) (prE (prE tE (slE (iE .u32))) (prE sE (iE .i64))))) 41 w348 X370 a58 c59 s46.1 := (hk375).wide (fun k hk => by rw [e]; exact .inl hk) (fun g e1 hk => by rw [e] at hk; exact hk.elim (fun h => (hk375).out g e1 h) (fun h => ap367 g e1 h))
              have hx376 : ∀ k, (fun k => blk (some ⟨b347, 0, none⟩) = some k ∨ X358 k) k → X370 k := fun k hk => by rw [e]; exact .inr hk
              have hx377 : ∀ k, X370 k → X58 k ∨ (fun k => blk (some ⟨b347, 0, none⟩) = some k ∨ X358 k) k := fun k hk => by rw [e] at hk; exact hk
              clear e
              refine gv_append (prE (iE .i64) (prE (prE tE (slE (iE .u32))) (prE (prE tE (slE (iE .u32))) (prE sE (iE .i64))))) (t := 24) (ty := 24) (e := 41) (a := a58) (ax := (some ⟨b347, 0, none⟩)) (cap := c59) (cx := 1) (xs := s46.1) (ys := ([(5, (false, ([] : List Int)), (false, ([] : List Int)), (strOf x341), 0)] : List (Int × (Bool × (List Int)) × (Bool × (List Int)) × ByteArray × Int))) l368 (X := X370) (Y := (fun k => blk (some ⟨b347, 0, none⟩) = some k ∨ X358 k)) (by decide) rfl rfl (by kernel_rfl) (by kernel_rfl) Tryz.underlying24 info41 ho373 (ho353.rd (Y := fun k => blk (some ⟨b347, 0, none⟩) = some k ∨ X358 k) (fun _ h => .inr h) (fun g e => .inl e)) hx369 (.inl hx376) hx371 ?_
              intro a378 c379 w380 hg381 ho382 hk383
              refine ⟨(fun e => by cases e), ?_⟩
              have hB385 := bg hB132 hg349 nb
              have hl384 : ∀ g, blk a378 = some g → w0.heap.size ≤ g := blk_step hk383 hl61 hB385.size
              have hx386 : ∀ k, X370 k → k < w380.heap.size := fun k hk => ltl (hx371 k hk) hg381.size
              have hk388 := hb134.grown hg349 nb
              have ap387 : ∀ g, blk a378 = some g → ¬ (· = b1) g := blk_neX hk383 ap64 (ltb hk388)
              have ap389 : ¬ (fun k => blk a378 = some k ∨ X370 k) b1 := fun h => h.elim (fun h => blk_rev hk383 (fun h => (ap65) (.inl h)) (hk388.lt) h) (fun h => (hx377 _ h).elim (fun h => (ap65) (.inr h)) (fun h => (ap362) h))
              have ap391 : ∀ g, blk a58 = some g → ¬ (· = b71) g := fun g e hx => nl ((lowb hbe75) _ hx) ((fun k (hk : blk a58 = some k ∨ X58 k) => hk.elim (fun h => ho60.lt k h) (fun h => hx62 k h)) g (.inl e))
              have hk392 := hb135.grown hg349 nb
              have ap390 : ∀ g, blk a378 = some g → ¬ (· = b71) g := blk_neX hk383 ap391 (ltb hk392)
              have ap394 : ¬ (fun k => blk a58 = some k ∨ X58 k) b71 := fun hx => nl ((lowb hbe75) _ rfl) ((fun k (hk : blk a58 = some k ∨ X58 k) => hk.elim (fun h => ho60.lt k h) (fun h => hx62 k h)) _ hx)
              have ap393 : ¬ (fun k => blk a378 = some k ∨ X370 k) b71 := fun h => h.elim (fun h => blk_rev hk383 (fun h => (ap394) (.inl h)) (hk392.lt) h) (fun h => (hx377 _ h).elim (fun h => (ap394) (.inr h)) (fun h => (ap364) h))
              have ap395 : ∀ g, blk a378 = some g → ¬ (fun k => blk (some ⟨b347, 0, none⟩) = some k ∨ X358 k) g := blk_neX hk383 ap367 (fun k (hk : blk (some ⟨b347, 0, none⟩) = some k ∨ X358 k) => hk.elim (fun h => ho353.lt k h) (fun h => hx355 k h))
              refine pN 1 [7] [(7, (.slice a378 (length l368) c379))] ?_
              refine gv_nil <| gv_region <| pN 4 [8, 187, 188, 189] [(8, (.int .i64 (IntKind.i64.wrap ((IntKind.i64.wrap (s46.2.1 + j117)) + n325))))] ?_
              refine bindE h3 ?_; clear h3; intro n397 hn398 h3
              refine gv_name (s := 8) (v := (.int .i64 (IntKind.i64.wrap ((IntKind.i64.wrap (s46.2.1 + j117)) + n325)))) (v' := (.int .i64 n397)) (by kernel_rfl) (congrArg (Value.int .i64) (sj hn398)) ?_
              refine gv_nil ?_
              have e := sj h3; subst e
              refine gv_goal fun a hd hs hok => ?_
              have hB399 := bg hB385 hg381 hl61
              have hz400 := (nt hg349.size hg381.size)
              have hk401 := hk388.grown hg381 ap64
              exact ⟨(l368, n397, (s46.2.2.2.1, s46.2.2.2.2)), rfl, a378, c379, X370, hB399, hz400, ho382, hl384, hx386, hx372, ap387, ap389, hk401, hd, hs, okp [0, 1, 5, 7, 8, 9] hok⟩
            ·replace h3 := ite_f hc322 h3
             refine gv_seq <| gv_region <| pN 2 [190, 191] [(190, (.bool (x68.1 == 118)))] ?_
             refine gv_nil <| gv_cond (b := (x68.1 == 118)) (by kernel_rfl) (fun hc402 => ?_) (fun hc402 => ?_)
             ·replace h3 := ite_t hc402 h3
              refine gv_seq <| gv_region <| pN 1 [192] [(192, (.agg #[(.bool false), (.slice none (length ([] : List Int)) 0)]))] ?_
              refine bindE h3 ?_; clear h3; intro r403 hr404 h3
              refine gv_call0 (by kernel_rfl) rfl (by kernel_rfl) enters20 (ref3_Number_ok fuel 1 w118  r403 hr404) ?_
              rintro v407 w405 ⟨hg406, a408, c409, X411, rfl, ho410, hx412⟩
              have hx413 : ∀ k, X411 k → k < w405.heap.size := fun k hk => (hx412 k hk).1
              have hx414 : ∀ k, X411 k → X0 k ∨ w0.heap.size ≤ k := fun k hk => (hx412 k hk).2.elim (fun h => h.elim) (fun h => .inr (Nat.le_trans hB132.size h))
              clear hr404 hc402 hc322 hc250 hc215 hc161 hsub156 hx153 hc138 hb135 hbe75 hb66 ho60 hB56
              refine gv_sub [0, 1, 5, 7, 8, 9, 192, 193] (σ' := [(0, (.slice pa0_0 (length l_0) pc0_0)), (1, (.slice pa1_0 (length data_1) pc1_0)), (5, (bp b1)), (7, (.slice a58 (length s46.1) c59)), (8, (.int .i64 (IntKind.i64.wrap (s46.2.1 + j117)))), (9, (.int .i64 s46.2.2.1)), (192, (.agg #[(.bool false), (.slice none (length ([] : List Int)) 0)])), (193, (.agg #[(.bool r403.1), (.slice a408 (length r403.2) c409)]))]) (by kernel_rfl) ?_
              refine gv_new0 (fun b => .pointer (some ⟨b, 0, none⟩)) #[(.bool false), (.slice none (length ([] : List Int)) 0)] 57 (by kernel_rfl) (by kernel_rfl) ?_
              intro b415 w416 hg417 hb418 hbe419 hz420
              refine gv_new0 (fun b => .pointer (some ⟨b, 0, none⟩)) #[(.bool false), (.slice none (length ([] : List Int)) 0)] 57 (by kernel_rfl) (by kernel_rfl) ?_
              intro b421 w422 hg423 hb424 hbe425 hz426
              have hk431 := hb418.grown hg423 nb
              refine gv_store0 57 0 (.agg #[(.bool false), (.slice none (length ([] : List Int)) 0)]) #[(.bool false), (.slice none (length ([] : List Int)) 0)] hk431 (by kernel_rfl) (by kernel_rfl) (by kernel_rfl) ?_
              intro w427 hg428 hb429 hz430
              have lt436 := ltl ((ltb hb418) _ rfl) ((lowb hbe425) _ rfl)
              have hk437 := hb424.grown hg428 (rowne (Nat.ne_of_lt lt436))
              refine gv_store0 57 0 (.agg #[(.bool r403.1), (.slice a408 (length r403.2) c409)]) #[(.bool r403.1), (.slice a408 (length r403.2) c409)] hk437 (by kernel_rfl) (by kernel_rfl) (by kernel_rfl) ?_
              intro w432 hg433 hb434 hz435
              refine gv_nil <| gv_seq <| gv_region <| pN 3 [8, 194, 195] [(8, (.int .i64 (IntKind.i64.wrap ((IntKind.i64.wrap (s46.2.1 + j117)) - 1))))] ?_
              refine bindE h3 ?_; clear h3; intro n438 hn439 h3
              refine gv_name (s := 8) (v := (.int .i64 (IntKind.i64.wrap ((IntKind.i64.wrap (s46.2.1 + j117)) - 1)))) (v' := (.int .i64 n438)) (by kernel_rfl) (congrArg (Value.int .i64) (sj hn439)) ?_
              refine gv_nil <| gv_seq <| gv_seq <| gv_region <| pN 1 [17] [(17, (.int .i64 0))] ?_
              refine gv_nil <| bindE h3 ?_; clear h3; intro j440 h4 h3
              refine gv_cut_code (J := fun a w442 => ∃ s441 : (Int × (Int × Int) × (Bool × (List Int))), j440 = .inl s441 ∧ ∃ (abb415_0j : Option Addr) (cbb415_0j : Nat), ∃ (Xbb415_0j : Nat → Prop), Below w0.heap.size w0 w442 ∧ w432.heap.size ≤ w442.heap.size ∧ Rd (iE .i64) w442 Xbb415_0j abb415_0j cbb415_0j s441.2.2.2 ∧ (∀ k, Xbb415_0j k → k < w442.heap.size) ∧ (∀ k, Xbb415_0j k → X0 k ∨ w0.heap.size ≤ k) ∧ ¬ Xbb415_0j b1 ∧ ¬ Xbb415_0j b415 ∧ (∀ g, blk a58 = some g → ¬ Xbb415_0j g) ∧ Box w442 b1 26 #[(.int .i64 s441.2.1.1), (.int .i64 s441.2.1.2)] ∧ Box w442 b415 57 #[(.bool s441.2.2.1), (.slice abb415_0j (length s441.2.2.2) cbb415_0j)] ∧ Gv.Own (prE (iE .i64) (prE (prE tE (slE (iE .u32))) (prE (prE tE (slE (iE .u32))) (prE sE (iE .i64))))) 41 w442 X58 a58 c59 s46.1 ∧ a.defers = [] ∧ a.tmps.size = 265 ∧ Ok [(0, (.slice pa0_0 (length l_0) pc0_0)), (1, (.slice pa1_0 (length data_1) pc1_0)), (5, (bp b1)), (7, (.slice a58 (length s46.1) c59)), (8, (.int .i64 s441.1)), (9, (.int .i64 s46.2.2.1)), (15, (bp b415))] a.tmps) ?_ ?_
              ·skip
               refine gv_block <| gv_loop (A := fun (s443 : (Int × Int × (Int × Int) × (Bool × (List Int)) × (Bool × (List Int)))) a w444 => ∃ (abb415_0j : Option Addr) (cbb415_0j : Nat), ∃ (Xbb415_0j : Nat → Prop), ∃ (abb421_0j : Option Addr) (cbb421_0j : Nat), ∃ (Xbb421_0j : Nat → Prop), Below w0.heap.size w0 w444 ∧ w432.heap.size ≤ w444.heap.size ∧ Rd (iE .i64) w444 Xbb415_0j abb415_0j cbb415_0j s443.2.2.2.1.2 ∧ (∀ k, Xbb415_0j k → k < w444.heap.size) ∧ (∀ k, Xbb415_0j k → X0 k ∨ w0.heap.size ≤ k) ∧ Rd (iE .i64) w444 Xbb421_0j abb421_0j cbb421_0j s443.2.2.2.2.2 ∧ (∀ k, Xbb421_0j k → k < w444.heap.size) ∧ (∀ k, Xbb421_0j k → X0 k ∨ w0.heap.size ≤ k) ∧ ¬ Xbb415_0j b1 ∧ ¬ Xbb415_0j b415 ∧ ¬ Xbb415_0j b421 ∧ (∀ g, blk a58 = some g → ¬ Xbb415_0j g) ∧ ¬ Xbb421_0j b1 ∧ ¬ Xbb421_0j b415 ∧ ¬ Xbb421_0j b421 ∧ (∀ g, blk a58 = some g → ¬ Xbb421_0j g) ∧ Box w444 b1 26 #[(.int .i64 s443.2.2.1.1), (.int .i64 s443.2.2.1.2)] ∧ Box w444 b415 57 #[(.bool s443.2.2.2.1.1), (.slice abb415_0j (length s443.2.2.2.1.2) cbb415_0j)] ∧ Box w444 b421 57 #[(.bool s443.2.2.2.2.1), (.slice abb421_0j (length s443.2.2.2.2.2) cbb421_0j)] ∧ Gv.Own (prE (iE .i64) (prE (prE tE (slE (iE .u32))) (prE (prE tE (slE (iE .u32))) (prE sE (iE .i64))))) 41 w444 X58 a58 c59 s46.1 ∧ a.defers = [] ∧ a.tmps.size = 265 ∧ Ok [(0, (.slice pa0_0 (length l_0) pc0_0)), (1, (.slice pa1_0 (length data_1) pc1_0)), (5, (bp b1)), (7, (.slice a58 (length s46.1) c59)), (8, (.int .i64 s443.1)), (9, (.int .i64 s46.2.2.1)), (15, (bp b415)), (16, (bp b421)), (17, (.int .i64 s443.2.1))] a.tmps) h4 ?_ ?_
               ·intro a hd hs hok
                have hg445 := (grown_trans (grown_trans hg406 hg417) hg423)
                have hB446 := bg hB132 hg445 nb
                have hB447 := bg hB132 hg406 nb
                have hlo448 : w0.heap.size ≤ b415 := lob hbe419 hB447.size
                have hB449 := bg hB446 hg428 (rowlo hlo448)
                have hB450 := bg hB447 hg417 nb
                have hlo451 : w0.heap.size ≤ b421 := lob hbe425 hB450.size
                have hB452 := bg hB449 hg433 (rowlo hlo451)
                have hg453 := (grown_trans hg417 hg423)
                have ap454 : ¬ X411 b415 := fun hx => nl ((lowb hbe419) _ rfl) (hx413 _ hx)
                have hx455 := ltx hx413 hg453.size
                have hx456 := ltx hx413 hg417.size
                have ap457 : ¬ X411 b421 := fun hx => nl ((lowb hbe425) _ rfl) (hx456 _ hx)
                have hx458 := ltx hx455 hg428.size
                have hk459 := ((ho410.grown hg453 hx413 nb).grown hg428 hx455 (rowne ap454)).grown hg433 hx458 (rowne ap457)
                have hx460 := ltx hx458 hg433.size
                have ap461 : ¬ X411 b1 := fun h => ((hx412 _ h).2.elim (fun h => h.elim) (fun h => nl h (hb134.lt)))
                have ap462 : ∀ g, blk a58 = some g → ¬ X411 g := fun g e h => ((hx412 _ h).2.elim (fun h => h.elim) (fun h => nl h (hk136.lt g e)))
                have hk463 := hb134.grown hg406 nb
                have lt464 := ltl ((ltb hk463) _ rfl) ((lowb hbe419) _ rfl)
                have lt465 := ltt lt464 lt436
                have hk466 := ((hb134.grown hg445 nb).grown hg428 (rowne (ng lt464))).grown hg433 (rowne (ng lt465))
                have hk467 := hb429.grown hg433 (rowne (ng lt436))
                have hx468 := ltx (ltx (ltx hx62 hg73.size) hg78.size) hg85.size
                have hk469 := hk136.grown hg406 (fun k hk => ltl ((fun k hk => ltl (hx468 k hk) hz112) k hk) hz133) nb
                have hx470 := ltx (fun k hk => ltl ((fun k hk => ltl (hx468 k hk) hz112) k hk) hz133) hg406.size
                have ap471 : ¬ (fun k => blk a58 = some k ∨ X58 k) b415 := fun hx => nl ((lowb hbe419) _ rfl) ((fun k (hk : blk a58 = some k ∨ X58 k) => hk.elim (fun h => hk469.lt k h) (fun h => hx470 k h)) _ hx)
                have hx472 := ltx hx470 hg453.size
                have hk473 := hk469.grown hg417 hx470 nb
                have hx474 := ltx hx470 hg417.size
                have ap475 : ¬ (fun k => blk a58 = some k ∨ X58 k) b421 := fun hx => nl ((lowb hbe425) _ rfl) ((fun k (hk : blk a58 = some k ∨ X58 k) => hk.elim (fun h => hk473.lt k h) (fun h => hx474 k h)) _ hx)
                have hx476 := ltx hx472 hg428.size
                have hk477 := ((hk136.grown hg445 (fun k hk => ltl ((fun k hk => ltl (hx468 k hk) hz112) k hk) hz133) nb).grown hg428 hx472 (rdnx (rowne ap471))).grown hg433 hx476 (rdnx (rowne ap475))
                exact ⟨none, 0, (fun _ => False), a408, c409, X411, hB452, nrf, (Rd.nil (iE .i64) w432 (fun _ => False) none 0), (fun _ h => h.elim), (fun _ h => h.elim), hk459, hx460, hx414, (fun h => by cases h), (fun h => by cases h), (fun h => by cases h), (fun _ _ h => by cases h), ap461, ap454, ap457, ap462, hk466, hk467, hb434, hk477, hd, hs, okp [0, 1, 5, 7, 8, 9, 15, 16, 17] hok⟩
               ·rintro s443 r5 h5 hR5 a w444 ⟨a480, c481, X480, a482, c483, X482, hB478, hz479, hr484, hx485, hx486, hr487, hx488, hx489, ap490, ap491, ap492, ap493, ap494, ap495, ap496, ap497, hb498, hb499, hb500, hk501, hd, hs, hok⟩
                refine gv_in ?_ hd hs hok
                clear hd hs hok
                have hz502 := (nt (nt (nt (nt hg406.size hg417.size) hg423.size) hg428.size) hg433.size)
                clear hn439 hz435 hb434 hk437 hz430 hb429 hk431 hz426 hb424 hz420 hb418 hx414 hx413 hx412 ho410
                refine gv_seq <| gv_block <| gv_seq <| gv_seq <| gv_region <| pN 4 [198, 199, 200, 201] [(201, (.bool (decide (s443.1 ≥ ((length data_1 : Nat) : Int)))))] ?_
                refine gv_nil <| gv_cond (b := (decide (s443.1 ≥ ((length data_1 : Nat) : Int)))) (by kernel_rfl) (fun hc503 => ?_) (fun hc503 => ?_)
                ·replace h5 := ite_t hc503 h5
                 refine gv_seq <| gv_region <| pN 1 [202] [(202, (.int .i64 s46.2.2.1))] ?_
                 refine bindE h5 ?_; clear h5; intro r504 hr505 h5
                 refine gv_call0 (by kernel_rfl) rfl (by kernel_rfl) enters19 (ref4_At_ok fuel 15 s46.2.2.1 w444  r504 hr505) ?_
                 rintro v508 w506 ⟨hg507, rfl⟩
                 refine pN 1 [4] [(4, (.slice none (length ([] : List (Int × (Bool × (List Int)) × (Bool × (List Int)) × ByteArray × Int))) 0))] ?_
                 have hk513 := hb498.grown hg507 nb
                 refine gv_store0 26 0 (.agg #[(.int .i64 r504.1), (.int .i64 r504.2)]) #[(.int .i64 r504.1), (.int .i64 r504.2)] hk513 (by kernel_rfl) (by kernel_rfl) (by kernel_rfl) ?_
                 intro w509 hg510 hb511 hz512
                 refine gv_nil <| gv_cret ?_
                 have e := sj h5; subst e
                 replace h4 := congrArg some (hR5 _ rfl)
                 have e := sj h4; subst e
                 replace h3 := cont_inr h3
                 have e := sj h3; subst e
                 replace h2 := cont_inr h2
                 have e := sj h2; subst e
                 replace h1 := congrArg some (hR2 _ rfl)
                 have e := sj h1; subst e
                 replace h0 := cont_inr h0
                 have e := sj h0; subst e
                 refine gv_ret (gv_done [(.slice none (length ([] : List (Int × (Bool × (List Int)) × (Bool × (List Int)) × ByteArray × Int))) 0), (.agg #[(.int .i64 r504.1), (.int .i64 r504.2)])] rfl ⟨(by kernel_rfl), ⟨⟨b1, 0, none⟩, (by kernel_rfl), run_loadVar_row w509 b1 _ 26 _ _ _ hb511 Tryz.underlying26 rfl (by kernel_rfl)⟩, trivial⟩ ?_)
                 have hB514 := bg hB478 hg507 nb
                 have hlo515 : w0.heap.size ≤ b1 := lob hbe5 hB0.size
                 have hB516 := bg hB514 hg510 (rowlo hlo515)
                 exact ⟨grown_of_below hB516, none, 0, (fun _ => False), rfl, (Gv.Own.nil (prE (iE .i64) (prE (prE tE (slE (iE .u32))) (prE (prE tE (slE (iE .u32))) (prE sE (iE .i64))))) 41 w509 (fun _ => False)), (fun _ h => by cases h), (fun k hk => ⟨(fun _ h => h.elim) k hk, (fun _ h => h.elim) k hk⟩)⟩
                ·replace h5 := ite_f hc503 h5
                 refine gv_skip <| gv_seq <| gv_region <| pN 2 [204, 205] [(204, (.slice pa1_0 (length data_1) pc1_0)), (205, (.int .i64 s443.1))] ?_
                 refine bindE h5 ?_; clear h5; intro x517 hx518 h5
                 refine gv_idxaddr (t := 23) (e := 5) (a := pa1_0) (len := length data_1) (cap := pc1_0) (kk := .i64) (i := s443.1) (sz := 1) [] (fun e => by cases e) rfl rfl rfl (by kernel_rfl) (by kernel_rfl) Tryz.underlying23 (by kernel_rfl) ((hpa1_0.below hB478 hX0).has hx518) (idx_spec hx518).1 (idx_spec hx518).2.1 rfl ?_
                 refine gv_load (t := 5) (A := (elemAddr pa1_0 ((s443.1 : Int).toNat * 1))) (.int .u8 ((x517).toNat : Int)) [] (fun e => by cases e) rfl rfl rfl (by kernel_rfl) (by kernel_rfl) (by kernel_rfl) (inw0 ((hpa1_0.below hB478 hX0).cell hx518)) rfl ?_
                 refine pN 2 [18, 208] [(18, (.int .i64 (IntKind.i64.wrap (((x517).toNat : Int)))))] ?_
                 refine bindE h5 ?_; clear h5; intro n519 hn520 h5
                 refine gv_name (s := 18) (v := (.int .i64 (IntKind.i64.wrap (((x517).toNat : Int))))) (v' := (.int .i64 n519)) (by kernel_rfl) (congrArg (Value.int .i64) (sj hn520)) ?_
                 refine gv_nil <| gv_seq <| gv_region <| pN 3 [8, 209, 210] [(8, (.int .i64 (IntKind.i64.wrap (s443.1 + 1))))] ?_
                 refine gv_nil <| gv_seq <| gv_seq <| gv_region <| gv_cut_ops (J := fun a w521 => w444 = w521 ∧ a.defers = [] ∧ a.tmps.size = 265 ∧ Ok [(0, (.slice pa0_0 (length l_0) pc0_0)), (1, (.slice pa1_0 (length data_1) pc1_0)), (5, (bp b1)), (7, (.slice a58 (length s46.1) c59)), (8, (.int .i64 (IntKind.i64.wrap (s443.1 + 1)))), (9, (.int .i64 s46.2.2.1)), (15, (bp b415)), (16, (bp b421)), (17, (.int .i64 s443.2.1)), (18, (.int .i64 n519)), (224, (.bool (if (decide (s443.2.1 > 0)) then ((n519 == 0) || ((s443.2.1 == 9) && (decide (n519 > 1)))) else ((s443.2.1 == 9) && (decide (n519 > 1))))))] a.tmps) ?_ ?_
                 ·skip
                  refine pN 3 [211, 212, 213] [(213, (.bool (decide (s443.2.1 > 0))))] ?_
                  refine gv_split (s := 213) (g := (decide (s443.2.1 > 0))) (by kernel_rfl) (fun hc522 => ?_) (fun hc522 => ?_)
                  ·skip
                   refine pN 4 [214, 215, 216, 217] [(217, (.bool (n519 == 0)))] ?_
                   refine gv_split (s := 217) (g := (n519 == 0)) (by kernel_rfl) (fun hc523 => ?_) (fun hc523 => ?_)
                   ·skip
                    refine pN 7 [218, 219, 220, 221, 222, 223, 224] [(224, (.bool true))] ?_
                    refine gv_nil <| gv_sub [0, 1, 5, 7, 8, 9, 15, 16, 17, 18, 224] (σ' := [(0, (.slice pa0_0 (length l_0) pc0_0)), (1, (.slice pa1_0 (length data_1) pc1_0)), (5, (bp b1)), (7, (.slice a58 (length s46.1) c59)), (8, (.int .i64 (IntKind.i64.wrap (s443.1 + 1)))), (9, (.int .i64 s46.2.2.1)), (15, (bp b415)), (16, (bp b421)), (17, (.int .i64 s443.2.1)), (18, (.int .i64 n519)), (224, (.bool true))]) (by kernel_rfl) ?_
                    refine gv_goal fun a hd hs hok => ⟨rfl, hd, hs, ?_⟩
                    obtain ⟨q0, q1, q5, q7, q8, q9, q15, q16, q17, q18, q224, _⟩ := hok
                    exact ⟨q0, q1, q5, q7, q8, q9, q15, q16, q17, q18, (by rw [hc522, hc523]; exact q224), trivial⟩
                   ·skip
                    refine pN 3 [218, 219, 220] [(220, (.bool (s443.2.1 == 9)))] ?_
                    refine gv_split (s := 220) (g := (s443.2.1 == 9)) (by kernel_rfl) (fun hc524 => ?_) (fun hc524 => ?_)
                    ·skip
                     refine pN 4 [221, 222, 223, 224] [(224, (.bool (decide (n519 > 1))))] ?_
                     refine gv_nil <| gv_sub [0, 1, 5, 7, 8, 9, 15, 16, 17, 18, 224] (σ' := [(0, (.slice pa0_0 (length l_0) pc0_0)), (1, (.slice pa1_0 (length data_1) pc1_0)), (5, (bp b1)), (7, (.slice a58 (length s46.1) c59)), (8, (.int .i64 (IntKind.i64.wrap (s443.1 + 1)))), (9, (.int .i64 s46.2.2.1)), (15, (bp b415)), (16, (bp b421)), (17, (.int .i64 s443.2.1)), (18, (.int .i64 n519)), (224, (.bool (decide (n519 > 1))))]) (by kernel_rfl) ?_
                     refine gv_goal fun a hd hs hok => ⟨rfl, hd, hs, ?_⟩
                     obtain ⟨q0, q1, q5, q7, q8, q9, q15, q16, q17, q18, q224, _⟩ := hok
                     exact ⟨q0, q1, q5, q7, q8, q9, q15, q16, q17, q18, (by rw [hc522, hc523, hc524]; exact q224), trivial⟩
                    ·skip
                     refine pN 4 [221, 222, 223, 224] [(224, (.bool false))] ?_
                     refine gv_nil <| gv_sub [0, 1, 5, 7, 8, 9, 15, 16, 17, 18, 224] (σ' := [(0, (.slice pa0_0 (length l_0) pc0_0)), (1, (.slice pa1_0 (length data_1) pc1_0)), (5, (bp b1)), (7, (.slice a58 (length s46.1) c59)), (8, (.int .i64 (IntKind.i64.wrap (s443.1 + 1)))), (9, (.int .i64 s46.2.2.1)), (15, (bp b415)), (16, (bp b421)), (17, (.int .i64 s443.2.1)), (18, (.int .i64 n519)), (224, (.bool false))]) (by kernel_rfl) ?_
                     refine gv_goal fun a hd hs hok => ⟨rfl, hd, hs, ?_⟩
                     obtain ⟨q0, q1, q5, q7, q8, q9, q15, q16, q17, q18, q224, _⟩ := hok
                     exact ⟨q0, q1, q5, q7, q8, q9, q15, q16, q17, q18, (by rw [hc522, hc523, hc524]; exact q224), trivial⟩
                  ·skip
                   refine pN 7 [214, 215, 216, 217, 218, 219, 220] [(217, (.bool false)), (220, (.bool (s443.2.1 == 9)))] ?_
                   refine gv_split (s := 220) (g := (s443.2.1 == 9)) (by kernel_rfl) (fun hc525 => ?_) (fun hc525 => ?_)
                   ·skip
                    refine pN 4 [221, 222, 223, 224] [(224, (.bool (decide (n519 > 1))))] ?_
                    refine gv_nil <| gv_sub [0, 1, 5, 7, 8, 9, 15, 16, 17, 18, 224] (σ' := [(0, (.slice pa0_0 (length l_0) pc0_0)), (1, (.slice pa1_0 (length data_1) pc1_0)), (5, (bp b1)), (7, (.slice a58 (length s46.1) c59)), (8, (.int .i64 (IntKind.i64.wrap (s443.1 + 1)))), (9, (.int .i64 s46.2.2.1)), (15, (bp b415)), (16, (bp b421)), (17, (.int .i64 s443.2.1)), (18, (.int .i64 n519)), (224, (.bool (decide (n519 > 1))))]) (by kernel_rfl) ?_
                    refine gv_goal fun a hd hs hok => ⟨rfl, hd, hs, ?_⟩
                    obtain ⟨q0, q1, q5, q7, q8, q9, q15, q16, q17, q18, q224, _⟩ := hok
                    exact ⟨q0, q1, q5, q7, q8, q9, q15, q16, q17, q18, (by rw [hc522, hc525]; exact q224), trivial⟩
                   ·skip
                    refine pN 4 [221, 222, 223, 224] [(224, (.bool false))] ?_
                    refine gv_nil <| gv_sub [0, 1, 5, 7, 8, 9, 15, 16, 17, 18, 224] (σ' := [(0, (.slice pa0_0 (length l_0) pc0_0)), (1, (.slice pa1_0 (length data_1) pc1_0)), (5, (bp b1)), (7, (.slice a58 (length s46.1) c59)), (8, (.int .i64 (IntKind.i64.wrap (s443.1 + 1)))), (9, (.int .i64 s46.2.2.1)), (15, (bp b415)), (16, (bp b421)), (17, (.int .i64 s443.2.1)), (18, (.int .i64 n519)), (224, (.bool false))]) (by kernel_rfl) ?_
                    refine gv_goal fun a hd hs hok => ⟨rfl, hd, hs, ?_⟩
                    obtain ⟨q0, q1, q5, q7, q8, q9, q15, q16, q17, q18, q224, _⟩ := hok
                    exact ⟨q0, q1, q5, q7, q8, q9, q15, q16, q17, q18, (by rw [hc522, hc525]; exact q224), trivial⟩
                 ·rintro a w521 ⟨e, hd, hs, hok⟩; subst e
                  refine gv_in ?_ hd hs hok
                  clear hd hs hok
                  refine gv_cond (b := (if (decide (s443.2.1 > 0)) then ((n519 == 0) || ((s443.2.1 == 9) && (decide (n519 > 1)))) else ((s443.2.1 == 9) && (decide (n519 > 1))))) (by kernel_rfl) (fun hc526 => ?_) (fun hc526 => ?_)
                  ·replace h5 := ite_t hc526 h5
                   refine gv_seq <| gv_region <| pN 1 [225] [(225, (.int .i64 s46.2.2.1))] ?_
                   refine bindE h5 ?_; clear h5; intro r527 hr528 h5
                   refine gv_call0 (by kernel_rfl) rfl (by kernel_rfl) enters19 (ref4_At_ok fuel 16 s46.2.2.1 w444  r527 hr528) ?_
                   rintro v531 w529 ⟨hg530, rfl⟩
                   refine pN 1 [4] [(4, (.slice none (length ([] : List (Int × (Bool × (List Int)) × (Bool × (List Int)) × ByteArray × Int))) 0))] ?_
                   have hk536 := hb498.grown hg530 nb
                   refine gv_store0 26 0 (.agg #[(.int .i64 r527.1), (.int .i64 r527.2)]) #[(.int .i64 r527.1), (.int .i64 r527.2)] hk536 (by kernel_rfl) (by kernel_rfl) (by kernel_rfl) ?_
                   intro w532 hg533 hb534 hz535
                   have hz537 := (nt (nt hz479 hg530.size) hg533.size)
                   clear hz535 hk536 hr528 hc526 hn520 hx518 hc503 hk501 hb500 hb499 hb498 ap497 ap496 ap495 ap494 ap493 ap492 ap491 ap490 hx489 hx488 hr487 hx486 hx485 hr484 hz479 hg433 lt436 hg428 hbe425 hg423 hbe419 hg417 hg406 hk136 hb134 hz133 hB132 hz112 hg85 hg78 hg73 ap65 ap64 hx63 hx62 hl61
                   refine gv_nil <| gv_cret ?_
                   have e := sj h5; subst e
                   replace h4 := congrArg some (hR5 _ rfl)
                   have e := sj h4; subst e
                   replace h3 := cont_inr h3
                   have e := sj h3; subst e
                   replace h2 := cont_inr h2
                   have e := sj h2; subst e
                   replace h1 := congrArg some (hR2 _ rfl)
                   have e := sj h1; subst e
                   replace h0 := cont_inr h0
                   have e := sj h0; subst e
                   refine gv_ret (gv_done [(.slice none (length ([] : List (Int × (Bool × (List Int)) × (Bool × (List Int)) × ByteArray × Int))) 0), (.agg #[(.int .i64 r527.1), (.int .i64 r527.2)])] rfl ⟨(by kernel_rfl), ⟨⟨b1, 0, none⟩, (by kernel_rfl), run_loadVar_row w532 b1 _ 26 _ _ _ hb534 Tryz.underlying26 rfl (by kernel_rfl)⟩, trivial⟩ ?_)
                   have hB538 := bg hB478 hg530 nb
                   have hlo539 : w0.heap.size ≤ b1 := lob hbe5 hB0.size
                   have hB540 := bg hB538 hg533 (rowlo hlo539)
                   exact ⟨grown_of_below hB540, none, 0, (fun _ => False), rfl, (Gv.Own.nil (prE (iE .i64) (prE (prE tE (slE (iE .u32))) (prE (prE tE (slE (iE .u32))) (prE sE (iE .i64))))) 41 w532 (fun _ => False)), (fun _ h => by cases h), (fun k hk => ⟨(fun _ h => h.elim) k hk, (fun _ h => h.elim) k hk⟩)⟩
                  ·replace h5 := ite_f hc526 h5
                   refine gv_skip <| gv_seq <| gv_drawA (by kernel_rfl) ?_
                   intro w541 hg542
                   refine gv_pre [2, 3] (bA 8 [2, 3]) 6 (by kernel_rfl) (by kernel_rfl) ?_
                   refine pN 2 [229, 230] [(230, (.int .i64 ((n519).tmod 128)))] ?_
                   refine gv_nil <| gv_goA ?_
                   refine gv_stage (Cls w541 []) [0, 1, 2, 3, 4, 5] [(0, some true), (1, some true), (4, some false), (5, some false)] (bA 8 [0, 1, 2, 3, 4, 5]) 2 (by kernel_rfl) (by kernel_rfl) (Cls.refl _ _) ?_
                   have hC543 := Cls.refl w541 []
                   have hk544 := hb499.grown hg542 nb
                   refine gv_loadBox (t := 57) (b := b415) (t' := 57) (fr := (0, 0)) #[(.bool s443.2.2.2.1.1), (.slice a480 (length s443.2.2.2.1.2) c481)] [] (fun e => by cases e) rfl rfl rfl (by kernel_rfl) (by kernel_rfl) (by kernel_rfl) (by kernel_rfl) (inw1 fun w' hC' => (hC'.box hk544 nm_nil)) rfl ?_
                   have hk545 := hb500.grown hg542 nb
                   refine gv_loadBox (t := 57) (b := b421) (t' := 57) (fr := (0, 0)) #[(.bool s443.2.2.2.2.1), (.slice a482 (length s443.2.2.2.2.2) c483)] [] (fun e => by cases e) rfl rfl rfl (by kernel_rfl) (by kernel_rfl) (by kernel_rfl) (by kernel_rfl) (inw1 fun w' hC' => (hC'.box hk545 nm_nil)) rfl ?_
                   refine bindE h5 ?_; clear h5; intro r546 hr547 h5
                   refine gv_call (f := 20) (vs := [(.int .i64 ((n519).tmod 128))]) (cap := []) _ (by decide) rfl rfl rfl (by kernel_rfl) (by kernel_rfl) enters20 (ref3_Number_ok fuel ((n519).tmod 128) w541  r546 hr547) ?_
                   rintro v550 w548 ⟨hg549, a551, c552, X554, rfl, ho553, hx555⟩
                   refine ⟨(fun _ => hC543.grown hg549 nb), ?_⟩
                   have hx556 : ∀ k, X554 k → k < w548.heap.size := fun k hk => (hx555 k hk).1
                   have hB558 := bg hB478 hg542 nb
                   have hx557 : ∀ k, X554 k → X0 k ∨ w0.heap.size ≤ k := fun k hk => (hx555 k hk).2.elim (fun h => h.elim) (fun h => .inr (Nat.le_trans hB558.size h))
                   refine bindE h5 ?_; clear h5; intro r559 hr560 h5
                   have hg561 := (grown_trans hg542 hg549)
                   have hx562 := ltx hx488 hg561.size
                   have hk563 := hr487.grown hg561 hx488 nb
                   refine gv_call (f := 22) (vs := [(.agg #[(.bool s443.2.2.2.2.1), (.slice a482 (length s443.2.2.2.2.2) c483)]), (.agg #[(.bool r546.1), (.slice a551 (length r546.2) c552)])]) (cap := []) _ (by decide) rfl rfl rfl (by kernel_rfl) (by kernel_rfl) enters22 (ref3_Int_Times_ok fuel a482 c483 (s443.2.2.2.2.1, s443.2.2.2.2.2) a551 c552 (r546.1, r546.2) w548 (fun k => X482 k ∨ X554 k) (fun k hk => (hk).elim (fun h => hx562 k h) (fun h => hx556 k h)) (hk563.wide (fun k hk => (.inl hk))) (ho553.wide (fun k hk => (.inr hk))) r559 hr560) ?_
                   rintro v566 w564 ⟨hg565, a567, c568, X570, rfl, ho569, hx571⟩
                   have hC572 := hC543.grown hg549 nb
                   refine ⟨(fun _ => hC572.grown hg565 nb), ?_⟩
                   have hx573 : ∀ k, X570 k → k < w564.heap.size := fun k hk => (hx571 k hk).1
                   have hB575 := bg hB558 hg549 nb
                   have hx574 : ∀ k, X570 k → X0 k ∨ w0.heap.size ≤ k := fun k hk => (hx571 k hk).2.elim (fun h => (h).elim (fun h => hx489 k h) (fun h => hx557 k h)) (fun h => .inr (Nat.le_trans hB575.size h))
                   refine gv_nil <| gv_goA ?_
                   refine gv_stage (fun _ => True) [0, 1, 2, 3, 4, 5, 6] [(6, some false)] (bA 8 [0, 1, 2, 3, 4, 5, 6]) 1 (by kernel_rfl) (by kernel_rfl) trivial ?_
                   refine bindE h5 ?_; clear h5; intro r576 hr577 h5
                   have hg578 := (grown_trans hg561 hg565)
                   have hx579 := ltx hx485 hg578.size
                   have hk580 := hr484.grown hg578 hx485 nb
                   refine gv_call (f := 21) (vs := [(.agg #[(.bool s443.2.2.2.1.1), (.slice a480 (length s443.2.2.2.1.2) c481)]), (.agg #[(.bool r559.1), (.slice a567 (length r559.2) c568)])]) (cap := []) _ (by decide) rfl rfl rfl (by kernel_rfl) (by kernel_rfl) enters21 (ref3_Int_Plus_ok fuel a480 c481 (s443.2.2.2.1.1, s443.2.2.2.1.2) a567 c568 (r559.1, r559.2) w564 (fun k => X480 k ∨ X570 k) (fun k hk => (hk).elim (fun h => hx579 k h) (fun h => hx573 k h)) (hk580.wide (fun k hk => (.inl hk))) (ho569.wide (fun k hk => (.inr hk))) r576 hr577) ?_
                   rintro v583 w581 ⟨hg582, a584, c585, X587, rfl, ho586, hx588⟩
                   refine ⟨(fun _ => trivial), ?_⟩
                   have hx589 : ∀ k, X587 k → k < w581.heap.size := fun k hk => (hx588 k hk).1
                   have hB591 := bg hB575 hg565 nb
                   have hx590 : ∀ k, X587 k → X0 k ∨ w0.heap.size ≤ k := fun k hk => (hx588 k hk).2.elim (fun h => (h).elim (fun h => hx486 k h) (fun h => hx574 k h)) (fun h => .inr (Nat.le_trans hB591.size h))
                   refine gv_nil <| gv_goA ?_
                   refine gv_stage (fun _ => True) [0, 1, 2, 3, 4, 5, 6, 7] [(7, some false)] (bA 8 [0, 1, 2, 3, 4, 5, 6, 7]) 0 (by kernel_rfl) (by kernel_rfl) trivial ?_
                   have hg596 := (grown_trans (grown_trans hg549 hg565) hg582)
                   have hk597 := hk544.grown hg596 nb
                   refine gv_store (t := 57) (b := b415) (off := 0) (v := (.agg #[(.bool r576.1), (.slice a584 (length r576.2) c585)])) (t' := 57) (cs := #[(.bool s443.2.2.2.1.1), (.slice a480 (length s443.2.2.2.1.2) c481)]) #[(.bool r576.1), (.slice a584 (length r576.2) c585)] (by decide) rfl rfl (by kernel_rfl) (by kernel_rfl) (by kernel_rfl) (by intro u hu; simp [Value.cells] at hu; rcases hu with rfl | rfl <;> rfl) (show 0 + 2 ≤ 2 by decide) (by rfl) hk597 ?_
                   intro w592 hg593 hb594 hz595
                   refine ⟨(fun _ => trivial), ?_⟩
                   refine gv_nil <| gv_goA ?_
                   refine gv_stageE (by kernel_rfl) ?_
                   refine gv_seq <| gv_drawA (by kernel_rfl) ?_
                   intro w598 hg599
                   refine gv_stage (Cls w598 []) [0, 1] [(0, some true), (1, some false)] (bA 4 [0, 1]) 2 (by kernel_rfl) (by kernel_rfl) (Cls.refl _ _) ?_
                   have hC600 := Cls.refl w598 []
                   have hk601 := ((hk545.grown hg596 nb).grown hg593 (rowne (Nat.ne_of_lt lt436))).grown hg599 nb
                   refine gv_loadBox (t := 57) (b := b421) (t' := 57) (fr := (0, 0)) #[(.bool s443.2.2.2.2.1), (.slice a482 (length s443.2.2.2.2.2) c483)] [] (fun e => by cases e) rfl rfl rfl (by kernel_rfl) (by kernel_rfl) (by kernel_rfl) (by kernel_rfl) (inw1 fun w' hC' => (hC'.box hk601 nm_nil)) rfl ?_
                   refine gv_sub [0, 1, 5, 7, 8, 9, 15, 16, 17, 18, 234] (σ' := [(0, (.slice pa0_0 (length l_0) pc0_0)), (1, (.slice pa1_0 (length data_1) pc1_0)), (5, (bp b1)), (7, (.slice a58 (length s46.1) c59)), (8, (.int .i64 (IntKind.i64.wrap (s443.1 + 1)))), (9, (.int .i64 s46.2.2.1)), (15, (bp b415)), (16, (bp b421)), (17, (.int .i64 s443.2.1)), (18, (.int .i64 n519)), (234, (.agg #[(.bool s443.2.2.2.2.1), (.slice a482 (length s443.2.2.2.2.2) c483)]))]) (by kernel_rfl) ?_
                   refine bindE h5 ?_; clear h5; intro r602 hr603 h5
                   refine gv_call (f := 20) (vs := [(.int .i64 128)]) (cap := []) _ (by decide) rfl rfl rfl (by kernel_rfl) (by kernel_rfl) enters20 (ref3_Number_ok fuel 128 w598  r602 hr603) ?_
                   rintro v606 w604 ⟨hg605, a607, c608, X610, rfl, ho609, hx611⟩
                   refine ⟨(fun _ => hC600.grown hg605 nb), ?_⟩
                   have hx612 : ∀ k, X610 k → k < w604.heap.size := fun k hk => (hx611 k hk).1
                   have hB614 := bg hB591 hg582 nb
                   have hB615 := bg hB132 hg406 nb
                   have hlo616 : w0.heap.size ≤ b415 := lob hbe419 hB615.size
                   have hB617 := bg hB614 hg593 (rowlo hlo616)
                   have hB618 := bg hB617 hg599 nb
                   have hx613 : ∀ k, X610 k → X0 k ∨ w0.heap.size ≤ k := fun k hk => (hx611 k hk).2.elim (fun h => h.elim) (fun h => .inr (Nat.le_trans hB618.size h))
                   refine gv_nil <| gv_goA ?_
                   refine gv_stage (fun _ => True) [0, 1, 2] [(2, some false)] (bA 4 [0, 1, 2]) 1 (by kernel_rfl) (by kernel_rfl) trivial ?_
                   refine bindE h5 ?_; clear h5; intro r619 hr620 h5
                   have hg621 := (grown_trans hg565 hg582)
                   have hg622 := (grown_trans hg599 hg605)
                   have hx623 := ltx (ltx (ltx hx562 hg621.size) hg593.size) hg622.size
                   have hx624 := ltx hx562 hg621.size
                   have hx625 := ltx hx624 hg593.size
                   have hk626 := ((hk563.grown hg621 hx562 nb).grown hg593 hx624 (rowne ap495)).grown hg622 hx625 nb
                   refine gv_call (f := 22) (vs := [(.agg #[(.bool s443.2.2.2.2.1), (.slice a482 (length s443.2.2.2.2.2) c483)]), (.agg #[(.bool r602.1), (.slice a607 (length r602.2) c608)])]) (cap := []) _ (by decide) rfl rfl rfl (by kernel_rfl) (by kernel_rfl) enters22 (ref3_Int_Times_ok fuel a482 c483 (s443.2.2.2.2.1, s443.2.2.2.2.2) a607 c608 (r602.1, r602.2) w604 (fun k => X482 k ∨ X610 k) (fun k hk => (hk).elim (fun h => hx623 k h) (fun h => hx612 k h)) (hk626.wide (fun k hk => (.inl hk))) (ho609.wide (fun k hk => (.inr hk))) r619 hr620) ?_
                   rintro v629 w627 ⟨hg628, a630, c631, X633, rfl, ho632, hx634⟩
                   refine ⟨(fun _ => trivial), ?_⟩
                   have hx635 : ∀ k, X633 k → k < w627.heap.size := fun k hk => (hx634 k hk).1
                   have hB637 := bg hB618 hg605 nb
                   have hx636 : ∀ k, X633 k → X0 k ∨ w0.heap.size ≤ k := fun k hk => (hx634 k hk).2.elim (fun h => (h).elim (fun h => hx489 k h) (fun h => hx613 k h)) (fun h => .inr (Nat.le_trans hB637.size h))
                   have hz638 := (nt (nt (nt (nt (nt (nt (nt hz479 hg542.size) hg549.size) hg565.size) hg582.size) hg593.size) hg599.size) hg605.size)
                   clear hx625 hx624 hg622 hg621 hr620 hB618 hB617 hB614 hr603 hC600 hz595 hk597 hg596 hB591 hg578 hr577 hB575 hC572 hk563 hx562 hg561 hr560 hB558 hr547 hC543 hc526 hn520 hx518 hc503 hb500 hb499 hx488 hr487 hx485 hr484 hB478 hB132
                   refine gv_nil <| gv_goA ?_
                   refine gv_stage (fun _ => True) [0, 1, 2, 3] [(3, some false)] (bA 4 [0, 1, 2, 3]) 0 (by kernel_rfl) (by kernel_rfl) trivial ?_
                   have hg643 := (grown_trans hg605 hg628)
                   have hk644 := hk601.grown hg643 nb
                   refine gv_store (t := 57) (b := b421) (off := 0) (v := (.agg #[(.bool r619.1), (.slice a630 (length r619.2) c631)])) (t' := 57) (cs := #[(.bool s443.2.2.2.2.1), (.slice a482 (length s443.2.2.2.2.2) c483)]) #[(.bool r619.1), (.slice a630 (length r619.2) c631)] (by decide) rfl rfl (by kernel_rfl) (by kernel_rfl) (by kernel_rfl) (by intro u hu; simp [Value.cells] at hu; rcases hu with rfl | rfl <;> rfl) (show 0 + 2 ≤ 2 by decide) (by rfl) hk644 ?_
                   intro w639 hg640 hb641 hz642
                   refine ⟨(fun _ => trivial), ?_⟩
                   refine gv_nil <| gv_goA ?_
                   refine gv_stageE (by kernel_rfl) ?_
                   refine gv_seq <| gv_region <| pN 2 [237, 238] [(238, (.bool (decide (n519 < 128))))] ?_
                   refine gv_nil <| gv_cond (b := (decide (n519 < 128))) (by kernel_rfl) (fun hc645 => ?_) (fun hc645 => ?_)
                   ·replace h5 := ite_t hc645 h5
                    refine gv_cexit <| gv_exit rfl ?_
                    have e := sj h5; subst e
                    replace h4 := congrArg some (hR5 _ rfl)
                    have e := sj h4; subst e
                    refine gv_goal fun a hd hs hok => ?_
                    have hB646 := bg hB637 hg628 nb
                    have hB647 := bg hB615 hg417 nb
                    have hlo648 : w0.heap.size ≤ b421 := lob hbe425 hB647.size
                    have hB649 := bg hB646 hg640 (rowlo hlo648)
                    have hz650 := (nt (nt hz638 hg628.size) hg640.size)
                    have ap651 : ¬ X554 b415 := fun h => ((hx555 _ h).2.elim (fun h => h.elim) (fun h => nl h (hk544.lt)))
                    have hk652 := hk544.grown hg549 nb
                    have ap653 : ¬ X570 b415 := fun h => ((hx571 _ h).2.elim (fun h => (h).elim (fun h => (ap495)  h) (fun h => (ap651)  h)) (fun h => nl h (hk652.lt)))
                    have hk654 := hk652.grown hg565 nb
                    have ap655 : ¬ X587 b415 := fun h => ((hx588 _ h).2.elim (fun h => (h).elim (fun h => (ap491)  h) (fun h => (ap653)  h)) (fun h => nl h (hk654.lt)))
                    have hg656 := (grown_trans hg599 hg643)
                    have hx657 := ltx hx589 hg593.size
                    have ap658 : ¬ X554 b421 := fun h => ((hx555 _ h).2.elim (fun h => h.elim) (fun h => nl h (hk545.lt)))
                    have hk659 := hk545.grown hg549 nb
                    have ap660 : ¬ X570 b421 := fun h => ((hx571 _ h).2.elim (fun h => (h).elim (fun h => (ap496)  h) (fun h => (ap658)  h)) (fun h => nl h (hk659.lt)))
                    have hk661 := hk659.grown hg565 nb
                    have ap662 : ¬ X587 b421 := fun h => ((hx588 _ h).2.elim (fun h => (h).elim (fun h => (ap492)  h) (fun h => (ap660)  h)) (fun h => nl h (hk661.lt)))
                    have hx663 := ltx hx657 hg656.size
                    have hk664 := ((ho586.grown hg593 hx589 (rowne ap655)).grown hg656 hx657 nb).grown hg640 hx663 (rowne ap662)
                    have hx665 := ltx hx663 hg640.size
                    have hk666 := hb498.grown hg542 nb
                    have ap667 : ¬ X554 b1 := fun h => ((hx555 _ h).2.elim (fun h => h.elim) (fun h => nl h (hk666.lt)))
                    have hk668 := hk666.grown hg549 nb
                    have ap669 : ¬ X570 b1 := fun h => ((hx571 _ h).2.elim (fun h => (h).elim (fun h => (ap494)  h) (fun h => (ap667)  h)) (fun h => nl h (hk668.lt)))
                    have hk670 := hk668.grown hg565 nb
                    have ap671 : ¬ X587 b1 := fun h => ((hx588 _ h).2.elim (fun h => (h).elim (fun h => (ap490)  h) (fun h => (ap669)  h)) (fun h => nl h (hk670.lt)))
                    have hx672 := ltx (ltx (ltx hx62 hg73.size) hg78.size) hg85.size
                    have hg673 := (grown_trans (grown_trans hg406 hg417) hg423)
                    have hx674 := ltx (ltx (ltx (fun k hk => ltl ((fun k hk => ltl (hx672 k hk) hz112) k hk) hz133) hg673.size) hg428.size) hg433.size
                    have hk675 := hk501.grown hg542 (fun k hk => ltl (hx674 k hk) hz479) nb
                    have ap676 : ∀ g, blk a58 = some g → ¬ X554 g := fun g e h => ((hx555 _ h).2.elim (fun h => h.elim) (fun h => nl h (hk675.lt g e)))
                    have hx677 := ltx (fun k hk => ltl (hx674 k hk) hz479) hg542.size
                    have hk678 := hk675.grown hg549 hx677 nb
                    have ap679 : ∀ g, blk a58 = some g → ¬ X570 g := fun g e h => ((hx571 _ h).2.elim (fun h => (h).elim (fun h => (ap497) g e h) (fun h => (ap676) g e h)) (fun h => nl h (hk678.lt g e)))
                    have hx680 := ltx hx677 hg549.size
                    have hk681 := hk678.grown hg565 hx680 nb
                    have ap682 : ∀ g, blk a58 = some g → ¬ X587 g := fun g e h => ((hx588 _ h).2.elim (fun h => (h).elim (fun h => (ap493) g e h) (fun h => (ap679) g e h)) (fun h => nl h (hk681.lt g e)))
                    have hk683 := hb134.grown hg406 nb
                    have lt684 := ltl ((ltb hk683) _ rfl) ((lowb hbe419) _ rfl)
                    have lt685 := ltt lt684 lt436
                    have hk686 := (((hk670.grown hg582 nb).grown hg593 (rowne (ng lt684))).grown hg656 nb).grown hg640 (rowne (ng lt685))
                    have hk687 := (hb594.grown hg656 nb).grown hg640 (rowne (ng lt436))
                    have hx688 := ltx hx680 hg565.size
                    have hk689 := hk136.grown hg406 (fun k hk => ltl ((fun k hk => ltl (hx672 k hk) hz112) k hk) hz133) nb
                    have hx690 := ltx (fun k hk => ltl ((fun k hk => ltl (hx672 k hk) hz112) k hk) hz133) hg406.size
                    have ap691 : ¬ (fun k => blk a58 = some k ∨ X58 k) b415 := fun hx => nl ((lowb hbe419) _ rfl) ((fun k (hk : blk a58 = some k ∨ X58 k) => hk.elim (fun h => hk689.lt k h) (fun h => hx690 k h)) _ hx)
                    have hx692 := ltx hx688 hg582.size
                    have hx693 := ltx hx692 hg593.size
                    have hk694 := hk689.grown hg417 hx690 nb
                    have hx695 := ltx hx690 hg417.size
                    have ap696 : ¬ (fun k => blk a58 = some k ∨ X58 k) b421 := fun hx => nl ((lowb hbe425) _ rfl) ((fun k (hk : blk a58 = some k ∨ X58 k) => hk.elim (fun h => hk694.lt k h) (fun h => hx695 k h)) _ hx)
                    have hx697 := ltx hx693 hg656.size
                    have hk698 := (((hk681.grown hg582 hx688 nb).grown hg593 hx692 (rdnx (rowne ap691))).grown hg656 hx693 nb).grown hg640 hx697 (rdnx (rowne ap696))
                    exact ⟨((IntKind.i64.wrap (s443.1 + 1)), (s443.2.2.1.1, s443.2.2.1.2), (r576.1, r576.2)), rfl, a584, c585, X587, hB649, hz650, hk664, hx665, hx590, ap671, ap655, ap682, hk686, hk687, hk698, hd, hs, okp [0, 1, 5, 7, 8, 9, 15] hok⟩
                   ·replace h5 := ite_f hc645 h5
                    refine gv_skip <| gv_blk <| gv_region <| pN 3 [17, 196, 197] [(17, (.int .i64 (IntKind.i64.wrap (s443.2.1 + 1))))] ?_
                    refine gv_nil ?_
                    have e := sj h5; subst e
                    refine gv_goal fun a hd hs hok => ?_
                    have hB699 := bg hB637 hg628 nb
                    have hB700 := bg hB615 hg417 nb
                    have hlo701 : w0.heap.size ≤ b421 := lob hbe425 hB700.size
                    have hB702 := bg hB699 hg640 (rowlo hlo701)
                    have hz703 := (nt (nt hz638 hg628.size) hg640.size)
                    have ap704 : ¬ X554 b415 := fun h => ((hx555 _ h).2.elim (fun h => h.elim) (fun h => nl h (hk544.lt)))
                    have hk705 := hk544.grown hg549 nb
                    have ap706 : ¬ X570 b415 := fun h => ((hx571 _ h).2.elim (fun h => (h).elim (fun h => (ap495)  h) (fun h => (ap704)  h)) (fun h => nl h (hk705.lt)))
                    have hk707 := hk705.grown hg565 nb
                    have ap708 : ¬ X587 b415 := fun h => ((hx588 _ h).2.elim (fun h => (h).elim (fun h => (ap491)  h) (fun h => (ap706)  h)) (fun h => nl h (hk707.lt)))
                    have hg709 := (grown_trans hg599 hg643)
                    have hx710 := ltx hx589 hg593.size
                    have ap711 : ¬ X554 b421 := fun h => ((hx555 _ h).2.elim (fun h => h.elim) (fun h => nl h (hk545.lt)))
                    have hk712 := hk545.grown hg549 nb
                    have ap713 : ¬ X570 b421 := fun h => ((hx571 _ h).2.elim (fun h => (h).elim (fun h => (ap496)  h) (fun h => (ap711)  h)) (fun h => nl h (hk712.lt)))
                    have hk714 := hk712.grown hg565 nb
                    have ap715 : ¬ X587 b421 := fun h => ((hx588 _ h).2.elim (fun h => (h).elim (fun h => (ap492)  h) (fun h => (ap713)  h)) (fun h => nl h (hk714.lt)))
                    have hx716 := ltx hx710 hg709.size
                    have hk717 := ((ho586.grown hg593 hx589 (rowne ap708)).grown hg709 hx710 nb).grown hg640 hx716 (rowne ap715)
                    have hx718 := ltx hx716 hg640.size
                    have ap719 : ¬ X610 b421 := fun h => ((hx611 _ h).2.elim (fun h => h.elim) (fun h => nl h (hk601.lt)))
                    have hk720 := hk601.grown hg605 nb
                    have ap721 : ¬ X633 b421 := fun h => ((hx634 _ h).2.elim (fun h => (h).elim (fun h => (ap496)  h) (fun h => (ap719)  h)) (fun h => nl h (hk720.lt)))
                    have hk722 := ho632.grown hg640 hx635 (rowne ap721)
                    have hx723 := ltx hx635 hg640.size
                    have hk724 := hb498.grown hg542 nb
                    have ap725 : ¬ X554 b1 := fun h => ((hx555 _ h).2.elim (fun h => h.elim) (fun h => nl h (hk724.lt)))
                    have hk726 := hk724.grown hg549 nb
                    have ap727 : ¬ X570 b1 := fun h => ((hx571 _ h).2.elim (fun h => (h).elim (fun h => (ap494)  h) (fun h => (ap725)  h)) (fun h => nl h (hk726.lt)))
                    have hk728 := hk726.grown hg565 nb
                    have ap729 : ¬ X587 b1 := fun h => ((hx588 _ h).2.elim (fun h => (h).elim (fun h => (ap490)  h) (fun h => (ap727)  h)) (fun h => nl h (hk728.lt)))
                    have hx730 := ltx (ltx (ltx hx62 hg73.size) hg78.size) hg85.size
                    have hg731 := (grown_trans (grown_trans hg406 hg417) hg423)
                    have hx732 := ltx (ltx (ltx (fun k hk => ltl ((fun k hk => ltl (hx730 k hk) hz112) k hk) hz133) hg731.size) hg428.size) hg433.size
                    have hk733 := hk501.grown hg542 (fun k hk => ltl (hx732 k hk) hz479) nb
                    have ap734 : ∀ g, blk a58 = some g → ¬ X554 g := fun g e h => ((hx555 _ h).2.elim (fun h => h.elim) (fun h => nl h (hk733.lt g e)))
                    have hx735 := ltx (fun k hk => ltl (hx732 k hk) hz479) hg542.size
                    have hk736 := hk733.grown hg549 hx735 nb
                    have ap737 : ∀ g, blk a58 = some g → ¬ X570 g := fun g e h => ((hx571 _ h).2.elim (fun h => (h).elim (fun h => (ap497) g e h) (fun h => (ap734) g e h)) (fun h => nl h (hk736.lt g e)))
                    have hx738 := ltx hx735 hg549.size
                    have hk739 := hk736.grown hg565 hx738 nb
                    have ap740 : ∀ g, blk a58 = some g → ¬ X587 g := fun g e h => ((hx588 _ h).2.elim (fun h => (h).elim (fun h => (ap493) g e h) (fun h => (ap737) g e h)) (fun h => nl h (hk739.lt g e)))
                    have hk741 := hb134.grown hg406 nb
                    have lt742 := ltl ((ltb hk741) _ rfl) ((lowb hbe419) _ rfl)
                    have hk743 := ((hk728.grown hg582 nb).grown hg593 (rowne (ng lt742))).grown hg599 nb
                    have ap744 : ¬ X610 b1 := fun h => ((hx611 _ h).2.elim (fun h => h.elim) (fun h => nl h (hk743.lt)))
                    have hk745 := hk743.grown hg605 nb
                    have ap746 : ¬ X633 b1 := fun h => ((hx634 _ h).2.elim (fun h => (h).elim (fun h => (ap494)  h) (fun h => (ap744)  h)) (fun h => nl h (hk745.lt)))
                    have hk747 := hb594.grown hg599 nb
                    have ap748 : ¬ X610 b415 := fun h => ((hx611 _ h).2.elim (fun h => h.elim) (fun h => nl h (hk747.lt)))
                    have hk749 := hk747.grown hg605 nb
                    have ap750 : ¬ X633 b415 := fun h => ((hx634 _ h).2.elim (fun h => (h).elim (fun h => (ap495)  h) (fun h => (ap748)  h)) (fun h => nl h (hk749.lt)))
                    have hx751 := ltx hx738 hg565.size
                    have hk752 := hk136.grown hg406 (fun k hk => ltl ((fun k hk => ltl (hx730 k hk) hz112) k hk) hz133) nb
                    have hx753 := ltx (fun k hk => ltl ((fun k hk => ltl (hx730 k hk) hz112) k hk) hz133) hg406.size
                    have ap754 : ¬ (fun k => blk a58 = some k ∨ X58 k) b415 := fun hx => nl ((lowb hbe419) _ rfl) ((fun k (hk : blk a58 = some k ∨ X58 k) => hk.elim (fun h => hk752.lt k h) (fun h => hx753 k h)) _ hx)
                    have hx755 := ltx hx751 hg582.size
                    have hx756 := ltx hx755 hg593.size
                    have hk757 := ((hk739.grown hg582 hx751 nb).grown hg593 hx755 (rdnx (rowne ap754))).grown hg599 hx756 nb
                    have ap758 : ∀ g, blk a58 = some g → ¬ X610 g := fun g e h => ((hx611 _ h).2.elim (fun h => h.elim) (fun h => nl h (hk757.lt g e)))
                    have hx759 := ltx hx756 hg599.size
                    have hk760 := hk757.grown hg605 hx759 nb
                    have ap761 : ∀ g, blk a58 = some g → ¬ X633 g := fun g e h => ((hx634 _ h).2.elim (fun h => (h).elim (fun h => (ap497) g e h) (fun h => (ap758) g e h)) (fun h => nl h (hk760.lt g e)))
                    have lt762 := ltt lt742 lt436
                    have hk763 := (hk745.grown hg628 nb).grown hg640 (rowne (ng lt762))
                    have hk764 := (hk749.grown hg628 nb).grown hg640 (rowne (ng lt436))
                    have hx765 := ltx hx759 hg605.size
                    have hk766 := hk752.grown hg417 hx753 nb
                    have hx767 := ltx hx753 hg417.size
                    have ap768 : ¬ (fun k => blk a58 = some k ∨ X58 k) b421 := fun hx => nl ((lowb hbe425) _ rfl) ((fun k (hk : blk a58 = some k ∨ X58 k) => hk.elim (fun h => hk766.lt k h) (fun h => hx767 k h)) _ hx)
                    have hx769 := ltx hx765 hg628.size
                    have hk770 := (hk760.grown hg628 hx765 nb).grown hg640 hx769 (rdnx (rowne ap768))
                    exact ⟨((IntKind.i64.wrap (s443.1 + 1)), (IntKind.i64.wrap (s443.2.1 + 1)), (s443.2.2.1.1, s443.2.2.1.2), (r576.1, r576.2), (r619.1, r619.2)), rfl, a584, c585, X587, a630, c631, X633, hB702, hz703, hk717, hx718, hx590, hk722, hx723, hx636, ap729, ap708, ap715, ap740, ap746, ap750, ap721, ap761, hk763, hk764, hb641, hk770, hd, hs, okp [0, 1, 5, 7, 8, 9, 15, 16, 17] hok⟩
              ·rintro a w442 ⟨s441, e, a773, c774, X773, hB771, hz772, hr775, hx776, hx777, ap778, ap779, ap780, hb781, hb782, hk783, hd, hs, hok⟩
               subst e
               refine gv_in ?_ hd hs hok
               clear hd hs hok
               replace h3 := cont_inl h3
               have hz784 := (nt (nt (nt (nt (nt hg406.size hg417.size) hg423.size) hg428.size) hg433.size) hz772)
               clear hn439 hz435 hb434 hk437 lt436 hz430 hb429 hk431 hz426 hbe425 hb424 hz420 hb418 hx414 hx413 hx412 ho410
               refine gv_seq <| gv_region <| pN 1 [240] [(240, (.pointer (some ⟨b415, 1, none⟩)))] ?_
               refine gv_load (t := 55) (A := ⟨b415, 1, none⟩) (.slice a773 (length s441.2.2.2) c774) [] (fun e => by cases e) rfl rfl rfl (by kernel_rfl) (by kernel_rfl) (by kernel_rfl) (inw0 (hb782.cell 1 rfl)) rfl ?_
               refine bindE h3 ?_; clear h3; intro r785 hr786 h3
               refine gv_call0 (by kernel_rfl) rfl (by kernel_rfl) enters23 (ref3_Halve_ok fuel a773 c774 s441.2.2.2 2 w442 (fun k => X773 k) (fun k hk => hx776 k hk) (hr775.wide (fun k hk => hk)) r785 hr786) ?_
               rintro v789 w787 ⟨hg788, a790, c791, X793, rfl, ho792, hx794⟩
               have hx795 : ∀ k, X793 k → k < w787.heap.size := fun k hk => (hx794 k hk).1
               have hx796 : ∀ k, X793 k → X0 k ∨ w0.heap.size ≤ k := fun k hk => (hx794 k hk).2.elim (fun h => hx777 k h) (fun h => .inr (Nat.le_trans hB771.size h))
               refine pN 5 [19, 20, 239, 243, 244] [(19, (.slice a790 (length r785.1) c791)), (20, (.int .i64 r785.2))] ?_
               refine gv_nil <| gv_seq <| gv_region <| pN 2 [245, 246] [(246, (.agg #[(.bool false), (.slice a790 (length r785.1) c791)]))] ?_
               refine gv_new0 (fun b => .pointer (some ⟨b, 0, none⟩)) #[(.bool false), (.slice none (length ([] : List Int)) 0)] 57 (by kernel_rfl) (by kernel_rfl) ?_
               intro b797 w798 hg799 hb800 hbe801 hz802
               refine gv_store0 57 0 (.agg #[(.bool false), (.slice a790 (length r785.1) c791)]) #[(.bool false), (.slice a790 (length r785.1) c791)] hb800 (by kernel_rfl) (by kernel_rfl) (by kernel_rfl) ?_
               intro w803 hg804 hb805 hz806
               refine gv_nil <| gv_seq <| gv_seq <| gv_region <| pN 2 [247, 248] [(248, (.bool (r785.2 == 1)))] ?_
               refine gv_nil <| bindE h3 ?_; clear h3; intro j807 h4 h3
               refine gv_cut_code (J := fun a w808 => ∃ (abb797_0j : Option Addr) (cbb797_0j : Nat), ∃ (Xbb797_0j : Nat → Prop), Below w0.heap.size w0 w808 ∧ w803.heap.size ≤ w808.heap.size ∧ Rd (iE .i64) w808 Xbb797_0j abb797_0j cbb797_0j j807.2 ∧ (∀ k, Xbb797_0j k → k < w808.heap.size) ∧ (∀ k, Xbb797_0j k → X0 k ∨ w0.heap.size ≤ k) ∧ ¬ Xbb797_0j b1 ∧ ¬ Xbb797_0j b797 ∧ (∀ g, blk a58 = some g → ¬ Xbb797_0j g) ∧ Box w808 b1 26 #[(.int .i64 s441.2.1.1), (.int .i64 s441.2.1.2)] ∧ Box w808 b797 57 #[(.bool j807.1), (.slice abb797_0j (length j807.2) cbb797_0j)] ∧ Gv.Own (prE (iE .i64) (prE (prE tE (slE (iE .u32))) (prE (prE tE (slE (iE .u32))) (prE sE (iE .i64))))) 41 w808 X58 a58 c59 s46.1 ∧ a.defers = [] ∧ a.tmps.size = 265 ∧ Ok [(0, (.slice pa0_0 (length l_0) pc0_0)), (1, (.slice pa1_0 (length data_1) pc1_0)), (5, (bp b1)), (7, (.slice a58 (length s46.1) c59)), (8, (.int .i64 s441.1)), (9, (.int .i64 s46.2.2.1)), (21, (bp b797))] a.tmps) ?_ ?_
               ·skip
                refine gv_cond (b := (r785.2 == 1)) (by kernel_rfl) (fun hc809 => ?_) (fun hc809 => ?_)
                ·replace h4 := ite_t hc809 h4
                 refine gv_drawA (by kernel_rfl) ?_
                 intro w810 hg811
                 refine gv_stage (Cls w810 []) [0, 1] [(0, some true), (1, some false)] (bA 5 [0, 1]) 3 (by kernel_rfl) (by kernel_rfl) (Cls.refl _ _) ?_
                 have hC812 := Cls.refl w810 []
                 have hk813 := hb805.grown hg811 nb
                 refine gv_loadBox (t := 57) (b := b797) (t' := 57) (fr := (0, 0)) #[(.bool false), (.slice a790 (length r785.1) c791)] [] (fun e => by cases e) rfl rfl rfl (by kernel_rfl) (by kernel_rfl) (by kernel_rfl) (by kernel_rfl) (inw1 fun w' hC' => (hC'.box hk813 nm_nil)) rfl ?_
                 refine bindE h4 ?_; clear h4; intro r814 hr815 h4
                 refine gv_call (f := 20) (vs := [(.int .i64 1)]) (cap := []) _ (by decide) rfl rfl rfl (by kernel_rfl) (by kernel_rfl) enters20 (ref3_Number_ok fuel 1 w810  r814 hr815) ?_
                 rintro v818 w816 ⟨hg817, a819, c820, X822, rfl, ho821, hx823⟩
                 refine ⟨(fun _ => hC812.grown hg817 nb), ?_⟩
                 have hx824 : ∀ k, X822 k → k < w816.heap.size := fun k hk => (hx823 k hk).1
                 have hg826 := (grown_trans hg788 hg799)
                 have hB827 := bg hB771 hg826 nb
                 have hB828 := bg hB771 hg788 nb
                 have hlo829 : w0.heap.size ≤ b797 := lob hbe801 hB828.size
                 have hB830 := bg hB827 hg804 (rowlo hlo829)
                 have hB831 := bg hB830 hg811 nb
                 have hx825 : ∀ k, X822 k → X0 k ∨ w0.heap.size ≤ k := fun k hk => (hx823 k hk).2.elim (fun h => h.elim) (fun h => .inr (Nat.le_trans hB831.size h))
                 refine gv_nil <| gv_goA ?_
                 refine gv_stage (fun _ => True) [0, 1, 2] [(2, some false)] (bA 5 [0, 1, 2]) 2 (by kernel_rfl) (by kernel_rfl) trivial ?_
                 refine bindE h4 ?_; clear h4; intro r832 hr833 h4
                 have hg834 := (grown_trans hg811 hg817)
                 have hx835 := ltx (ltx (ltx hx795 hg799.size) hg804.size) hg834.size
                 have ap836 : ¬ X793 b797 := fun hx => nl ((lowb hbe801) _ rfl) (hx795 _ hx)
                 have hx837 := ltx hx795 hg799.size
                 have hx838 := ltx hx837 hg804.size
                 have hk839 := ((ho792.grown hg799 hx795 nb).grown hg804 hx837 (rowne ap836)).grown hg834 hx838 nb
                 refine gv_call (f := 21) (vs := [(.agg #[(.bool false), (.slice a790 (length r785.1) c791)]), (.agg #[(.bool r814.1), (.slice a819 (length r814.2) c820)])]) (cap := []) _ (by decide) rfl rfl rfl (by kernel_rfl) (by kernel_rfl) enters21 (ref3_Int_Plus_ok fuel a790 c791 (false, r785.1) a819 c820 (r814.1, r814.2) w816 (fun k => X793 k ∨ X822 k) (fun k hk => (hk).elim (fun h => hx835 k h) (fun h => hx824 k h)) (hk839.wide (fun k hk => (.inl hk))) (ho821.wide (fun k hk => (.inr hk))) r832 hr833) ?_
                 rintro v842 w840 ⟨hg841, a843, c844, X846, rfl, ho845, hx847⟩
                 refine ⟨(fun _ => trivial), ?_⟩
                 have hx848 : ∀ k, X846 k → k < w840.heap.size := fun k hk => (hx847 k hk).1
                 have hB850 := bg hB831 hg817 nb
                 have hx849 : ∀ k, X846 k → X0 k ∨ w0.heap.size ≤ k := fun k hk => (hx847 k hk).2.elim (fun h => (h).elim (fun h => hx796 k h) (fun h => hx825 k h)) (fun h => .inr (Nat.le_trans hB850.size h))
                 refine gv_nil <| gv_goA ?_
                 refine gv_stage (fun _ => True) [0, 1, 2, 3] [(3, some false)] (bA 5 [0, 1, 2, 3]) 1 (by kernel_rfl) (by kernel_rfl) trivial ?_
                 refine bindE h4 ?_; clear h4; intro r851 hr852 h4
                 refine gv_call (f := 24) (vs := [(.agg #[(.bool r832.1), (.slice a843 (length r832.2) c844)])]) (cap := []) _ (by decide) rfl rfl rfl (by kernel_rfl) (by kernel_rfl) enters24 (ref3_Int_Minus_ok fuel a843 c844 (r832.1, r832.2) w840 (fun k => X846 k) (fun k hk => hx848 k hk) (ho845.wide (fun k hk => hk)) r851 hr852) ?_
                 rintro v855 w853 ⟨hg854, a856, c857, X859, rfl, ho858, hx860⟩
                 refine ⟨(fun _ => trivial), ?_⟩
                 have hx861 : ∀ k, X859 k → k < w853.heap.size := fun k hk => (hx860 k hk).1
                 have hB863 := bg hB850 hg841 nb
                 have hx862 : ∀ k, X859 k → X0 k ∨ w0.heap.size ≤ k := fun k hk => (hx860 k hk).2.elim (fun h => hx849 k h) (fun h => .inr (Nat.le_trans hB863.size h))
                 have hz864 := (nt (nt (nt hz784 hg788.size) hg799.size) hg804.size)
                 have hz865 := (nt (nt hg811.size hg817.size) hg841.size)
                 clear hr852 hB850 hx838 hx837 hg834 hr833 hB831 hB830 hB828 hB827 hg826 hr815 hC812 hc809 hz806 hb805 hz802 hb800 hx795 ho792 hr786 hz784 ap779 hB771 hk136
                 refine gv_nil <| gv_goA ?_
                 refine gv_stage (fun _ => True) [0, 1, 2, 3, 4] [(4, some false)] (bA 5 [0, 1, 2, 3, 4]) 0 (by kernel_rfl) (by kernel_rfl) trivial ?_
                 have hg870 := (grown_trans (grown_trans hg817 hg841) hg854)
                 have hk871 := hk813.grown hg870 nb
                 refine gv_store (t := 57) (b := b797) (off := 0) (v := (.agg #[(.bool r851.1), (.slice a856 (length r851.2) c857)])) (t' := 57) (cs := #[(.bool false), (.slice a790 (length r785.1) c791)]) #[(.bool r851.1), (.slice a856 (length r851.2) c857)] (by decide) rfl rfl (by kernel_rfl) (by kernel_rfl) (by kernel_rfl) (by intro u hu; simp [Value.cells] at hu; rcases hu with rfl | rfl <;> rfl) (show 0 + 2 ≤ 2 by decide) (by rfl) hk871 ?_
                 intro w866 hg867 hb868 hz869
                 refine ⟨(fun _ => trivial), ?_⟩
                 refine gv_nil <| gv_goA ?_
                 refine gv_stageE (by kernel_rfl) ?_
                 have e := sj h4; subst e
                 refine gv_goal fun a hd hs hok => ?_
                 have hB872 := bg hB863 hg854 nb
                 have hB873 := bg hB872 hg867 (rowlo hlo829)
                 have hz874 := (nt (nt hz865 hg854.size) hg867.size)
                 have ap875 : ¬ X822 b797 := fun h => ((hx823 _ h).2.elim (fun h => h.elim) (fun h => nl h (hk813.lt)))
                 have hk876 := hk813.grown hg817 nb
                 have ap877 : ¬ X846 b797 := fun h => ((hx847 _ h).2.elim (fun h => (h).elim (fun h => (ap836)  h) (fun h => (ap875)  h)) (fun h => nl h (hk876.lt)))
                 have hk878 := hk876.grown hg841 nb
                 have ap879 : ¬ X859 b797 := fun h => ((hx860 _ h).2.elim (fun h => (ap877)  h) (fun h => nl h (hk878.lt)))
                 have hk880 := ho858.grown hg867 hx861 (rowne ap879)
                 have hx881 := ltx hx861 hg867.size
                 have ap882 : ¬ X793 b1 := fun h => ((hx794 _ h).2.elim (fun h => (ap778)  h) (fun h => nl h (hb781.lt)))
                 have hg883 := (grown_trans hg788 hg799)
                 have hk884 := hb134.grown hg406 nb
                 have lt885 := ltl ((ltb hk884) _ rfl) ((lowb hbe419) _ rfl)
                 have hk886 := hb782.grown hg788 nb
                 have lt887 := ltl ((ltb hk886) _ rfl) ((lowb hbe801) _ rfl)
                 have lt888 := ltt lt885 lt887
                 have hk889 := ((hb781.grown hg883 nb).grown hg804 (rowne (ng lt888))).grown hg811 nb
                 have ap890 : ¬ X822 b1 := fun h => ((hx823 _ h).2.elim (fun h => h.elim) (fun h => nl h (hk889.lt)))
                 have hk891 := hk889.grown hg817 nb
                 have ap892 : ¬ X846 b1 := fun h => ((hx847 _ h).2.elim (fun h => (h).elim (fun h => (ap882)  h) (fun h => (ap890)  h)) (fun h => nl h (hk891.lt)))
                 have hk893 := hk891.grown hg841 nb
                 have ap894 : ¬ X859 b1 := fun h => ((hx860 _ h).2.elim (fun h => (ap892)  h) (fun h => nl h (hk893.lt)))
                 have ap895 : ∀ g, blk a58 = some g → ¬ X793 g := fun g e h => ((hx794 _ h).2.elim (fun h => (ap780) g e h) (fun h => nl h (hk783.lt g e)))
                 have hx896 := ltx (ltx (ltx hx62 hg73.size) hg78.size) hg85.size
                 have hg897 := (grown_trans (grown_trans hg406 hg417) hg423)
                 have hx898 := ltx (ltx (ltx (fun k hk => ltl ((fun k hk => ltl (hx896 k hk) hz112) k hk) hz133) hg897.size) hg428.size) hg433.size
                 have hk899 := hk783.grown hg788 (fun k hk => ltl (hx898 k hk) hz772) nb
                 have hx900 := ltx (fun k hk => ltl (hx898 k hk) hz772) hg788.size
                 have ap901 : ¬ (fun k => blk a58 = some k ∨ X58 k) b797 := fun hx => nl ((lowb hbe801) _ rfl) ((fun k (hk : blk a58 = some k ∨ X58 k) => hk.elim (fun h => hk899.lt k h) (fun h => hx900 k h)) _ hx)
                 have hx902 := ltx hx900 hg799.size
                 have hx903 := ltx hx902 hg804.size
                 have hk904 := ((hk783.grown hg883 (fun k hk => ltl (hx898 k hk) hz772) nb).grown hg804 hx902 (rdnx (rowne ap901))).grown hg811 hx903 nb
                 have ap905 : ∀ g, blk a58 = some g → ¬ X822 g := fun g e h => ((hx823 _ h).2.elim (fun h => h.elim) (fun h => nl h (hk904.lt g e)))
                 have hx906 := ltx hx903 hg811.size
                 have hk907 := hk904.grown hg817 hx906 nb
                 have ap908 : ∀ g, blk a58 = some g → ¬ X846 g := fun g e h => ((hx847 _ h).2.elim (fun h => (h).elim (fun h => (ap895) g e h) (fun h => (ap905) g e h)) (fun h => nl h (hk907.lt g e)))
                 have hx909 := ltx hx906 hg817.size
                 have hk910 := hk907.grown hg841 hx909 nb
                 have ap911 : ∀ g, blk a58 = some g → ¬ X859 g := fun g e h => ((hx860 _ h).2.elim (fun h => (ap908) g e h) (fun h => nl h (hk910.lt g e)))
                 have hk912 := (hk893.grown hg854 nb).grown hg867 (rowne (ng lt888))
                 have hx913 := ltx hx909 hg841.size
                 have hx914 := ltx hx913 hg854.size
                 have hk915 := (hk910.grown hg854 hx913 nb).grown hg867 hx914 (rdnx (rowne ap901))
                 exact ⟨a856, c857, X859, hB873, hz874, hk880, hx881, hx862, ap894, ap879, ap911, hk912, hb868, hk915, hd, hs, okp [0, 1, 5, 7, 8, 9, 21] hok⟩
                ·replace h4 := ite_f hc809 h4
                 refine gv_skip ?_
                 have e := sj h4; subst e
                 refine gv_goal fun a hd hs hok => ?_
                 have hg916 := (grown_trans hg788 hg799)
                 have hB917 := bg hB771 hg916 nb
                 have hB918 := bg hB771 hg788 nb
                 have hlo919 : w0.heap.size ≤ b797 := lob hbe801 hB918.size
                 have hB920 := bg hB917 hg804 (rowlo hlo919)
                 have ap921 : ¬ X793 b797 := fun hx => nl ((lowb hbe801) _ rfl) (hx795 _ hx)
                 have hx922 := ltx hx795 hg799.size
                 have hk923 := (ho792.grown hg799 hx795 nb).grown hg804 hx922 (rowne ap921)
                 have hx924 := ltx hx922 hg804.size
                 have ap925 : ¬ X793 b1 := fun h => ((hx794 _ h).2.elim (fun h => (ap778)  h) (fun h => nl h (hb781.lt)))
                 have ap926 : ∀ g, blk a58 = some g → ¬ X793 g := fun g e h => ((hx794 _ h).2.elim (fun h => (ap780) g e h) (fun h => nl h (hk783.lt g e)))
                 have hk927 := hb134.grown hg406 nb
                 have lt928 := ltl ((ltb hk927) _ rfl) ((lowb hbe419) _ rfl)
                 have hk929 := hb782.grown hg788 nb
                 have lt930 := ltl ((ltb hk929) _ rfl) ((lowb hbe801) _ rfl)
                 have lt931 := ltt lt928 lt930
                 have hk932 := (hb781.grown hg916 nb).grown hg804 (rowne (ng lt931))
                 have hx933 := ltx (ltx (ltx hx62 hg73.size) hg78.size) hg85.size
                 have hg934 := (grown_trans (grown_trans hg406 hg417) hg423)
                 have hx935 := ltx (ltx (ltx (fun k hk => ltl ((fun k hk => ltl (hx933 k hk) hz112) k hk) hz133) hg934.size) hg428.size) hg433.size
                 have hk936 := hk783.grown hg788 (fun k hk => ltl (hx935 k hk) hz772) nb
                 have hx937 := ltx (fun k hk => ltl (hx935 k hk) hz772) hg788.size
                 have ap938 : ¬ (fun k => blk a58 = some k ∨ X58 k) b797 := fun hx => nl ((lowb hbe801) _ rfl) ((fun k (hk : blk a58 = some k ∨ X58 k) => hk.elim (fun h => hk936.lt k h) (fun h => hx937 k h)) _ hx)
                 have hx939 := ltx hx937 hg799.size
                 have hk940 := (hk783.grown hg916 (fun k hk => ltl (hx935 k hk) hz772) nb).grown hg804 hx939 (rdnx (rowne ap938))
                 exact ⟨a790, c791, X793, hB920, nrf, hk923, hx924, hx796, ap925, ap921, ap926, hk932, hb805, hk940, hd, hs, okp [0, 1, 5, 7, 8, 9, 21] hok⟩
               ·rintro a w808 ⟨a943, c944, X943, hB941, hz942, hr945, hx946, hx947, ap948, ap949, ap950, hb951, hb952, hk953, hd, hs, hok⟩
                refine gv_in ?_ hd hs hok
                clear hd hs hok
                have hz954 := (nt (nt (nt (nt hz784 hg788.size) hg799.size) hg804.size) hz942)
                clear hz806 hb805 hz802 hb800 hx796 hx795 hx794 ho792 hr786 hz784 hb781 ap780 ap779 ap778 hx777 hx776 hr775 hk136 hB132
                refine gv_region <| pN 1 [253] [(253, (.slice a58 (length s46.1) c59))] ?_
                refine gv_loadBox (t := 57) (b := b797) (t' := 57) (fr := (0, 0)) #[(.bool j807.1), (.slice a943 (length j807.2) c944)] [] (fun e => by cases e) rfl rfl rfl (by kernel_rfl) (by kernel_rfl) (by kernel_rfl) (by kernel_rfl) (inw0 hb952) rfl ?_
                refine bindE h3 ?_; clear h3; intro r955 hr956 h3
                refine gv_call0 (by kernel_rfl) rfl (by kernel_rfl) enters25 (ref4_IntegerOf_ok fuel a943 c944 (j807.1, j807.2) w808 (fun k => X943 k) (fun k hk => hx946 k hk) (hr945.wide (fun k hk => hk)) r955 hr956) ?_
                rintro v959 w957 ⟨hg958, a960, c961, a964, c965, rfl, ho962, hl963, ho966, hl967, ap968⟩
                have hl969 : ∀ g, blk a960 = some g → w0.heap.size ≤ g := fun g e => Nat.le_trans hB941.size (hl963 g e)
                have hl970 : ∀ g, blk a964 = some g → w0.heap.size ≤ g := fun g e => Nat.le_trans hB941.size (hl967 g e)
                refine gv_new0 (fun b => .slice (some ⟨b, 0, none⟩) 1 1) #[(.int .i64 r955.1), (.bool r955.2.1.1), (.slice a960 (length r955.2.1.2) c961), (.bool r955.2.2.1.1), (.slice a964 (length r955.2.2.1.2) c965), (.string r955.2.2.2.1), (.int .i64 r955.2.2.2.2)] 41 (by kernel_rfl) (by kernel_rfl) ?_
                intro b971 w972 hg973 hb974 hbe975 hz976
                obtain ⟨X982, e⟩ : ∃ X : Nat → Prop, X = (fun k => (fun k => blk a960 = some k) k ∨ (fun k => blk a964 = some k) k) := ⟨_, rfl⟩
                have hx980 : ∀ k, X982 k → k < w957.heap.size := fun k h => by rw [e] at h; exact (h).elim (fun h => (fun k (hk : blk a960 = some k) => ho962.lt k hk) k h) (fun h => (fun k (hk : blk a964 = some k) => ho966.lt k hk) k h)
                have hz983 := hg973.size
                have hx979 : ∀ k, X982 k → k < w972.heap.size := fun k h => ltl (hx980 k h) hz983
                have hx981 : ∀ k, X982 k → X0 k ∨ w0.heap.size ≤ k := fun k h => by rw [e] at h; exact (h).elim (fun h => (fun k (hk : blk a960 = some k) => Or.inr (hl969 k hk)) k h) (fun h => (fun k (hk : blk a964 = some k) => Or.inr (hl970 k hk)) k h)
                have hk984 := ho962.grown hg973 (fun _ h => h.elim) nb
                have hk985 := ho966.grown hg973 (fun _ h => h.elim) nb
                have ho977 : Gv.Own (prE (iE .i64) (prE (prE tE (slE (iE .u32))) (prE (prE tE (slE (iE .u32))) (prE sE (iE .i64))))) 41 w972 X982 (some ⟨b971, 0, none⟩) 1 ([(r955.1, (r955.2.1.1, r955.2.1.2), (r955.2.2.1.1, r955.2.2.1.2), r955.2.2.2.1, r955.2.2.2.2)] : List (Int × (Bool × (List Int)) × (Bool × (List Int)) × ByteArray × Int)) := Box.ownE hb974 (by rw [e]; exact ⟨[(.int .i64 r955.1), (.bool r955.2.1.1), (.slice a960 (length r955.2.1.2) c961), (.bool r955.2.2.1.1), (.slice a964 (length r955.2.2.1.2) c965), (.string r955.2.2.2.1), (.int .i64 r955.2.2.2.2)], [], rfl, ⟨[(.int .i64 r955.1)], [(.bool r955.2.1.1), (.slice a960 (length r955.2.1.2) c961), (.bool r955.2.2.1.1), (.slice a964 (length r955.2.2.1.2) c965), (.string r955.2.2.2.1), (.int .i64 r955.2.2.2.2)], rfl, rfl, ⟨[(.bool r955.2.1.1), (.slice a960 (length r955.2.1.2) c961)], [(.bool r955.2.2.1.1), (.slice a964 (length r955.2.2.1.2) c965), (.string r955.2.2.2.1), (.int .i64 r955.2.2.2.2)], rfl, ⟨[(.bool r955.2.1.1)], [(.slice a960 (length r955.2.1.2) c961)], rfl, rfl, ⟨a960, c961, rfl, ((hk984.rd (Y := fun k => blk a960 = some k) (fun _ h => h.elim) (fun g e => e)).wide (fun _ h => (.inl h)))⟩⟩, ⟨[(.bool r955.2.2.1.1), (.slice a964 (length r955.2.2.1.2) c965)], [(.string r955.2.2.2.1), (.int .i64 r955.2.2.2.2)], rfl, ⟨[(.bool r955.2.2.1.1)], [(.slice a964 (length r955.2.2.1.2) c965)], rfl, rfl, ⟨a964, c965, rfl, ((hk985.rd (Y := fun k => blk a964 = some k) (fun _ h => h.elim) (fun g e => e)).wide (fun _ h => (.inr h)))⟩⟩, ⟨[(.string r955.2.2.2.1)], [(.int .i64 r955.2.2.2.2)], rfl, rfl, rfl⟩⟩⟩⟩, rfl⟩) (show 1 ≤ maxLen by decide) (fun h => noteq hbe975 (hx980 _ h))
                have hx986 : ∀ k, X982 k → (fun k => (fun k => blk a960 = some k) k ∨ (fun k => blk a964 = some k) k) k := fun k h => by rw [e] at h; exact h
                clear e
                have hB987 := bg hB941 hg958 nb
                have hl978 : ∀ g, blk (some ⟨b971, 0, none⟩) = some g → w0.heap.size ≤ g := loo hbe975 hB987.size
                have hx989 := ltx hx946 hg958.size
                have ap988 : ∀ g, blk (some ⟨b971, 0, none⟩) = some g → ¬ X943 g := fun g e hx => nl (lowo hbe975 g e) (hx989 _ hx)
                have hk991 := hb951.grown hg958 nb
                have ap990 : ∀ g, blk (some ⟨b971, 0, none⟩) = some g → ¬ (· = b1) g := fun g e hx => nl (lowo hbe975 g e) ((ltb hk991) _ hx)
                have ap993 : ¬ (fun k => blk a960 = some k) b1 := fun hx => nl ((show ∀ k, blk a960 = some k → w808.heap.size ≤ k from hl963) _ hx) ((ltb hb951) _ rfl)
                have ap994 : ¬ (fun k => blk a964 = some k) b1 := fun hx => nl ((show ∀ k, blk a964 = some k → w808.heap.size ≤ k from hl967) _ hx) ((ltb hb951) _ rfl)
                have ap992 : ¬ (fun k => blk (some ⟨b971, 0, none⟩) = some k ∨ X982 k) b1 := fun h => h.elim (fun h => nl (lowo hbe975 _ h) ((ltb hk991) _ rfl)) (fun h => ((hx986 _ h)).elim (fun h => (ap993)  h) (fun h => (ap994)  h))
                have hk996 := hb952.grown hg958 nb
                have ap995 : ∀ g, blk (some ⟨b971, 0, none⟩) = some g → ¬ (· = b797) g := fun g e hx => nl (lowo hbe975 g e) ((ltb hk996) _ hx)
                have ap998 : ¬ (fun k => blk a960 = some k) b797 := fun hx => nl ((show ∀ k, blk a960 = some k → w808.heap.size ≤ k from hl963) _ hx) ((ltb hb952) _ rfl)
                have ap999 : ¬ (fun k => blk a964 = some k) b797 := fun hx => nl ((show ∀ k, blk a964 = some k → w808.heap.size ≤ k from hl967) _ hx) ((ltb hb952) _ rfl)
                have ap997 : ¬ (fun k => blk (some ⟨b971, 0, none⟩) = some k ∨ X982 k) b797 := fun h => h.elim (fun h => nl (lowo hbe975 _ h) ((ltb hk996) _ rfl)) (fun h => ((hx986 _ h)).elim (fun h => (ap998)  h) (fun h => (ap999)  h))
                have hx1001 := ltx (ltx (ltx hx62 hg73.size) hg78.size) hg85.size
                have hg1002 := (grown_trans (grown_trans hg406 hg417) hg423)
                have hx1003 := ltx (ltx (ltx (fun k hk => ltl ((fun k hk => ltl (hx1001 k hk) hz112) k hk) hz133) hg1002.size) hg428.size) hg433.size
                have hg1004 := (grown_trans hg788 hg799)
                have hx1005 := ltx (ltx (fun k hk => ltl (hx1003 k hk) hz772) hg1004.size) hg804.size
                have hk1006 := hk953.grown hg958 (fun k hk => ltl (hx1005 k hk) hz942) nb
                have hx1007 := ltx (fun k hk => ltl (hx1005 k hk) hz942) hg958.size
                have ap1000 : ∀ g, blk (some ⟨b971, 0, none⟩) = some g → ¬ (fun k => blk a58 = some k ∨ X58 k) g := fun g e hx => nl (lowo hbe975 g e) ((fun k (hk : blk a58 = some k ∨ X58 k) => hk.elim (fun h => hk1006.lt k h) (fun h => hx1007 k h)) _ hx)
                have ap1009 : ∀ g, blk a58 = some g → ¬ (fun k => blk a960 = some k) g := fun g e hx => nl ((show ∀ k, blk a960 = some k → w808.heap.size ≤ k from hl963) _ hx) ((fun k (hk : blk a58 = some k ∨ X58 k) => hk.elim (fun h => hk953.lt k h) (fun h => (fun k hk => ltl (hx1005 k hk) hz942) k h)) g (.inl e))
                have ap1010 : ∀ g, blk a58 = some g → ¬ (fun k => blk a964 = some k) g := fun g e hx => nl ((show ∀ k, blk a964 = some k → w808.heap.size ≤ k from hl967) _ hx) ((fun k (hk : blk a58 = some k ∨ X58 k) => hk.elim (fun h => hk953.lt k h) (fun h => (fun k hk => ltl (hx1005 k hk) hz942) k h)) g (.inl e))
                have ap1008 : ∀ g, blk a58 = some g → ¬ (fun k => blk (some ⟨b971, 0, none⟩) = some k ∨ X982 k) g := fun g e h => h.elim (fun h => nl (lowo hbe975 _ h) ((fun k (hk : blk a58 = some k ∨ X58 k) => hk.elim (fun h => hk1006.lt k h) (fun h => hx1007 k h)) g (.inl e))) (fun h => ((hx986 _ h)).elim (fun h => (ap1009) g e h) (fun h => (ap1010) g e h))
                have ap1011 : ∀ g, blk (some ⟨b971, 0, none⟩) = some g → ¬ (fun k => blk a960 = some k) g := fun g e hx => nl (lowo hbe975 g e) ((fun k (hk : blk a960 = some k) => ho962.lt k hk) _ hx)
                have ap1012 : ∀ g, blk (some ⟨b971, 0, none⟩) = some g → ¬ (fun k => blk a964 = some k) g := fun g e hx => nl (lowo hbe975 g e) ((fun k (hk : blk a964 = some k) => ho966.lt k hk) _ hx)
                refine bindE h3 ?_; clear h3; intro l1013 hx1014 h3
                obtain ⟨X1015, e⟩ : ∃ X : Nat → Prop, X = fun k => X58 k ∨ (fun k => blk (some ⟨b971, 0, none⟩) = some k ∨ X982 k) k := ⟨_, rfl⟩
                have hx1019 := ltx hx1007 hg973.size
                have hx1016 : ∀ k, X1015 k → k < w972.heap.size := fun k hk => by rw [e] at hk; exact hk.elim (fun h => hx1019 k h) (fun h => (fun k (hk : blk (some ⟨b971, 0, none⟩) = some k ∨ X982 k) => hk.elim (fun h => ho977.lt k h) (fun h => hx979 k h)) k h)
                have hx1017 : ∀ k, X1015 k → X0 k ∨ w0.heap.size ≤ k := fun k hk => by rw [e] at hk; exact hk.elim (fun h => hx63 k h) (fun h => (fun k (hk : blk (some ⟨b971, 0, none⟩) = some k ∨ X982 k) => hk.elim (fun h => Or.inr (hl978 k h)) (fun h => hx981 k h)) k h)
                have hk1020 := hk1006.grown hg973 hx1007 nb
                have ho1018 : Gv.Own (prE (iE .i64) (prE (prE tE (slE (iE .u32))) (prE (prE tE (slE (iE .u32))) (prE sE (iE .i64))))) 41 w972 X1015 a58 c59 s46.1 := (hk1020).wide (fun k hk => by rw [e]; exact .inl hk) (fun g e1 hk => by rw [e] at hk; exact hk.elim (fun h => (hk1020).out g e1 h) (fun h => ap1008 g e1 h))
                have hx1021 : ∀ k, (fun k => blk (some ⟨b971, 0, none⟩) = some k ∨ X982 k) k → X1015 k := fun k hk => by rw [e]; exact .inr hk
                have hx1022 : ∀ k, X1015 k → X58 k ∨ (fun k => blk (some ⟨b971, 0, none⟩) = some k ∨ X982 k) k := fun k hk => by rw [e] at hk; exact hk
                clear e
                refine gv_append (prE (iE .i64) (prE (prE tE (slE (iE .u32))) (prE (prE tE (slE (iE .u32))) (prE sE (iE .i64))))) (t := 24) (ty := 24) (e := 41) (a := a58) (ax := (some ⟨b971, 0, none⟩)) (cap := c59) (cx := 1) (xs := s46.1) (ys := ([(r955.1, (r955.2.1.1, r955.2.1.2), (r955.2.2.1.1, r955.2.2.1.2), r955.2.2.2.1, r955.2.2.2.2)] : List (Int × (Bool × (List Int)) × (Bool × (List Int)) × ByteArray × Int))) l1013 (X := X1015) (Y := (fun k => blk (some ⟨b971, 0, none⟩) = some k ∨ X982 k)) (by decide) rfl rfl (by kernel_rfl) (by kernel_rfl) Tryz.underlying24 info41 ho1018 (ho977.rd (Y := fun k => blk (some ⟨b971, 0, none⟩) = some k ∨ X982 k) (fun _ h => .inr h) (fun g e => .inl e)) hx1014 (.inl hx1021) hx1016 ?_
                intro a1023 c1024 w1025 hg1026 ho1027 hk1028
                refine ⟨(fun e => by cases e), ?_⟩
                have hB1030 := bg hB987 hg973 nb
                have hl1029 : ∀ g, blk a1023 = some g → w0.heap.size ≤ g := blk_step hk1028 hl61 hB1030.size
                have hx1031 : ∀ k, X1015 k → k < w1025.heap.size := fun k hk => ltl (hx1016 k hk) hg1026.size
                have hx1033 := ltx hx989 hg973.size
                have ap1032 : ∀ g, blk a1023 = some g → ¬ X943 g := blk_neX hk1028 ap950 hx1033
                have hk1035 := hk991.grown hg973 nb
                have ap1034 : ∀ g, blk a1023 = some g → ¬ (· = b1) g := blk_neX hk1028 ap64 (ltb hk1035)
                have ap1036 : ¬ (fun k => blk a1023 = some k ∨ X1015 k) b1 := fun h => h.elim (fun h => blk_rev hk1028 (fun h => (ap65) (.inl h)) (hk1035.lt) h) (fun h => (hx1022 _ h).elim (fun h => (ap65) (.inr h)) (fun h => (ap992) h))
                have hk1038 := hk783.grown hg788 (fun k hk => ltl (hx1003 k hk) hz772) nb
                have hx1039 := ltx (fun k hk => ltl (hx1003 k hk) hz772) hg788.size
                have ap1040 : ∀ g, blk a58 = some g → ¬ (· = b797) g := fun g e hx => nl ((lowb hbe801) _ hx) ((fun k (hk : blk a58 = some k ∨ X58 k) => hk.elim (fun h => hk1038.lt k h) (fun h => hx1039 k h)) g (.inl e))
                have hk1041 := hk996.grown hg973 nb
                have ap1037 : ∀ g, blk a1023 = some g → ¬ (· = b797) g := blk_neX hk1028 ap1040 (ltb hk1041)
                have ap1043 : ¬ (fun k => blk a58 = some k ∨ X58 k) b797 := fun hx => nl ((lowb hbe801) _ rfl) ((fun k (hk : blk a58 = some k ∨ X58 k) => hk.elim (fun h => hk1038.lt k h) (fun h => hx1039 k h)) _ hx)
                have ap1042 : ¬ (fun k => blk a1023 = some k ∨ X1015 k) b797 := fun h => h.elim (fun h => blk_rev hk1028 (fun h => (ap1043) (.inl h)) (hk1041.lt) h) (fun h => (hx1022 _ h).elim (fun h => (ap1043) (.inr h)) (fun h => (ap997) h))
                have ap1044 : ∀ g, blk a1023 = some g → ¬ (fun k => blk a960 = some k) g := blk_neX hk1028 ap1009 (fun k (hk : blk a960 = some k) => hk984.lt k hk)
                have ap1046 : ∀ g, blk a1023 = some g → ¬ (fun k => blk a964 = some k) g := blk_neX hk1028 ap1010 (fun k (hk : blk a964 = some k) => hk985.lt k hk)
                have ap1048 : ∀ g, blk a1023 = some g → ¬ (fun k => blk (some ⟨b971, 0, none⟩) = some k ∨ X982 k) g := blk_neX hk1028 ap1008 (fun k (hk : blk (some ⟨b971, 0, none⟩) = some k ∨ X982 k) => hk.elim (fun h => ho977.lt k h) (fun h => hx979 k h))
                refine pN 1 [7] [(7, (.slice a1023 (length l1013) c1024))] ?_
                refine gv_nil ?_
                have e := sj h3; subst e
                refine gv_goal fun a hd hs hok => ?_
                have hB1050 := bg hB1030 hg1026 hl61
                have hz1051 := (nt (nt (nt hz954 hg958.size) hg973.size) hg1026.size)
                have hk1052 := hk1035.grown hg1026 ap64
                exact ⟨(l1013, s441.1, (s441.2.1.1, s441.2.1.2)), rfl, a1023, c1024, X1015, hB1050, hz1051, ho1027, hl1029, hx1031, hx1017, ap1034, ap1036, hk1052, hd, hs, okp [0, 1, 5, 7, 8, 9] hok⟩
             ·replace h3 := ite_f hc402 h3
              refine gv_seq <| gv_region <| pN 1 [76] [(76, (.agg #[(.bool false), (.slice none (length ([] : List Int)) 0)]))] ?_
              refine gv_new0 (fun b => .pointer (some ⟨b, 0, none⟩)) #[(.bool false), (.slice none (length ([] : List Int)) 0)] 57 (by kernel_rfl) (by kernel_rfl) ?_
              intro b1053 w1054 hg1055 hb1056 hbe1057 hz1058
              refine gv_sub [0, 1, 5, 7, 8, 9, 10, 11, 12, 22, 76] (σ' := [(0, (.slice pa0_0 (length l_0) pc0_0)), (1, (.slice pa1_0 (length data_1) pc1_0)), (5, (bp b1)), (7, (.slice a58 (length s46.1) c59)), (8, (.int .i64 (IntKind.i64.wrap (s46.2.1 + j117)))), (9, (.int .i64 s46.2.2.1)), (10, (bp b71)), (11, (.int .i64 j117)), (12, (.slice a154 (length x152) c155)), (22, (bp b1053)), (76, (.agg #[(.bool false), (.slice none (length ([] : List Int)) 0)]))]) (by kernel_rfl) ?_
              refine gv_store0 57 0 (.agg #[(.bool false), (.slice none (length ([] : List Int)) 0)]) #[(.bool false), (.slice none (length ([] : List Int)) 0)] hb1056 (by kernel_rfl) (by kernel_rfl) (by kernel_rfl) ?_
              intro w1059 hg1060 hb1061 hz1062
              refine gv_nil <| gv_seq <| gv_seq <| gv_region <| pN 1 [23] [(23, (.int .i64 0))] ?_
              refine gv_nil <| bindE h3 ?_; clear h3; intro j1063 h4 h3
              refine gv_cut_code (J := fun a w1064 => ∃ (abb1053_0j : Option Addr) (cbb1053_0j : Nat), ∃ (Xbb1053_0j : Nat → Prop), Below w0.heap.size w0 w1064 ∧ w1059.heap.size ≤ w1064.heap.size ∧ Rd (iE .i64) w1064 Xbb1053_0j abb1053_0j cbb1053_0j j1063.2 ∧ (∀ k, Xbb1053_0j k → k < w1064.heap.size) ∧ (∀ k, Xbb1053_0j k → X0 k ∨ w0.heap.size ≤ k) ∧ ¬ Xbb1053_0j b1 ∧ ¬ Xbb1053_0j b71 ∧ ¬ Xbb1053_0j b1053 ∧ (∀ g, blk a58 = some g → ¬ Xbb1053_0j g) ∧ Box w1064 b1 26 #[(.int .i64 s46.2.2.2.1), (.int .i64 s46.2.2.2.2)] ∧ Box w1064 b71 49 #[(.int .u8 x68.1), (.int .i64 x68.2.1), (.bool x68.2.2)] ∧ Box w1064 b1053 57 #[(.bool j1063.1), (.slice abb1053_0j (length j1063.2) cbb1053_0j)] ∧ Gv.Own (prE (iE .i64) (prE (prE tE (slE (iE .u32))) (prE (prE tE (slE (iE .u32))) (prE sE (iE .i64))))) 41 w1064 X58 a58 c59 s46.1 ∧ a.defers = [] ∧ a.tmps.size = 265 ∧ Ok [(0, (.slice pa0_0 (length l_0) pc0_0)), (1, (.slice pa1_0 (length data_1) pc1_0)), (5, (bp b1)), (7, (.slice a58 (length s46.1) c59)), (8, (.int .i64 (IntKind.i64.wrap (s46.2.1 + j117)))), (9, (.int .i64 s46.2.2.1)), (10, (bp b71)), (11, (.int .i64 j117)), (22, (bp b1053))] a.tmps) ?_ ?_
              ·skip
               refine gv_block <| gv_loop (A := fun (s1065 : (Int × (Bool × (List Int)))) a w1066 => ∃ (abb1053_0j : Option Addr) (cbb1053_0j : Nat), ∃ (Xbb1053_0j : Nat → Prop), Below w0.heap.size w0 w1066 ∧ w1059.heap.size ≤ w1066.heap.size ∧ Rd (iE .i64) w1066 Xbb1053_0j abb1053_0j cbb1053_0j s1065.2.2 ∧ (∀ k, Xbb1053_0j k → k < w1066.heap.size) ∧ (∀ k, Xbb1053_0j k → X0 k ∨ w0.heap.size ≤ k) ∧ ¬ Xbb1053_0j b1 ∧ ¬ Xbb1053_0j b71 ∧ ¬ Xbb1053_0j b1053 ∧ (∀ g, blk a58 = some g → ¬ Xbb1053_0j g) ∧ Box w1066 b1 26 #[(.int .i64 s46.2.2.2.1), (.int .i64 s46.2.2.2.2)] ∧ Box w1066 b71 49 #[(.int .u8 x68.1), (.int .i64 x68.2.1), (.bool x68.2.2)] ∧ Box w1066 b1053 57 #[(.bool s1065.2.1), (.slice abb1053_0j (length s1065.2.2) cbb1053_0j)] ∧ Gv.Own (prE (iE .i64) (prE (prE tE (slE (iE .u32))) (prE (prE tE (slE (iE .u32))) (prE sE (iE .i64))))) 41 w1066 X58 a58 c59 s46.1 ∧ a.defers = [] ∧ a.tmps.size = 265 ∧ Ok [(0, (.slice pa0_0 (length l_0) pc0_0)), (1, (.slice pa1_0 (length data_1) pc1_0)), (5, (bp b1)), (7, (.slice a58 (length s46.1) c59)), (8, (.int .i64 (IntKind.i64.wrap (s46.2.1 + j117)))), (9, (.int .i64 s46.2.2.1)), (10, (bp b71)), (11, (.int .i64 j117)), (12, (.slice a154 (length x152) c155)), (22, (bp b1053)), (23, (.int .i64 s1065.1))] a.tmps) h4 ?_ ?_
               ·intro a hd hs hok
                have hB1067 := bg hB132 hg1055 nb
                have hlo1068 : w0.heap.size ≤ b1053 := lob hbe1057 hB132.size
                have hB1069 := bg hB1067 hg1060 (rowlo hlo1068)
                have lt1070 := ltl ((ltb hb66) _ rfl) ((lowb hbe75) _ rfl)
                have lt1071 := ltl ((ltb hb135) _ rfl) ((lowb hbe1057) _ rfl)
                have lt1072 := ltt lt1070 lt1071
                have hk1073 := (hb134.grown hg1055 nb).grown hg1060 (rowne (ng lt1072))
                have hk1074 := (hb135.grown hg1055 nb).grown hg1060 (rowne (ng lt1071))
                have hx1075 := ltx (ltx (ltx hx62 hg73.size) hg78.size) hg85.size
                have ap1076 : ¬ (fun k => blk a58 = some k ∨ X58 k) b1053 := fun hx => nl ((lowb hbe1057) _ rfl) ((fun k (hk : blk a58 = some k ∨ X58 k) => hk.elim (fun h => hk136.lt k h) (fun h => (fun k hk => ltl ((fun k hk => ltl (hx1075 k hk) hz112) k hk) hz133) k h)) _ hx)
                have hx1077 := ltx (fun k hk => ltl ((fun k hk => ltl (hx1075 k hk) hz112) k hk) hz133) hg1055.size
                have hk1078 := (hk136.grown hg1055 (fun k hk => ltl ((fun k hk => ltl (hx1075 k hk) hz112) k hk) hz133) nb).grown hg1060 hx1077 (rdnx (rowne ap1076))
                exact ⟨none, 0, (fun _ => False), hB1069, nrf, (Rd.nil (iE .i64) w1059 (fun _ => False) none 0), (fun _ h => h.elim), (fun _ h => h.elim), (fun h => by cases h), (fun h => by cases h), (fun h => by cases h), (fun _ _ h => by cases h), hk1073, hk1074, hb1061, hk1078, hd, hs, okp [0, 1, 5, 7, 8, 9, 10, 11, 12, 22, 23] hok⟩
               ·rintro s1065 r5 h5 hR5 a w1066 ⟨a1081, c1082, X1081, hB1079, hz1080, hr1083, hx1084, hx1085, ap1086, ap1087, ap1088, ap1089, hb1090, hb1091, hb1092, hk1093, hd, hs, hok⟩
                refine gv_in ?_ hd hs hok
                clear hd hs hok
                have hz1094 := (nt hg1055.size hg1060.size)
                clear hz1062 hb1061 hz1058 hb1056 hc402 hc322 hc250 hc215 hc161 hsub156 hx153 hc138 hb134
                refine gv_seq <| gv_seq <| gv_region <| pN 3 [77, 78, 79] [(79, (.bool (decide (s1065.1 < j117))))] ?_
                refine gv_nil <| gv_cond (b := (decide (s1065.1 < j117))) (by kernel_rfl) (fun hc1095 => ?_) (fun hc1095 => ?_)
                ·replace h5 := ite_t hc1095 h5
                 refine gv_skip <| gv_seq <| gv_block <| gv_seq <| gv_region <| pN 5 [82, 83, 84, 85, 86] [(82, (.slice a154 (length x152) c155)), (86, (.int .i64 (IntKind.i64.wrap ((IntKind.i64.wrap (j117 - 1)) - s1065.1))))] ?_
                 refine bindE h5 ?_; clear h5; intro x1096 hx1097 h5
                 refine gv_idxaddr (t := 23) (e := 5) (a := a154) (len := length x152) (cap := c155) (kk := .i64) (i := (IntKind.i64.wrap ((IntKind.i64.wrap (j117 - 1)) - s1065.1))) (sz := 1) [] (fun e => by cases e) rfl rfl rfl (by kernel_rfl) (by kernel_rfl) Tryz.underlying23 (by kernel_rfl) ((hp157.below hB1079 hX0).has hx1097) (idx_spec hx1097).1 (idx_spec hx1097).2.1 rfl ?_
                 refine gv_load (t := 5) (A := (elemAddr a154 (((IntKind.i64.wrap ((IntKind.i64.wrap (j117 - 1)) - s1065.1)) : Int).toNat * 1))) (.int .u8 ((x1096).toNat : Int)) [] (fun e => by cases e) rfl rfl rfl (by kernel_rfl) (by kernel_rfl) (by kernel_rfl) (inw0 ((hp157.below hB1079 hX0).cell hx1097)) rfl ?_
                 refine pN 1 [24] [(24, (.int .u8 ((x1096).toNat : Int)))] ?_
                 refine gv_nil <| gv_seq <| gv_seq <| gv_region <| pN 1 [89] [(89, (.pointer (some ⟨b71, 2, none⟩)))] ?_
                 refine gv_load (t := 4) (A := ⟨b71, 2, none⟩) (.bool x68.2.2) [] (fun e => by cases e) rfl rfl rfl (by kernel_rfl) (by kernel_rfl) (by kernel_rfl) (inw0 (hb1091.cell 2 rfl)) rfl ?_
                 refine gv_nil <| bindE h5 ?_; clear h5; intro j1098 h6 h5
                 refine gv_cut_code (J := fun a w1099 => Below w0.heap.size w0 w1099 ∧ w1066.heap.size ≤ w1099.heap.size ∧ Box w1099 b1 26 #[(.int .i64 s46.2.2.2.1), (.int .i64 s46.2.2.2.2)] ∧ Box w1099 b71 49 #[(.int .u8 x68.1), (.int .i64 x68.2.1), (.bool x68.2.2)] ∧ Box w1099 b1053 57 #[(.bool s1065.2.1), (.slice a1081 (length s1065.2.2) c1082)] ∧ Gv.Own (prE (iE .i64) (prE (prE tE (slE (iE .u32))) (prE (prE tE (slE (iE .u32))) (prE sE (iE .i64))))) 41 w1099 X58 a58 c59 s46.1 ∧ Rd (iE .i64) w1099 X1081 a1081 c1082 s1065.2.2 ∧ a.defers = [] ∧ a.tmps.size = 265 ∧ Ok [(0, (.slice pa0_0 (length l_0) pc0_0)), (1, (.slice pa1_0 (length data_1) pc1_0)), (5, (bp b1)), (7, (.slice a58 (length s46.1) c59)), (8, (.int .i64 (IntKind.i64.wrap (s46.2.1 + j117)))), (9, (.int .i64 s46.2.2.1)), (10, (bp b71)), (11, (.int .i64 j117)), (12, (.slice a154 (length x152) c155)), (22, (bp b1053)), (23, (.int .i64 s1065.1)), (24, (.int .u8 j1098))] a.tmps) ?_ ?_
                 ·skip
                  refine gv_cond (b := x68.2.2) (by kernel_rfl) (fun hc1100 => ?_) (fun hc1100 => ?_)
                  ·replace h6 := ite_t hc1100 h6
                   refine gv_region <| pN 2 [91, 92] [(91, (.slice a154 (length x152) c155)), (92, (.int .i64 s1065.1))] ?_
                   refine bindE h6 ?_; clear h6; intro x1101 hx1102 h6
                   refine gv_idxaddr (t := 23) (e := 5) (a := a154) (len := length x152) (cap := c155) (kk := .i64) (i := s1065.1) (sz := 1) [] (fun e => by cases e) rfl rfl rfl (by kernel_rfl) (by kernel_rfl) Tryz.underlying23 (by kernel_rfl) ((hp157.below hB1079 hX0).has hx1102) (idx_spec hx1102).1 (idx_spec hx1102).2.1 rfl ?_
                   refine gv_load (t := 5) (A := (elemAddr a154 ((s1065.1 : Int).toNat * 1))) (.int .u8 ((x1101).toNat : Int)) [] (fun e => by cases e) rfl rfl rfl (by kernel_rfl) (by kernel_rfl) (by kernel_rfl) (inw0 ((hp157.below hB1079 hX0).cell hx1102)) rfl ?_
                   refine pN 1 [24] [(24, (.int .u8 ((x1101).toNat : Int)))] ?_
                   refine gv_nil ?_
                   have e := sj h6; subst e
                   refine gv_goal fun a hd hs hok => ?_
                   exact ⟨hB1079, nrf, hb1090, hb1091, hb1092, hk1093, hr1083, hd, hs, okp [0, 1, 5, 7, 8, 9, 10, 11, 12, 22, 23, 24] hok⟩
                  ·replace h6 := ite_f hc1100 h6
                   refine gv_skip ?_
                   have e := sj h6; subst e
                   refine gv_goal fun a hd hs hok => ?_
                   exact ⟨hB1079, nrf, hb1090, hb1091, hb1092, hk1093, hr1083, hd, hs, okp [0, 1, 5, 7, 8, 9, 10, 11, 12, 22, 23, 24] hok⟩
                 ·rintro a w1099 ⟨hB1103, hz1104, hb1105, hb1106, hb1107, hk1108, hk1109, hd, hs, hok⟩
                  refine gv_in ?_ hd hs hok
                  clear hd hs hok
                  have hz1110 := (nt hz1080 hz1104)
                  clear hx1097 hc1095 hk1093 hb1092 hb1091 hb1090 hr1083 hB1079
                  refine gv_drawA (by kernel_rfl) ?_
                  intro w1111 hg1112
                  refine gv_pre [3] (bA 8 [3]) 7 (by kernel_rfl) (by kernel_rfl) ?_
                  refine pN 1 [98] [(98, (.int .u8 j1098))] ?_
                  refine gv_nil <| gv_goA ?_
                  refine gv_stage (Cls w1111 []) [0, 1, 2, 3, 4] [(0, some true), (4, some true), (1, some false), (2, some false)] (bA 8 [0, 1, 2, 3, 4]) 3 (by kernel_rfl) (by kernel_rfl) (Cls.refl _ _) ?_
                  have hC1113 := Cls.refl w1111 []
                  have hk1114 := hb1107.grown hg1112 nb
                  refine gv_loadBox (t := 57) (b := b1053) (t' := 57) (fr := (0, 0)) #[(.bool s1065.2.1), (.slice a1081 (length s1065.2.2) c1082)] [] (fun e => by cases e) rfl rfl rfl (by kernel_rfl) (by kernel_rfl) (by kernel_rfl) (by kernel_rfl) (inw1 fun w' hC' => (hC'.box hk1114 nm_nil)) rfl ?_
                  refine pN 1 [99] [(99, (.int .i64 (IntKind.i64.wrap (j1098))))] ?_
                  refine bindE h5 ?_; clear h5; intro r1115 hr1116 h5
                  refine gv_call (f := 20) (vs := [(.int .i64 256)]) (cap := []) _ (by decide) rfl rfl rfl (by kernel_rfl) (by kernel_rfl) enters20 (ref3_Number_ok fuel 256 w1111  r1115 hr1116) ?_
                  rintro v1119 w1117 ⟨hg1118, a1120, c1121, X1123, rfl, ho1122, hx1124⟩
                  refine ⟨(fun _ => hC1113.grown hg1118 nb), ?_⟩
                  have hx1125 : ∀ k, X1123 k → k < w1117.heap.size := fun k hk => (hx1124 k hk).1
                  have hB1127 := bg hB1103 hg1112 nb
                  have hx1126 : ∀ k, X1123 k → X0 k ∨ w0.heap.size ≤ k := fun k hk => (hx1124 k hk).2.elim (fun h => h.elim) (fun h => .inr (Nat.le_trans hB1127.size h))
                  have hz1128 := (nt hz1110 hg1112.size)
                  clear hr1116 hz1110 hb1107 hB1103
                  refine bindE h5 ?_; clear h5; intro r1129 hr1130 h5
                  have hg1131 := (grown_trans hg1112 hg1118)
                  have hx1132 := ltx (fun k hk => ltl (hx1084 k hk) hz1104) hg1131.size
                  have hk1133 := hk1109.grown hg1131 (fun k hk => ltl (hx1084 k hk) hz1104) nb
                  refine gv_call (f := 22) (vs := [(.agg #[(.bool s1065.2.1), (.slice a1081 (length s1065.2.2) c1082)]), (.agg #[(.bool r1115.1), (.slice a1120 (length r1115.2) c1121)])]) (cap := []) _ (by decide) rfl rfl rfl (by kernel_rfl) (by kernel_rfl) enters22 (ref3_Int_Times_ok fuel a1081 c1082 (s1065.2.1, s1065.2.2) a1120 c1121 (r1115.1, r1115.2) w1117 (fun k => X1081 k ∨ X1123 k) (fun k hk => (hk).elim (fun h => hx1132 k h) (fun h => hx1125 k h)) (hk1133.wide (fun k hk => (.inl hk))) (ho1122.wide (fun k hk => (.inr hk))) r1129 hr1130) ?_
                  rintro v1136 w1134 ⟨hg1135, a1137, c1138, X1140, rfl, ho1139, hx1141⟩
                  have hC1142 := hC1113.grown hg1118 nb
                  refine ⟨(fun _ => hC1142.grown hg1135 nb), ?_⟩
                  have hx1143 : ∀ k, X1140 k → k < w1134.heap.size := fun k hk => (hx1141 k hk).1
                  have hB1145 := bg hB1127 hg1118 nb
                  have hx1144 : ∀ k, X1140 k → X0 k ∨ w0.heap.size ≤ k := fun k hk => (hx1141 k hk).2.elim (fun h => (h).elim (fun h => hx1085 k h) (fun h => hx1126 k h)) (fun h => .inr (Nat.le_trans hB1145.size h))
                  refine gv_nil <| gv_goA ?_
                  refine gv_stage (fun _ => True) [0, 1, 2, 3, 4, 5] [(5, some false)] (bA 8 [0, 1, 2, 3, 4, 5]) 2 (by kernel_rfl) (by kernel_rfl) trivial ?_
                  refine bindE h5 ?_; clear h5; intro r1146 hr1147 h5
                  refine gv_call (f := 20) (vs := [(.int .i64 (IntKind.i64.wrap (j1098)))]) (cap := []) _ (by decide) rfl rfl rfl (by kernel_rfl) (by kernel_rfl) enters20 (ref3_Number_ok fuel (IntKind.i64.wrap (j1098)) w1134  r1146 hr1147) ?_
                  rintro v1150 w1148 ⟨hg1149, a1151, c1152, X1154, rfl, ho1153, hx1155⟩
                  refine ⟨(fun _ => trivial), ?_⟩
                  have hx1156 : ∀ k, X1154 k → k < w1148.heap.size := fun k hk => (hx1155 k hk).1
                  have hB1158 := bg hB1145 hg1135 nb
                  have hx1157 : ∀ k, X1154 k → X0 k ∨ w0.heap.size ≤ k := fun k hk => (hx1155 k hk).2.elim (fun h => h.elim) (fun h => .inr (Nat.le_trans hB1158.size h))
                  refine gv_nil <| gv_goA ?_
                  refine gv_stage (fun _ => True) [0, 1, 2, 3, 4, 5, 6] [(6, some false)] (bA 8 [0, 1, 2, 3, 4, 5, 6]) 1 (by kernel_rfl) (by kernel_rfl) trivial ?_
                  refine bindE h5 ?_; clear h5; intro r1159 hr1160 h5
                  have hx1161 := ltx hx1143 hg1149.size
                  have hk1162 := ho1139.grown hg1149 hx1143 nb
                  refine gv_call (f := 21) (vs := [(.agg #[(.bool r1129.1), (.slice a1137 (length r1129.2) c1138)]), (.agg #[(.bool r1146.1), (.slice a1151 (length r1146.2) c1152)])]) (cap := []) _ (by decide) rfl rfl rfl (by kernel_rfl) (by kernel_rfl) enters21 (ref3_Int_Plus_ok fuel a1137 c1138 (r1129.1, r1129.2) a1151 c1152 (r1146.1, r1146.2) w1148 (fun k => X1140 k ∨ X1154 k) (fun k hk => (hk).elim (fun h => hx1161 k h) (fun h => hx1156 k h)) (hk1162.wide (fun k hk => (.inl hk))) (ho1153.wide (fun k hk => (.inr hk))) r1159 hr1160) ?_
                  rintro v1165 w1163 ⟨hg1164, a1166, c1167, X1169, rfl, ho1168, hx1170⟩
                  refine ⟨(fun _ => trivial), ?_⟩
                  have hx1171 : ∀ k, X1169 k → k < w1163.heap.size := fun k hk => (hx1170 k hk).1
                  have hB1173 := bg hB1158 hg1149 nb
                  have hx1172 : ∀ k, X1169 k → X0 k ∨ w0.heap.size ≤ k := fun k hk => (hx1170 k hk).2.elim (fun h => (h).elim (fun h => hx1144 k h) (fun h => hx1157 k h)) (fun h => .inr (Nat.le_trans hB1173.size h))
                  refine gv_nil <| gv_goA ?_
                  refine gv_stage (fun _ => True) [0, 1, 2, 3, 4, 5, 6, 7] [(7, some false)] (bA 8 [0, 1, 2, 3, 4, 5, 6, 7]) 0 (by kernel_rfl) (by kernel_rfl) trivial ?_
                  have hg1178 := (grown_trans (grown_trans (grown_trans hg1118 hg1135) hg1149) hg1164)
                  have hk1179 := hk1114.grown hg1178 nb
                  refine gv_store (t := 57) (b := b1053) (off := 0) (v := (.agg #[(.bool r1159.1), (.slice a1166 (length r1159.2) c1167)])) (t' := 57) (cs := #[(.bool s1065.2.1), (.slice a1081 (length s1065.2.2) c1082)]) #[(.bool r1159.1), (.slice a1166 (length r1159.2) c1167)] (by decide) rfl rfl (by kernel_rfl) (by kernel_rfl) (by kernel_rfl) (by intro u hu; simp [Value.cells] at hu; rcases hu with rfl | rfl <;> rfl) (show 0 + 2 ≤ 2 by decide) (by rfl) hk1179 ?_
                  intro w1174 hg1175 hb1176 hz1177
                  refine ⟨(fun _ => trivial), ?_⟩
                  refine gv_nil <| gv_goA ?_
                  refine gv_stageE (by kernel_rfl) ?_
                  refine gv_blk <| gv_region <| pN 3 [23, 80, 81] [(23, (.int .i64 (IntKind.i64.wrap (s1065.1 + 1))))] ?_
                  refine gv_nil ?_
                  have e := sj h5; subst e
                  refine gv_goal fun a hd hs hok => ?_
                  have hB1180 := bg hB1173 hg1164 nb
                  have hlo1181 : w0.heap.size ≤ b1053 := lob hbe1057 hB132.size
                  have hB1182 := bg hB1180 hg1175 (rowlo hlo1181)
                  have hz1183 := (nt (nt (nt (nt (nt hz1128 hg1118.size) hg1135.size) hg1149.size) hg1164.size) hg1175.size)
                  have ap1184 : ¬ X1123 b1053 := fun h => ((hx1124 _ h).2.elim (fun h => h.elim) (fun h => nl h (hk1114.lt)))
                  have hk1185 := hk1114.grown hg1118 nb
                  have ap1186 : ¬ X1140 b1053 := fun h => ((hx1141 _ h).2.elim (fun h => (h).elim (fun h => (ap1088)  h) (fun h => (ap1184)  h)) (fun h => nl h (hk1185.lt)))
                  have hk1187 := hk1185.grown hg1135 nb
                  have ap1188 : ¬ X1154 b1053 := fun h => ((hx1155 _ h).2.elim (fun h => h.elim) (fun h => nl h (hk1187.lt)))
                  have hk1189 := hk1187.grown hg1149 nb
                  have ap1190 : ¬ X1169 b1053 := fun h => ((hx1170 _ h).2.elim (fun h => (h).elim (fun h => (ap1186)  h) (fun h => (ap1188)  h)) (fun h => nl h (hk1189.lt)))
                  have hk1191 := ho1168.grown hg1175 hx1171 (rowne ap1190)
                  have hx1192 := ltx hx1171 hg1175.size
                  have hk1193 := hb1105.grown hg1112 nb
                  have ap1194 : ¬ X1123 b1 := fun h => ((hx1124 _ h).2.elim (fun h => h.elim) (fun h => nl h (hk1193.lt)))
                  have hk1195 := hk1193.grown hg1118 nb
                  have ap1196 : ¬ X1140 b1 := fun h => ((hx1141 _ h).2.elim (fun h => (h).elim (fun h => (ap1086)  h) (fun h => (ap1194)  h)) (fun h => nl h (hk1195.lt)))
                  have hk1197 := hk1195.grown hg1135 nb
                  have ap1198 : ¬ X1154 b1 := fun h => ((hx1155 _ h).2.elim (fun h => h.elim) (fun h => nl h (hk1197.lt)))
                  have hk1199 := hk1197.grown hg1149 nb
                  have ap1200 : ¬ X1169 b1 := fun h => ((hx1170 _ h).2.elim (fun h => (h).elim (fun h => (ap1196)  h) (fun h => (ap1198)  h)) (fun h => nl h (hk1199.lt)))
                  have hk1201 := hb1106.grown hg1112 nb
                  have ap1202 : ¬ X1123 b71 := fun h => ((hx1124 _ h).2.elim (fun h => h.elim) (fun h => nl h (hk1201.lt)))
                  have hk1203 := hk1201.grown hg1118 nb
                  have ap1204 : ¬ X1140 b71 := fun h => ((hx1141 _ h).2.elim (fun h => (h).elim (fun h => (ap1087)  h) (fun h => (ap1202)  h)) (fun h => nl h (hk1203.lt)))
                  have hk1205 := hk1203.grown hg1135 nb
                  have ap1206 : ¬ X1154 b71 := fun h => ((hx1155 _ h).2.elim (fun h => h.elim) (fun h => nl h (hk1205.lt)))
                  have hk1207 := hk1205.grown hg1149 nb
                  have ap1208 : ¬ X1169 b71 := fun h => ((hx1170 _ h).2.elim (fun h => (h).elim (fun h => (ap1204)  h) (fun h => (ap1206)  h)) (fun h => nl h (hk1207.lt)))
                  have hx1209 := ltx (ltx (ltx hx62 hg73.size) hg78.size) hg85.size
                  have hx1210 := ltx (ltx (fun k hk => ltl ((fun k hk => ltl (hx1209 k hk) hz112) k hk) hz133) hg1055.size) hg1060.size
                  have hk1211 := hk1108.grown hg1112 (fun k hk => ltl ((fun k hk => ltl (hx1210 k hk) hz1080) k hk) hz1104) nb
                  have ap1212 : ∀ g, blk a58 = some g → ¬ X1123 g := fun g e h => ((hx1124 _ h).2.elim (fun h => h.elim) (fun h => nl h (hk1211.lt g e)))
                  have hx1213 := ltx (fun k hk => ltl ((fun k hk => ltl (hx1210 k hk) hz1080) k hk) hz1104) hg1112.size
                  have hk1214 := hk1211.grown hg1118 hx1213 nb
                  have ap1215 : ∀ g, blk a58 = some g → ¬ X1140 g := fun g e h => ((hx1141 _ h).2.elim (fun h => (h).elim (fun h => (ap1089) g e h) (fun h => (ap1212) g e h)) (fun h => nl h (hk1214.lt g e)))
                  have hx1216 := ltx hx1213 hg1118.size
                  have hk1217 := hk1214.grown hg1135 hx1216 nb
                  have ap1218 : ∀ g, blk a58 = some g → ¬ X1154 g := fun g e h => ((hx1155 _ h).2.elim (fun h => h.elim) (fun h => nl h (hk1217.lt g e)))
                  have hx1219 := ltx hx1216 hg1135.size
                  have hk1220 := hk1217.grown hg1149 hx1219 nb
                  have ap1221 : ∀ g, blk a58 = some g → ¬ X1169 g := fun g e h => ((hx1170 _ h).2.elim (fun h => (h).elim (fun h => (ap1215) g e h) (fun h => (ap1218) g e h)) (fun h => nl h (hk1220.lt g e)))
                  have lt1222 := ltl ((ltb hb66) _ rfl) ((lowb hbe75) _ rfl)
                  have lt1223 := ltl ((ltb hb135) _ rfl) ((lowb hbe1057) _ rfl)
                  have lt1224 := ltt lt1222 lt1223
                  have hk1225 := (hk1199.grown hg1164 nb).grown hg1175 (rowne (ng lt1224))
                  have hk1226 := (hk1207.grown hg1164 nb).grown hg1175 (rowne (ng lt1223))
                  have hx1227 := ltx hx1219 hg1149.size
                  have ap1228 : ¬ (fun k => blk a58 = some k ∨ X58 k) b1053 := fun hx => nl ((lowb hbe1057) _ rfl) ((fun k (hk : blk a58 = some k ∨ X58 k) => hk.elim (fun h => hk136.lt k h) (fun h => (fun k hk => ltl ((fun k hk => ltl (hx1209 k hk) hz112) k hk) hz133) k h)) _ hx)
                  have hx1229 := ltx hx1227 hg1164.size
                  have hk1230 := (hk1220.grown hg1164 hx1227 nb).grown hg1175 hx1229 (rdnx (rowne ap1228))
                  exact ⟨((IntKind.i64.wrap (s1065.1 + 1)), (r1159.1, r1159.2)), rfl, a1166, c1167, X1169, hB1182, hz1183, hk1191, hx1192, hx1172, ap1200, ap1208, ap1190, ap1221, hk1225, hk1226, hb1176, hk1230, hd, hs, okp [0, 1, 5, 7, 8, 9, 10, 11, 12, 22, 23] hok⟩
                ·replace h5 := ite_f hc1095 h5
                 refine gv_cexit <| gv_exit rfl ?_
                 have e := sj h5; subst e
                 replace h4 := congrArg some (hR5 _ rfl)
                 have e := sj h4; subst e
                 refine gv_goal fun a hd hs hok => ?_
                 have hz1231 := hz1080
                 exact ⟨a1081, c1082, X1081, hB1079, hz1231, hr1083, hx1084, hx1085, ap1086, ap1087, ap1088, ap1089, hb1090, hb1091, hb1092, hk1093, hd, hs, okp [0, 1, 5, 7, 8, 9, 10, 11, 22] hok⟩
              ·rintro a w1064 ⟨a1234, c1235, X1234, hB1232, hz1233, hr1236, hx1237, hx1238, ap1239, ap1240, ap1241, ap1242, hb1243, hb1244, hb1245, hk1246, hd, hs, hok⟩
               refine gv_in ?_ hd hs hok
               clear hd hs hok
               have hz1247 := (nt (nt hg1055.size hg1060.size) hz1233)
               clear hz1062 hb1061 hz1058 hb1056 hc402 hc322 hc250 hc215 hc161 hsub156 hx153 hc138 hb134
               refine gv_seq <| gv_seq <| gv_region <| pN 1 [103] [(103, (bp b71))] ?_
               refine gv_load (t := 5) (A := ⟨b71, 0, none⟩) (.int .u8 x68.1) [] (fun e => by cases e) rfl rfl rfl (by kernel_rfl) (by kernel_rfl) (by kernel_rfl) (inw0 (hb1244.cell 0 rfl)) rfl ?_
               refine bindE h3 ?_; clear h3; intro r1248 hr1249 h3
               refine gv_call0 (by kernel_rfl) rfl (by kernel_rfl) enters26 (ref4_bounds_ok fuel x68.1 w1064  r1248 hr1249) ?_
               rintro v1252 w1250 ⟨hg1251, a1253, c1254, X1256, a1258, c1259, X1261, rfl, ho1255, hx1257, ho1260, hx1262⟩
               have hx1263 : ∀ k, X1256 k → k < w1250.heap.size := fun k hk => (hx1257 k hk).1
               have hx1264 : ∀ k, X1256 k → X0 k ∨ w0.heap.size ≤ k := fun k hk => (hx1257 k hk).2.elim (fun h => h.elim) (fun h => .inr (Nat.le_trans hB1232.size h))
               have hx1265 : ∀ k, X1261 k → k < w1250.heap.size := fun k hk => (hx1262 k hk).1
               have hx1266 : ∀ k, X1261 k → X0 k ∨ w0.heap.size ≤ k := fun k hk => (hx1262 k hk).2.elim (fun h => h.elim) (fun h => .inr (Nat.le_trans hB1232.size h))
               refine pN 3 [102, 106, 107] [(106, (.agg #[(.bool r1248.1.1), (.slice a1253 (length r1248.1.2) c1254)])), (107, (.agg #[(.bool r1248.2.1), (.slice a1258 (length r1248.2.2) c1259)]))] ?_
               refine gv_new0 (fun b => .pointer (some ⟨b, 0, none⟩)) #[(.bool false), (.slice none (length ([] : List Int)) 0)] 57 (by kernel_rfl) (by kernel_rfl) ?_
               intro b1267 w1268 hg1269 hb1270 hbe1271 hz1272
               refine gv_new0 (fun b => .pointer (some ⟨b, 0, none⟩)) #[(.bool false), (.slice none (length ([] : List Int)) 0)] 57 (by kernel_rfl) (by kernel_rfl) ?_
               intro b1273 w1274 hg1275 hb1276 hbe1277 hz1278
               have hk1283 := hb1270.grown hg1275 nb
               refine gv_store0 57 0 (.agg #[(.bool r1248.1.1), (.slice a1253 (length r1248.1.2) c1254)]) #[(.bool r1248.1.1), (.slice a1253 (length r1248.1.2) c1254)] hk1283 (by kernel_rfl) (by kernel_rfl) (by kernel_rfl) ?_
               intro w1279 hg1280 hb1281 hz1282
               have hz1284 := (nt (nt (nt (nt hz1247 hg1251.size) hg1269.size) hg1275.size) hg1280.size)
               clear hz1282 hb1281 hk1283 hz1278 hz1272 hx1264 hx1263 hx1257 ho1255 hr1249 hz1247 hb1244 ap1240 ho60 hB56
               have lt1289 := ltl ((ltb hb1270) _ rfl) ((lowb hbe1277) _ rfl)
               have hk1290 := hb1276.grown hg1280 (rowne (Nat.ne_of_lt lt1289))
               refine gv_store0 57 0 (.agg #[(.bool r1248.2.1), (.slice a1258 (length r1248.2.2) c1259)]) #[(.bool r1248.2.1), (.slice a1258 (length r1248.2.2) c1259)] hk1290 (by kernel_rfl) (by kernel_rfl) (by kernel_rfl) ?_
               intro w1285 hg1286 hb1287 hz1288
               refine gv_nil <| gv_seq <| gv_region ?_
               have hg1291 := (grown_trans (grown_trans hg1251 hg1269) hg1275)
               have hk1292 := hb1245.grown hg1251 nb
               have lt1293 := ltl ((ltb hk1292) _ rfl) ((lowb hbe1271) _ rfl)
               have lt1294 := ltt lt1293 lt1289
               have hk1295 := ((hb1245.grown hg1291 nb).grown hg1280 (rowne (ng lt1293))).grown hg1286 (rowne (ng lt1294))
               refine gv_loadBox (t := 57) (b := b1053) (t' := 57) (fr := (0, 0)) #[(.bool j1063.1), (.slice a1234 (length j1063.2) c1235)] [] (fun e => by cases e) rfl rfl rfl (by kernel_rfl) (by kernel_rfl) (by kernel_rfl) (by kernel_rfl) (inw0 hk1295) rfl ?_
               refine gv_loadBox (t := 57) (b := b1273) (t' := 57) (fr := (0, 0)) #[(.bool r1248.2.1), (.slice a1258 (length r1248.2.2) c1259)] [] (fun e => by cases e) rfl rfl rfl (by kernel_rfl) (by kernel_rfl) (by kernel_rfl) (by kernel_rfl) (inw0 hb1287) rfl ?_
               refine bindE h3 ?_; clear h3; intro r1296 hr1297 h3
               have hx1298 := ltx (ltx (ltx hx1237 hg1291.size) hg1280.size) hg1286.size
               have hg1299 := (grown_trans hg1269 hg1275)
               have hx1300 := ltx (ltx (ltx hx1265 hg1299.size) hg1280.size) hg1286.size
               have hx1301 := ltx hx1237 hg1251.size
               have ap1302 : ¬ X1234 b1267 := fun hx => nl ((lowb hbe1271) _ rfl) (hx1301 _ hx)
               have hx1303 := ltx hx1301 hg1299.size
               have hx1304 := ltx hx1301 hg1269.size
               have ap1305 : ¬ X1234 b1273 := fun hx => nl ((lowb hbe1277) _ rfl) (hx1304 _ hx)
               have hx1306 := ltx hx1303 hg1280.size
               have hk1307 := ((hr1236.grown hg1291 hx1237 nb).grown hg1280 hx1303 (rowne ap1302)).grown hg1286 hx1306 (rowne ap1305)
               have ap1308 : ¬ X1261 b1267 := fun hx => nl ((lowb hbe1271) _ rfl) (hx1265 _ hx)
               have hx1309 := ltx hx1265 hg1299.size
               have hx1310 := ltx hx1265 hg1269.size
               have ap1311 : ¬ X1261 b1273 := fun hx => nl ((lowb hbe1277) _ rfl) (hx1310 _ hx)
               have hx1312 := ltx hx1309 hg1280.size
               have hk1313 := ((ho1260.grown hg1299 hx1265 nb).grown hg1280 hx1309 (rowne ap1308)).grown hg1286 hx1312 (rowne ap1311)
               refine gv_call0 (by kernel_rfl) rfl (by kernel_rfl) enters27 (ref3_Int_Order_ok fuel a1234 c1235 (j1063.1, j1063.2) a1258 c1259 (r1248.2.1, r1248.2.2) w1285 (fun k => X1234 k ∨ X1261 k) (fun k hk => (hk).elim (fun h => hx1298 k h) (fun h => hx1300 k h)) (hk1307.wide (fun k hk => (.inl hk))) (hk1313.wide (fun k hk => (.inr hk))) r1296 hr1297) ?_
               rintro v1316 w1314 ⟨hg1315, rfl⟩
               refine pN 1 [111] [(111, (.bool (decide (r1296 > 0))))] ?_
               refine gv_nil <| bindE h3 ?_; clear h3; intro j1317 h4 h3
               refine gv_cut_code (J := fun a w1318 => ∃ (abb1053_0j : Option Addr) (cbb1053_0j : Nat), ∃ (Xbb1053_0j : Nat → Prop), Below w0.heap.size w0 w1318 ∧ w1314.heap.size ≤ w1318.heap.size ∧ Rd (iE .i64) w1318 Xbb1053_0j abb1053_0j cbb1053_0j j1317.2 ∧ (∀ k, Xbb1053_0j k → k < w1318.heap.size) ∧ (∀ k, Xbb1053_0j k → X0 k ∨ w0.heap.size ≤ k) ∧ ¬ Xbb1053_0j b1 ∧ ¬ Xbb1053_0j b1053 ∧ (∀ g, blk a58 = some g → ¬ Xbb1053_0j g) ∧ Box w1318 b1 26 #[(.int .i64 s46.2.2.2.1), (.int .i64 s46.2.2.2.2)] ∧ Box w1318 b1053 57 #[(.bool j1317.1), (.slice abb1053_0j (length j1317.2) cbb1053_0j)] ∧ Gv.Own (prE (iE .i64) (prE (prE tE (slE (iE .u32))) (prE (prE tE (slE (iE .u32))) (prE sE (iE .i64))))) 41 w1318 X58 a58 c59 s46.1 ∧ a.defers = [] ∧ a.tmps.size = 265 ∧ Ok [(0, (.slice pa0_0 (length l_0) pc0_0)), (1, (.slice pa1_0 (length data_1) pc1_0)), (5, (bp b1)), (7, (.slice a58 (length s46.1) c59)), (8, (.int .i64 (IntKind.i64.wrap (s46.2.1 + j117)))), (9, (.int .i64 s46.2.2.1)), (22, (bp b1053))] a.tmps) ?_ ?_
               ·skip
                refine gv_cond (b := (decide (r1296 > 0))) (by kernel_rfl) (fun hc1319 => ?_) (fun hc1319 => ?_)
                ·replace h4 := ite_t hc1319 h4
                 refine gv_drawA (by kernel_rfl) ?_
                 intro w1320 hg1321
                 refine gv_pre [2, 3] (bA 8 [2, 3]) 6 (by kernel_rfl) (by kernel_rfl) ?_
                 refine pN 2 [114, 115] [(115, (.int .i64 (IntKind.i64.wrap (8 * j117))))] ?_
                 refine gv_nil <| gv_goA ?_
                 refine gv_stage (Cls w1320 []) [0, 1, 2, 3, 4, 5] [(0, some true), (1, some false), (4, some false), (5, some false)] (bA 8 [0, 1, 2, 3, 4, 5]) 2 (by kernel_rfl) (by kernel_rfl) (Cls.refl _ _) ?_
                 have hC1322 := Cls.refl w1320 []
                 have hg1323 := (grown_trans hg1315 hg1321)
                 have hk1324 := hk1295.grown hg1323 nb
                 refine gv_loadBox (t := 57) (b := b1053) (t' := 57) (fr := (0, 0)) #[(.bool j1063.1), (.slice a1234 (length j1063.2) c1235)] [] (fun e => by cases e) rfl rfl rfl (by kernel_rfl) (by kernel_rfl) (by kernel_rfl) (by kernel_rfl) (inw1 fun w' hC' => (hC'.box hk1324 nm_nil)) rfl ?_
                 refine gv_sub [0, 1, 5, 7, 8, 9, 22, 112, 115] (σ' := [(0, (.slice pa0_0 (length l_0) pc0_0)), (1, (.slice pa1_0 (length data_1) pc1_0)), (5, (bp b1)), (7, (.slice a58 (length s46.1) c59)), (8, (.int .i64 (IntKind.i64.wrap (s46.2.1 + j117)))), (9, (.int .i64 s46.2.2.1)), (22, (bp b1053)), (112, (.agg #[(.bool j1063.1), (.slice a1234 (length j1063.2) c1235)])), (115, (.int .i64 (IntKind.i64.wrap (8 * j117))))]) (by kernel_rfl) ?_
                 refine bindE h4 ?_; clear h4; intro r1325 hr1326 h4
                 refine gv_call (f := 20) (vs := [(.int .i64 1)]) (cap := []) _ (by decide) rfl rfl rfl (by kernel_rfl) (by kernel_rfl) enters20 (ref3_Number_ok fuel 1 w1320  r1325 hr1326) ?_
                 rintro v1329 w1327 ⟨hg1328, a1330, c1331, X1333, rfl, ho1332, hx1334⟩
                 refine ⟨(fun _ => hC1322.grown hg1328 nb), ?_⟩
                 have hx1335 : ∀ k, X1333 k → k < w1327.heap.size := fun k hk => (hx1334 k hk).1
                 have hB1337 := bg hB1232 hg1291 nb
                 have hB1338 := bg hB1232 hg1251 nb
                 have hlo1339 : w0.heap.size ≤ b1267 := lob hbe1271 hB1338.size
                 have hB1340 := bg hB1337 hg1280 (rowlo hlo1339)
                 have hB1341 := bg hB1338 hg1269 nb
                 have hlo1342 : w0.heap.size ≤ b1273 := lob hbe1277 hB1341.size
                 have hB1343 := bg hB1340 hg1286 (rowlo hlo1342)
                 have hB1344 := bg hB1343 hg1323 nb
                 have hx1336 : ∀ k, X1333 k → X0 k ∨ w0.heap.size ≤ k := fun k hk => (hx1334 k hk).2.elim (fun h => h.elim) (fun h => .inr (Nat.le_trans hB1344.size h))
                 refine bindE h4 ?_; clear h4; intro r1345 hr1346 h4
                 refine gv_call (f := 28) (vs := [(.agg #[(.bool r1325.1), (.slice a1330 (length r1325.2) c1331)]), (.int .i64 (IntKind.i64.wrap (8 * j117)))]) (cap := []) _ (by decide) rfl rfl rfl (by kernel_rfl) (by kernel_rfl) enters28 (ref3_Int_Moved_ok fuel a1330 c1331 (r1325.1, r1325.2) (IntKind.i64.wrap (8 * j117)) w1327 (fun k => X1333 k) (fun k hk => hx1335 k hk) (ho1332.wide (fun k hk => hk)) r1345 hr1346) ?_
                 rintro v1349 w1347 ⟨hg1348, a1350, c1351, X1353, rfl, ho1352, hx1354⟩
                 have hC1355 := hC1322.grown hg1328 nb
                 refine ⟨(fun _ => hC1355.grown hg1348 nb), ?_⟩
                 have hx1356 : ∀ k, X1353 k → k < w1347.heap.size := fun k hk => (hx1354 k hk).1
                 have hB1358 := bg hB1344 hg1328 nb
                 have hx1357 : ∀ k, X1353 k → X0 k ∨ w0.heap.size ≤ k := fun k hk => (hx1354 k hk).2.elim (fun h => hx1336 k h) (fun h => .inr (Nat.le_trans hB1358.size h))
                 refine bindE h4 ?_; clear h4; intro r1359 hr1360 h4
                 refine gv_call (f := 24) (vs := [(.agg #[(.bool r1345.1), (.slice a1350 (length r1345.2) c1351)])]) (cap := []) _ (by decide) rfl rfl rfl (by kernel_rfl) (by kernel_rfl) enters24 (ref3_Int_Minus_ok fuel a1350 c1351 (r1345.1, r1345.2) w1347 (fun k => X1353 k) (fun k hk => hx1356 k hk) (ho1352.wide (fun k hk => hk)) r1359 hr1360) ?_
                 rintro v1363 w1361 ⟨hg1362, a1364, c1365, X1367, rfl, ho1366, hx1368⟩
                 have hC1369 := hC1355.grown hg1348 nb
                 refine ⟨(fun _ => hC1369.grown hg1362 nb), ?_⟩
                 have hx1370 : ∀ k, X1367 k → k < w1361.heap.size := fun k hk => (hx1368 k hk).1
                 have hB1372 := bg hB1358 hg1348 nb
                 have hx1371 : ∀ k, X1367 k → X0 k ∨ w0.heap.size ≤ k := fun k hk => (hx1368 k hk).2.elim (fun h => hx1357 k h) (fun h => .inr (Nat.le_trans hB1372.size h))
                 refine gv_nil <| gv_goA ?_
                 refine gv_stage (fun _ => True) [0, 1, 2, 3, 4, 5, 6] [(6, some false)] (bA 8 [0, 1, 2, 3, 4, 5, 6]) 1 (by kernel_rfl) (by kernel_rfl) trivial ?_
                 refine bindE h4 ?_; clear h4; intro r1373 hr1374 h4
                 have hg1375 := (grown_trans (grown_trans (grown_trans hg1323 hg1328) hg1348) hg1362)
                 have hx1376 := ltx hx1298 hg1375.size
                 have hk1377 := hk1307.grown hg1375 hx1298 nb
                 refine gv_call (f := 21) (vs := [(.agg #[(.bool j1063.1), (.slice a1234 (length j1063.2) c1235)]), (.agg #[(.bool r1359.1), (.slice a1364 (length r1359.2) c1365)])]) (cap := []) _ (by decide) rfl rfl rfl (by kernel_rfl) (by kernel_rfl) enters21 (ref3_Int_Plus_ok fuel a1234 c1235 (j1063.1, j1063.2) a1364 c1365 (r1359.1, r1359.2) w1361 (fun k => X1234 k ∨ X1367 k) (fun k hk => (hk).elim (fun h => hx1376 k h) (fun h => hx1370 k h)) (hk1377.wide (fun k hk => (.inl hk))) (ho1366.wide (fun k hk => (.inr hk))) r1373 hr1374) ?_
                 rintro v1380 w1378 ⟨hg1379, a1381, c1382, X1384, rfl, ho1383, hx1385⟩
                 refine ⟨(fun _ => trivial), ?_⟩
                 have hx1386 : ∀ k, X1384 k → k < w1378.heap.size := fun k hk => (hx1385 k hk).1
                 have hB1388 := bg hB1372 hg1362 nb
                 have hx1387 : ∀ k, X1384 k → X0 k ∨ w0.heap.size ≤ k := fun k hk => (hx1385 k hk).2.elim (fun h => (h).elim (fun h => hx1238 k h) (fun h => hx1371 k h)) (fun h => .inr (Nat.le_trans hB1388.size h))
                 refine gv_nil <| gv_goA ?_
                 refine gv_stage (fun _ => True) [0, 1, 2, 3, 4, 5, 6, 7] [(7, some false)] (bA 8 [0, 1, 2, 3, 4, 5, 6, 7]) 0 (by kernel_rfl) (by kernel_rfl) trivial ?_
                 have hg1393 := (grown_trans (grown_trans (grown_trans hg1328 hg1348) hg1362) hg1379)
                 have hk1394 := hk1324.grown hg1393 nb
                 refine gv_store (t := 57) (b := b1053) (off := 0) (v := (.agg #[(.bool r1373.1), (.slice a1381 (length r1373.2) c1382)])) (t' := 57) (cs := #[(.bool j1063.1), (.slice a1234 (length j1063.2) c1235)]) #[(.bool r1373.1), (.slice a1381 (length r1373.2) c1382)] (by decide) rfl rfl (by kernel_rfl) (by kernel_rfl) (by kernel_rfl) (by intro u hu; simp [Value.cells] at hu; rcases hu with rfl | rfl <;> rfl) (show 0 + 2 ≤ 2 by decide) (by rfl) hk1394 ?_
                 intro w1389 hg1390 hb1391 hz1392
                 refine ⟨(fun _ => trivial), ?_⟩
                 have hz1395 := (nt (nt hz1284 hg1286.size) hg1315.size)
                 have hz1396 := (nt (nt (nt (nt hg1321.size hg1328.size) hg1348.size) hg1362.size) hg1379.size)
                 clear hz1392 hg1393 hg1375 hr1374 hB1372 hC1369 hr1360 hB1358 hC1355 hr1346 hB1344 hB1343 hB1341 hB1340 hlo1339 hB1338 hB1337 hr1326 hg1323 hC1322 hc1319 hx1312 ap1311 hx1310 hx1309 ap1308 hk1307 hx1306 ap1305 hx1304 hx1303 ap1302 hx1301 hg1299 hx1298 hr1297 hk1295 lt1294 hk1292 hg1291 hz1288 hk1290 hz1284 hb1276 hb1270 hx1265 hx1262 ho1260 hb1245 hx1237 hr1236 hB1232
                 refine gv_nil <| gv_goA ?_
                 refine gv_stageE (by kernel_rfl) ?_
                 have e := sj h4; subst e
                 refine gv_goal fun a hd hs hok => ?_
                 have hB1397 := bg hB1388 hg1379 nb
                 have hlo1398 : w0.heap.size ≤ b1053 := lob hbe1057 hB132.size
                 have hB1399 := bg hB1397 hg1390 (rowlo hlo1398)
                 have hz1400 := (nt hz1396 hg1390.size)
                 have ap1401 : ¬ X1333 b1053 := fun h => ((hx1334 _ h).2.elim (fun h => h.elim) (fun h => nl h (hk1324.lt)))
                 have hk1402 := hk1324.grown hg1328 nb
                 have ap1403 : ¬ X1353 b1053 := fun h => ((hx1354 _ h).2.elim (fun h => (ap1401)  h) (fun h => nl h (hk1402.lt)))
                 have hk1404 := hk1402.grown hg1348 nb
                 have ap1405 : ¬ X1367 b1053 := fun h => ((hx1368 _ h).2.elim (fun h => (ap1403)  h) (fun h => nl h (hk1404.lt)))
                 have hk1406 := hk1404.grown hg1362 nb
                 have ap1407 : ¬ X1384 b1053 := fun h => ((hx1385 _ h).2.elim (fun h => (h).elim (fun h => (ap1241)  h) (fun h => (ap1405)  h)) (fun h => nl h (hk1406.lt)))
                 have hk1408 := ho1383.grown hg1390 hx1386 (rowne ap1407)
                 have hx1409 := ltx hx1386 hg1390.size
                 have hg1410 := (grown_trans (grown_trans hg1251 hg1269) hg1275)
                 have lt1411 := ltl ((ltb hb66) _ rfl) ((lowb hbe75) _ rfl)
                 have lt1412 := ltl ((ltb hb135) _ rfl) ((lowb hbe1057) _ rfl)
                 have lt1413 := ltt lt1411 lt1412
                 have lt1414 := ltt lt1413 lt1293
                 have lt1415 := ltt lt1414 lt1289
                 have hg1416 := (grown_trans hg1315 hg1321)
                 have hk1417 := (((hb1243.grown hg1410 nb).grown hg1280 (rowne (ng lt1414))).grown hg1286 (rowne (ng lt1415))).grown hg1416 nb
                 have ap1418 : ¬ X1333 b1 := fun h => ((hx1334 _ h).2.elim (fun h => h.elim) (fun h => nl h (hk1417.lt)))
                 have hk1419 := hk1417.grown hg1328 nb
                 have ap1420 : ¬ X1353 b1 := fun h => ((hx1354 _ h).2.elim (fun h => (ap1418)  h) (fun h => nl h (hk1419.lt)))
                 have hk1421 := hk1419.grown hg1348 nb
                 have ap1422 : ¬ X1367 b1 := fun h => ((hx1368 _ h).2.elim (fun h => (ap1420)  h) (fun h => nl h (hk1421.lt)))
                 have hk1423 := hk1421.grown hg1362 nb
                 have ap1424 : ¬ X1384 b1 := fun h => ((hx1385 _ h).2.elim (fun h => (h).elim (fun h => (ap1239)  h) (fun h => (ap1422)  h)) (fun h => nl h (hk1423.lt)))
                 have hx1425 := ltx (ltx (ltx hx62 hg73.size) hg78.size) hg85.size
                 have hx1426 := ltx (ltx (fun k hk => ltl ((fun k hk => ltl (hx1425 k hk) hz112) k hk) hz133) hg1055.size) hg1060.size
                 have hk1427 := hk1246.grown hg1251 (fun k hk => ltl (hx1426 k hk) hz1233) nb
                 have hx1428 := ltx (fun k hk => ltl (hx1426 k hk) hz1233) hg1251.size
                 have ap1429 : ¬ (fun k => blk a58 = some k ∨ X58 k) b1267 := fun hx => nl ((lowb hbe1271) _ rfl) ((fun k (hk : blk a58 = some k ∨ X58 k) => hk.elim (fun h => hk1427.lt k h) (fun h => hx1428 k h)) _ hx)
                 have hg1430 := (grown_trans hg1269 hg1275)
                 have hx1431 := ltx hx1428 hg1430.size
                 have hk1432 := hk1427.grown hg1269 hx1428 nb
                 have hx1433 := ltx hx1428 hg1269.size
                 have ap1434 : ¬ (fun k => blk a58 = some k ∨ X58 k) b1273 := fun hx => nl ((lowb hbe1277) _ rfl) ((fun k (hk : blk a58 = some k ∨ X58 k) => hk.elim (fun h => hk1432.lt k h) (fun h => hx1433 k h)) _ hx)
                 have hx1435 := ltx hx1431 hg1280.size
                 have hx1436 := ltx hx1435 hg1286.size
                 have hk1437 := (((hk1246.grown hg1410 (fun k hk => ltl (hx1426 k hk) hz1233) nb).grown hg1280 hx1431 (rdnx (rowne ap1429))).grown hg1286 hx1435 (rdnx (rowne ap1434))).grown hg1416 hx1436 nb
                 have ap1438 : ∀ g, blk a58 = some g → ¬ X1333 g := fun g e h => ((hx1334 _ h).2.elim (fun h => h.elim) (fun h => nl h (hk1437.lt g e)))
                 have hx1439 := ltx hx1436 hg1416.size
                 have hk1440 := hk1437.grown hg1328 hx1439 nb
                 have ap1441 : ∀ g, blk a58 = some g → ¬ X1353 g := fun g e h => ((hx1354 _ h).2.elim (fun h => (ap1438) g e h) (fun h => nl h (hk1440.lt g e)))
                 have hx1442 := ltx hx1439 hg1328.size
                 have hk1443 := hk1440.grown hg1348 hx1442 nb
                 have ap1444 : ∀ g, blk a58 = some g → ¬ X1367 g := fun g e h => ((hx1368 _ h).2.elim (fun h => (ap1441) g e h) (fun h => nl h (hk1443.lt g e)))
                 have hx1445 := ltx hx1442 hg1348.size
                 have hk1446 := hk1443.grown hg1362 hx1445 nb
                 have ap1447 : ∀ g, blk a58 = some g → ¬ X1384 g := fun g e h => ((hx1385 _ h).2.elim (fun h => (h).elim (fun h => (ap1242) g e h) (fun h => (ap1444) g e h)) (fun h => nl h (hk1446.lt g e)))
                 have hk1448 := (hk1423.grown hg1379 nb).grown hg1390 (rowne (ng lt1413))
                 have hx1449 := ltx hx1445 hg1362.size
                 have ap1450 : ¬ (fun k => blk a58 = some k ∨ X58 k) b1053 := fun hx => nl ((lowb hbe1057) _ rfl) ((fun k (hk : blk a58 = some k ∨ X58 k) => hk.elim (fun h => hk136.lt k h) (fun h => (fun k hk => ltl ((fun k hk => ltl (hx1425 k hk) hz112) k hk) hz133) k h)) _ hx)
                 have hx1451 := ltx hx1449 hg1379.size
                 have hk1452 := (hk1446.grown hg1379 hx1449 nb).grown hg1390 hx1451 (rdnx (rowne ap1450))
                 exact ⟨a1381, c1382, X1384, hB1399, hz1400, hk1408, hx1409, hx1387, ap1424, ap1407, ap1447, hk1448, hb1391, hk1452, hd, hs, okp [0, 1, 5, 7, 8, 9, 22] hok⟩
                ·replace h4 := ite_f hc1319 h4
                 refine gv_skip ?_
                 have e := sj h4; subst e
                 refine gv_goal fun a hd hs hok => ?_
                 have hB1453 := bg hB1232 hg1291 nb
                 have hB1454 := bg hB1232 hg1251 nb
                 have hlo1455 : w0.heap.size ≤ b1267 := lob hbe1271 hB1454.size
                 have hB1456 := bg hB1453 hg1280 (rowlo hlo1455)
                 have hB1457 := bg hB1454 hg1269 nb
                 have hlo1458 : w0.heap.size ≤ b1273 := lob hbe1277 hB1457.size
                 have hB1459 := bg hB1456 hg1286 (rowlo hlo1458)
                 have hB1460 := bg hB1459 hg1315 nb
                 have hk1461 := hk1307.grown hg1315 hx1298 nb
                 have hx1462 := ltx hx1298 hg1315.size
                 have lt1463 := ltl ((ltb hb66) _ rfl) ((lowb hbe75) _ rfl)
                 have lt1464 := ltl ((ltb hb135) _ rfl) ((lowb hbe1057) _ rfl)
                 have lt1465 := ltt lt1463 lt1464
                 have lt1466 := ltt lt1465 lt1293
                 have lt1467 := ltt lt1466 lt1289
                 have hk1468 := (((hb1243.grown hg1291 nb).grown hg1280 (rowne (ng lt1466))).grown hg1286 (rowne (ng lt1467))).grown hg1315 nb
                 have hk1469 := hk1295.grown hg1315 nb
                 have hx1470 := ltx (ltx (ltx hx62 hg73.size) hg78.size) hg85.size
                 have hx1471 := ltx (ltx (fun k hk => ltl ((fun k hk => ltl (hx1470 k hk) hz112) k hk) hz133) hg1055.size) hg1060.size
                 have hk1472 := hk1246.grown hg1251 (fun k hk => ltl (hx1471 k hk) hz1233) nb
                 have hx1473 := ltx (fun k hk => ltl (hx1471 k hk) hz1233) hg1251.size
                 have ap1474 : ¬ (fun k => blk a58 = some k ∨ X58 k) b1267 := fun hx => nl ((lowb hbe1271) _ rfl) ((fun k (hk : blk a58 = some k ∨ X58 k) => hk.elim (fun h => hk1472.lt k h) (fun h => hx1473 k h)) _ hx)
                 have hx1475 := ltx hx1473 hg1299.size
                 have hk1476 := hk1472.grown hg1269 hx1473 nb
                 have hx1477 := ltx hx1473 hg1269.size
                 have ap1478 : ¬ (fun k => blk a58 = some k ∨ X58 k) b1273 := fun hx => nl ((lowb hbe1277) _ rfl) ((fun k (hk : blk a58 = some k ∨ X58 k) => hk.elim (fun h => hk1476.lt k h) (fun h => hx1477 k h)) _ hx)
                 have hx1479 := ltx hx1475 hg1280.size
                 have hx1480 := ltx hx1479 hg1286.size
                 have hk1481 := (((hk1246.grown hg1291 (fun k hk => ltl (hx1471 k hk) hz1233) nb).grown hg1280 hx1475 (rdnx (rowne ap1474))).grown hg1286 hx1479 (rdnx (rowne ap1478))).grown hg1315 hx1480 nb
                 exact ⟨a1234, c1235, X1234, hB1460, nrf, hk1461, hx1462, hx1238, ap1239, ap1241, ap1242, hk1468, hk1469, hk1481, hd, hs, okp [0, 1, 5, 7, 8, 9, 22] hok⟩
               ·rintro a w1318 ⟨a1484, c1485, X1484, hB1482, hz1483, hr1486, hx1487, hx1488, ap1489, ap1490, ap1491, hb1492, hb1493, hk1494, hd, hs, hok⟩
                refine gv_in ?_ hd hs hok
                clear hd hs hok
                have hz1495 := (nt (nt (nt hz1284 hg1286.size) hg1315.size) hz1483)
                clear hk1313 hx1312 ap1311 hx1310 hx1309 ap1308 hk1307 hx1306 ap1305 hx1304 hx1303 ap1302 hx1301 hx1300 hg1299 hx1298 hr1297 hk1295 lt1294 lt1293 hk1292 hg1291 hz1288 hb1287 hk1290 lt1289 hz1284 hbe1277 hb1276 hbe1271 hb1270 hx1266 hx1265 hx1262 ho1260 hk1246 hb1245 hb1243 ap1242 ap1241 ap1239 hx1238 hx1237 hr1236 hB1232
                refine gv_region <| pN 1 [119] [(119, (.slice a58 (length s46.1) c59))] ?_
                refine gv_loadBox (t := 57) (b := b1053) (t' := 57) (fr := (0, 0)) #[(.bool j1317.1), (.slice a1484 (length j1317.2) c1485)] [] (fun e => by cases e) rfl rfl rfl (by kernel_rfl) (by kernel_rfl) (by kernel_rfl) (by kernel_rfl) (inw0 hb1493) rfl ?_
                refine bindE h3 ?_; clear h3; intro r1496 hr1497 h3
                refine gv_call0 (by kernel_rfl) rfl (by kernel_rfl) enters25 (ref4_IntegerOf_ok fuel a1484 c1485 (j1317.1, j1317.2) w1318 (fun k => X1484 k) (fun k hk => hx1487 k hk) (hr1486.wide (fun k hk => hk)) r1496 hr1497) ?_
                rintro v1500 w1498 ⟨hg1499, a1501, c1502, a1505, c1506, rfl, ho1503, hl1504, ho1507, hl1508, ap1509⟩
                have hl1510 : ∀ g, blk a1501 = some g → w0.heap.size ≤ g := fun g e => Nat.le_trans hB1482.size (hl1504 g e)
                have hl1511 : ∀ g, blk a1505 = some g → w0.heap.size ≤ g := fun g e => Nat.le_trans hB1482.size (hl1508 g e)
                refine gv_new0 (fun b => .slice (some ⟨b, 0, none⟩) 1 1) #[(.int .i64 r1496.1), (.bool r1496.2.1.1), (.slice a1501 (length r1496.2.1.2) c1502), (.bool r1496.2.2.1.1), (.slice a1505 (length r1496.2.2.1.2) c1506), (.string r1496.2.2.2.1), (.int .i64 r1496.2.2.2.2)] 41 (by kernel_rfl) (by kernel_rfl) ?_
                intro b1512 w1513 hg1514 hb1515 hbe1516 hz1517
                obtain ⟨X1523, e⟩ : ∃ X : Nat → Prop, X = (fun k => (fun k => blk a1501 = some k) k ∨ (fun k => blk a1505 = some k) k) := ⟨_, rfl⟩
                have hx1521 : ∀ k, X1523 k → k < w1498.heap.size := fun k h => by rw [e] at h; exact (h).elim (fun h => (fun k (hk : blk a1501 = some k) => ho1503.lt k hk) k h) (fun h => (fun k (hk : blk a1505 = some k) => ho1507.lt k hk) k h)
                have hz1524 := hg1514.size
                have hx1520 : ∀ k, X1523 k → k < w1513.heap.size := fun k h => ltl (hx1521 k h) hz1524
                have hx1522 : ∀ k, X1523 k → X0 k ∨ w0.heap.size ≤ k := fun k h => by rw [e] at h; exact (h).elim (fun h => (fun k (hk : blk a1501 = some k) => Or.inr (hl1510 k hk)) k h) (fun h => (fun k (hk : blk a1505 = some k) => Or.inr (hl1511 k hk)) k h)
                have hk1525 := ho1503.grown hg1514 (fun _ h => h.elim) nb
                have hk1526 := ho1507.grown hg1514 (fun _ h => h.elim) nb
                have ho1518 : Gv.Own (prE (iE .i64) (prE (prE tE (slE (iE .u32))) (prE (prE tE (slE (iE .u32))) (prE sE (iE .i64))))) 41 w1513 X1523 (some ⟨b1512, 0, none⟩) 1 ([(r1496.1, (r1496.2.1.1, r1496.2.1.2), (r1496.2.2.1.1, r1496.2.2.1.2), r1496.2.2.2.1, r1496.2.2.2.2)] : List (Int × (Bool × (List Int)) × (Bool × (List Int)) × ByteArray × Int)) := Box.ownE hb1515 (by rw [e]; exact ⟨[(.int .i64 r1496.1), (.bool r1496.2.1.1), (.slice a1501 (length r1496.2.1.2) c1502), (.bool r1496.2.2.1.1), (.slice a1505 (length r1496.2.2.1.2) c1506), (.string r1496.2.2.2.1), (.int .i64 r1496.2.2.2.2)], [], rfl, ⟨[(.int .i64 r1496.1)], [(.bool r1496.2.1.1), (.slice a1501 (length r1496.2.1.2) c1502), (.bool r1496.2.2.1.1), (.slice a1505 (length r1496.2.2.1.2) c1506), (.string r1496.2.2.2.1), (.int .i64 r1496.2.2.2.2)], rfl, rfl, ⟨[(.bool r1496.2.1.1), (.slice a1501 (length r1496.2.1.2) c1502)], [(.bool r1496.2.2.1.1), (.slice a1505 (length r1496.2.2.1.2) c1506), (.string r1496.2.2.2.1), (.int .i64 r1496.2.2.2.2)], rfl, ⟨[(.bool r1496.2.1.1)], [(.slice a1501 (length r1496.2.1.2) c1502)], rfl, rfl, ⟨a1501, c1502, rfl, ((hk1525.rd (Y := fun k => blk a1501 = some k) (fun _ h => h.elim) (fun g e => e)).wide (fun _ h => (.inl h)))⟩⟩, ⟨[(.bool r1496.2.2.1.1), (.slice a1505 (length r1496.2.2.1.2) c1506)], [(.string r1496.2.2.2.1), (.int .i64 r1496.2.2.2.2)], rfl, ⟨[(.bool r1496.2.2.1.1)], [(.slice a1505 (length r1496.2.2.1.2) c1506)], rfl, rfl, ⟨a1505, c1506, rfl, ((hk1526.rd (Y := fun k => blk a1505 = some k) (fun _ h => h.elim) (fun g e => e)).wide (fun _ h => (.inr h)))⟩⟩, ⟨[(.string r1496.2.2.2.1)], [(.int .i64 r1496.2.2.2.2)], rfl, rfl, rfl⟩⟩⟩⟩, rfl⟩) (show 1 ≤ maxLen by decide) (fun h => noteq hbe1516 (hx1521 _ h))
                have hx1527 : ∀ k, X1523 k → (fun k => (fun k => blk a1501 = some k) k ∨ (fun k => blk a1505 = some k) k) k := fun k h => by rw [e] at h; exact h
                clear e
                have hB1528 := bg hB1482 hg1499 nb
                have hl1519 : ∀ g, blk (some ⟨b1512, 0, none⟩) = some g → w0.heap.size ≤ g := loo hbe1516 hB1528.size
                have hx1530 := ltx hx1487 hg1499.size
                have ap1529 : ∀ g, blk (some ⟨b1512, 0, none⟩) = some g → ¬ X1484 g := fun g e hx => nl (lowo hbe1516 g e) (hx1530 _ hx)
                have hk1532 := hb1492.grown hg1499 nb
                have ap1531 : ∀ g, blk (some ⟨b1512, 0, none⟩) = some g → ¬ (· = b1) g := fun g e hx => nl (lowo hbe1516 g e) ((ltb hk1532) _ hx)
                have ap1534 : ¬ (fun k => blk a1501 = some k) b1 := fun hx => nl ((show ∀ k, blk a1501 = some k → w1318.heap.size ≤ k from hl1504) _ hx) ((ltb hb1492) _ rfl)
                have ap1535 : ¬ (fun k => blk a1505 = some k) b1 := fun hx => nl ((show ∀ k, blk a1505 = some k → w1318.heap.size ≤ k from hl1508) _ hx) ((ltb hb1492) _ rfl)
                have ap1533 : ¬ (fun k => blk (some ⟨b1512, 0, none⟩) = some k ∨ X1523 k) b1 := fun h => h.elim (fun h => nl (lowo hbe1516 _ h) ((ltb hk1532) _ rfl)) (fun h => ((hx1527 _ h)).elim (fun h => (ap1534)  h) (fun h => (ap1535)  h))
                have hk1537 := hb1493.grown hg1499 nb
                have ap1536 : ∀ g, blk (some ⟨b1512, 0, none⟩) = some g → ¬ (· = b1053) g := fun g e hx => nl (lowo hbe1516 g e) ((ltb hk1537) _ hx)
                have ap1539 : ¬ (fun k => blk a1501 = some k) b1053 := fun hx => nl ((show ∀ k, blk a1501 = some k → w1318.heap.size ≤ k from hl1504) _ hx) ((ltb hb1493) _ rfl)
                have ap1540 : ¬ (fun k => blk a1505 = some k) b1053 := fun hx => nl ((show ∀ k, blk a1505 = some k → w1318.heap.size ≤ k from hl1508) _ hx) ((ltb hb1493) _ rfl)
                have ap1538 : ¬ (fun k => blk (some ⟨b1512, 0, none⟩) = some k ∨ X1523 k) b1053 := fun h => h.elim (fun h => nl (lowo hbe1516 _ h) ((ltb hk1537) _ rfl)) (fun h => ((hx1527 _ h)).elim (fun h => (ap1539)  h) (fun h => (ap1540)  h))
                have hx1542 := ltx (ltx (ltx hx62 hg73.size) hg78.size) hg85.size
                have hx1543 := ltx (ltx (fun k hk => ltl ((fun k hk => ltl (hx1542 k hk) hz112) k hk) hz133) hg1055.size) hg1060.size
                have hg1544 := (grown_trans (grown_trans hg1251 hg1269) hg1275)
                have hx1545 := ltx (ltx (ltx (ltx (fun k hk => ltl (hx1543 k hk) hz1233) hg1544.size) hg1280.size) hg1286.size) hg1315.size
                have hk1546 := hk1494.grown hg1499 (fun k hk => ltl (hx1545 k hk) hz1483) nb
                have hx1547 := ltx (fun k hk => ltl (hx1545 k hk) hz1483) hg1499.size
                have ap1541 : ∀ g, blk (some ⟨b1512, 0, none⟩) = some g → ¬ (fun k => blk a58 = some k ∨ X58 k) g := fun g e hx => nl (lowo hbe1516 g e) ((fun k (hk : blk a58 = some k ∨ X58 k) => hk.elim (fun h => hk1546.lt k h) (fun h => hx1547 k h)) _ hx)
                have ap1549 : ∀ g, blk a58 = some g → ¬ (fun k => blk a1501 = some k) g := fun g e hx => nl ((show ∀ k, blk a1501 = some k → w1318.heap.size ≤ k from hl1504) _ hx) ((fun k (hk : blk a58 = some k ∨ X58 k) => hk.elim (fun h => hk1494.lt k h) (fun h => (fun k hk => ltl (hx1545 k hk) hz1483) k h)) g (.inl e))
                have ap1550 : ∀ g, blk a58 = some g → ¬ (fun k => blk a1505 = some k) g := fun g e hx => nl ((show ∀ k, blk a1505 = some k → w1318.heap.size ≤ k from hl1508) _ hx) ((fun k (hk : blk a58 = some k ∨ X58 k) => hk.elim (fun h => hk1494.lt k h) (fun h => (fun k hk => ltl (hx1545 k hk) hz1483) k h)) g (.inl e))
                have ap1548 : ∀ g, blk a58 = some g → ¬ (fun k => blk (some ⟨b1512, 0, none⟩) = some k ∨ X1523 k) g := fun g e h => h.elim (fun h => nl (lowo hbe1516 _ h) ((fun k (hk : blk a58 = some k ∨ X58 k) => hk.elim (fun h => hk1546.lt k h) (fun h => hx1547 k h)) g (.inl e))) (fun h => ((hx1527 _ h)).elim (fun h => (ap1549) g e h) (fun h => (ap1550) g e h))
                have ap1551 : ∀ g, blk (some ⟨b1512, 0, none⟩) = some g → ¬ (fun k => blk a1501 = some k) g := fun g e hx => nl (lowo hbe1516 g e) ((fun k (hk : blk a1501 = some k) => ho1503.lt k hk) _ hx)
                have ap1552 : ∀ g, blk (some ⟨b1512, 0, none⟩) = some g → ¬ (fun k => blk a1505 = some k) g := fun g e hx => nl (lowo hbe1516 g e) ((fun k (hk : blk a1505 = some k) => ho1507.lt k hk) _ hx)
                refine bindE h3 ?_; clear h3; intro l1553 hx1554 h3
                obtain ⟨X1555, e⟩ : ∃ X : Nat → Prop, X = fun k => X58 k ∨ (fun k => blk (some ⟨b1512, 0, none⟩) = some k ∨ X1523 k) k := ⟨_, rfl⟩
                have hx1559 := ltx hx1547 hg1514.size
                have hx1556 : ∀ k, X1555 k → k < w1513.heap.size := fun k hk => by rw [e] at hk; exact hk.elim (fun h => hx1559 k h) (fun h => (fun k (hk : blk (some ⟨b1512, 0, none⟩) = some k ∨ X1523 k) => hk.elim (fun h => ho1518.lt k h) (fun h => hx1520 k h)) k h)
                have hx1557 : ∀ k, X1555 k → X0 k ∨ w0.heap.size ≤ k := fun k hk => by rw [e] at hk; exact hk.elim (fun h => hx63 k h) (fun h => (fun k (hk : blk (some ⟨b1512, 0, none⟩) = some k ∨ X1523 k) => hk.elim (fun h => Or.inr (hl1519 k h)) (fun h => hx1522 k h)) k h)
                have hk1560 := hk1546.grown hg1514 hx1547 nb
                have ho1558 : Gv.Own (prE (iE .i64) (prE (prE tE (slE (iE .u32))) (prE (prE tE (slE (iE .u32))) (prE sE (iE .i64))))) 41 w1513 X1555 a58 c59 s46.1 := (hk1560).wide (fun k hk => by rw [e]; exact .inl hk) (fun g e1 hk => by rw [e] at hk; exact hk.elim (fun h => (hk1560).out g e1 h) (fun h => ap1548 g e1 h))
                have hx1561 : ∀ k, (fun k => blk (some ⟨b1512, 0, none⟩) = some k ∨ X1523 k) k → X1555 k := fun k hk => by rw [e]; exact .inr hk
                have hx1562 : ∀ k, X1555 k → X58 k ∨ (fun k => blk (some ⟨b1512, 0, none⟩) = some k ∨ X1523 k) k := fun k hk => by rw [e] at hk; exact hk
                clear e
                refine gv_append (prE (iE .i64) (prE (prE tE (slE (iE .u32))) (prE (prE tE (slE (iE .u32))) (prE sE (iE .i64))))) (t := 24) (ty := 24) (e := 41) (a := a58) (ax := (some ⟨b1512, 0, none⟩)) (cap := c59) (cx := 1) (xs := s46.1) (ys := ([(r1496.1, (r1496.2.1.1, r1496.2.1.2), (r1496.2.2.1.1, r1496.2.2.1.2), r1496.2.2.2.1, r1496.2.2.2.2)] : List (Int × (Bool × (List Int)) × (Bool × (List Int)) × ByteArray × Int))) l1553 (X := X1555) (Y := (fun k => blk (some ⟨b1512, 0, none⟩) = some k ∨ X1523 k)) (by decide) rfl rfl (by kernel_rfl) (by kernel_rfl) Tryz.underlying24 info41 ho1558 (ho1518.rd (Y := fun k => blk (some ⟨b1512, 0, none⟩) = some k ∨ X1523 k) (fun _ h => .inr h) (fun g e => .inl e)) hx1554 (.inl hx1561) hx1556 ?_
                intro a1563 c1564 w1565 hg1566 ho1567 hk1568
                refine ⟨(fun e => by cases e), ?_⟩
                have hB1570 := bg hB1528 hg1514 nb
                have hl1569 : ∀ g, blk a1563 = some g → w0.heap.size ≤ g := blk_step hk1568 hl61 hB1570.size
                have hx1571 : ∀ k, X1555 k → k < w1565.heap.size := fun k hk => ltl (hx1556 k hk) hg1566.size
                have hx1573 := ltx hx1530 hg1514.size
                have ap1572 : ∀ g, blk a1563 = some g → ¬ X1484 g := blk_neX hk1568 ap1491 hx1573
                have hk1575 := hk1532.grown hg1514 nb
                have ap1574 : ∀ g, blk a1563 = some g → ¬ (· = b1) g := blk_neX hk1568 ap64 (ltb hk1575)
                have ap1576 : ¬ (fun k => blk a1563 = some k ∨ X1555 k) b1 := fun h => h.elim (fun h => blk_rev hk1568 (fun h => (ap65) (.inl h)) (hk1575.lt) h) (fun h => (hx1562 _ h).elim (fun h => (ap65) (.inr h)) (fun h => (ap1533) h))
                have ap1578 : ∀ g, blk a58 = some g → ¬ (· = b1053) g := fun g e hx => nl ((lowb hbe1057) _ hx) ((fun k (hk : blk a58 = some k ∨ X58 k) => hk.elim (fun h => hk136.lt k h) (fun h => (fun k hk => ltl ((fun k hk => ltl (hx1542 k hk) hz112) k hk) hz133) k h)) g (.inl e))
                have hk1579 := hk1537.grown hg1514 nb
                have ap1577 : ∀ g, blk a1563 = some g → ¬ (· = b1053) g := blk_neX hk1568 ap1578 (ltb hk1579)
                have ap1581 : ¬ (fun k => blk a58 = some k ∨ X58 k) b1053 := fun hx => nl ((lowb hbe1057) _ rfl) ((fun k (hk : blk a58 = some k ∨ X58 k) => hk.elim (fun h => hk136.lt k h) (fun h => (fun k hk => ltl ((fun k hk => ltl (hx1542 k hk) hz112) k hk) hz133) k h)) _ hx)
                have ap1580 : ¬ (fun k => blk a1563 = some k ∨ X1555 k) b1053 := fun h => h.elim (fun h => blk_rev hk1568 (fun h => (ap1581) (.inl h)) (hk1579.lt) h) (fun h => (hx1562 _ h).elim (fun h => (ap1581) (.inr h)) (fun h => (ap1538) h))
                have ap1582 : ∀ g, blk a1563 = some g → ¬ (fun k => blk a1501 = some k) g := blk_neX hk1568 ap1549 (fun k (hk : blk a1501 = some k) => hk1525.lt k hk)
                have ap1584 : ∀ g, blk a1563 = some g → ¬ (fun k => blk a1505 = some k) g := blk_neX hk1568 ap1550 (fun k (hk : blk a1505 = some k) => hk1526.lt k hk)
                have ap1586 : ∀ g, blk a1563 = some g → ¬ (fun k => blk (some ⟨b1512, 0, none⟩) = some k ∨ X1523 k) g := blk_neX hk1568 ap1548 (fun k (hk : blk (some ⟨b1512, 0, none⟩) = some k ∨ X1523 k) => hk.elim (fun h => ho1518.lt k h) (fun h => hx1520 k h))
                refine pN 1 [7] [(7, (.slice a1563 (length l1553) c1564))] ?_
                refine gv_nil ?_
                have e := sj h3; subst e
                refine gv_goal fun a hd hs hok => ?_
                have hB1588 := bg hB1570 hg1566 hl61
                have hz1589 := (nt (nt (nt hz1495 hg1499.size) hg1514.size) hg1566.size)
                have hk1590 := hk1575.grown hg1566 ap64
                exact ⟨(l1553, (IntKind.i64.wrap (s46.2.1 + j117)), (s46.2.2.2.1, s46.2.2.2.2)), rfl, a1563, c1564, X1555, hB1588, hz1589, ho1567, hl1569, hx1571, hx1557, ap1574, ap1576, hk1590, hd, hs, okp [0, 1, 5, 7, 8, 9] hok⟩
        ·rintro a w160 ⟨s159, e, a1593, c1594, X1593, hB1591, hz1592, ho1595, hl1596, hx1597, hx1598, ap1599, ap1600, hb1601, hd, hs, hok⟩
         subst e
         refine gv_in ?_ hd hs hok
         clear hd hs hok
         replace h2 := cont_inl h2
         have hz1602 := (nt hz137 hz1592)
         clear hz1592 hsub156 hx153 hc138 hz137 hk136 hb135 hb134 hz133 hB132 hz112 hg85 hg78 hbe75 hg73 hb66 ap65 ap64 hx63 hx62 hl61 ho60 hB56
         refine gv_blk <| gv_blk <| gv_region <| pN 3 [9, 37, 38] [(9, (.int .i64 (IntKind.i64.wrap (s46.2.2.1 + 1))))] ?_
         refine gv_nil ?_
         have e := sj h2; subst e
         refine gv_goal fun a hd hs hok => ?_
         have hz1603 := hz1602
         exact ⟨(s159.1, s159.2.1, (IntKind.i64.wrap (s46.2.2.1 + 1)), (s159.2.2.1, s159.2.2.2)), rfl, a1593, c1594, X1593, hB1591, hz1603, ho1595, hl1596, hx1597, hx1598, ap1599, ap1600, hb1601, hd, hs, okp [0, 1, 5, 7, 8, 9] hok⟩
    ·replace h2 := ite_f hc67 h2
     refine gv_cexit <| gv_exit rfl ?_
     have e := sj h2; subst e
     replace h1 := congrArg some (hR2 _ rfl)
     have e := sj h1; subst e
     refine gv_goal fun a hd hs hok => ?_
     have hz1604 := hz57
     exact ⟨(s46.1, s46.2.1, (s46.2.2.2.1, s46.2.2.2.2)), rfl, a58, c59, X58, hB56, hz1604, ho60, hl61, hx62, hx63, ap64, ap65, hb66, hd, hs, okp [1, 5, 7, 8] hok⟩
  ·rintro a w45 ⟨s44, e, a1607, c1608, X1607, hB1605, hz1606, ho1609, hl1610, hx1611, hx1612, ap1613, ap1614, hb1615, hd, hs, hok⟩
   subst e
   refine gv_in ?_ hd hs hok
   clear hd hs hok
   replace h0 := cont_inl h0
   clear hz1606 hc23 hz22 hb21 hg20 hz18 hbe17 hb16 hg15 hg11 hB9 hr8 hz6 hb4 hg3
   refine gv_seq <| gv_seq <| gv_region <| pN 4 [258, 259, 260, 261] [(261, (.bool (decide (s44.2.1 < ((length data_1 : Nat) : Int)))))] ?_
   refine gv_nil <| gv_cond (b := (decide (s44.2.1 < ((length data_1 : Nat) : Int)))) (by kernel_rfl) (fun hc1616 => ?_) (fun hc1616 => ?_)
   ·replace h0 := ite_t hc1616 h0
    refine gv_seq <| gv_region <| bindE h0 ?_; clear h0; intro r1617 hr1618 h0
    refine gv_call0 (by kernel_rfl) rfl (by kernel_rfl) enters19 (ref4_At_ok fuel 3 (-2) w45  r1617 hr1618) ?_
    rintro v1621 w1619 ⟨hg1620, rfl⟩
    refine pN 1 [4] [(4, (.slice none (length ([] : List (Int × (Bool × (List Int)) × (Bool × (List Int)) × ByteArray × Int))) 0))] ?_
    have hk1626 := hb1615.grown hg1620 nb
    refine gv_store0 26 0 (.agg #[(.int .i64 r1617.1), (.int .i64 r1617.2)]) #[(.int .i64 r1617.1), (.int .i64 r1617.2)] hk1626 (by kernel_rfl) (by kernel_rfl) (by kernel_rfl) ?_
    intro w1622 hg1623 hb1624 hz1625
    refine gv_nil <| gv_cret ?_
    have e := sj h0; subst e
    refine gv_ret (gv_done [(.slice none (length ([] : List (Int × (Bool × (List Int)) × (Bool × (List Int)) × ByteArray × Int))) 0), (.agg #[(.int .i64 r1617.1), (.int .i64 r1617.2)])] rfl ⟨(by kernel_rfl), ⟨⟨b1, 0, none⟩, (by kernel_rfl), run_loadVar_row w1622 b1 _ 26 _ _ _ hb1624 Tryz.underlying26 rfl (by kernel_rfl)⟩, trivial⟩ ?_)
    have hB1627 := bg hB1605 hg1620 nb
    have hlo1628 : w0.heap.size ≤ b1 := lob hbe5 hB0.size
    have hB1629 := bg hB1627 hg1623 (rowlo hlo1628)
    exact ⟨grown_of_below hB1629, none, 0, (fun _ => False), rfl, (Gv.Own.nil (prE (iE .i64) (prE (prE tE (slE (iE .u32))) (prE (prE tE (slE (iE .u32))) (prE sE (iE .i64))))) 41 w1622 (fun _ => False)), (fun _ h => by cases h), (fun k hk => ⟨(fun _ h => h.elim) k hk, (fun _ h => h.elim) k hk⟩)⟩
   ·replace h0 := ite_f hc1616 h0
    refine gv_skip <| gv_seq <| gv_region <| pN 3 [4, 263, 264] [(4, (.slice a1607 (length s44.1) c1608)), (264, (.agg #[(.int .i64 0), (.int .i64 0)]))] ?_
    refine gv_store0 26 0 (.agg #[(.int .i64 0), (.int .i64 0)]) #[(.int .i64 0), (.int .i64 0)] hb1615 (by kernel_rfl) (by kernel_rfl) (by kernel_rfl) ?_
    intro w1630 hg1631 hb1632 hz1633
    refine gv_nil <| gv_cret ?_
    have e := sj h0; subst e
    refine gv_ret (gv_done [(.slice a1607 (length s44.1) c1608), (.agg #[(.int .i64 0), (.int .i64 0)])] rfl ⟨(by kernel_rfl), ⟨⟨b1, 0, none⟩, (by kernel_rfl), run_loadVar_row w1630 b1 _ 26 _ _ _ hb1632 Tryz.underlying26 rfl (by kernel_rfl)⟩, trivial⟩ ?_)
    have hlo1634 : w0.heap.size ≤ b1 := lob hbe5 hB0.size
    have hB1635 := bg hB1605 hg1631 (rowlo hlo1634)
    have hk1636 := ho1609.grown hg1631 hx1611 (rdnx (rowne ap1614))
    have hx1637 := ltx hx1611 hg1631.size
    exact ⟨grown_of_below hB1635, a1607, c1608, X1607, rfl, hk1636, hl1610, (fun k hk => ⟨hx1637 k hk, hx1612 k hk⟩)⟩

theorem stringslite_HasPrefix_ok (fuel : Nat) (s_0 : ByteArray) (prefix_1 : ByteArray) (w0 : World)  (r0 : Bool) (h0 : stringslite_HasPrefix fuel s_0 prefix_1 = some r0) :
    Calls Tryz.prog 75 ([(.string s_0), (.string prefix_1)] : List Value).toArray w0 (Ret fun v w' => w0.grownBy w' none ∧ v = tup [(.bool r0)]) := by
 have hB0 : Below w0.heap.size w0 w0 := Below.refl _ _
 unfold stringslite_HasPrefix at h0
 refine calls_run Tryz.func75 rfl Tryz.ntmps75 (by kernel_rfl) ?_
 refine gv_sub [0, 1] (σ' := [(0, (.string s_0)), (1, (.string prefix_1))]) (by kernel_rfl) ?_
 refine gv_seq <| gv_region <| pN 1 [4] [] ?_
 refine gv_nil <| gv_seq <| gv_region <| bindE h0 ?_; clear h0; intro j1 h1 h0
 refine gv_cut_ops (J := fun a w2 => Below w0.heap.size w0 w2 ∧ w0.heap.size ≤ w2.heap.size ∧ a.defers = [] ∧ a.tmps.size = 18 ∧ Ok [(4, (.bool j1))] a.tmps) ?_ ?_
 ·skip
  refine pN 6 [5, 6, 7, 8, 9, 10] [(10, (.bool (decide (((ByteArray.size s_0 : Nat) : Int) ≥ ((ByteArray.size prefix_1 : Nat) : Int)))))] ?_
  refine gv_split (s := 10) (g := (decide (((ByteArray.size s_0 : Nat) : Int) ≥ ((ByteArray.size prefix_1 : Nat) : Int)))) (by kernel_rfl) (fun hc3 => ?_) (fun hc3 => ?_)
  ·skip
   replace h1 := ite_t hc3 h1
   refine pN 3 [11, 12, 13] [(11, (.string s_0)), (13, (.int .i64 ((ByteArray.size prefix_1 : Nat) : Int)))] ?_
   refine bindE h1 ?_; clear h1; intro x4 hx5 h1
   refine gv_ssub (t := 9) (s := s_0) (lo := none) (hi := (some (.int .i64 ((ByteArray.size prefix_1 : Nat) : Int)))) 0 ((ByteArray.size prefix_1 : Nat) : Int) x4 [] (fun e => by cases e) rfl rfl rfl (by kernel_rfl) (by kernel_rfl) Tryz.underlying9 (.inl ⟨rfl, rfl⟩) (.inr ⟨_, rfl⟩) hx5 rfl ?_
   refine pN 4 [4, 15, 16, 17] [(4, (.bool (x4.toList == prefix_1.toList)))] ?_
   refine gv_nil ?_
   have e := sj h1; subst e
   refine gv_goal fun a hd hs hok => ?_
   exact ⟨hB0, nrf, hd, hs, okp [4] hok⟩
  ·skip
   replace h1 := ite_f hc3 h1
   refine pN 8 [4, 11, 12, 13, 14, 15, 16, 17] [(4, (.bool false))] ?_
   refine gv_nil ?_
   have e := sj h1; subst e
   refine gv_goal fun a hd hs hok => ?_
   exact ⟨hB0, nrf, hd, hs, okp [4] hok⟩
 ·rintro a w2 ⟨hB6, hz7, hd, hs, hok⟩
  refine gv_in ?_ hd hs hok
  clear hd hs hok
  refine gv_cret ?_
  have e := sj h0; subst e
  refine gv_ret (gv_done [(.bool j1)] rfl ⟨(by kernel_rfl), trivial⟩ ?_)
  exact ⟨grown_of_below hB6, rfl⟩

theorem strings_HasPrefix_ok (fuel : Nat) (s_0 : ByteArray) (prefix_1 : ByteArray) (w0 : World)  (r0 : Bool) (h0 : strings_HasPrefix fuel s_0 prefix_1 = some r0) :
    Calls Tryz.prog 54 ([(.string s_0), (.string prefix_1)] : List Value).toArray w0 (Ret fun v w' => w0.grownBy w' none ∧ v = tup [(.bool r0)]) := by
 have hB0 : Below w0.heap.size w0 w0 := Below.refl _ _
 unfold strings_HasPrefix at h0
 refine calls_run Tryz.func54 rfl Tryz.ntmps54 (by kernel_rfl) ?_
 refine gv_sub [0, 1] (σ' := [(0, (.string s_0)), (1, (.string prefix_1))]) (by kernel_rfl) ?_
 refine gv_seq <| gv_region <| pN 1 [4] [] ?_
 refine gv_nil <| gv_seq <| gv_region <| pN 2 [5, 6] [(5, (.string s_0)), (6, (.string prefix_1))] ?_
 refine bindE h0 ?_; clear h0; intro r1 hr2 h0
 refine gv_call0 (by kernel_rfl) rfl (by kernel_rfl) enters75 (stringslite_HasPrefix_ok fuel s_0 prefix_1 w0  r1 hr2) ?_
 rintro v5 w3 ⟨hg4, rfl⟩
 refine pN 1 [4] [(4, (.bool r1))] ?_
 refine gv_nil <| gv_cret ?_
 have e := sj h0; subst e
 refine gv_ret (gv_done [(.bool r1)] rfl ⟨(by kernel_rfl), trivial⟩ ?_)
 have hB6 := bg hB0 hg4 nb
 exact ⟨grown_of_below hB6, rfl⟩

theorem packing_number_ok (fuel : Nat) (s_0 : ByteArray) (w0 : World) (X0 : Nat → Prop) (hX0 : ∀ k, X0 k → k < w0.heap.size) {erx : TypeId × Value} (hG4 : Rd eE w0 X0 (some ⟨4, 0, none⟩) 1 [erx]) (r0 : (Int × ByteArray)) (h0 : packing_number fuel s_0 = some r0) :
    Calls Tryz.prog 55 ([(.string s_0)] : List Value).toArray w0 (Ret fun v w' => w0.grownBy w' none ∧ v = tup [(.int .i64 r0.1), (.string r0.2)]) := by
 have hB0 : Below w0.heap.size w0 w0 := Below.refl _ _
 unfold packing_number at h0
 refine calls_run Tryz.func55 rfl Tryz.ntmps55 (by kernel_rfl) ?_
 refine gv_sub [0] (σ' := [(0, (.string s_0))]) (by kernel_rfl) ?_
 refine gv_seq <| gv_region <| pN 2 [2, 3] [] ?_
 refine gv_nil <| gv_seq <| gv_region <| pN 3 [7, 8, 9] [(8, (.int .i64 ((ByteArray.size s_0 : Nat) : Int))), (9, (.string s_0))] ?_
 refine bindE h0 ?_; clear h0; intro r1 hr2 h0
 refine gv_call0 (by kernel_rfl) rfl (by kernel_rfl) enters76 (strings_TrimLeft_ok fuel s_0 (strOf [48, 49, 50, 51, 52, 53, 54, 55, 56, 57]) w0  r1 hr2) ?_
 rintro v5 w3 ⟨hg4, rfl⟩
 refine pN 3 [4, 11, 12] [(4, (.int .i64 (IntKind.i64.wrap (((ByteArray.size s_0 : Nat) : Int) - ((ByteArray.size r1 : Nat) : Int)))))] ?_
 refine bindE h0 ?_; clear h0; intro n6 hn7 h0
 refine gv_name (s := 4) (v := (.int .i64 (IntKind.i64.wrap (((ByteArray.size s_0 : Nat) : Int) - ((ByteArray.size r1 : Nat) : Int))))) (v' := (.int .i64 n6)) (by kernel_rfl) (congrArg (Value.int .i64) (sj hn7)) ?_
 refine gv_nil <| gv_seq <| gv_seq <| gv_region <| pN 2 [13, 14] [(14, (.bool (n6 == 0)))] ?_
 refine gv_nil <| gv_cond (b := (n6 == 0)) (by kernel_rfl) (fun hc8 => ?_) (fun hc8 => ?_)
 ·replace h0 := ite_t hc8 h0
  refine gv_seq <| gv_region <| pN 3 [2, 3, 15] [(2, (.int .i64 (-1))), (3, (.string s_0))] ?_
  refine gv_nil <| gv_cret ?_
  have e := sj h0; subst e
  refine gv_ret (gv_done [(.int .i64 (-1)), (.string s_0)] rfl ⟨(by kernel_rfl), (by kernel_rfl), trivial⟩ ?_)
  have hB9 := bg hB0 hg4 nb
  exact ⟨grown_of_below hB9, rfl⟩
 ·replace h0 := ite_f hc8 h0
  refine gv_skip <| gv_seq <| gv_region <| pN 2 [17, 18] [(17, (.string s_0)), (18, (.int .i64 n6))] ?_
  refine bindE h0 ?_; clear h0; intro x10 hx11 h0
  refine gv_ssub (t := 9) (s := s_0) (lo := none) (hi := (some (.int .i64 n6))) 0 n6 x10 [] (fun e => by cases e) rfl rfl rfl (by kernel_rfl) (by kernel_rfl) Tryz.underlying9 (.inl ⟨rfl, rfl⟩) (.inr ⟨_, rfl⟩) hx11 rfl ?_
  refine bindE h0 ?_; clear h0; intro r12 hr13 h0
  have hB14 := bg hB0 hg4 nb
  refine gv_call0 (by kernel_rfl) rfl (by kernel_rfl) enters77 (strconv_Atoi_ok fuel x10 w3 (fun k => X0 k) (fun k hk => (fun k (hk : X0 k) => ltl (hX0 k hk) hB14.size) k hk) ((hG4.below hB14 hX0).wide (fun k hk => hk)) r12 hr13) ?_
  rintro v17 w15 ⟨hg16, te18, pe19, rfl⟩
  refine pN 5 [5, 6, 16, 21, 22] [(5, (.int .i64 r12.1)), (6, (ifE r12.2 te18 pe19))] ?_
  refine gv_nil <| gv_seq <| gv_seq <| gv_region <| bindE h0 ?_; clear h0; intro j20 h1 h0
  refine gv_cut_ops (J := fun a w21 => Below w0.heap.size w0 w21 ∧ w15.heap.size ≤ w21.heap.size ∧ a.defers = [] ∧ a.tmps.size = 33 ∧ Ok [(0, (.string s_0)), (4, (.int .i64 n6)), (5, (.int .i64 r12.1)), (28, (.bool j20))] a.tmps) ?_ ?_
  ·skip
   refine pN 1 [23] [(23, (ifE r12.2 te18 pe19))] ?_
   refine gv_errneq (t := 120) (x := (.tmp 23)) (b := r12.2) (te := te18) (p := pe19) [] (fun e => by cases e) rfl rfl rfl (by kernel_rfl) (by kernel_rfl) (by kernel_rfl) rfl ?_
   refine pN 1 [25] [(25, (.bool r12.2))] ?_
   refine gv_split (s := 25) (g := r12.2) (by kernel_rfl) (fun hc22 => ?_) (fun hc22 => ?_)
   ·skip
    replace h1 := ite_t hc22 h1
    refine pN 3 [26, 27, 28] [(28, (.bool true))] ?_
    refine gv_nil ?_
    have e := sj h1; subst e
    refine gv_goal fun a hd hs hok => ?_
    have hB23 := bg hB14 hg16 nb
    exact ⟨hB23, nrf, hd, hs, okp [0, 4, 5, 28] hok⟩
   ·skip
    replace h1 := ite_f hc22 h1
    refine pN 3 [26, 27, 28] [(28, (.bool (decide (r12.1 > 100))))] ?_
    refine gv_nil ?_
    have e := sj h1; subst e
    refine gv_goal fun a hd hs hok => ?_
    have hB24 := bg hB14 hg16 nb
    exact ⟨hB24, nrf, hd, hs, okp [0, 4, 5, 28] hok⟩
  ·rintro a w21 ⟨hB25, hz26, hd, hs, hok⟩
   refine gv_in ?_ hd hs hok
   clear hd hs hok
   clear hz26 hg16 hB14 hr13 hx11 hc8 hn7 hg4 hr2
   refine bindE h0 ?_; clear h0; intro j27 h1 h0
   refine gv_cut_code (J := fun a w28 => Below w0.heap.size w0 w28 ∧ w21.heap.size ≤ w28.heap.size ∧ a.defers = [] ∧ a.tmps.size = 33 ∧ Ok [(0, (.string s_0)), (4, (.int .i64 n6)), (5, (.int .i64 j27))] a.tmps) ?_ ?_
   ·skip
    refine gv_cond (b := j20) (by kernel_rfl) (fun hc29 => ?_) (fun hc29 => ?_)
    ·replace h1 := ite_t hc29 h1
     refine gv_region <| pN 1 [5] [(5, (.int .i64 101))] ?_
     refine gv_nil ?_
     have e := sj h1; subst e
     refine gv_goal fun a hd hs hok => ?_
     exact ⟨hB25, nrf, hd, hs, okp [0, 4, 5] hok⟩
    ·replace h1 := ite_f hc29 h1
     refine gv_skip ?_
     have e := sj h1; subst e
     refine gv_goal fun a hd hs hok => ?_
     exact ⟨hB25, nrf, hd, hs, okp [0, 4, 5] hok⟩
   ·rintro a w28 ⟨hB30, hz31, hd, hs, hok⟩
    refine gv_in ?_ hd hs hok
    clear hd hs hok
    refine gv_seq <| gv_drawA (by kernel_rfl) ?_
    intro w32 hg33
    refine gv_pre [0, 1, 2, 3, 4, 5] (bA 6 [0, 1, 2, 3, 4, 5]) 0 (by kernel_rfl) (by kernel_rfl) ?_
    refine pN 3 [29, 30, 31] [(29, (.int .i64 j27)), (30, (.string s_0)), (31, (.int .i64 n6))] ?_
    refine bindE h0 ?_; clear h0; intro x34 hx35 h0
    refine gv_ssub (t := 9) (s := s_0) (lo := (some (.int .i64 n6))) (hi := none) n6 ((ByteArray.size s_0 : Nat) : Int) x34 [] (fun e => by cases e) rfl rfl rfl (by kernel_rfl) (by kernel_rfl) Tryz.underlying9 (.inr ⟨_, rfl⟩) (.inl ⟨rfl, rfl⟩) hx35 rfl ?_
    refine pN 2 [2, 3] [(2, (.int .i64 j27)), (3, (.string x34))] ?_
    refine gv_nil <| gv_goA ?_
    refine gv_stageE (by kernel_rfl) ?_
    refine gv_cret ?_
    have e := sj h0; subst e
    refine gv_ret (gv_done [(.int .i64 j27), (.string x34)] rfl ⟨(by kernel_rfl), (by kernel_rfl), trivial⟩ ?_)
    have hB36 := bg hB30 hg33 nb
    exact ⟨grown_of_below hB36, rfl⟩

theorem packing_Parse_ok (fuel : Nat) (format_0 : ByteArray) (w0 : World) (X0 : Nat → Prop) (hX0 : ∀ k, X0 k → k < w0.heap.size) {erx : TypeId × Value} (hG4 : Rd eE w0 X0 (some ⟨4, 0, none⟩) 1 [erx]) (r0 : ((List (Int × Int × Bool)) × (Int × Int))) (h0 : packing_Parse fuel format_0 = some r0) :
    Calls Tryz.prog 29 ([(.string format_0)] : List Value).toArray w0 (Ret fun v w' => w0.grownBy w' none ∧ ∃ (a0_0r : Option Addr) (c0_0r : Nat), v = tup [(.slice a0_0r (length r0.1) c0_0r), (.agg #[(.int .i64 r0.2.1), (.int .i64 r0.2.2)])] ∧ Gv.Own (prE (iE .u8) (prE (iE .i64) tE)) 49 w' (fun _ => False) a0_0r c0_0r r0.1 ∧ (∀ g, blk a0_0r = some g → w0.heap.size ≤ g)) := by
 have hB0 : Below w0.heap.size w0 w0 := Below.refl _ _
 unfold packing_Parse at h0
 refine calls_run Tryz.func29 rfl Tryz.ntmps29 (by kernel_rfl) ?_
 refine gv_sub [0] (σ' := [(0, (.string format_0))]) (by kernel_rfl) ?_
 refine gv_seq <| gv_region <| pN 1 [2] [] ?_
 refine gv_new0 (fun b => .pointer (some ⟨b, 0, none⟩)) #[(.int .i64 0), (.int .i64 0)] 26 (by kernel_rfl) (by kernel_rfl) ?_
 intro b1 w2 hg3 hb4 hbe5 hz6
 refine gv_nil <| gv_seq <| gv_seq <| gv_region <| pN 3 [12, 13, 14] [(14, (.bool (decide (((ByteArray.size format_0 : Nat) : Int) > 60))))] ?_
 refine gv_nil <| gv_cond (b := (decide (((ByteArray.size format_0 : Nat) : Int) > 60))) (by kernel_rfl) (fun hc7 => ?_) (fun hc7 => ?_)
 ·replace h0 := ite_t hc7 h0
  refine gv_seq <| gv_region <| bindE h0 ?_; clear h0; intro r8 hr9 h0
  refine gv_call0 (by kernel_rfl) rfl (by kernel_rfl) enters16 (packing_at_ok fuel 3 (-1) w2  r8 hr9) ?_
  rintro v12 w10 ⟨hg11, rfl⟩
  refine pN 1 [2] [(2, (.slice none (length ([] : List (Int × Int × Bool))) 0))] ?_
  have hk17 := hb4.grown hg11 nb
  refine gv_store0 26 0 (.agg #[(.int .i64 r8.1), (.int .i64 r8.2)]) #[(.int .i64 r8.1), (.int .i64 r8.2)] hk17 (by kernel_rfl) (by kernel_rfl) (by kernel_rfl) ?_
  intro w13 hg14 hb15 hz16
  refine gv_nil <| gv_cret ?_
  have e := sj h0; subst e
  refine gv_ret (gv_done [(.slice none (length ([] : List (Int × Int × Bool))) 0), (.agg #[(.int .i64 r8.1), (.int .i64 r8.2)])] rfl ⟨(by kernel_rfl), ⟨⟨b1, 0, none⟩, (by kernel_rfl), run_loadVar_row w13 b1 _ 26 _ _ _ hb15 Tryz.underlying26 rfl (by kernel_rfl)⟩, trivial⟩ ?_)
  have hg18 := (grown_trans hg3 hg11)
  have hB19 := bg hB0 hg18 nb
  have hlo20 : w0.heap.size ≤ b1 := lob hbe5 hB0.size
  have hB21 := bg hB19 hg14 (rowlo hlo20)
  exact ⟨grown_of_below hB21, none, 0, rfl, (Gv.Own.nil (prE (iE .u8) (prE (iE .i64) tE)) 49 w13 (fun _ => False)), (fun _ h => by cases h)⟩
 ·replace h0 := ite_f hc7 h0
  refine gv_skip <| gv_seq <| gv_region <| pN 1 [16] [(16, (.string format_0))] ?_
  refine bindE h0 ?_; clear h0; intro r22 hr23 h0
  refine gv_call0 (by kernel_rfl) rfl (by kernel_rfl) enters54 (strings_HasPrefix_ok fuel format_0 (strOf [62]) w2  r22 hr23) ?_
  rintro v26 w24 ⟨hg25, rfl⟩
  refine pN 1 [4] [(4, (.bool r22))] ?_
  refine gv_nil <| gv_seq <| gv_seq <| gv_region <| bindE h0 ?_; clear h0; intro j27 h1 h0
  refine gv_cut_ops (J := fun a w28 => Below w0.heap.size w0 w28 ∧ w24.heap.size ≤ w28.heap.size ∧ Box w28 b1 26 #[(.int .i64 0), (.int .i64 0)] ∧ a.defers = [] ∧ a.tmps.size = 95 ∧ Ok [(0, (.string format_0)), (3, (bp b1)), (4, (.bool r22)), (22, (.bool j27))] a.tmps) ?_ ?_
  ·skip
   refine pN 2 [18, 19] [(19, (.bool r22))] ?_
   refine gv_split (s := 19) (g := r22) (by kernel_rfl) (fun hc29 => ?_) (fun hc29 => ?_)
   ·skip
    replace h1 := ite_t hc29 h1
    refine pN 3 [20, 21, 22] [(22, (.bool true))] ?_
    refine gv_nil ?_
    have e := sj h1; subst e
    refine gv_goal fun a hd hs hok => ?_
    have hg30 := (grown_trans hg3 hg25)
    have hB31 := bg hB0 hg30 nb
    have hk32 := hb4.grown hg25 nb
    exact ⟨hB31, nrf, hk32, hd, hs, okp [0, 3, 4, 22] hok⟩
   ·skip
    replace h1 := ite_f hc29 h1
    refine pN 1 [20] [(20, (.string format_0))] ?_
    refine bindE h1 ?_; clear h1; intro r33 hr34 h1
    refine gv_call0 (by kernel_rfl) rfl (by kernel_rfl) enters54 (strings_HasPrefix_ok fuel format_0 (strOf [60]) w24  r33 hr34) ?_
    rintro v37 w35 ⟨hg36, rfl⟩
    refine pN 1 [22] [(22, (.bool r33))] ?_
    refine gv_nil ?_
    have e := sj h1; subst e
    refine gv_goal fun a hd hs hok => ?_
    have hg38 := (grown_trans (grown_trans hg3 hg25) hg36)
    have hB39 := bg hB0 hg38 nb
    have hz40 := hg36.size
    have hg41 := (grown_trans hg25 hg36)
    have hk42 := hb4.grown hg41 nb
    exact ⟨hB39, hz40, hk42, hd, hs, okp [0, 3, 4, 22] hok⟩
  ·rintro a w28 ⟨hB43, hz44, hb45, hd, hs, hok⟩
   refine gv_in ?_ hd hs hok
   clear hd hs hok
   clear hz44 hg25 hr23 hc7 hz6 hb4 hg3
   refine bindE h0 ?_; clear h0; intro j46 h1 h0
   refine gv_cut_code (J := fun a w47 => Below w0.heap.size w0 w47 ∧ w28.heap.size ≤ w47.heap.size ∧ Box w47 b1 26 #[(.int .i64 0), (.int .i64 0)] ∧ a.defers = [] ∧ a.tmps.size = 95 ∧ Ok [(0, (.string j46)), (3, (bp b1)), (4, (.bool r22))] a.tmps) ?_ ?_
   ·skip
    refine gv_cond (b := j27) (by kernel_rfl) (fun hc48 => ?_) (fun hc48 => ?_)
    ·replace h1 := ite_t hc48 h1
     refine gv_region <| pN 1 [23] [(23, (.string format_0))] ?_
     refine bindE h1 ?_; clear h1; intro x49 hx50 h1
     refine gv_ssub (t := 9) (s := format_0) (lo := (some (.int .i64 1))) (hi := none) 1 ((ByteArray.size format_0 : Nat) : Int) x49 [] (fun e => by cases e) rfl rfl rfl (by kernel_rfl) (by kernel_rfl) Tryz.underlying9 (.inr ⟨_, rfl⟩) (.inl ⟨rfl, rfl⟩) hx50 rfl ?_
     refine pN 1 [0] [(0, (.string x49))] ?_
     refine gv_nil ?_
     have e := sj h1; subst e
     refine gv_goal fun a hd hs hok => ?_
     exact ⟨hB43, nrf, hb45, hd, hs, okp [0, 3, 4] hok⟩
    ·replace h1 := ite_f hc48 h1
     refine gv_skip ?_
     have e := sj h1; subst e
     refine gv_goal fun a hd hs hok => ?_
     exact ⟨hB43, nrf, hb45, hd, hs, okp [0, 3, 4] hok⟩
   ·rintro a w47 ⟨hB51, hz52, hb53, hd, hs, hok⟩
    refine gv_in ?_ hd hs hok
    clear hd hs hok
    refine gv_seq <| gv_region <| pN 1 [5] [(5, (.slice none (length ([] : List (Int × Int × Bool))) 0))] ?_
    refine gv_nil <| gv_seq <| gv_region <| pN 1 [6] [(6, (.bool false))] ?_
    refine gv_nil <| gv_seq <| bindE h0 ?_; clear h0; intro j54 h1 h0
    refine gv_cut_code (J := fun a w56 => ∃ s55 : ((List (Int × Int × Bool)) × Bool × (Int × Int)), j54 = .inl s55 ∧ ∃ (a5_0j : Option Addr) (c5_0j : Nat), Below w0.heap.size w0 w56 ∧ w47.heap.size ≤ w56.heap.size ∧ Gv.Own (prE (iE .u8) (prE (iE .i64) tE)) 49 w56 (fun _ => False) a5_0j c5_0j s55.1 ∧ (∀ g, blk a5_0j = some g → w0.heap.size ≤ g) ∧ (∀ g, blk a5_0j = some g → ¬ (· = b1) g) ∧ ¬ (fun k => blk a5_0j = some k) b1 ∧ Box w56 b1 26 #[(.int .i64 s55.2.2.1), (.int .i64 s55.2.2.2)] ∧ a.defers = [] ∧ a.tmps.size = 95 ∧ Ok [(3, (bp b1)), (5, (.slice a5_0j (length s55.1) c5_0j)), (6, (.bool s55.2.1))] a.tmps) ?_ ?_
    ·skip
     refine gv_block <| gv_loop (A := fun (s57 : (ByteArray × (List (Int × Int × Bool)) × Bool × (Int × Int))) a w58 => ∃ (a5_0j : Option Addr) (c5_0j : Nat), Below w0.heap.size w0 w58 ∧ w47.heap.size ≤ w58.heap.size ∧ Gv.Own (prE (iE .u8) (prE (iE .i64) tE)) 49 w58 (fun _ => False) a5_0j c5_0j s57.2.1 ∧ (∀ g, blk a5_0j = some g → w0.heap.size ≤ g) ∧ (∀ g, blk a5_0j = some g → ¬ (· = b1) g) ∧ ¬ (fun k => blk a5_0j = some k) b1 ∧ Box w58 b1 26 #[(.int .i64 s57.2.2.2.1), (.int .i64 s57.2.2.2.2)] ∧ a.defers = [] ∧ a.tmps.size = 95 ∧ Ok [(0, (.string s57.1)), (3, (bp b1)), (4, (.bool r22)), (5, (.slice a5_0j (length s57.2.1) c5_0j)), (6, (.bool s57.2.2.1))] a.tmps) h1 ?_ ?_
     ·intro a hd hs hok
      exact ⟨none, 0, hB51, nrf, (Gv.Own.nil (prE (iE .u8) (prE (iE .i64) tE)) 49 w47 (fun _ => False)), (fun _ h => by cases h), (fun _ h => by cases h), (fun h => by cases h), hb53, hd, hs, okp [0, 3, 4, 5, 6] hok⟩
     ·rintro s57 r2 h2 hR2 a w58 ⟨a61, c62, hB59, hz60, ho63, hl64, ap65, ap66, hb67, hd, hs, hok⟩
      refine gv_in ?_ hd hs hok
      clear hd hs hok
      clear hb53 hz52 hB51 hb45 hB43
      refine gv_seq <| gv_seq <| gv_region <| pN 2 [25, 26] [(26, (.bool (!(s57.1.toList == (strOf []).toList))))] ?_
      refine gv_nil <| gv_cond (b := (!(s57.1.toList == (strOf []).toList))) (by kernel_rfl) (fun hc68 => ?_) (fun hc68 => ?_)
      ·replace h2 := ite_t hc68 h2
       refine gv_skip <| gv_block <| gv_seq <| gv_region <| pN 1 [27] [(27, (.string s57.1))] ?_
       refine bindE h2 ?_; clear h2; intro x69 hx70 h2
       refine gv_sindex (t := 9) (s := s57.1) (kk := .i64) (i := 0) x69 [] (fun e => by cases e) rfl rfl rfl (by kernel_rfl) (by kernel_rfl) Tryz.underlying9 hx70 rfl ?_
       refine pN 2 [7, 29] [(7, (.bool (x69 == 48)))] ?_
       refine gv_nil <| gv_seq <| gv_region <| pN 1 [31] [(31, (.string s57.1))] ?_
       refine bindE h2 ?_; clear h2; intro r71 hr72 h2
       refine gv_call0 (by kernel_rfl) rfl (by kernel_rfl) enters55 (packing_number_ok fuel s57.1 w58 (fun k => X0 k) (fun k hk => (fun k (hk : X0 k) => ltl (hX0 k hk) hB59.size) k hk) ((hG4.below hB59 hX0).wide (fun k hk => hk)) r71 hr72) ?_
       rintro v75 w73 ⟨hg74, rfl⟩
       refine pN 5 [8, 9, 30, 33, 34] [(8, (.int .i64 r71.1)), (9, (.string r71.2))] ?_
       refine gv_nil <| gv_seq <| gv_seq <| gv_region <| bindE h2 ?_; clear h2; intro j76 h3 h2
       refine gv_cut_ops (J := fun a w77 => Below w0.heap.size w0 w77 ∧ w73.heap.size ≤ w77.heap.size ∧ Box w77 b1 26 #[(.int .i64 s57.2.2.2.1), (.int .i64 s57.2.2.2.2)] ∧ Gv.Own (prE (iE .u8) (prE (iE .i64) tE)) 49 w77 (fun _ => False) a61 c62 s57.2.1 ∧ a.defers = [] ∧ a.tmps.size = 95 ∧ Ok [(3, (bp b1)), (4, (.bool r22)), (5, (.slice a61 (length s57.2.1) c62)), (6, (.bool s57.2.2.1)), (8, (.int .i64 r71.1)), (9, (.string r71.2)), (53, (.bool j76))] a.tmps) ?_ ?_
       ·skip
        refine pN 3 [35, 36, 37] [(37, (.bool (r71.2.toList == (strOf []).toList)))] ?_
        refine gv_split (s := 37) (g := (r71.2.toList == (strOf []).toList)) (by kernel_rfl) (fun hc78 => ?_) (fun hc78 => ?_)
        ·skip
         replace h3 := ite_t hc78 h3
         refine pN 16 [38, 39, 40, 41, 42, 43, 44, 45, 46, 47, 48, 49, 50, 51, 52, 53] [(53, (.bool true))] ?_
         refine gv_nil ?_
         have e := sj h3; subst e
         refine gv_goal fun a hd hs hok => ?_
         have hB79 := bg hB59 hg74 nb
         have hk80 := hb67.grown hg74 nb
         have hk81 := ho63.grown hg74 (fun _ h => h.elim) nb
         exact ⟨hB79, nrf, hk80, hk81, hd, hs, okp [3, 4, 5, 6, 8, 9, 53] hok⟩
        ·skip
         replace h3 := ite_f hc78 h3
         refine pN 1 [38] [(38, (.string r71.2))] ?_
         refine bindE h3 ?_; clear h3; intro x82 hx83 h3
         refine gv_sindex (t := 9) (s := r71.2) (kk := .i64) (i := 0) x82 [] (fun e => by cases e) rfl rfl rfl (by kernel_rfl) (by kernel_rfl) Tryz.underlying9 hx83 rfl ?_
         refine bindE h3 ?_; clear h3; intro r84 hr85 h3
         refine gv_call0 (by kernel_rfl) rfl (by kernel_rfl) enters38 (strings_IndexByte_ok fuel (strOf [98, 66, 104, 72, 105, 73, 113, 81, 118, 115, 112, 120, 63]) x82 w73  r84 hr85) ?_
         rintro v88 w86 ⟨hg87, rfl⟩
         refine pN 3 [41, 42, 43] [(43, (.bool (decide (r84 < 0))))] ?_
         refine gv_split (s := 43) (g := (decide (r84 < 0))) (by kernel_rfl) (fun hc89 => ?_) (fun hc89 => ?_)
         ·skip
          replace h3 := ite_t hc89 h3
          refine pN 10 [44, 45, 46, 47, 48, 49, 50, 51, 52, 53] [(53, (.bool true))] ?_
          refine gv_nil ?_
          have e := sj h3; subst e
          refine gv_goal fun a hd hs hok => ?_
          have hg90 := (grown_trans hg74 hg87)
          have hB91 := bg hB59 hg90 nb
          have hz92 := hg87.size
          have hk93 := hb67.grown hg90 nb
          have hk94 := ho63.grown hg90 (fun _ h => h.elim) nb
          exact ⟨hB91, hz92, hk93, hk94, hd, hs, okp [3, 4, 5, 6, 8, 9, 53] hok⟩
         ·skip
          replace h3 := ite_f hc89 h3
          refine pN 2 [44, 45] [(45, (.bool (x69 == 48)))] ?_
          refine gv_split (s := 45) (g := (x69 == 48)) (by kernel_rfl) (fun hc95 => ?_) (fun hc95 => ?_)
          ·skip
           replace h3 := ite_t hc95 h3
           refine pN 8 [46, 47, 48, 49, 50, 51, 52, 53] [(53, (.bool (((ByteArray.size r71.2 : Nat) : Int) != (IntKind.i64.wrap (((ByteArray.size s57.1 : Nat) : Int) - 1)))))] ?_
           refine gv_sub [3, 4, 5, 6, 8, 9, 53] (σ' := [(3, (bp b1)), (4, (.bool r22)), (5, (.slice a61 (length s57.2.1) c62)), (6, (.bool s57.2.2.1)), (8, (.int .i64 r71.1)), (9, (.string r71.2)), (53, (.bool (((ByteArray.size r71.2 : Nat) : Int) != (IntKind.i64.wrap (((ByteArray.size s57.1 : Nat) : Int) - 1)))))]) (by kernel_rfl) ?_
           refine gv_nil ?_
           have e := sj h3; subst e
           refine gv_goal fun a hd hs hok => ?_
           have hg96 := (grown_trans hg74 hg87)
           have hB97 := bg hB59 hg96 nb
           have hz98 := hg87.size
           have hk99 := hb67.grown hg96 nb
           have hk100 := ho63.grown hg96 (fun _ h => h.elim) nb
           exact ⟨hB97, hz98, hk99, hk100, hd, hs, okp [3, 4, 5, 6, 8, 9, 53] hok⟩
          ·skip
           replace h3 := ite_f hc95 h3
           refine pN 8 [46, 47, 48, 49, 50, 51, 52, 53] [(53, (.bool false))] ?_
           refine gv_sub [3, 4, 5, 6, 8, 9, 53] (σ' := [(3, (bp b1)), (4, (.bool r22)), (5, (.slice a61 (length s57.2.1) c62)), (6, (.bool s57.2.2.1)), (8, (.int .i64 r71.1)), (9, (.string r71.2)), (53, (.bool false))]) (by kernel_rfl) ?_
           refine gv_nil ?_
           have e := sj h3; subst e
           refine gv_goal fun a hd hs hok => ?_
           have hg101 := (grown_trans hg74 hg87)
           have hB102 := bg hB59 hg101 nb
           have hz103 := hg87.size
           have hk104 := hb67.grown hg101 nb
           have hk105 := ho63.grown hg101 (fun _ h => h.elim) nb
           exact ⟨hB102, hz103, hk104, hk105, hd, hs, okp [3, 4, 5, 6, 8, 9, 53] hok⟩
       ·rintro a w77 ⟨hB106, hz107, hb108, hk109, hd, hs, hok⟩
        refine gv_in ?_ hd hs hok
        clear hd hs hok
        have hz110 := (nt (nt hz60 hg74.size) hz107)
        clear hz107 hg74 hr72 hx70 hc68 hb67 ho63 hz60 hB59
        refine gv_cond (b := j76) (by kernel_rfl) (fun hc111 => ?_) (fun hc111 => ?_)
        ·replace h2 := ite_t hc111 h2
         refine gv_seq <| gv_region <| bindE h2 ?_; clear h2; intro r112 hr113 h2
         refine gv_call0 (by kernel_rfl) rfl (by kernel_rfl) enters16 (packing_at_ok fuel 1 (-1) w77  r112 hr113) ?_
         rintro v116 w114 ⟨hg115, rfl⟩
         have hz117 := (nt hz110 hg115.size)
         clear hr113 hc111 hz110 hk109 ap66 ap65 hl64
         refine pN 1 [2] [(2, (.slice none (length ([] : List (Int × Int × Bool))) 0))] ?_
         have hk122 := hb108.grown hg115 nb
         refine gv_store0 26 0 (.agg #[(.int .i64 r112.1), (.int .i64 r112.2)]) #[(.int .i64 r112.1), (.int .i64 r112.2)] hk122 (by kernel_rfl) (by kernel_rfl) (by kernel_rfl) ?_
         intro w118 hg119 hb120 hz121
         refine gv_nil <| gv_cret ?_
         have e := sj h2; subst e
         replace h1 := congrArg some (hR2 _ rfl)
         have e := sj h1; subst e
         replace h0 := cont_inr h0
         have e := sj h0; subst e
         refine gv_ret (gv_done [(.slice none (length ([] : List (Int × Int × Bool))) 0), (.agg #[(.int .i64 r112.1), (.int .i64 r112.2)])] rfl ⟨(by kernel_rfl), ⟨⟨b1, 0, none⟩, (by kernel_rfl), run_loadVar_row w118 b1 _ 26 _ _ _ hb120 Tryz.underlying26 rfl (by kernel_rfl)⟩, trivial⟩ ?_)
         have hB123 := bg hB106 hg115 nb
         have hlo124 : w0.heap.size ≤ b1 := lob hbe5 hB0.size
         have hB125 := bg hB123 hg119 (rowlo hlo124)
         exact ⟨grown_of_below hB125, none, 0, rfl, (Gv.Own.nil (prE (iE .u8) (prE (iE .i64) tE)) 49 w118 (fun _ => False)), (fun _ h => by cases h)⟩
        ·replace h2 := ite_f hc111 h2
         refine gv_skip <| gv_seq <| gv_region <| pN 1 [55] [(55, (.string r71.2))] ?_
         refine bindE h2 ?_; clear h2; intro x126 hx127 h2
         refine gv_sindex (t := 9) (s := r71.2) (kk := .i64) (i := 0) x126 [] (fun e => by cases e) rfl rfl rfl (by kernel_rfl) (by kernel_rfl) Tryz.underlying9 hx127 rfl ?_
         refine pN 1 [10] [(10, (.int .u8 x126))] ?_
         refine gv_nil <| gv_seq <| gv_region <| pN 1 [57] [(57, (.string r71.2))] ?_
         refine bindE h2 ?_; clear h2; intro x128 hx129 h2
         refine gv_ssub (t := 9) (s := r71.2) (lo := (some (.int .i64 1))) (hi := none) 1 ((ByteArray.size r71.2 : Nat) : Int) x128 [] (fun e => by cases e) rfl rfl rfl (by kernel_rfl) (by kernel_rfl) Tryz.underlying9 (.inr ⟨_, rfl⟩) (.inl ⟨rfl, rfl⟩) hx129 rfl ?_
         refine pN 1 [0] [(0, (.string x128))] ?_
         refine gv_nil <| gv_seq <| gv_region <| gv_cut_ops (J := fun a w130 => w77 = w130 ∧ a.defers = [] ∧ a.tmps.size = 95 ∧ Ok [(0, (.string x128)), (3, (bp b1)), (4, (.bool r22)), (5, (.slice a61 (length s57.2.1) c62)), (6, (.bool (s57.2.2.1 || (decide (r71.1 > 100))))), (8, (.int .i64 r71.1)), (10, (.int .u8 x126))] a.tmps) ?_ ?_
         ·skip
          refine pN 2 [59, 60] [(60, (.bool s57.2.2.1))] ?_
          refine gv_split (s := 60) (g := s57.2.2.1) (by kernel_rfl) (fun hc131 => ?_) (fun hc131 => ?_)
          ·skip
           refine pN 4 [6, 61, 62, 63] [(6, (.bool true))] ?_
           refine gv_nil <| gv_sub [0, 3, 4, 5, 6, 8, 10] (σ' := [(0, (.string x128)), (3, (bp b1)), (4, (.bool r22)), (5, (.slice a61 (length s57.2.1) c62)), (6, (.bool true)), (8, (.int .i64 r71.1)), (10, (.int .u8 x126))]) (by kernel_rfl) ?_
           refine gv_goal fun a hd hs hok => ⟨rfl, hd, hs, ?_⟩
           obtain ⟨q0, q3, q4, q5, q6, q8, q10, _⟩ := hok
           exact ⟨q0, q3, q4, q5, (by rw [hc131]; exact q6), q8, q10, trivial⟩
          ·skip
           refine pN 4 [6, 61, 62, 63] [(6, (.bool (decide (r71.1 > 100))))] ?_
           refine gv_nil <| gv_sub [0, 3, 4, 5, 6, 8, 10] (σ' := [(0, (.string x128)), (3, (bp b1)), (4, (.bool r22)), (5, (.slice a61 (length s57.2.1) c62)), (6, (.bool (decide (r71.1 > 100)))), (8, (.int .i64 r71.1)), (10, (.int .u8 x126))]) (by kernel_rfl) ?_
           refine gv_goal fun a hd hs hok => ⟨rfl, hd, hs, ?_⟩
           obtain ⟨q0, q3, q4, q5, q6, q8, q10, _⟩ := hok
           exact ⟨q0, q3, q4, q5, (by rw [hc131]; exact q6), q8, q10, trivial⟩
         ·rintro a w130 ⟨e, hd, hs, hok⟩; subst e
          refine gv_in ?_ hd hs hok
          clear hd hs hok
          refine gv_seq <| gv_region <| pN 3 [64, 65, 66] [(66, (.agg #[(.int .u8 x126), (.int .i64 1), (.bool r22)]))] ?_
          refine gv_new0 (fun b => .pointer (some ⟨b, 0, none⟩)) #[(.int .u8 0), (.int .i64 0), (.bool false)] 49 (by kernel_rfl) (by kernel_rfl) ?_
          intro b132 w133 hg134 hb135 hbe136 hz137
          refine gv_store0 49 0 (.agg #[(.int .u8 x126), (.int .i64 1), (.bool r22)]) #[(.int .u8 x126), (.int .i64 1), (.bool r22)] hb135 (by kernel_rfl) (by kernel_rfl) (by kernel_rfl) ?_
          intro w138 hg139 hb140 hz141
          refine gv_nil <| gv_seq <| gv_seq <| gv_region <| pN 2 [67, 68] [(68, (.bool (decide (r71.1 < 0))))] ?_
          refine gv_nil <| bindE h2 ?_; clear h2; intro j142 h3 h2
          refine gv_cut_code (J := fun a w143 => Below w0.heap.size w0 w143 ∧ w138.heap.size ≤ w143.heap.size ∧ Box w143 b1 26 #[(.int .i64 s57.2.2.2.1), (.int .i64 s57.2.2.2.2)] ∧ Box w143 b132 49 #[(.int .u8 x126), (.int .i64 1), (.bool r22)] ∧ Gv.Own (prE (iE .u8) (prE (iE .i64) tE)) 49 w143 (fun _ => False) a61 c62 s57.2.1 ∧ a.defers = [] ∧ a.tmps.size = 95 ∧ Ok [(0, (.string x128)), (3, (bp b1)), (4, (.bool r22)), (5, (.slice a61 (length s57.2.1) c62)), (6, (.bool (s57.2.2.1 || (decide (r71.1 > 100))))), (8, (.int .i64 j142)), (10, (.int .u8 x126)), (11, (bp b132))] a.tmps) ?_ ?_
          ·skip
           refine gv_cond (b := (decide (r71.1 < 0))) (by kernel_rfl) (fun hc144 => ?_) (fun hc144 => ?_)
           ·replace h3 := ite_t hc144 h3
            refine gv_region <| pN 1 [8] [(8, (.int .i64 1))] ?_
            refine gv_nil ?_
            have e := sj h3; subst e
            refine gv_goal fun a hd hs hok => ?_
            have hB145 := bg hB106 hg134 nb
            have hlo146 : w0.heap.size ≤ b132 := lob hbe136 hB106.size
            have hB147 := bg hB145 hg139 (rowlo hlo146)
            have lt148 := ltl ((ltb hb108) _ rfl) ((lowb hbe136) _ rfl)
            have hk149 := (hb108.grown hg134 nb).grown hg139 (rowne (ng lt148))
            have ap150 : ¬ (fun k => blk a61 = some k) b132 := fun hx => nl ((lowb hbe136) _ rfl) ((fun k (hk : blk a61 = some k) => hk109.lt k hk) _ hx)
            have hk151 := (hk109.grown hg134 (fun _ h => h.elim) nb).grown hg139 (fun _ h => h.elim) (rdnn (rowne ap150))
            exact ⟨hB147, nrf, hk149, hb140, hk151, hd, hs, okp [0, 3, 4, 5, 6, 8, 10, 11] hok⟩
           ·replace h3 := ite_f hc144 h3
            refine gv_skip ?_
            have e := sj h3; subst e
            refine gv_goal fun a hd hs hok => ?_
            have hB152 := bg hB106 hg134 nb
            have hlo153 : w0.heap.size ≤ b132 := lob hbe136 hB106.size
            have hB154 := bg hB152 hg139 (rowlo hlo153)
            have lt155 := ltl ((ltb hb108) _ rfl) ((lowb hbe136) _ rfl)
            have hk156 := (hb108.grown hg134 nb).grown hg139 (rowne (ng lt155))
            have ap157 : ¬ (fun k => blk a61 = some k) b132 := fun hx => nl ((lowb hbe136) _ rfl) ((fun k (hk : blk a61 = some k) => hk109.lt k hk) _ hx)
            have hk158 := (hk109.grown hg134 (fun _ h => h.elim) nb).grown hg139 (fun _ h => h.elim) (rdnn (rowne ap157))
            exact ⟨hB154, nrf, hk156, hb140, hk158, hd, hs, okp [0, 3, 4, 5, 6, 8, 10, 11] hok⟩
          ·rintro a w143 ⟨hB159, hz160, hb161, hb162, hk163, hd, hs, hok⟩
           refine gv_in ?_ hd hs hok
           clear hd hs hok
           have hz164 := (nt (nt (nt hz110 hg134.size) hg139.size) hz160)
           clear hz160 hz141 hb140 hg139 hz137 hb135 hg134 hx129 hx127 hc111 hz110
           refine gv_seq <| gv_seq <| gv_region <| pN 1 [69] [(69, (.int .u8 x126))] ?_
           refine bindE h2 ?_; clear h2; intro r165 hr166 h2
           refine gv_call0 (by kernel_rfl) rfl (by kernel_rfl) enters39 (packing_counted_ok fuel x126 w143  r165 hr166) ?_
           rintro v169 w167 ⟨hg168, rfl⟩
           refine gv_nil <| bindE h2 ?_; clear h2; intro j170 h3 h2
           refine gv_cut_code (J := fun a w171 => Below w0.heap.size w0 w171 ∧ w167.heap.size ≤ w171.heap.size ∧ Box w171 b1 26 #[(.int .i64 s57.2.2.2.1), (.int .i64 s57.2.2.2.2)] ∧ Box w171 b132 49 #[(.int .u8 j170.2.1), (.int .i64 j170.2.2.1), (.bool j170.2.2.2)] ∧ Gv.Own (prE (iE .u8) (prE (iE .i64) tE)) 49 w171 (fun _ => False) a61 c62 s57.2.1 ∧ a.defers = [] ∧ a.tmps.size = 95 ∧ Ok [(0, (.string x128)), (3, (bp b1)), (4, (.bool r22)), (5, (.slice a61 (length s57.2.1) c62)), (6, (.bool (s57.2.2.1 || (decide (r71.1 > 100))))), (8, (.int .i64 j170.1)), (11, (bp b132))] a.tmps) ?_ ?_
           ·skip
            refine gv_cond (b := r165) (by kernel_rfl) (fun hc172 => ?_) (fun hc172 => ?_)
            ·replace h3 := ite_t hc172 h3
             refine gv_region <| pN 2 [71, 72] [(71, (.int .i64 j142)), (72, (.pointer (some ⟨b132, 1, none⟩)))] ?_
             have hk177 := hb162.grown hg168 nb
             refine gv_store0 3 1 (.int .i64 j142) #[(.int .u8 x126), (.int .i64 j142), (.bool r22)] hk177 (by kernel_rfl) (by kernel_rfl) (by kernel_rfl) ?_
             intro w173 hg174 hb175 hz176
             refine pN 1 [8] [(8, (.int .i64 1))] ?_
             refine gv_nil ?_
             have e := sj h3; subst e
             refine gv_goal fun a hd hs hok => ?_
             have hB178 := bg hB159 hg168 nb
             have hlo179 : w0.heap.size ≤ b132 := lob hbe136 hB106.size
             have hB180 := bg hB178 hg174 (rowlo hlo179)
             have hz181 := hg174.size
             have lt182 := ltl ((ltb hb108) _ rfl) ((lowb hbe136) _ rfl)
             have hk183 := (hb161.grown hg168 nb).grown hg174 (rowne (ng lt182))
             have ap184 : ¬ (fun k => blk a61 = some k) b132 := fun hx => nl ((lowb hbe136) _ rfl) ((fun k (hk : blk a61 = some k) => hk109.lt k hk) _ hx)
             have hk185 := (hk163.grown hg168 (fun _ h => h.elim) nb).grown hg174 (fun _ h => h.elim) (rdnn (rowne ap184))
             exact ⟨hB180, hz181, hk183, hb175, hk185, hd, hs, okp [0, 3, 4, 5, 6, 8, 11] hok⟩
            ·replace h3 := ite_f hc172 h3
             refine gv_skip ?_
             have e := sj h3; subst e
             refine gv_goal fun a hd hs hok => ?_
             have hB186 := bg hB159 hg168 nb
             have hk187 := hb161.grown hg168 nb
             have hk188 := hb162.grown hg168 nb
             have hk189 := hk163.grown hg168 (fun _ h => h.elim) nb
             exact ⟨hB186, nrf, hk187, hk188, hk189, hd, hs, okp [0, 3, 4, 5, 6, 8, 11] hok⟩
           ·rintro a w171 ⟨hB190, hz191, hb192, hb193, hk194, hd, hs, hok⟩
            refine gv_in ?_ hd hs hok
            clear hd hs hok
            have hz195 := (nt (nt hz164 hg168.size) hz191)
            clear hz191 hg168 hr166 hz164 hk163 hb162 hb161 hB159
            refine gv_seq <| gv_region <| pN 3 [73, 74, 75] [(74, (.int .i64 (if 101 < j170.1 then 101 else j170.1))), (75, (.int .i64 0))] ?_
            refine gv_nil <| bindE h2 ?_; clear h2; intro j196 h3 h2
            refine gv_cut_code (J := fun a w197 => ∃ (a5_0j : Option Addr) (c5_0j : Nat), Below w0.heap.size w0 w197 ∧ w171.heap.size ≤ w197.heap.size ∧ Gv.Own (prE (iE .u8) (prE (iE .i64) tE)) 49 w197 (fun _ => False) a5_0j c5_0j j196 ∧ (∀ g, blk a5_0j = some g → w0.heap.size ≤ g) ∧ (∀ g, blk a5_0j = some g → ¬ (· = b1) g) ∧ ¬ (fun k => blk a5_0j = some k) b1 ∧ Box w197 b1 26 #[(.int .i64 s57.2.2.2.1), (.int .i64 s57.2.2.2.2)] ∧ a.defers = [] ∧ a.tmps.size = 95 ∧ Ok [(0, (.string x128)), (3, (bp b1)), (4, (.bool r22)), (5, (.slice a5_0j (length j196) c5_0j)), (6, (.bool (s57.2.2.1 || (decide (r71.1 > 100)))))] a.tmps) ?_ ?_
            ·skip
             refine gv_block <| gv_loop (A := fun (s198 : ((List (Int × Int × Bool)) × Int)) a w199 => ∃ (a5_0j : Option Addr) (c5_0j : Nat), Below w0.heap.size w0 w199 ∧ w171.heap.size ≤ w199.heap.size ∧ Gv.Own (prE (iE .u8) (prE (iE .i64) tE)) 49 w199 (fun _ => False) a5_0j c5_0j s198.1 ∧ (∀ g, blk a5_0j = some g → w0.heap.size ≤ g) ∧ (∀ g, blk a5_0j = some g → ¬ (· = b1) g) ∧ (∀ g, blk a5_0j = some g → ¬ (· = b132) g) ∧ ¬ (fun k => blk a5_0j = some k) b1 ∧ ¬ (fun k => blk a5_0j = some k) b132 ∧ Box w199 b1 26 #[(.int .i64 s57.2.2.2.1), (.int .i64 s57.2.2.2.2)] ∧ Box w199 b132 49 #[(.int .u8 j170.2.1), (.int .i64 j170.2.2.1), (.bool j170.2.2.2)] ∧ a.defers = [] ∧ a.tmps.size = 95 ∧ Ok [(0, (.string x128)), (3, (bp b1)), (4, (.bool r22)), (5, (.slice a5_0j (length s198.1) c5_0j)), (6, (.bool (s57.2.2.1 || (decide (r71.1 > 100))))), (11, (bp b132)), (74, (.int .i64 (if 101 < j170.1 then 101 else j170.1))), (75, (.int .i64 s198.2))] a.tmps) h3 ?_ ?_
             ·intro a hd hs hok
              have ap200 : ∀ g, blk a61 = some g → ¬ (· = b132) g := fun g e hx => nl ((lowb hbe136) _ hx) ((fun k (hk : blk a61 = some k) => hk109.lt k hk) g e)
              have ap201 : ¬ (fun k => blk a61 = some k) b132 := fun hx => nl ((lowb hbe136) _ rfl) ((fun k (hk : blk a61 = some k) => hk109.lt k hk) _ hx)
              exact ⟨a61, c62, hB190, nrf, hk194, hl64, ap65, ap200, ap66, ap201, hb192, hb193, hd, hs, okp [0, 3, 4, 5, 6, 11, 74, 75] hok⟩
             ·rintro s198 r4 h4 hR4 a w199 ⟨a204, c205, hB202, hz203, ho206, hl207, ap208, ap209, ap210, ap211, hb212, hb213, hd, hs, hok⟩
              refine gv_in ?_ hd hs hok
              clear hd hs hok
              clear hk194 hb193 hb192 hB190 hk109 ap66 ap65 hl64
              refine gv_seq <| gv_region <| pN 1 [76] [(76, (.bool (decide (s198.2 < (if 101 < j170.1 then 101 else j170.1)))))] ?_
              refine gv_nil <| gv_seq <| gv_cond (b := (decide (s198.2 < (if 101 < j170.1 then 101 else j170.1)))) (by kernel_rfl) (fun hc214 => ?_) (fun hc214 => ?_)
              ·replace h4 := ite_t hc214 h4
               refine gv_skip <| gv_seq <| gv_block <| gv_seq <| gv_region <| pN 3 [77, 78, 79] [(79, (.bool (decide (((length s198.1 : Nat) : Int) ≤ 100))))] ?_
               refine gv_nil <| bindE h4 ?_; clear h4; intro j215 h5 h4
               refine gv_cut_code (J := fun a w216 => ∃ (a5_0j : Option Addr) (c5_0j : Nat), Below w0.heap.size w0 w216 ∧ w199.heap.size ≤ w216.heap.size ∧ Gv.Own (prE (iE .u8) (prE (iE .i64) tE)) 49 w216 (fun _ => False) a5_0j c5_0j j215 ∧ (∀ g, blk a5_0j = some g → w0.heap.size ≤ g) ∧ (∀ g, blk a5_0j = some g → ¬ (· = b1) g) ∧ (∀ g, blk a5_0j = some g → ¬ (· = b132) g) ∧ ¬ (fun k => blk a5_0j = some k) b1 ∧ ¬ (fun k => blk a5_0j = some k) b132 ∧ Box w216 b1 26 #[(.int .i64 s57.2.2.2.1), (.int .i64 s57.2.2.2.2)] ∧ Box w216 b132 49 #[(.int .u8 j170.2.1), (.int .i64 j170.2.2.1), (.bool j170.2.2.2)] ∧ a.defers = [] ∧ a.tmps.size = 95 ∧ Ok [(0, (.string x128)), (3, (bp b1)), (4, (.bool r22)), (5, (.slice a5_0j (length j215) c5_0j)), (6, (.bool (s57.2.2.1 || (decide (r71.1 > 100))))), (11, (bp b132)), (74, (.int .i64 (if 101 < j170.1 then 101 else j170.1))), (75, (.int .i64 s198.2))] a.tmps) ?_ ?_
               ·skip
                refine gv_cond (b := (decide (((length s198.1 : Nat) : Int) ≤ 100))) (by kernel_rfl) (fun hc217 => ?_) (fun hc217 => ?_)
                ·replace h5 := ite_t hc217 h5
                 refine gv_region <| pN 1 [80] [(80, (.slice a204 (length s198.1) c205))] ?_
                 refine gv_loadBox (t := 49) (b := b132) (t' := 49) (fr := (0, 0)) #[(.int .u8 j170.2.1), (.int .i64 j170.2.2.1), (.bool j170.2.2.2)] [] (fun e => by cases e) rfl rfl rfl (by kernel_rfl) (by kernel_rfl) (by kernel_rfl) (by kernel_rfl) (inw0 hb213) rfl ?_
                 refine gv_new0 (fun b => .slice (some ⟨b, 0, none⟩) 1 1) #[(.int .u8 j170.2.1), (.int .i64 j170.2.2.1), (.bool j170.2.2.2)] 49 (by kernel_rfl) (by kernel_rfl) ?_
                 intro b218 w219 hg220 hb221 hbe222 hz223
                 have ho224 : Gv.Own (prE (iE .u8) (prE (iE .i64) tE)) 49 w219 (fun _ => False) (some ⟨b218, 0, none⟩) 1 ([(j170.2.1, j170.2.2.1, j170.2.2.2)] : List (Int × Int × Bool)) := Box.ownE hb221 ⟨[(.int .u8 j170.2.1), (.int .i64 j170.2.2.1), (.bool j170.2.2.2)], [], rfl, ⟨[(.int .u8 j170.2.1)], [(.int .i64 j170.2.2.1), (.bool j170.2.2.2)], rfl, rfl, ⟨[(.int .i64 j170.2.2.1)], [(.bool j170.2.2.2)], rfl, rfl, rfl⟩⟩, rfl⟩ (show 1 ≤ maxLen by decide) (fun h => h)
                 have hl225 : ∀ g, blk (some ⟨b218, 0, none⟩) = some g → w0.heap.size ≤ g := loo hbe222 hB202.size
                 refine bindE h5 ?_; clear h5; intro l229 hx230 h5
                 have hk237 := ho206.grown hg220 (fun _ h => h.elim) nb
                 refine gv_append (prE (iE .u8) (prE (iE .i64) tE)) (t := 22) (ty := 22) (e := 49) (a := a204) (ax := (some ⟨b218, 0, none⟩)) (cap := c205) (cx := 1) (xs := s198.1) (ys := ([(j170.2.1, j170.2.2.1, j170.2.2.2)] : List (Int × Int × Bool))) l229 (X := (fun _ => False)) (Y := (fun k => blk (some ⟨b218, 0, none⟩) = some k)) (by decide) rfl rfl (by kernel_rfl) (by kernel_rfl) Tryz.underlying22 info49 hk237 (ho224.rd (Y := fun k => blk (some ⟨b218, 0, none⟩) = some k) (fun _ h => h.elim) (fun g e => e)) hx230 (.inr (rf_pr rf_flat (rf_pr rf_flat rf_flat))) (fun _ h => h.elim) ?_
                 intro a231 c232 w233 hg234 ho235 hk236
                 refine ⟨(fun e => by cases e), ?_⟩
                 have hB239 := bg hB202 hg220 nb
                 have hl238 : ∀ g, blk a231 = some g → w0.heap.size ≤ g := blk_step hk236 hl207 hB239.size
                 have hk241 := hb212.grown hg220 nb
                 have ap240 : ∀ g, blk a231 = some g → ¬ (· = b1) g := blk_neX hk236 ap208 (ltb hk241)
                 have ap242 : ¬ (fun k => blk a231 = some k) b1 := fun h => blk_rev hk236 (fun h => (ap210) h) (hk241.lt) h
                 have hk244 := hb213.grown hg220 nb
                 have ap243 : ∀ g, blk a231 = some g → ¬ (· = b132) g := blk_neX hk236 ap209 (ltb hk244)
                 have ap245 : ¬ (fun k => blk a231 = some k) b132 := fun h => blk_rev hk236 (fun h => (ap211) h) (hk244.lt) h
                 have ap247 : ∀ g, blk a204 = some g → ¬ (fun k => blk (some ⟨b218, 0, none⟩) = some k) g := fun g e hx => nl ((lowo hbe222) _ hx) ((fun k (hk : blk a204 = some k) => ho206.lt k hk) g e)
                 have ap246 : ∀ g, blk a231 = some g → ¬ (fun k => blk (some ⟨b218, 0, none⟩) = some k) g := blk_neX hk236 ap247 (fun k (hk : blk (some ⟨b218, 0, none⟩) = some k) => ho224.lt k hk)
                 have ap249 : ∀ g, blk (some ⟨b218, 0, none⟩) = some g → ¬ (fun k => blk a204 = some k) g := fun g e hx => nl ((lowo hbe222) g e) ((fun k (hk : blk a204 = some k) => ho206.lt k hk) _ hx)
                 have ap248 : ∀ g, blk (some ⟨b218, 0, none⟩) = some g → ¬ (fun k => blk a231 = some k) g := fun g e h => blk_rev hk236 (fun h => ((ap249) g e) h) (ho224.lt g e) h
                 refine pN 1 [5] [(5, (.slice a231 (length l229) c232))] ?_
                 refine gv_nil ?_
                 have e := sj h5; subst e
                 refine gv_goal fun a hd hs hok => ?_
                 have hB250 := bg hB239 hg234 hl207
                 have hz251 := (nt hg220.size hg234.size)
                 have hk252 := hk241.grown hg234 ap208
                 have hk253 := hk244.grown hg234 ap209
                 exact ⟨a231, c232, hB250, hz251, ho235, hl238, ap240, ap243, ap242, ap245, hk252, hk253, hd, hs, okp [0, 3, 4, 5, 6, 11, 74, 75] hok⟩
                ·replace h5 := ite_f hc217 h5
                 refine gv_skip ?_
                 have e := sj h5; subst e
                 refine gv_goal fun a hd hs hok => ?_
                 exact ⟨a204, c205, hB202, nrf, ho206, hl207, ap208, ap209, ap210, ap211, hb212, hb213, hd, hs, okp [0, 3, 4, 5, 6, 11, 74, 75] hok⟩
               ·rintro a w216 ⟨a256, c257, hB254, hz255, ho258, hl259, ap260, ap261, ap262, ap263, hb264, hb265, hd, hs, hok⟩
                refine gv_in ?_ hd hs hok
                clear hd hs hok
                have hz266 := (nt hz203 hz255)
                clear hz255 hc214 hb213 hb212 ap211 ap210 ap209 ap208 hl207 ho206 hz203 hB202
                refine gv_blk <| gv_region <| pN 2 [75, 84] [(75, (.int .i64 (IntKind.i64.wrap (s198.2 + 1))))] ?_
                refine gv_nil ?_
                have e := sj h4; subst e
                refine gv_goal fun a hd hs hok => ?_
                have hz267 := hz266
                exact ⟨(j215, (IntKind.i64.wrap (s198.2 + 1))), rfl, a256, c257, hB254, hz267, ho258, hl259, ap260, ap261, ap262, ap263, hb264, hb265, hd, hs, okp [0, 3, 4, 5, 6, 11, 74, 75] hok⟩
              ·replace h4 := ite_f hc214 h4
               refine gv_cexit <| gv_exit rfl ?_
               have e := sj h4; subst e
               replace h3 := congrArg some (hR4 _ rfl)
               have e := sj h3; subst e
               refine gv_goal fun a hd hs hok => ?_
               have hz268 := hz203
               exact ⟨a204, c205, hB202, hz268, ho206, hl207, ap208, ap210, hb212, hd, hs, okp [0, 3, 4, 5, 6] hok⟩
            ·rintro a w197 ⟨a271, c272, hB269, hz270, ho273, hl274, ap275, ap276, hb277, hd, hs, hok⟩
             refine gv_in ?_ hd hs hok
             clear hd hs hok
             have hz278 := (nt hz195 hz270)
             clear hz270 hz195 hk194 hb193 hb192 hB190 hbe136 hk109 hb108 hB106 ap66 ap65 hl64
             refine gv_blk ?_
             have e := sj h2; subst e
             refine gv_goal fun a hd hs hok => ?_
             have hz279 := hz278
             exact ⟨(x128, j196, (s57.2.2.1 || (decide (r71.1 > 100))), (s57.2.2.2.1, s57.2.2.2.2)), rfl, a271, c272, hB269, hz279, ho273, hl274, ap275, ap276, hb277, hd, hs, okp [0, 3, 4, 5, 6] hok⟩
      ·replace h2 := ite_f hc68 h2
       refine gv_cexit <| gv_exit rfl ?_
       have e := sj h2; subst e
       replace h1 := congrArg some (hR2 _ rfl)
       have e := sj h1; subst e
       refine gv_goal fun a hd hs hok => ?_
       have hz280 := hz60
       exact ⟨(s57.2.1, s57.2.2.1, (s57.2.2.2.1, s57.2.2.2.2)), rfl, a61, c62, hB59, hz280, ho63, hl64, ap65, ap66, hb67, hd, hs, okp [3, 5, 6] hok⟩
    ·rintro a w56 ⟨s55, e, a283, c284, hB281, hz282, ho285, hl286, ap287, ap288, hb289, hd, hs, hok⟩
     subst e
     refine gv_in ?_ hd hs hok
     clear hd hs hok
     replace h0 := cont_inl h0
     clear hz282 hb53 hz52 hB51 hb45 hB43
     refine gv_seq <| gv_block <| gv_seq <| gv_region <| pN 2 [85, 86] [(85, (.bool s55.2.1))] ?_
     refine gv_nil <| gv_cond (b := s55.2.1) (by kernel_rfl) (fun hc290 => ?_) (fun hc290 => ?_)
     ·replace h0 := ite_t hc290 h0
      refine gv_seq <| gv_region <| bindE h0 ?_; clear h0; intro r291 hr292 h0
      refine gv_call0 (by kernel_rfl) rfl (by kernel_rfl) enters16 (packing_at_ok fuel 4 (-1) w56  r291 hr292) ?_
      rintro v295 w293 ⟨hg294, rfl⟩
      clear hr292 hc290 ap288 ap287 hl286 ho285
      refine pN 1 [2] [(2, (.slice none (length ([] : List (Int × Int × Bool))) 0))] ?_
      have hk300 := hb289.grown hg294 nb
      refine gv_store0 26 0 (.agg #[(.int .i64 r291.1), (.int .i64 r291.2)]) #[(.int .i64 r291.1), (.int .i64 r291.2)] hk300 (by kernel_rfl) (by kernel_rfl) (by kernel_rfl) ?_
      intro w296 hg297 hb298 hz299
      refine gv_nil <| gv_cret ?_
      have e := sj h0; subst e
      refine gv_ret (gv_done [(.slice none (length ([] : List (Int × Int × Bool))) 0), (.agg #[(.int .i64 r291.1), (.int .i64 r291.2)])] rfl ⟨(by kernel_rfl), ⟨⟨b1, 0, none⟩, (by kernel_rfl), run_loadVar_row w296 b1 _ 26 _ _ _ hb298 Tryz.underlying26 rfl (by kernel_rfl)⟩, trivial⟩ ?_)
      have hB301 := bg hB281 hg294 nb
      have hlo302 : w0.heap.size ≤ b1 := lob hbe5 hB0.size
      have hB303 := bg hB301 hg297 (rowlo hlo302)
      exact ⟨grown_of_below hB303, none, 0, rfl, (Gv.Own.nil (prE (iE .u8) (prE (iE .i64) tE)) 49 w296 (fun _ => False)), (fun _ h => by cases h)⟩
     ·replace h0 := ite_f hc290 h0
      refine gv_seq <| gv_region <| pN 4 [88, 89, 90, 91] [(88, (.bool (decide (((length s55.1 : Nat) : Int) > 100))))] ?_
      refine bindE h0 ?_; clear h0; intro n304 hn305 h0
      refine gv_name (s := 88) (v := (.bool (decide (((length s55.1 : Nat) : Int) > 100)))) (v' := (.bool n304)) (by kernel_rfl) (congrArg (Value.bool) (sj hn305)) ?_
      refine gv_nil <| gv_cond (b := n304) (by kernel_rfl) (fun hc306 => ?_) (fun hc306 => ?_)
      ·replace h0 := ite_t hc306 h0
       refine gv_seq <| gv_region <| bindE h0 ?_; clear h0; intro r307 hr308 h0
       refine gv_call0 (by kernel_rfl) rfl (by kernel_rfl) enters16 (packing_at_ok fuel 2 (-1) w56  r307 hr308) ?_
       rintro v311 w309 ⟨hg310, rfl⟩
       refine pN 1 [2] [(2, (.slice none (length ([] : List (Int × Int × Bool))) 0))] ?_
       have hk316 := hb289.grown hg310 nb
       refine gv_store0 26 0 (.agg #[(.int .i64 r307.1), (.int .i64 r307.2)]) #[(.int .i64 r307.1), (.int .i64 r307.2)] hk316 (by kernel_rfl) (by kernel_rfl) (by kernel_rfl) ?_
       intro w312 hg313 hb314 hz315
       refine gv_nil <| gv_cret ?_
       have e := sj h0; subst e
       refine gv_ret (gv_done [(.slice none (length ([] : List (Int × Int × Bool))) 0), (.agg #[(.int .i64 r307.1), (.int .i64 r307.2)])] rfl ⟨(by kernel_rfl), ⟨⟨b1, 0, none⟩, (by kernel_rfl), run_loadVar_row w312 b1 _ 26 _ _ _ hb314 Tryz.underlying26 rfl (by kernel_rfl)⟩, trivial⟩ ?_)
       have hB317 := bg hB281 hg310 nb
       have hlo318 : w0.heap.size ≤ b1 := lob hbe5 hB0.size
       have hB319 := bg hB317 hg313 (rowlo hlo318)
       exact ⟨grown_of_below hB319, none, 0, rfl, (Gv.Own.nil (prE (iE .u8) (prE (iE .i64) tE)) 49 w312 (fun _ => False)), (fun _ h => by cases h)⟩
      ·replace h0 := ite_f hc306 h0
       refine gv_skip <| gv_blk <| gv_seq <| gv_region <| pN 3 [2, 93, 94] [(2, (.slice a283 (length s55.1) c284)), (94, (.agg #[(.int .i64 0), (.int .i64 0)]))] ?_
       refine gv_store0 26 0 (.agg #[(.int .i64 0), (.int .i64 0)]) #[(.int .i64 0), (.int .i64 0)] hb289 (by kernel_rfl) (by kernel_rfl) (by kernel_rfl) ?_
       intro w320 hg321 hb322 hz323
       refine gv_nil <| gv_cret ?_
       have e := sj h0; subst e
       refine gv_ret (gv_done [(.slice a283 (length s55.1) c284), (.agg #[(.int .i64 0), (.int .i64 0)])] rfl ⟨(by kernel_rfl), ⟨⟨b1, 0, none⟩, (by kernel_rfl), run_loadVar_row w320 b1 _ 26 _ _ _ hb322 Tryz.underlying26 rfl (by kernel_rfl)⟩, trivial⟩ ?_)
       have hlo324 : w0.heap.size ≤ b1 := lob hbe5 hB0.size
       have hB325 := bg hB281 hg321 (rowlo hlo324)
       have hk326 := ho285.grown hg321 (fun _ h => h.elim) (rdnn (rowne ap288))
       exact ⟨grown_of_below hB325, a283, c284, rfl, hk326, hl286⟩

theorem law4_whole_ok (fuel : Nat) (n_0 : Int) (w0 : World)  (r0 : (Int × (Bool × (List Int)) × (Bool × (List Int)) × ByteArray × Int)) (h0 : law4_whole fuel n_0 = some r0) :
    Calls Tryz.prog 30 ([(.int .i64 n_0)] : List Value).toArray w0 (Ret fun v w' => w0.grownBy w' none ∧ ∃ (a0_0r : Option Addr) (c0_0r : Nat), ∃ (a0_1r : Option Addr) (c0_1r : Nat), v = tup [(.agg #[(.int .i64 r0.1), (.bool r0.2.1.1), (.slice a0_0r (length r0.2.1.2) c0_0r), (.bool r0.2.2.1.1), (.slice a0_1r (length r0.2.2.1.2) c0_1r), (.string r0.2.2.2.1), (.int .i64 r0.2.2.2.2)])] ∧ Gv.Own (iE .u32) 107 w' (fun _ => False) a0_0r c0_0r r0.2.1.2 ∧ (∀ g, blk a0_0r = some g → w0.heap.size ≤ g) ∧ Gv.Own (iE .u32) 107 w' (fun _ => False) a0_1r c0_1r r0.2.2.1.2 ∧ (∀ g, blk a0_1r = some g → w0.heap.size ≤ g) ∧ (∀ g, blk a0_0r = some g → blk a0_1r ≠ some g)) := by
 have hB0 : Below w0.heap.size w0 w0 := Below.refl _ _
 unfold law4_whole at h0
 refine calls_run Tryz.func30 rfl Tryz.ntmps30 (by kernel_rfl) ?_
 refine gv_sub [0] (σ' := [(0, (.int .i64 n_0))]) (by kernel_rfl) ?_
 refine gv_seq <| gv_region <| gv_new0 (fun b => .pointer (some ⟨b, 0, none⟩)) #[(.int .i64 0), (.bool false), (.slice none (length ([] : List Int)) 0), (.bool false), (.slice none (length ([] : List Int)) 0), (.string (strOf [])), (.int .i64 0)] 41 (by kernel_rfl) (by kernel_rfl) ?_
 intro b1 w2 hg3 hb4 hbe5 hz6
 refine gv_nil <| gv_seq <| gv_region <| pN 1 [3] [(3, (.int .i64 n_0))] ?_
 refine bindE h0 ?_; clear h0; intro r7 hr8 h0
 refine gv_call0 (by kernel_rfl) rfl (by kernel_rfl) enters56 (integer_Of_ok fuel n_0 w2  r7 hr8) ?_
 rintro v11 w9 ⟨hg10, a12, c13, rfl, ho14, hl15⟩
 have hB17 := bg hB0 hg3 nb
 have hl16 : ∀ g, blk a12 = some g → w0.heap.size ≤ g := fun g e => Nat.le_trans hB17.size (hl15 g e)
 refine pN 1 [5] [(5, (.agg #[(.int .i64 2), (.bool r7.1), (.slice a12 (length r7.2) c13), (.bool false), (.slice none (length ([] : List Int)) 0), (.string (strOf [])), (.int .i64 0)]))] ?_
 have hk22 := hb4.grown hg10 nb
 refine gv_store0 41 0 (.agg #[(.int .i64 2), (.bool r7.1), (.slice a12 (length r7.2) c13), (.bool false), (.slice none (length ([] : List Int)) 0), (.string (strOf [])), (.int .i64 0)]) #[(.int .i64 2), (.bool r7.1), (.slice a12 (length r7.2) c13), (.bool false), (.slice none (length ([] : List Int)) 0), (.string (strOf [])), (.int .i64 0)] hk22 (by kernel_rfl) (by kernel_rfl) (by kernel_rfl) ?_
 intro w18 hg19 hb20 hz21
 refine gv_nil <| gv_cret ?_
 have e := sj h0; subst e
 refine gv_ret (gv_done [(.agg #[(.int .i64 2), (.bool r7.1), (.slice a12 (length r7.2) c13), (.bool false), (.slice none (length ([] : List Int)) 0), (.string (strOf [])), (.int .i64 0)])] rfl ⟨⟨⟨b1, 0, none⟩, (by kernel_rfl), run_loadVar_row w18 b1 _ 41 _ _ _ hb20 Tryz.underlying41 rfl (by kernel_rfl)⟩, trivial⟩ ?_)
 have hB23 := bg hB17 hg10 nb
 have hlo24 : w0.heap.size ≤ b1 := lob hbe5 hB0.size
 have hB25 := bg hB23 hg19 (rowlo hlo24)
 have ap26 : ¬ (fun k => blk a12 = some k) b1 := fun hx => nl ((show ∀ k, blk a12 = some k → w2.heap.size ≤ k from hl15) _ hx) ((ltb hb4) _ rfl)
 have hk27 := ho14.grown hg19 (fun _ h => h.elim) (rdnn (rowne ap26))
 exact ⟨grown_of_below hB25, a12, c13, none, 0, rfl, hk27, hl16, (Gv.Own.nil (iE .u32) 107 w18 (fun _ => False)), (fun _ h => by cases h), (fun _ _ h => by cases h)⟩

end Go.Proofs.YtdpmkphjcjacfaaGreatDoor
