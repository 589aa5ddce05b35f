import Derived.Test.YtlclmpegnkomcaaDoorP0
set_option linter.all false
set_option maxHeartbeats 4000000
set_option maxRecDepth 100000
/- Own work, printed by a program of mine: the walk of each function: a call returns what the plain function says. -/
namespace Go.Proofs.YtlclmpegnkomcaaDoor
open Go.Gv Go.Gv.D Go.RowKit
theorem law4_BytestrTranslates_ok (fuel : Nat) (pa0_0 : Option Addr) (pc0_0 : Nat) (b_0 : (List UInt8)) (pa1_0 : Option Addr) (pc1_0 : Nat) (from_1 : (List UInt8)) (pa2_0 : Option Addr) (pc2_0 : Nat) (to_2 : (List UInt8)) (pa3_0 : Option Addr) (pc3_0 : Nat) (drop_3 : (List UInt8)) (pa4_0 : Option Addr) (pc4_0 : Nat) (l_4 : (List (List UInt8))) (w0 : World) (X0 : Nat → Prop) (hX0 : ∀ k, X0 k → k < w0.heap.size) (hpa0_0 : Rd bE w0 X0 pa0_0 pc0_0 b_0) (hpa1_0 : Rd bE w0 X0 pa1_0 pc1_0 from_1) (hpa2_0 : Rd bE w0 X0 pa2_0 pc2_0 to_2) (hpa3_0 : Rd bE w0 X0 pa3_0 pc3_0 drop_3) (hpa4_0 : Rd (slE bE) w0 X0 pa4_0 pc4_0 l_4) (hG0 : Rd bE w0 X0 (some ⟨0, 0, none⟩) 256 utf8First) (hG1 : Rd (prE (iE .u8) (iE .u8)) w0 X0 (some ⟨1, 0, none⟩) 16 utf8Acc) (r0 : Bool) (h0 : law4_BytestrTranslates fuel b_0 from_1 to_2 drop_3 l_4 = some r0) :
    Calls Tryd.prog 3 ([(.slice pa0_0 (List.length b_0) pc0_0), (.slice pa1_0 (List.length from_1) pc1_0), (.slice pa2_0 (List.length to_2) pc2_0), (.slice pa3_0 (List.length drop_3) pc3_0), (.slice pa4_0 (List.length l_4) pc4_0)] : List Value).toArray w0 (Ret fun v w' => w0.grownBy w' none ∧ v = tup [(.bool r0)]) := by
 have hB0 : Below w0.heap.size w0 w0 := Below.refl _ _
 unfold law4_BytestrTranslates at h0
 refine calls_run Tryd.func3 rfl Tryd.ntmps3 (by kernel_rfl) ?_
 refine gv_sub [0, 1, 2, 3, 4] (σ' := [(0, (.slice pa0_0 (List.length b_0) pc0_0)), (1, (.slice pa1_0 (List.length from_1) pc1_0)), (2, (.slice pa2_0 (List.length to_2) pc2_0)), (3, (.slice pa3_0 (List.length drop_3) pc3_0)), (4, (.slice pa4_0 (List.length l_4) pc4_0))]) (by kernel_rfl) ?_
 refine gv_seq <| gv_region <| gv_pureN 1 [10] [] (by kernel_rfl) ?_
 refine gv_nil <| gv_seq <| gv_region <| gv_pureN 4 [24, 25, 26, 27] [(24, (.slice pa0_0 (List.length b_0) pc0_0)), (25, (.slice pa1_0 (List.length from_1) pc1_0)), (26, (.slice pa2_0 (List.length to_2) pc2_0)), (27, (.slice pa3_0 (List.length drop_3) pc3_0))] (by kernel_rfl) ?_
 refine bindE h0 ?_; clear h0; intro r1 hr2 h0
 refine gv_call0 (by kernel_rfl) rfl (by kernel_rfl) enters9 (bytestr_Translate_ok fuel pa0_0 pc0_0 b_0 pa1_0 pc1_0 from_1 pa2_0 pc2_0 to_2 pa3_0 pc3_0 drop_3 w0 (fun k => X0 k ∨ X0 k ∨ X0 k ∨ X0 k) (fun k hk => (hk).elim (fun h => (fun k (hk : X0 k) => ltl (hX0 k hk) hB0.size) k h) (fun h => (h).elim (fun h => (fun k (hk : X0 k) => ltl (hX0 k hk) hB0.size) k h) (fun h => (h).elim (fun h => (fun k (hk : X0 k) => ltl (hX0 k hk) hB0.size) k h) (fun h => (fun k (hk : X0 k) => ltl (hX0 k hk) hB0.size) k h)))) ((hpa0_0.below hB0 hX0).wide (fun k hk => (.inl hk))) ((hpa1_0.below hB0 hX0).wide (fun k hk => (.inr (.inl hk)))) ((hpa2_0.below hB0 hX0).wide (fun k hk => (.inr (.inr (.inl hk))))) ((hpa3_0.below hB0 hX0).wide (fun k hk => (.inr (.inr (.inr hk))))) r1 hr2) ?_
 rintro v5 w3 ⟨hg4, a6, c7, rfl, ho8, hl9⟩
 have hl10 : ∀ g, blk a6 = some g → w0.heap.size ≤ g := fun g e => Nat.le_trans hB0.size (hl9 g e)
 refine gv_pureN 3 [23, 29, 30] [(29, (.slice a6 (List.length r1.1) c7)), (30, (.agg #[(.int .i64 r1.2.1), (.int .i64 r1.2.2)]))] (by kernel_rfl) ?_
 refine gv_new0 (fun b => .pointer (some ⟨b, 0, none⟩)) #[(.int .i64 0), (.int .i64 0)] 25 (by kernel_rfl) (by kernel_rfl) ?_
 intro b11 w12 hg13 hb14 hbe15 hz16
 refine gv_pureN 1 [11] [(11, (.slice a6 (List.length r1.1) c7))] (by kernel_rfl) ?_
 refine gv_store0 25 0 (.agg #[(.int .i64 r1.2.1), (.int .i64 r1.2.2)]) #[(.int .i64 r1.2.1), (.int .i64 r1.2.2)] hb14 (by kernel_rfl) (by kernel_rfl) (by kernel_rfl) ?_
 intro w17 hg18 hb19 hz20
 refine gv_nil <| gv_seq <| gv_region <| gv_pureN 2 [32, 33] [(32, (.slice pa4_0 (List.length l_4) pc4_0)), (33, (.slice pa3_0 (List.length drop_3) pc3_0))] (by kernel_rfl) ?_
 refine bindE h0 ?_; clear h0; intro r21 hr22 h0
 have hg23 := (grown_trans hg4 hg13)
 have hB24 := bg hB0 hg23 nb
 have hB25 := bg hB0 hg4 nb
 have hlo26 : w0.heap.size ≤ b11 := lob hbe15 hB25.size
 have hB27 := bg hB24 hg18 (rowlo hlo26)
 refine gv_call0 (by kernel_rfl) rfl (by kernel_rfl) enters10 (bytestr_Join_ok fuel pa4_0 pc4_0 l_4 pa3_0 pc3_0 drop_3 w17 (fun k => X0 k ∨ X0 k) (fun k hk => (hk).elim (fun h => (fun k (hk : X0 k) => ltl (hX0 k hk) hB27.size) k h) (fun h => (fun k (hk : X0 k) => ltl (hX0 k hk) hB27.size) k h)) ((hpa4_0.below hB27 hX0).wide (fun k hk => (.inl hk))) ((hpa3_0.below hB27 hX0).wide (fun k hk => (.inr hk))) r21 hr22) ?_
 rintro v30 w28 ⟨hg29, a31, c32, X34, rfl, ho33, hx35⟩
 have hx36 : ∀ k, X34 k → k < w28.heap.size := fun k hk => (hx35 k hk).1
 have hx37 : ∀ k, X34 k → X0 k ∨ w0.heap.size ≤ k := fun k hk => (hx35 k hk).2.elim (fun h => (h).elim (fun h => (fun k (hk : X0 k) => Or.inl hk) k h) (fun h => (fun k (hk : X0 k) => Or.inl hk) k h)) (fun h => .inr (Nat.le_trans hB27.size h))
 refine gv_pureN 3 [31, 35, 36] [(35, (.slice a31 (List.length r21.1) c32)), (36, (.agg #[(.int .i64 r21.2.1), (.int .i64 r21.2.2)]))] (by kernel_rfl) ?_
 refine gv_new0 (fun b => .pointer (some ⟨b, 0, none⟩)) #[(.int .i64 0), (.int .i64 0)] 25 (by kernel_rfl) (by kernel_rfl) ?_
 intro b38 w39 hg40 hb41 hbe42 hz43
 refine gv_pureN 1 [13] [(13, (.slice a31 (List.length r21.1) c32))] (by kernel_rfl) ?_
 refine gv_store0 25 0 (.agg #[(.int .i64 r21.2.1), (.int .i64 r21.2.2)]) #[(.int .i64 r21.2.1), (.int .i64 r21.2.2)] hb41 (by kernel_rfl) (by kernel_rfl) (by kernel_rfl) ?_
 intro w44 hg45 hb46 hz47
 refine gv_nil <| gv_seq <| gv_seq <| gv_region <| bindE h0 ?_; clear h0; intro r48 hr49 h0
 have hg50 := (grown_trans hg29 hg40)
 have hB51 := bg hB27 hg50 nb
 have hB52 := bg hB27 hg29 nb
 have hlo53 : w0.heap.size ≤ b38 := lob hbe42 hB52.size
 have hB54 := bg hB51 hg45 (rowlo hlo53)
 refine gv_call0 (by kernel_rfl) rfl (by kernel_rfl) enters11 (law4_bytesOf_ok fuel  w44 (fun k => X0 k ∨ X0 k) (fun k hk => (hk).elim (fun h => (fun k (hk : X0 k) => ltl (hX0 k hk) hB54.size) k h) (fun h => (fun k (hk : X0 k) => ltl (hX0 k hk) hB54.size) k h)) ((hG0.below hB54 hX0).wide (fun k hk => (.inl hk))) ((hG1.below hB54 hX0).wide (fun k hk => (.inr hk))) r48 hr49) ?_
 rintro v57 w55 ⟨hg56, rfl⟩
 refine gv_pureN 1 [38] [(38, (.bool (!r48)))] (by kernel_rfl) ?_
 refine gv_sub [0, 1, 2, 3, 4, 11, 12, 13, 14, 38] (σ' := [(0, (.slice pa0_0 (List.length b_0) pc0_0)), (1, (.slice pa1_0 (List.length from_1) pc1_0)), (2, (.slice pa2_0 (List.length to_2) pc2_0)), (3, (.slice pa3_0 (List.length drop_3) pc3_0)), (4, (.slice pa4_0 (List.length l_4) pc4_0)), (11, (.slice a6 (List.length r1.1) c7)), (12, (bp b11)), (13, (.slice a31 (List.length r21.1) c32)), (14, (bp b38)), (38, (.bool (!r48)))]) (by kernel_rfl) ?_
 refine gv_nil <| gv_cond (b := (!r48)) (by kernel_rfl) (fun hc58 => ?_) (fun hc58 => ?_)
 ·replace h0 := ite_t hc58 h0
  refine gv_seq <| gv_region <| gv_pureN 1 [10] [(10, (.bool false))] (by kernel_rfl) ?_
  refine gv_nil <| gv_cret ?_
  have e := sj h0; subst e
  refine gv_ret (gv_done [(.bool false)] rfl ⟨(by kernel_rfl), trivial⟩ ?_)
  have hB59 := bg hB54 hg56 nb
  exact ⟨grown_of_below hB59, rfl⟩
 ·replace h0 := ite_f hc58 h0
  refine gv_skip <| gv_seq <| gv_region <| gv_pureN 1 [15] [(15, (.slice none (List.length ([] : List UInt8)) 0))] (by kernel_rfl) ?_
  refine gv_nil <| gv_seq <| gv_seq <| gv_region <| gv_pureN 1 [16] [(16, (.int .i64 0))] (by kernel_rfl) ?_
  refine gv_nil <| bindE h0 ?_; clear h0; intro j60 h1 h0
  refine gv_cut_code (J := fun a w61 => ∃ (a15_0j : Option Addr) (c15_0j : Nat), Below w0.heap.size w0 w61 ∧ w55.heap.size ≤ w61.heap.size ∧ Gv.Own bE 5 w61 (fun _ => False) a15_0j c15_0j j60 ∧ (∀ g, blk a15_0j = some g → w0.heap.size ≤ g) ∧ (∀ g, blk a15_0j = some g → ¬ (· = b11) g) ∧ (∀ g, blk a15_0j = some g → ¬ (· = b38) g) ∧ (∀ g, blk a15_0j = some g → ¬ (fun k => blk a6 = some k) g) ∧ (∀ g, blk a15_0j = some g → ¬ X34 g) ∧ ¬ (fun k => blk a15_0j = some k) b11 ∧ ¬ (fun k => blk a15_0j = some k) b38 ∧ (∀ g, blk a6 = some g → ¬ (fun k => blk a15_0j = some k) g) ∧ Box w61 b11 25 #[(.int .i64 r1.2.1), (.int .i64 r1.2.2)] ∧ Box w61 b38 25 #[(.int .i64 r21.2.1), (.int .i64 r21.2.2)] ∧ Gv.Own bE 5 w61 (fun _ => False) a6 c7 r1.1 ∧ Rd bE w61 X34 a31 c32 r21.1 ∧ a.defers = [] ∧ a.tmps.size = 156 ∧ Ok [(0, (.slice pa0_0 (List.length b_0) pc0_0)), (1, (.slice pa1_0 (List.length from_1) pc1_0)), (2, (.slice pa2_0 (List.length to_2) pc2_0)), (3, (.slice pa3_0 (List.length drop_3) pc3_0)), (11, (.slice a6 (List.length r1.1) c7)), (12, (bp b11)), (13, (.slice a31 (List.length r21.1) c32)), (14, (bp b38)), (15, (.slice a15_0j (List.length j60) c15_0j))] a.tmps) ?_ ?_
  ·skip
   refine gv_block <| gv_loop (A := fun (s62 : ((List UInt8) × Int)) a w63 => ∃ (a15_0j : Option Addr) (c15_0j : Nat), Below w0.heap.size w0 w63 ∧ w55.heap.size ≤ w63.heap.size ∧ Gv.Own bE 5 w63 (fun _ => False) a15_0j c15_0j s62.1 ∧ (∀ g, blk a15_0j = some g → w0.heap.size ≤ g) ∧ (∀ g, blk a15_0j = some g → ¬ (· = b11) g) ∧ (∀ g, blk a15_0j = some g → ¬ (· = b38) g) ∧ (∀ g, blk a15_0j = some g → ¬ (fun k => blk a6 = some k) g) ∧ (∀ g, blk a15_0j = some g → ¬ X34 g) ∧ ¬ (fun k => blk a15_0j = some k) b11 ∧ ¬ (fun k => blk a15_0j = some k) b38 ∧ (∀ g, blk a6 = some g → ¬ (fun k => blk a15_0j = some k) g) ∧ Box w63 b11 25 #[(.int .i64 r1.2.1), (.int .i64 r1.2.2)] ∧ Box w63 b38 25 #[(.int .i64 r21.2.1), (.int .i64 r21.2.2)] ∧ Gv.Own bE 5 w63 (fun _ => False) a6 c7 r1.1 ∧ Rd bE w63 X34 a31 c32 r21.1 ∧ a.defers = [] ∧ a.tmps.size = 156 ∧ Ok [(0, (.slice pa0_0 (List.length b_0) pc0_0)), (1, (.slice pa1_0 (List.length from_1) pc1_0)), (2, (.slice pa2_0 (List.length to_2) pc2_0)), (3, (.slice pa3_0 (List.length drop_3) pc3_0)), (4, (.slice pa4_0 (List.length l_4) pc4_0)), (11, (.slice a6 (List.length r1.1) c7)), (12, (bp b11)), (13, (.slice a31 (List.length r21.1) c32)), (14, (bp b38)), (15, (.slice a15_0j (List.length s62.1) c15_0j)), (16, (.int .i64 s62.2))] a.tmps) h1 ?_ ?_
   ·intro a hd hs hok
    have hB64 := bg hB54 hg56 nb
    have hk65 := hb19.grown hg29 nb
    have lt66 := ltl ((ltb hk65) _ rfl) ((lowb hbe42) _ rfl)
    have hk67 := ((hb19.grown hg50 nb).grown hg45 (rowne (ng lt66))).grown hg56 nb
    have hk68 := hb46.grown hg56 nb
    have ap69 : ¬ (fun k => blk a6 = some k) b11 := fun hx => nl ((lowb hbe15) _ rfl) ((fun k (hk : blk a6 = some k) => ho8.lt k hk) _ hx)
    have hk70 := ((ho8.grown hg13 (fun _ h => h.elim) nb).grown hg18 (fun _ h => h.elim) (rdnn (rowne ap69))).grown hg29 (fun _ h => h.elim) nb
    have ap71 : ¬ (fun k => blk a6 = some k) b38 := fun hx => nl ((lowb hbe42) _ rfl) ((fun k (hk : blk a6 = some k) => hk70.lt k hk) _ hx)
    have hk72 := ((((ho8.grown hg13 (fun _ h => h.elim) nb).grown hg18 (fun _ h => h.elim) (rdnn (rowne ap69))).grown hg50 (fun _ h => h.elim) nb).grown hg45 (fun _ h => h.elim) (rdnn (rowne ap71))).grown hg56 (fun _ h => h.elim) nb
    have ap73 : ¬ X34 b38 := fun hx => nl ((lowb hbe42) _ rfl) (hx36 _ hx)
    have hx74 := ltx hx36 hg40.size
    have hx75 := ltx hx74 hg45.size
    have hk76 := ((ho33.grown hg40 hx36 nb).grown hg45 hx74 (rowne ap73)).grown hg56 hx75 nb
    exact ⟨none, 0, hB64, (Nat.le_refl _), (Gv.Own.nil bE 5 w55 (fun _ => False)), (fun _ h => by cases h), (fun _ h => by cases h), (fun _ h => by cases h), (fun _ h => by cases h), (fun _ h => by cases h), (fun h => by cases h), (fun h => by cases h), (fun _ _ h => by cases h), hk67, hk68, hk72, hk76, hd, hs, ok_pick [0, 1, 2, 3, 4, 11, 12, 13, 14, 15, 16] hok (by kernel_rfl)⟩
   ·rintro s62 r2 h2 hR2 a w63 ⟨a79, c80, hB77, hz78, ho81, hl82, ap83, ap84, ap85, ap86, ap87, ap88, ap89, hb90, hb91, hk92, hk93, hd, hs, hok⟩
    refine gv_in ?_ hd hs hok
    clear hd hs hok
    clear hc58 hB54 hB52 hB51 hg50 hr49 hz47 hb46 hz43 hb41 ho33 hB27 hB25 hB24 hg23 hr22 hz20 hz16 hb14 hl9 hg4 hr2
    refine gv_seq <| gv_seq <| gv_region <| gv_cut_ops (J := fun a w94 => w63 = w94 ∧ a.defers = [] ∧ a.tmps.size = 156 ∧ Ok [(0, (.slice pa0_0 (List.length b_0) pc0_0)), (1, (.slice pa1_0 (List.length from_1) pc1_0)), (2, (.slice pa2_0 (List.length to_2) pc2_0)), (3, (.slice pa3_0 (List.length drop_3) pc3_0)), (4, (.slice pa4_0 (List.length l_4) pc4_0)), (11, (.slice a6 (List.length r1.1) c7)), (12, (bp b11)), (13, (.slice a31 (List.length r21.1) c32)), (14, (bp b38)), (15, (.slice a79 (List.length s62.1) c80)), (16, (.int .i64 s62.2)), (47, (.bool ((decide (s62.2 < ((List.length l_4 : Nat) : Int))) && (decide (((List.length s62.1 : Nat) : Int) ≤ 4000)))))] a.tmps) ?_ ?_
    ·skip
     refine gv_pureN 5 [39, 40, 41, 42, 43] [(43, (.bool (decide (s62.2 < ((List.length l_4 : Nat) : Int)))))] (by kernel_rfl) ?_
     refine gv_split (s := 43) (g := (decide (s62.2 < ((List.length l_4 : Nat) : Int)))) (by kernel_rfl) (fun hc95 => ?_) (fun hc95 => ?_)
     ·skip
      refine gv_pureN 4 [44, 45, 46, 47] [(47, (.bool (decide (((List.length s62.1 : Nat) : Int) ≤ 4000))))] (by kernel_rfl) ?_
      refine gv_nil <| gv_sub [0, 1, 2, 3, 4, 11, 12, 13, 14, 15, 16, 47] (σ' := [(0, (.slice pa0_0 (List.length b_0) pc0_0)), (1, (.slice pa1_0 (List.length from_1) pc1_0)), (2, (.slice pa2_0 (List.length to_2) pc2_0)), (3, (.slice pa3_0 (List.length drop_3) pc3_0)), (4, (.slice pa4_0 (List.length l_4) pc4_0)), (11, (.slice a6 (List.length r1.1) c7)), (12, (bp b11)), (13, (.slice a31 (List.length r21.1) c32)), (14, (bp b38)), (15, (.slice a79 (List.length s62.1) c80)), (16, (.int .i64 s62.2)), (47, (.bool (decide (((List.length s62.1 : Nat) : Int) ≤ 4000))))]) (by kernel_rfl) ?_
      refine gv_goal fun a hd hs hok => ⟨rfl, hd, hs, ?_⟩
      obtain ⟨q0, q1, q2, q3, q4, q11, q12, q13, q14, q15, q16, q47, _⟩ := hok
      exact ⟨q0, q1, q2, q3, q4, q11, q12, q13, q14, q15, q16, (by rw [hc95]; exact q47), trivial⟩
     ·skip
      refine gv_pureN 4 [44, 45, 46, 47] [(47, (.bool false))] (by kernel_rfl) ?_
      refine gv_nil <| gv_sub [0, 1, 2, 3, 4, 11, 12, 13, 14, 15, 16, 47] (σ' := [(0, (.slice pa0_0 (List.length b_0) pc0_0)), (1, (.slice pa1_0 (List.length from_1) pc1_0)), (2, (.slice pa2_0 (List.length to_2) pc2_0)), (3, (.slice pa3_0 (List.length drop_3) pc3_0)), (4, (.slice pa4_0 (List.length l_4) pc4_0)), (11, (.slice a6 (List.length r1.1) c7)), (12, (bp b11)), (13, (.slice a31 (List.length r21.1) c32)), (14, (bp b38)), (15, (.slice a79 (List.length s62.1) c80)), (16, (.int .i64 s62.2)), (47, (.bool false))]) (by kernel_rfl) ?_
      refine gv_goal fun a hd hs hok => ⟨rfl, hd, hs, ?_⟩
      obtain ⟨q0, q1, q2, q3, q4, q11, q12, q13, q14, q15, q16, q47, _⟩ := hok
      exact ⟨q0, q1, q2, q3, q4, q11, q12, q13, q14, q15, q16, (by rw [hc95]; exact q47), trivial⟩
    ·rintro a w94 ⟨e, hd, hs, hok⟩; subst e
     refine gv_in ?_ hd hs hok
     clear hd hs hok
     refine gv_cond (b := ((decide (s62.2 < ((List.length l_4 : Nat) : Int))) && (decide (((List.length s62.1 : Nat) : Int) ≤ 4000)))) (by kernel_rfl) (fun hc96 => ?_) (fun hc96 => ?_)
     ·replace h2 := ite_t hc96 h2
      refine gv_skip <| gv_seq <| gv_block <| gv_seq <| gv_seq <| gv_region <| gv_pureN 2 [50, 51] [(51, (.bool (decide (s62.2 > 0))))] (by kernel_rfl) ?_
      refine gv_nil <| bindE h2 ?_; clear h2; intro j97 h3 h2
      refine gv_cut_code (J := fun a w98 => ∃ (a15_0j : Option Addr) (c15_0j : Nat), Below w0.heap.size w0 w98 ∧ w63.heap.size ≤ w98.heap.size ∧ Gv.Own bE 5 w98 (fun _ => False) a15_0j c15_0j j97 ∧ (∀ g, blk a15_0j = some g → w0.heap.size ≤ g) ∧ (∀ g, blk a15_0j = some g → ¬ (· = b11) g) ∧ (∀ g, blk a15_0j = some g → ¬ (· = b38) g) ∧ (∀ g, blk a15_0j = some g → ¬ (fun k => blk a6 = some k) g) ∧ (∀ g, blk a15_0j = some g → ¬ X34 g) ∧ ¬ (fun k => blk a15_0j = some k) b11 ∧ ¬ (fun k => blk a15_0j = some k) b38 ∧ (∀ g, blk a6 = some g → ¬ (fun k => blk a15_0j = some k) g) ∧ Box w98 b11 25 #[(.int .i64 r1.2.1), (.int .i64 r1.2.2)] ∧ Box w98 b38 25 #[(.int .i64 r21.2.1), (.int .i64 r21.2.2)] ∧ Gv.Own bE 5 w98 (fun _ => False) a6 c7 r1.1 ∧ Rd bE w98 X34 a31 c32 r21.1 ∧ a.defers = [] ∧ a.tmps.size = 156 ∧ Ok [(0, (.slice pa0_0 (List.length b_0) pc0_0)), (1, (.slice pa1_0 (List.length from_1) pc1_0)), (2, (.slice pa2_0 (List.length to_2) pc2_0)), (3, (.slice pa3_0 (List.length drop_3) pc3_0)), (4, (.slice pa4_0 (List.length l_4) pc4_0)), (11, (.slice a6 (List.length r1.1) c7)), (12, (bp b11)), (13, (.slice a31 (List.length r21.1) c32)), (14, (bp b38)), (15, (.slice a15_0j (List.length j97) c15_0j)), (16, (.int .i64 s62.2))] a.tmps) ?_ ?_
      ·skip
       refine gv_cond (b := (decide (s62.2 > 0))) (by kernel_rfl) (fun hc99 => ?_) (fun hc99 => ?_)
       ·replace h3 := ite_t hc99 h3
        refine gv_region <| gv_pureN 2 [52, 53] [(52, (.slice a79 (List.length s62.1) c80)), (53, (.slice pa3_0 (List.length drop_3) pc3_0))] (by kernel_rfl) ?_
        refine bindE h3 ?_; clear h3; intro l100 hx101 h3
        refine gv_append bE (t := 22) (ty := 22) (e := 5) (a := a79) (ax := pa3_0) (cap := c80) (cx := pc3_0) (xs := s62.1) (ys := drop_3) l100 (X := (fun _ => False)) (Y := X0) (by decide) rfl rfl (by kernel_rfl) (by kernel_rfl) Tryd.underlying22 info5 ho81 (hpa3_0.below hB77 hX0) hx101 (.inr fun _ _ _ _ _ h => h) (fun _ h => h.elim) ?_
        intro a102 c103 w104 hg105 ho106 hk107
        refine ⟨(fun e => by cases e), ?_⟩
        have hl108 : ∀ g, blk a102 = some g → w0.heap.size ≤ g := blk_step hk107 hl82 hB77.size
        have ap109 : ∀ g, blk a102 = some g → ¬ (· = b11) g := blk_neX hk107 ap83 (ltb hb90)
        have ap110 : ¬ (fun k => blk a102 = some k) b11 := fun h => blk_rev hk107 (fun h => (ap87) h) (hb90.lt) h
        have ap111 : ∀ g, blk a102 = some g → ¬ (· = b38) g := blk_neX hk107 ap84 (ltb hb91)
        have ap112 : ¬ (fun k => blk a102 = some k) b38 := fun h => blk_rev hk107 (fun h => (ap88) h) (hb91.lt) h
        have ap113 : ∀ g, blk a102 = some g → ¬ (fun k => blk a6 = some k) g := blk_neX hk107 ap85 (fun k (hk : blk a6 = some k) => hk92.lt k hk)
        have ap114 : ∀ g, blk a6 = some g → ¬ (fun k => blk a102 = some k) g := fun g e h => blk_rev hk107 (fun h => ((ap89) g e) h) (hk92.lt g e) h
        have hx116 := ltx (ltx (ltx hx36 hg40.size) hg45.size) hg56.size
        have ap115 : ∀ g, blk a102 = some g → ¬ X34 g := blk_neX hk107 ap86 (fun k hk => ltl (hx116 k hk) hz78)
        clear hk107 hx101 hc99 hc96 ap89 ap88 ap87 ho81 hg56 hg45 hg40
        refine gv_pureN 1 [15] [(15, (.slice a102 (List.length l100) c103))] (by kernel_rfl) ?_
        refine gv_nil ?_
        have e := sj h3; subst e
        refine gv_goal fun a hd hs hok => ?_
        have hB117 := bg hB77 hg105 hl82
        have hz118 := hg105.size
        have hk119 := hb90.grown hg105 ap83
        have hk120 := hb91.grown hg105 ap84
        have hk121 := hk92.grown hg105 (fun _ h => h.elim) (rdnn ap85)
        have hk122 := hk93.grown hg105 (fun k hk => ltl (hx116 k hk) hz78) ap86
        exact ⟨a102, c103, hB117, hz118, ho106, hl108, ap109, ap111, ap113, ap115, ap110, ap112, ap114, hk119, hk120, hk121, hk122, hd, hs, ok_pick [0, 1, 2, 3, 4, 11, 12, 13, 14, 15, 16] hok (by kernel_rfl)⟩
       ·replace h3 := ite_f hc99 h3
        refine gv_skip ?_
        have e := sj h3; subst e
        refine gv_goal fun a hd hs hok => ?_
        exact ⟨a79, c80, hB77, (Nat.le_refl _), ho81, hl82, ap83, ap84, ap85, ap86, ap87, ap88, ap89, hb90, hb91, hk92, hk93, hd, hs, ok_pick [0, 1, 2, 3, 4, 11, 12, 13, 14, 15, 16] hok (by kernel_rfl)⟩
      ·rintro a w98 ⟨a125, c126, hB123, hz124, ho127, hl128, ap129, ap130, ap131, ap132, ap133, ap134, ap135, hb136, hb137, hk138, hk139, hd, hs, hok⟩
       refine gv_in ?_ hd hs hok
       clear hd hs hok
       have hz140 := (nt hz78 hz124)
       clear hc96 hk93 hk92 hb91 hb90 ap89 ap88 ap87 ap86 ap85 ap84 ap83 hl82 ho81 hB77
       refine gv_region <| gv_pureN 3 [55, 56, 57] [(55, (.slice a125 (List.length j97) c126)), (56, (.slice pa4_0 (List.length l_4) pc4_0)), (57, (.int .i64 s62.2))] (by kernel_rfl) ?_
       refine bindE h2 ?_; clear h2; intro x141 hx142 h2
       refine gv_idxaddr (t := 23) (e := 22) (a := pa4_0) (len := List.length l_4) (cap := pc4_0) (kk := .i64) (i := s62.2) (sz := 1) [] (fun e => by cases e) rfl rfl rfl (by kernel_rfl) (by kernel_rfl) Tryd.underlying23 (by kernel_rfl) ((hpa4_0.below hB123 hX0).has hx142) (idx_spec hx142).1 (idx_spec hx142).2.1 rfl ?_
       obtain ⟨_, ⟨a144, c145, rfl, hr146⟩, hc143⟩ := hpa4_0.cellsK hx142
       refine gv_load (t := 22) (A := (elemAddr pa4_0 ((s62.2 : Int).toNat * 1))) (.slice a144 (List.length x141) c145) [] (fun e => by cases e) rfl rfl rfl (by kernel_rfl) (by kernel_rfl) (by kernel_rfl) (inw0 ((hc143 w98 (fun k hk => hB123.block k (hX0 k hk))).zero rfl)) rfl ?_
       refine bindE h2 ?_; clear h2; intro l147 hx148 h2
       refine gv_append bE (t := 22) (ty := 22) (e := 5) (a := a125) (ax := a144) (cap := c126) (cx := c145) (xs := j97) (ys := x141) l147 (X := (fun _ => False)) (Y := X0) (by decide) rfl rfl (by kernel_rfl) (by kernel_rfl) Tryd.underlying22 info5 ho127 (hr146.below hB123 hX0) hx148 (.inr fun _ _ _ _ _ h => h) (fun _ h => h.elim) ?_
       intro a149 c150 w151 hg152 ho153 hk154
       refine ⟨(fun e => by cases e), ?_⟩
       have hl155 : ∀ g, blk a149 = some g → w0.heap.size ≤ g := blk_step hk154 hl128 hB123.size
       have ap156 : ∀ g, blk a149 = some g → ¬ (· = b11) g := blk_neX hk154 ap129 (ltb hb136)
       have ap157 : ¬ (fun k => blk a149 = some k) b11 := fun h => blk_rev hk154 (fun h => (ap133) h) (hb136.lt) h
       have ap158 : ∀ g, blk a149 = some g → ¬ (· = b38) g := blk_neX hk154 ap130 (ltb hb137)
       have ap159 : ¬ (fun k => blk a149 = some k) b38 := fun h => blk_rev hk154 (fun h => (ap134) h) (hb137.lt) h
       have ap160 : ∀ g, blk a149 = some g → ¬ (fun k => blk a6 = some k) g := blk_neX hk154 ap131 (fun k (hk : blk a6 = some k) => hk138.lt k hk)
       have ap161 : ∀ g, blk a6 = some g → ¬ (fun k => blk a149 = some k) g := fun g e h => blk_rev hk154 (fun h => ((ap135) g e) h) (hk138.lt g e) h
       have hx163 := ltx (ltx (ltx hx36 hg40.size) hg45.size) hg56.size
       have ap162 : ∀ g, blk a149 = some g → ¬ X34 g := blk_neX hk154 ap132 (fun k hk => ltl ((fun k hk => ltl (hx163 k hk) hz78) k hk) hz124)
       refine gv_pureN 1 [15] [(15, (.slice a149 (List.length l147) c150))] (by kernel_rfl) ?_
       refine gv_nil <| gv_blk <| gv_region <| gv_pureN 3 [16, 48, 49] [(16, (.int .i64 (IntKind.i64.wrap (s62.2 + 1))))] (by kernel_rfl) ?_
       refine gv_nil ?_
       have e := sj h2; subst e
       refine gv_goal fun a hd hs hok => ?_
       have hB164 := bg hB123 hg152 hl128
       have hz165 := (nt hz140 hg152.size)
       have hk166 := hb136.grown hg152 ap129
       have hk167 := hb137.grown hg152 ap130
       have hk168 := hk138.grown hg152 (fun _ h => h.elim) (rdnn ap131)
       have hk169 := hk139.grown hg152 (fun k hk => ltl ((fun k hk => ltl (hx163 k hk) hz78) k hk) hz124) ap132
       exact ⟨(l147, (IntKind.i64.wrap (s62.2 + 1))), rfl, a149, c150, hB164, hz165, ho153, hl155, ap156, ap158, ap160, ap162, ap157, ap159, ap161, hk166, hk167, hk168, hk169, hd, hs, ok_pick [0, 1, 2, 3, 4, 11, 12, 13, 14, 15, 16] hok (by kernel_rfl)⟩
     ·replace h2 := ite_f hc96 h2
      refine gv_cexit <| gv_exit rfl ?_
      have e := sj h2; subst e
      replace h1 := congrArg some (hR2 _ rfl)
      have e := sj h1; subst e
      refine gv_goal fun a hd hs hok => ?_
      have hz170 := hz78
      exact ⟨a79, c80, hB77, hz170, ho81, hl82, ap83, ap84, ap85, ap86, ap87, ap88, ap89, hb90, hb91, hk92, hk93, hd, hs, ok_pick [0, 1, 2, 3, 11, 12, 13, 14, 15] hok (by kernel_rfl)⟩
  ·rintro a w61 ⟨a173, c174, hB171, hz172, ho175, hl176, ap177, ap178, ap179, ap180, ap181, ap182, ap183, hb184, hb185, hk186, hk187, hd, hs, hok⟩
   refine gv_in ?_ hd hs hok
   clear hd hs hok
   clear hc58 hB54 hB52 hB51 hg50 hr49 hz47 hb46 hz43 hb41 ho33 hB27 hB25 hB24 hg23 hr22 hz20 hz16 hb14 hl9 hg4 hr2
   refine gv_seq <| gv_region <| gv_pureN 1 [61] [(61, (.agg #[(.int .i64 0), (.int .i64 0)]))] (by kernel_rfl) ?_
   refine gv_new0 (fun b => .pointer (some ⟨b, 0, none⟩)) #[(.int .i64 0), (.int .i64 0)] 25 (by kernel_rfl) (by kernel_rfl) ?_
   intro b188 w189 hg190 hb191 hbe192 hz193
   refine gv_store0 25 0 (.agg #[(.int .i64 0), (.int .i64 0)]) #[(.int .i64 0), (.int .i64 0)] hb191 (by kernel_rfl) (by kernel_rfl) (by kernel_rfl) ?_
   intro w194 hg195 hb196 hz197
   refine gv_nil <| gv_seq <| gv_seq <| gv_region <| gv_pureN 3 [62, 63, 64] [(64, (.bool (decide (((List.length j60 : Nat) : Int) > 4000))))] (by kernel_rfl) ?_
   refine gv_nil <| bindE h0 ?_; clear h0; intro j198 h1 h0
   refine gv_cut_code (J := fun a w199 => Below w0.heap.size w0 w199 ∧ w194.heap.size ≤ w199.heap.size ∧ Box w199 b11 25 #[(.int .i64 r1.2.1), (.int .i64 r1.2.2)] ∧ Box w199 b38 25 #[(.int .i64 r21.2.1), (.int .i64 r21.2.2)] ∧ Box w199 b188 25 #[(.int .i64 j198.1), (.int .i64 j198.2)] ∧ Gv.Own bE 5 w199 (fun _ => False) a6 c7 r1.1 ∧ Rd bE w199 X34 a31 c32 r21.1 ∧ Gv.Own bE 5 w199 (fun _ => False) a173 c174 j60 ∧ a.defers = [] ∧ a.tmps.size = 156 ∧ Ok [(0, (.slice pa0_0 (List.length b_0) pc0_0)), (1, (.slice pa1_0 (List.length from_1) pc1_0)), (2, (.slice pa2_0 (List.length to_2) pc2_0)), (3, (.slice pa3_0 (List.length drop_3) pc3_0)), (11, (.slice a6 (List.length r1.1) c7)), (12, (bp b11)), (13, (.slice a31 (List.length r21.1) c32)), (14, (bp b38)), (15, (.slice a173 (List.length j60) c174)), (17, (bp b188))] a.tmps) ?_ ?_
   ·skip
    refine gv_cond (b := (decide (((List.length j60 : Nat) : Int) > 4000))) (by kernel_rfl) (fun hc200 => ?_) (fun hc200 => ?_)
    ·replace h1 := ite_t hc200 h1
     refine gv_region <| bindE h1 ?_; clear h1; intro r201 hr202 h1
     refine gv_call0 (by kernel_rfl) rfl (by kernel_rfl) enters12 (ref4_At_ok fuel 3 (-1) w194  r201 hr202) ?_
     rintro v205 w203 ⟨hg204, rfl⟩
     have hk210 := hb196.grown hg204 nb
     refine gv_store0 25 0 (.agg #[(.int .i64 r201.1), (.int .i64 r201.2)]) #[(.int .i64 r201.1), (.int .i64 r201.2)] hk210 (by kernel_rfl) (by kernel_rfl) (by kernel_rfl) ?_
     intro w206 hg207 hb208 hz209
     refine gv_nil ?_
     have e := sj h1; subst e
     refine gv_goal fun a hd hs hok => ?_
     have hB211 := bg hB171 hg190 nb
     have hlo212 : w0.heap.size ≤ b188 := lob hbe192 hB171.size
     have hB213 := bg hB211 hg195 (rowlo hlo212)
     have hB214 := bg hB213 hg204 nb
     have hB215 := bg hB214 hg207 (rowlo hlo212)
     have hz216 := (nt hg204.size hg207.size)
     have hk217 := hb19.grown hg29 nb
     have lt218 := ltl ((ltb hk217) _ rfl) ((lowb hbe42) _ rfl)
     have lt219 := ltl ((ltb hb185) _ rfl) ((lowb hbe192) _ rfl)
     have lt220 := ltt lt218 lt219
     have hk221 := (((hb184.grown hg190 nb).grown hg195 (rowne (ng lt220))).grown hg204 nb).grown hg207 (rowne (ng lt220))
     have hk222 := (((hb185.grown hg190 nb).grown hg195 (rowne (ng lt219))).grown hg204 nb).grown hg207 (rowne (ng lt219))
     have ap223 : ¬ (fun k => blk a6 = some k) b188 := fun hx => nl ((lowb hbe192) _ rfl) ((fun k (hk : blk a6 = some k) => hk186.lt k hk) _ hx)
     have hk224 := (((hk186.grown hg190 (fun _ h => h.elim) nb).grown hg195 (fun _ h => h.elim) (rdnn (rowne ap223))).grown hg204 (fun _ h => h.elim) nb).grown hg207 (fun _ h => h.elim) (rdnn (rowne ap223))
     have hx225 := ltx (ltx (ltx hx36 hg40.size) hg45.size) hg56.size
     have ap226 : ¬ X34 b188 := fun hx => nl ((lowb hbe192) _ rfl) ((fun k hk => ltl (hx225 k hk) hz172) _ hx)
     have hx227 := ltx (fun k hk => ltl (hx225 k hk) hz172) hg190.size
     have hx228 := ltx hx227 hg195.size
     have hx229 := ltx hx228 hg204.size
     have hk230 := (((hk187.grown hg190 (fun k hk => ltl (hx225 k hk) hz172) nb).grown hg195 hx227 (rowne ap226)).grown hg204 hx228 nb).grown hg207 hx229 (rowne ap226)
     have ap231 : ¬ (fun k => blk a173 = some k) b188 := fun hx => nl ((lowb hbe192) _ rfl) ((fun k (hk : blk a173 = some k) => ho175.lt k hk) _ hx)
     have hk232 := (((ho175.grown hg190 (fun _ h => h.elim) nb).grown hg195 (fun _ h => h.elim) (rdnn (rowne ap231))).grown hg204 (fun _ h => h.elim) nb).grown hg207 (fun _ h => h.elim) (rdnn (rowne ap231))
     exact ⟨hB215, hz216, hk221, hk222, hb208, hk224, hk230, hk232, hd, hs, ok_pick [0, 1, 2, 3, 11, 12, 13, 14, 15, 17] hok (by kernel_rfl)⟩
    ·replace h1 := ite_f hc200 h1
     refine gv_skip ?_
     have e := sj h1; subst e
     refine gv_goal fun a hd hs hok => ?_
     have hB233 := bg hB171 hg190 nb
     have hlo234 : w0.heap.size ≤ b188 := lob hbe192 hB171.size
     have hB235 := bg hB233 hg195 (rowlo hlo234)
     have hk236 := hb19.grown hg29 nb
     have lt237 := ltl ((ltb hk236) _ rfl) ((lowb hbe42) _ rfl)
     have lt238 := ltl ((ltb hb185) _ rfl) ((lowb hbe192) _ rfl)
     have lt239 := ltt lt237 lt238
     have hk240 := (hb184.grown hg190 nb).grown hg195 (rowne (ng lt239))
     have hk241 := (hb185.grown hg190 nb).grown hg195 (rowne (ng lt238))
     have ap242 : ¬ (fun k => blk a6 = some k) b188 := fun hx => nl ((lowb hbe192) _ rfl) ((fun k (hk : blk a6 = some k) => hk186.lt k hk) _ hx)
     have hk243 := (hk186.grown hg190 (fun _ h => h.elim) nb).grown hg195 (fun _ h => h.elim) (rdnn (rowne ap242))
     have hx244 := ltx (ltx (ltx hx36 hg40.size) hg45.size) hg56.size
     have ap245 : ¬ X34 b188 := fun hx => nl ((lowb hbe192) _ rfl) ((fun k hk => ltl (hx244 k hk) hz172) _ hx)
     have hx246 := ltx (fun k hk => ltl (hx244 k hk) hz172) hg190.size
     have hk247 := (hk187.grown hg190 (fun k hk => ltl (hx244 k hk) hz172) nb).grown hg195 hx246 (rowne ap245)
     have ap248 : ¬ (fun k => blk a173 = some k) b188 := fun hx => nl ((lowb hbe192) _ rfl) ((fun k (hk : blk a173 = some k) => ho175.lt k hk) _ hx)
     have hk249 := (ho175.grown hg190 (fun _ h => h.elim) nb).grown hg195 (fun _ h => h.elim) (rdnn (rowne ap248))
     exact ⟨hB235, (Nat.le_refl _), hk240, hk241, hb196, hk243, hk247, hk249, hd, hs, ok_pick [0, 1, 2, 3, 11, 12, 13, 14, 15, 17] hok (by kernel_rfl)⟩
   ·rintro a w199 ⟨hB250, hz251, hb252, hb253, hb254, hk255, hk256, hk257, hd, hs, hok⟩
    refine gv_in ?_ hd hs hok
    clear hd hs hok
    clear hz197 hb196 hz193 hb191 hk187 hb184
    refine gv_seq <| gv_seq <| gv_region <| gv_pureN 1 [66] [(66, (.slice a31 (List.length r21.1) c32))] (by kernel_rfl) ?_
    refine gv_loadBox (t := 25) (b := b38) (t' := 25) (fr := (0, 0)) #[(.int .i64 r21.2.1), (.int .i64 r21.2.2)] [] (fun e => by cases e) rfl rfl rfl (by kernel_rfl) (by kernel_rfl) (by kernel_rfl) (by kernel_rfl) (inw0 hb253) rfl ?_
    refine gv_pureN 1 [68] [(68, (.slice a173 (List.length j60) c174))] (by kernel_rfl) ?_
    refine gv_loadBox (t := 25) (b := b188) (t' := 25) (fr := (0, 0)) #[(.int .i64 j198.1), (.int .i64 j198.2)] [] (fun e => by cases e) rfl rfl rfl (by kernel_rfl) (by kernel_rfl) (by kernel_rfl) (by kernel_rfl) (inw0 hb254) rfl ?_
    refine bindE h0 ?_; clear h0; intro r258 hr259 h0
    have hx260 := ltx (ltx (ltx hx36 hg40.size) hg45.size) hg56.size
    have hx261 := ltx (ltx (fun k hk => ltl (hx260 k hk) hz172) hg190.size) hg195.size
    refine gv_call0 (by kernel_rfl) rfl (by kernel_rfl) enters13 (law4_raw_ok fuel a31 c32 r21.1 (r21.2.1, r21.2.2) a173 c174 j60 (j198.1, j198.2) w199 (fun k => X34 k ∨ (fun k => blk a173 = some k) k) (fun k hk => (hk).elim (fun h => (fun k hk => ltl (hx261 k hk) hz251) k h) (fun h => (fun k (hk : blk a173 = some k) => hk257.lt k hk) k h)) (hk256.wide (fun k hk => (.inl hk))) ((hk257.rd (Y := fun k => blk a173 = some k) (fun _ h => h.elim) (fun g e => e)).wide (fun k hk => (.inr hk))) r258 hr259) ?_
    rintro v264 w262 ⟨hg263, rfl⟩
    refine gv_pureN 1 [71] [(71, (.bool (!r258)))] (by kernel_rfl) ?_
    refine gv_nil <| gv_cond (b := (!r258)) (by kernel_rfl) (fun hc265 => ?_) (fun hc265 => ?_)
    ·replace h0 := ite_t hc265 h0
     refine gv_seq <| gv_region <| gv_pureN 1 [10] [(10, (.bool false))] (by kernel_rfl) ?_
     refine gv_nil <| gv_cret ?_
     have e := sj h0; subst e
     refine gv_ret (gv_done [(.bool false)] rfl ⟨(by kernel_rfl), trivial⟩ ?_)
     have hB266 := bg hB250 hg263 nb
     exact ⟨grown_of_below hB266, rfl⟩
    ·replace h0 := ite_f hc265 h0
     refine gv_skip <| gv_seq <| gv_region <| gv_pureN 1 [72] [(72, (.agg #[(.int .i64 0), (.int .i64 0)]))] (by kernel_rfl) ?_
     have hk271 := hb254.grown hg263 nb
     refine gv_store0 25 0 (.agg #[(.int .i64 0), (.int .i64 0)]) #[(.int .i64 0), (.int .i64 0)] hk271 (by kernel_rfl) (by kernel_rfl) (by kernel_rfl) ?_
     intro w267 hg268 hb269 hz270
     refine gv_nil <| gv_seq <| gv_block <| gv_seq <| gv_region <| gv_pureN 4 [73, 74, 75, 76] [(73, (.bool (decide (((List.length b_0 : Nat) : Int) > 4000))))] (by kernel_rfl) ?_
     refine bindE h0 ?_; clear h0; intro n272 hn273 h0
     refine gv_name (s := 73) (v := (.bool (decide (((List.length b_0 : Nat) : Int) > 4000)))) (v' := (.bool n272)) (by kernel_rfl) (congrArg (Value.bool) (sj hn273)) ?_
     refine gv_nil <| bindE h0 ?_; clear h0; intro j274 h1 h0
     refine gv_cut_code (J := fun a w275 => Below w0.heap.size w0 w275 ∧ w267.heap.size ≤ w275.heap.size ∧ Box w275 b11 25 #[(.int .i64 r1.2.1), (.int .i64 r1.2.2)] ∧ Box w275 b188 25 #[(.int .i64 j274.1), (.int .i64 j274.2)] ∧ Gv.Own bE 5 w275 (fun _ => False) a6 c7 r1.1 ∧ a.defers = [] ∧ a.tmps.size = 156 ∧ Ok [(0, (.slice pa0_0 (List.length b_0) pc0_0)), (1, (.slice pa1_0 (List.length from_1) pc1_0)), (2, (.slice pa2_0 (List.length to_2) pc2_0)), (3, (.slice pa3_0 (List.length drop_3) pc3_0)), (11, (.slice a6 (List.length r1.1) c7)), (12, (bp b11)), (17, (bp b188))] a.tmps) ?_ ?_
     ·skip
      refine gv_cond (b := n272) (by kernel_rfl) (fun hc276 => ?_) (fun hc276 => ?_)
      ·replace h1 := ite_t hc276 h1
       refine gv_region <| bindE h1 ?_; clear h1; intro r277 hr278 h1
       refine gv_call0 (by kernel_rfl) rfl (by kernel_rfl) enters12 (ref4_At_ok fuel 3 (-1) w267  r277 hr278) ?_
       rintro v281 w279 ⟨hg280, rfl⟩
       clear hr278 hc276 hn273 hz270 hk271 hc265 hx261 hx260 hr259 hk257 hk256 hb254 hb253 hz251 hg195 hg190 ap183 ap182 ap181 ap180 ap179 ap178 ap177 hl176 ho175 hz172 hg56 hlo53 hg45 hg40 hx37 hx36 hx35 hg18 hg13
       have hk286 := hb269.grown hg280 nb
       refine gv_store0 25 0 (.agg #[(.int .i64 r277.1), (.int .i64 r277.2)]) #[(.int .i64 r277.1), (.int .i64 r277.2)] hk286 (by kernel_rfl) (by kernel_rfl) (by kernel_rfl) ?_
       intro w282 hg283 hb284 hz285
       refine gv_nil ?_
       have e := sj h1; subst e
       refine gv_goal fun a hd hs hok => ?_
       have hB287 := bg hB250 hg263 nb
       have hlo288 : w0.heap.size ≤ b188 := lob hbe192 hB171.size
       have hB289 := bg hB287 hg268 (rowlo hlo288)
       have hB290 := bg hB289 hg280 nb
       have hB291 := bg hB290 hg283 (rowlo hlo288)
       have hz292 := (nt hg280.size hg283.size)
       have hk293 := hb19.grown hg29 nb
       have lt294 := ltl ((ltb hk293) _ rfl) ((lowb hbe42) _ rfl)
       have lt295 := ltl ((ltb hb185) _ rfl) ((lowb hbe192) _ rfl)
       have lt296 := ltt lt294 lt295
       have hk297 := (((hb252.grown hg263 nb).grown hg268 (rowne (ng lt296))).grown hg280 nb).grown hg283 (rowne (ng lt296))
       have ap298 : ¬ (fun k => blk a6 = some k) b188 := fun hx => nl ((lowb hbe192) _ rfl) ((fun k (hk : blk a6 = some k) => hk186.lt k hk) _ hx)
       have hk299 := (((hk255.grown hg263 (fun _ h => h.elim) nb).grown hg268 (fun _ h => h.elim) (rdnn (rowne ap298))).grown hg280 (fun _ h => h.elim) nb).grown hg283 (fun _ h => h.elim) (rdnn (rowne ap298))
       exact ⟨hB291, hz292, hk297, hb284, hk299, hd, hs, ok_pick [0, 1, 2, 3, 11, 12, 17] hok (by kernel_rfl)⟩
      ·replace h1 := ite_f hc276 h1
       refine gv_seq <| gv_region <| gv_pureN 6 [78, 79, 80, 81, 82, 83] [(78, (.bool (((List.length from_1 : Nat) : Int) != ((List.length to_2 : Nat) : Int))))] (by kernel_rfl) ?_
       refine bindE h1 ?_; clear h1; intro n300 hn301 h1
       refine gv_name (s := 78) (v := (.bool (((List.length from_1 : Nat) : Int) != ((List.length to_2 : Nat) : Int)))) (v' := (.bool n300)) (by kernel_rfl) (congrArg (Value.bool) (sj hn301)) ?_
       refine gv_nil <| gv_cond (b := n300) (by kernel_rfl) (fun hc302 => ?_) (fun hc302 => ?_)
       ·replace h1 := ite_t hc302 h1
        refine gv_region <| bindE h1 ?_; clear h1; intro r303 hr304 h1
        refine gv_call0 (by kernel_rfl) rfl (by kernel_rfl) enters12 (ref4_At_ok fuel 9 (-3) w267  r303 hr304) ?_
        rintro v307 w305 ⟨hg306, rfl⟩
        have hk312 := hb269.grown hg306 nb
        refine gv_store0 25 0 (.agg #[(.int .i64 r303.1), (.int .i64 r303.2)]) #[(.int .i64 r303.1), (.int .i64 r303.2)] hk312 (by kernel_rfl) (by kernel_rfl) (by kernel_rfl) ?_
        intro w308 hg309 hb310 hz311
        refine gv_nil ?_
        have e := sj h1; subst e
        refine gv_goal fun a hd hs hok => ?_
        have hB313 := bg hB250 hg263 nb
        have hlo314 : w0.heap.size ≤ b188 := lob hbe192 hB171.size
        have hB315 := bg hB313 hg268 (rowlo hlo314)
        have hB316 := bg hB315 hg306 nb
        have hB317 := bg hB316 hg309 (rowlo hlo314)
        have hz318 := (nt hg306.size hg309.size)
        have hk319 := hb19.grown hg29 nb
        have lt320 := ltl ((ltb hk319) _ rfl) ((lowb hbe42) _ rfl)
        have lt321 := ltl ((ltb hb185) _ rfl) ((lowb hbe192) _ rfl)
        have lt322 := ltt lt320 lt321
        have hk323 := (((hb252.grown hg263 nb).grown hg268 (rowne (ng lt322))).grown hg306 nb).grown hg309 (rowne (ng lt322))
        have ap324 : ¬ (fun k => blk a6 = some k) b188 := fun hx => nl ((lowb hbe192) _ rfl) ((fun k (hk : blk a6 = some k) => hk186.lt k hk) _ hx)
        have hk325 := (((hk255.grown hg263 (fun _ h => h.elim) nb).grown hg268 (fun _ h => h.elim) (rdnn (rowne ap324))).grown hg306 (fun _ h => h.elim) nb).grown hg309 (fun _ h => h.elim) (rdnn (rowne ap324))
        exact ⟨hB317, hz318, hk323, hb310, hk325, hd, hs, ok_pick [0, 1, 2, 3, 11, 12, 17] hok (by kernel_rfl)⟩
       ·replace h1 := ite_f hc302 h1
        refine gv_skip ?_
        have e := sj h1; subst e
        refine gv_goal fun a hd hs hok => ?_
        have hB326 := bg hB250 hg263 nb
        have hlo327 : w0.heap.size ≤ b188 := lob hbe192 hB171.size
        have hB328 := bg hB326 hg268 (rowlo hlo327)
        have hk329 := hb19.grown hg29 nb
        have lt330 := ltl ((ltb hk329) _ rfl) ((lowb hbe42) _ rfl)
        have lt331 := ltl ((ltb hb185) _ rfl) ((lowb hbe192) _ rfl)
        have lt332 := ltt lt330 lt331
        have hk333 := (hb252.grown hg263 nb).grown hg268 (rowne (ng lt332))
        have ap334 : ¬ (fun k => blk a6 = some k) b188 := fun hx => nl ((lowb hbe192) _ rfl) ((fun k (hk : blk a6 = some k) => hk186.lt k hk) _ hx)
        have hk335 := (hk255.grown hg263 (fun _ h => h.elim) nb).grown hg268 (fun _ h => h.elim) (rdnn (rowne ap334))
        exact ⟨hB328, (Nat.le_refl _), hk333, hb269, hk335, hd, hs, ok_pick [0, 1, 2, 3, 11, 12, 17] hok (by kernel_rfl)⟩
     ·rintro a w275 ⟨hB336, hz337, hb338, hb339, hk340, hd, hs, hok⟩
      refine gv_in ?_ hd hs hok
      clear hd hs hok
      clear hz337 hn273 hz270 hb269 hg268 hk271 hc265 hg263 hx261 hx260 hr259 hk257 hk256 hk255 hb254 hb253 hb252 hz251 hB250 hg195 hg190 ap183 ap182 ap181 ap180 ap179 ap178 ap177 hl176 ho175 hz172 hg56 hlo53 hg45 hg40 hx37 hx36 hx35 hg18 hg13
      refine gv_blk <| gv_seq <| gv_region <| gv_pureN 1 [18] [(18, (.func (.func 14) #[] #[]))] (by kernel_rfl) ?_
      refine gv_nil <| gv_seq <| gv_seq <| gv_region <| gv_pureN 1 [19] [(19, (.int .i64 0))] (by kernel_rfl) ?_
      refine gv_nil <| bindE h0 ?_; clear h0; intro j341 h1 h0
      refine gv_cut_code (J := fun a w342 => Below w0.heap.size w0 w342 ∧ w275.heap.size ≤ w342.heap.size ∧ Box w342 b11 25 #[(.int .i64 r1.2.1), (.int .i64 r1.2.2)] ∧ Box w342 b188 25 #[(.int .i64 j341.1), (.int .i64 j341.2)] ∧ Gv.Own bE 5 w342 (fun _ => False) a6 c7 r1.1 ∧ a.defers = [] ∧ a.tmps.size = 156 ∧ Ok [(0, (.slice pa0_0 (List.length b_0) pc0_0)), (1, (.slice pa1_0 (List.length from_1) pc1_0)), (2, (.slice pa2_0 (List.length to_2) pc2_0)), (3, (.slice pa3_0 (List.length drop_3) pc3_0)), (11, (.slice a6 (List.length r1.1) c7)), (12, (bp b11)), (17, (bp b188)), (18, (.func (.func 14) #[] #[]))] a.tmps) ?_ ?_
      ·skip
       refine gv_block <| gv_loop (A := fun (s343 : (Int × (Int × Int))) a w344 => Below w0.heap.size w0 w344 ∧ w275.heap.size ≤ w344.heap.size ∧ Box w344 b11 25 #[(.int .i64 r1.2.1), (.int .i64 r1.2.2)] ∧ Box w344 b188 25 #[(.int .i64 s343.2.1), (.int .i64 s343.2.2)] ∧ Gv.Own bE 5 w344 (fun _ => False) a6 c7 r1.1 ∧ a.defers = [] ∧ a.tmps.size = 156 ∧ Ok [(0, (.slice pa0_0 (List.length b_0) pc0_0)), (1, (.slice pa1_0 (List.length from_1) pc1_0)), (2, (.slice pa2_0 (List.length to_2) pc2_0)), (3, (.slice pa3_0 (List.length drop_3) pc3_0)), (11, (.slice a6 (List.length r1.1) c7)), (12, (bp b11)), (17, (bp b188)), (18, (.func (.func 14) #[] #[])), (19, (.int .i64 s343.1))] a.tmps) h1 ?_ ?_
       ·intro a hd hs hok
        exact ⟨hB336, (Nat.le_refl _), hb338, hb339, hk340, hd, hs, ok_pick [0, 1, 2, 3, 11, 12, 17, 18, 19] hok (by kernel_rfl)⟩
       ·rintro s343 r2 h2 hR2 a w344 ⟨hB345, hz346, hb347, hb348, hk349, hd, hs, hok⟩
        refine gv_in ?_ hd hs hok
        clear hd hs hok
        clear hk340 hb339 hb338 hB336
        refine gv_seq <| gv_seq <| gv_region <| bindE h2 ?_; clear h2; intro j350 h3 h2
        refine gv_cut_ops (J := fun a w351 => Below w0.heap.size w0 w351 ∧ w344.heap.size ≤ w351.heap.size ∧ Box w351 b11 25 #[(.int .i64 r1.2.1), (.int .i64 r1.2.2)] ∧ Box w351 b188 25 #[(.int .i64 s343.2.1), (.int .i64 s343.2.2)] ∧ Gv.Own bE 5 w351 (fun _ => False) a6 c7 r1.1 ∧ a.defers = [] ∧ a.tmps.size = 156 ∧ Ok [(0, (.slice pa0_0 (List.length b_0) pc0_0)), (1, (.slice pa1_0 (List.length from_1) pc1_0)), (2, (.slice pa2_0 (List.length to_2) pc2_0)), (3, (.slice pa3_0 (List.length drop_3) pc3_0)), (11, (.slice a6 (List.length r1.1) c7)), (12, (bp b11)), (17, (bp b188)), (18, (.func (.func 14) #[] #[])), (19, (.int .i64 s343.1)), (93, (.bool j350))] a.tmps) ?_ ?_
        ·skip
         refine gv_pureN 5 [85, 86, 87, 88, 89] [(89, (.bool (decide (s343.1 < ((List.length from_1 : Nat) : Int)))))] (by kernel_rfl) ?_
         refine gv_split (s := 89) (g := (decide (s343.1 < ((List.length from_1 : Nat) : Int)))) (by kernel_rfl) (fun hc352 => ?_) (fun hc352 => ?_)
         ·skip
          replace h3 := ite_t hc352 h3
          refine gv_pureN 1 [90] [(90, (bp b188))] (by kernel_rfl) ?_
          refine gv_load (t := 3) (A := ⟨b188, 0, none⟩) (.int .i64 s343.2.1) [] (fun e => by cases e) rfl rfl rfl (by kernel_rfl) (by kernel_rfl) (by kernel_rfl) (inw0 (hb348.cell 0 rfl)) rfl ?_
          refine gv_pureN 2 [92, 93] [(93, (.bool (s343.2.1 == 0)))] (by kernel_rfl) ?_
          refine gv_nil ?_
          have e := sj h3; subst e
          refine gv_goal fun a hd hs hok => ?_
          exact ⟨hB345, (Nat.le_refl _), hb347, hb348, hk349, hd, hs, ok_pick [0, 1, 2, 3, 11, 12, 17, 18, 19, 93] hok (by kernel_rfl)⟩
         ·skip
          replace h3 := ite_f hc352 h3
          refine gv_pureN 4 [90, 91, 92, 93] [(93, (.bool false))] (by kernel_rfl) ?_
          refine gv_nil ?_
          have e := sj h3; subst e
          refine gv_goal fun a hd hs hok => ?_
          exact ⟨hB345, (Nat.le_refl _), hb347, hb348, hk349, hd, hs, ok_pick [0, 1, 2, 3, 11, 12, 17, 18, 19, 93] hok (by kernel_rfl)⟩
        ·rintro a w351 ⟨hB353, hz354, hb355, hb356, hk357, hd, hs, hok⟩
         refine gv_in ?_ hd hs hok
         clear hd hs hok
         have hz358 := (nt hz346 hz354)
         clear hz354 hk349 hb348 hb347 hz346 hB345
         refine gv_cond (b := j350) (by kernel_rfl) (fun hc359 => ?_) (fun hc359 => ?_)
         ·replace h2 := ite_t hc359 h2
          refine gv_skip <| gv_seq <| gv_block <| gv_seq <| gv_region <| gv_pureN 4 [96, 97, 98, 99] [(96, (.func (.func 14) #[] #[])), (97, (.slice pa1_0 (List.length from_1) pc1_0)), (98, (.slice pa1_0 (List.length from_1) pc1_0)), (99, (.int .i64 s343.1))] (by kernel_rfl) ?_
          refine bindE h2 ?_; clear h2; intro x360 hx361 h2
          refine gv_idxaddr (t := 22) (e := 5) (a := pa1_0) (len := List.length from_1) (cap := pc1_0) (kk := .i64) (i := s343.1) (sz := 1) [] (fun e => by cases e) rfl rfl rfl (by kernel_rfl) (by kernel_rfl) Tryd.underlying22 (by kernel_rfl) ((hpa1_0.below hB353 hX0).has hx361) (idx_spec hx361).1 (idx_spec hx361).2.1 rfl ?_
          refine gv_load (t := 5) (A := (elemAddr pa1_0 ((s343.1 : Int).toNat * 1))) (.int .u8 ((x360).toNat : Int)) [] (fun e => by cases e) rfl rfl rfl (by kernel_rfl) (by kernel_rfl) (by kernel_rfl) (inw0 ((hpa1_0.below hB353 hX0).cell hx361)) rfl ?_
          refine bindE h2 ?_; clear h2; intro r362 hr363 h2
          refine gv_call0 (by kernel_rfl) rfl (by kernel_rfl) enters14 (law4_BytestrTranslates_1_ok fuel pa1_0 pc1_0 from_1 ((x360).toNat : Int) w351 (fun k => X0 k) (fun k hk => (fun k (hk : X0 k) => ltl (hX0 k hk) hB353.size) k hk) ((hpa1_0.below hB353 hX0).wide (fun k hk => hk)) r362 hr363) ?_
          rintro v366 w364 ⟨hg365, rfl⟩
          refine gv_pureN 2 [103, 104] [(104, (.bool (decide (r362 < s343.1))))] (by kernel_rfl) ?_
          refine gv_nil <| bindE h2 ?_; clear h2; intro j367 h3 h2
          refine gv_cut_code (J := fun a w368 => Below w0.heap.size w0 w368 ∧ w364.heap.size ≤ w368.heap.size ∧ Box w368 b11 25 #[(.int .i64 r1.2.1), (.int .i64 r1.2.2)] ∧ Box w368 b188 25 #[(.int .i64 j367.1), (.int .i64 j367.2)] ∧ Gv.Own bE 5 w368 (fun _ => False) a6 c7 r1.1 ∧ a.defers = [] ∧ a.tmps.size = 156 ∧ Ok [(0, (.slice pa0_0 (List.length b_0) pc0_0)), (1, (.slice pa1_0 (List.length from_1) pc1_0)), (2, (.slice pa2_0 (List.length to_2) pc2_0)), (3, (.slice pa3_0 (List.length drop_3) pc3_0)), (11, (.slice a6 (List.length r1.1) c7)), (12, (bp b11)), (17, (bp b188)), (18, (.func (.func 14) #[] #[])), (19, (.int .i64 s343.1))] a.tmps) ?_ ?_
          ·skip
           refine gv_cond (b := (decide (r362 < s343.1))) (by kernel_rfl) (fun hc369 => ?_) (fun hc369 => ?_)
           ·replace h3 := ite_t hc369 h3
            refine gv_region <| gv_pureN 1 [105] [(105, (.int .i64 s343.1))] (by kernel_rfl) ?_
            refine bindE h3 ?_; clear h3; intro r370 hr371 h3
            refine gv_call0 (by kernel_rfl) rfl (by kernel_rfl) enters12 (ref4_At_ok fuel 8 s343.1 w364  r370 hr371) ?_
            rintro v374 w372 ⟨hg373, rfl⟩
            have hg379 := (grown_trans hg365 hg373)
            have hk380 := hb356.grown hg379 nb
            refine gv_store0 25 0 (.agg #[(.int .i64 r370.1), (.int .i64 r370.2)]) #[(.int .i64 r370.1), (.int .i64 r370.2)] hk380 (by kernel_rfl) (by kernel_rfl) (by kernel_rfl) ?_
            intro w375 hg376 hb377 hz378
            refine gv_nil ?_
            have e := sj h3; subst e
            refine gv_goal fun a hd hs hok => ?_
            have hB381 := bg hB353 hg379 nb
            have hlo382 : w0.heap.size ≤ b188 := lob hbe192 hB171.size
            have hB383 := bg hB381 hg376 (rowlo hlo382)
            have hz384 := (nt hg373.size hg376.size)
            have hk385 := hb19.grown hg29 nb
            have lt386 := ltl ((ltb hk385) _ rfl) ((lowb hbe42) _ rfl)
            have lt387 := ltl ((ltb hb185) _ rfl) ((lowb hbe192) _ rfl)
            have lt388 := ltt lt386 lt387
            have hk389 := (hb355.grown hg379 nb).grown hg376 (rowne (ng lt388))
            have ap390 : ¬ (fun k => blk a6 = some k) b188 := fun hx => nl ((lowb hbe192) _ rfl) ((fun k (hk : blk a6 = some k) => hk186.lt k hk) _ hx)
            have hk391 := (hk357.grown hg379 (fun _ h => h.elim) nb).grown hg376 (fun _ h => h.elim) (rdnn (rowne ap390))
            exact ⟨hB383, hz384, hk389, hb377, hk391, hd, hs, ok_pick [0, 1, 2, 3, 11, 12, 17, 18, 19] hok (by kernel_rfl)⟩
           ·replace h3 := ite_f hc369 h3
            refine gv_skip ?_
            have e := sj h3; subst e
            refine gv_goal fun a hd hs hok => ?_
            have hB392 := bg hB353 hg365 nb
            have hk393 := hb355.grown hg365 nb
            have hk394 := hb356.grown hg365 nb
            have hk395 := hk357.grown hg365 (fun _ h => h.elim) nb
            exact ⟨hB392, (Nat.le_refl _), hk393, hk394, hk395, hd, hs, ok_pick [0, 1, 2, 3, 11, 12, 17, 18, 19] hok (by kernel_rfl)⟩
          ·rintro a w368 ⟨hB396, hz397, hb398, hb399, hk400, hd, hs, hok⟩
           refine gv_in ?_ hd hs hok
           clear hd hs hok
           have hz401 := (nt (nt hz358 hg365.size) hz397)
           clear hz397 hg365 hr363 hx361 hc359 hz358 hk357 hb356 hb355 hB353
           refine gv_blk <| gv_region <| gv_pureN 3 [19, 94, 95] [(19, (.int .i64 (IntKind.i64.wrap (s343.1 + 1))))] (by kernel_rfl) ?_
           refine gv_nil ?_
           have e := sj h2; subst e
           refine gv_goal fun a hd hs hok => ?_
           have hz402 := hz401
           exact ⟨((IntKind.i64.wrap (s343.1 + 1)), (j367.1, j367.2)), rfl, hB396, hz402, hb398, hb399, hk400, hd, hs, ok_pick [0, 1, 2, 3, 11, 12, 17, 18, 19] hok (by kernel_rfl)⟩
         ·replace h2 := ite_f hc359 h2
          refine gv_cexit <| gv_exit rfl ?_
          have e := sj h2; subst e
          replace h1 := congrArg some (hR2 _ rfl)
          have e := sj h1; subst e
          refine gv_goal fun a hd hs hok => ?_
          have hz403 := hz358
          exact ⟨hB353, hz403, hb355, hb356, hk357, hd, hs, ok_pick [0, 1, 2, 3, 11, 12, 17, 18] hok (by kernel_rfl)⟩
      ·rintro a w342 ⟨hB404, hz405, hb406, hb407, hk408, hd, hs, hok⟩
       refine gv_in ?_ hd hs hok
       clear hd hs hok
       clear hz405 hk340 hb339 hb338 hB336
       refine gv_seq <| gv_region <| gv_pureN 1 [20] [(20, (.slice none (List.length ([] : List UInt8)) 0))] (by kernel_rfl) ?_
       refine gv_nil <| gv_seq <| gv_seq <| gv_region <| gv_pureN 1 [21] [(21, (.int .i64 0))] (by kernel_rfl) ?_
       refine gv_nil <| bindE h0 ?_; clear h0; intro j409 h1 h0
       refine gv_cut_code (J := fun a w410 => ∃ (a20_0j : Option Addr) (c20_0j : Nat), Below w0.heap.size w0 w410 ∧ w342.heap.size ≤ w410.heap.size ∧ Gv.Own bE 5 w410 (fun _ => False) a20_0j c20_0j j409 ∧ (∀ g, blk a20_0j = some g → w0.heap.size ≤ g) ∧ (∀ g, blk a20_0j = some g → ¬ (· = b11) g) ∧ (∀ g, blk a20_0j = some g → ¬ (· = b188) g) ∧ (∀ g, blk a20_0j = some g → ¬ (fun k => blk a6 = some k) g) ∧ ¬ (fun k => blk a20_0j = some k) b11 ∧ ¬ (fun k => blk a20_0j = some k) b188 ∧ (∀ g, blk a6 = some g → ¬ (fun k => blk a20_0j = some k) g) ∧ Box w410 b11 25 #[(.int .i64 r1.2.1), (.int .i64 r1.2.2)] ∧ Box w410 b188 25 #[(.int .i64 j341.1), (.int .i64 j341.2)] ∧ Gv.Own bE 5 w410 (fun _ => False) a6 c7 r1.1 ∧ a.defers = [] ∧ a.tmps.size = 156 ∧ Ok [(11, (.slice a6 (List.length r1.1) c7)), (12, (bp b11)), (17, (bp b188)), (20, (.slice a20_0j (List.length j409) c20_0j))] a.tmps) ?_ ?_
       ·skip
        refine gv_block <| gv_loop (A := fun (s411 : ((List UInt8) × Int)) a w412 => ∃ (a20_0j : Option Addr) (c20_0j : Nat), Below w0.heap.size w0 w412 ∧ w342.heap.size ≤ w412.heap.size ∧ Gv.Own bE 5 w412 (fun _ => False) a20_0j c20_0j s411.1 ∧ (∀ g, blk a20_0j = some g → w0.heap.size ≤ g) ∧ (∀ g, blk a20_0j = some g → ¬ (· = b11) g) ∧ (∀ g, blk a20_0j = some g → ¬ (· = b188) g) ∧ (∀ g, blk a20_0j = some g → ¬ (fun k => blk a6 = some k) g) ∧ ¬ (fun k => blk a20_0j = some k) b11 ∧ ¬ (fun k => blk a20_0j = some k) b188 ∧ (∀ g, blk a6 = some g → ¬ (fun k => blk a20_0j = some k) g) ∧ Box w412 b11 25 #[(.int .i64 r1.2.1), (.int .i64 r1.2.2)] ∧ Box w412 b188 25 #[(.int .i64 j341.1), (.int .i64 j341.2)] ∧ Gv.Own bE 5 w412 (fun _ => False) a6 c7 r1.1 ∧ a.defers = [] ∧ a.tmps.size = 156 ∧ Ok [(0, (.slice pa0_0 (List.length b_0) pc0_0)), (1, (.slice pa1_0 (List.length from_1) pc1_0)), (2, (.slice pa2_0 (List.length to_2) pc2_0)), (3, (.slice pa3_0 (List.length drop_3) pc3_0)), (11, (.slice a6 (List.length r1.1) c7)), (12, (bp b11)), (17, (bp b188)), (18, (.func (.func 14) #[] #[])), (20, (.slice a20_0j (List.length s411.1) c20_0j)), (21, (.int .i64 s411.2))] a.tmps) h1 ?_ ?_
        ·intro a hd hs hok
         exact ⟨none, 0, hB404, (Nat.le_refl _), (Gv.Own.nil bE 5 w342 (fun _ => False)), (fun _ h => by cases h), (fun _ h => by cases h), (fun _ h => by cases h), (fun _ h => by cases h), (fun h => by cases h), (fun h => by cases h), (fun _ _ h => by cases h), hb406, hb407, hk408, hd, hs, ok_pick [0, 1, 2, 3, 11, 12, 17, 18, 20, 21] hok (by kernel_rfl)⟩
        ·rintro s411 r2 h2 hR2 a w412 ⟨a415, c416, hB413, hz414, ho417, hl418, ap419, ap420, ap421, ap422, ap423, ap424, hb425, hb426, hk427, hd, hs, hok⟩
         refine gv_in ?_ hd hs hok
         clear hd hs hok
         clear hk408 hb407 hb406 hB404
         refine gv_seq <| gv_seq <| gv_region <| bindE h2 ?_; clear h2; intro j428 h3 h2
         refine gv_cut_ops (J := fun a w429 => Below w0.heap.size w0 w429 ∧ w412.heap.size ≤ w429.heap.size ∧ Box w429 b11 25 #[(.int .i64 r1.2.1), (.int .i64 r1.2.2)] ∧ Box w429 b188 25 #[(.int .i64 j341.1), (.int .i64 j341.2)] ∧ Gv.Own bE 5 w429 (fun _ => False) a6 c7 r1.1 ∧ Gv.Own bE 5 w429 (fun _ => False) a415 c416 s411.1 ∧ a.defers = [] ∧ a.tmps.size = 156 ∧ Ok [(0, (.slice pa0_0 (List.length b_0) pc0_0)), (1, (.slice pa1_0 (List.length from_1) pc1_0)), (2, (.slice pa2_0 (List.length to_2) pc2_0)), (3, (.slice pa3_0 (List.length drop_3) pc3_0)), (11, (.slice a6 (List.length r1.1) c7)), (12, (bp b11)), (17, (bp b188)), (18, (.func (.func 14) #[] #[])), (20, (.slice a415 (List.length s411.1) c416)), (21, (.int .i64 s411.2)), (115, (.bool j428))] a.tmps) ?_ ?_
         ·skip
          refine gv_pureN 5 [107, 108, 109, 110, 111] [(111, (.bool (decide (s411.2 < ((List.length b_0 : Nat) : Int)))))] (by kernel_rfl) ?_
          refine gv_split (s := 111) (g := (decide (s411.2 < ((List.length b_0 : Nat) : Int)))) (by kernel_rfl) (fun hc430 => ?_) (fun hc430 => ?_)
          ·skip
           replace h3 := ite_t hc430 h3
           refine gv_pureN 1 [112] [(112, (bp b188))] (by kernel_rfl) ?_
           refine gv_load (t := 3) (A := ⟨b188, 0, none⟩) (.int .i64 j341.1) [] (fun e => by cases e) rfl rfl rfl (by kernel_rfl) (by kernel_rfl) (by kernel_rfl) (inw0 (hb426.cell 0 rfl)) rfl ?_
           refine gv_pureN 2 [114, 115] [(115, (.bool (j341.1 == 0)))] (by kernel_rfl) ?_
           refine gv_nil ?_
           have e := sj h3; subst e
           refine gv_goal fun a hd hs hok => ?_
           exact ⟨hB413, (Nat.le_refl _), hb425, hb426, hk427, ho417, hd, hs, ok_pick [0, 1, 2, 3, 11, 12, 17, 18, 20, 21, 115] hok (by kernel_rfl)⟩
          ·skip
           replace h3 := ite_f hc430 h3
           refine gv_pureN 4 [112, 113, 114, 115] [(115, (.bool false))] (by kernel_rfl) ?_
           refine gv_nil ?_
           have e := sj h3; subst e
           refine gv_goal fun a hd hs hok => ?_
           exact ⟨hB413, (Nat.le_refl _), hb425, hb426, hk427, ho417, hd, hs, ok_pick [0, 1, 2, 3, 11, 12, 17, 18, 20, 21, 115] hok (by kernel_rfl)⟩
         ·rintro a w429 ⟨hB431, hz432, hb433, hb434, hk435, hk436, hd, hs, hok⟩
          refine gv_in ?_ hd hs hok
          clear hd hs hok
          have hz437 := (nt hz414 hz432)
          clear hz432 hk427 hb426 hb425 ho417 hz414 hB413
          refine gv_cond (b := j428) (by kernel_rfl) (fun hc438 => ?_) (fun hc438 => ?_)
          ·replace h2 := ite_t hc438 h2
           refine gv_skip <| gv_seq <| gv_block <| gv_seq <| gv_region <| gv_pureN 4 [118, 119, 120, 121] [(118, (.func (.func 14) #[] #[])), (119, (.slice pa1_0 (List.length from_1) pc1_0)), (120, (.slice pa0_0 (List.length b_0) pc0_0)), (121, (.int .i64 s411.2))] (by kernel_rfl) ?_
           refine bindE h2 ?_; clear h2; intro x439 hx440 h2
           refine gv_idxaddr (t := 22) (e := 5) (a := pa0_0) (len := List.length b_0) (cap := pc0_0) (kk := .i64) (i := s411.2) (sz := 1) [] (fun e => by cases e) rfl rfl rfl (by kernel_rfl) (by kernel_rfl) Tryd.underlying22 (by kernel_rfl) ((hpa0_0.below hB431 hX0).has hx440) (idx_spec hx440).1 (idx_spec hx440).2.1 rfl ?_
           refine gv_load (t := 5) (A := (elemAddr pa0_0 ((s411.2 : Int).toNat * 1))) (.int .u8 ((x439).toNat : Int)) [] (fun e => by cases e) rfl rfl rfl (by kernel_rfl) (by kernel_rfl) (by kernel_rfl) (inw0 ((hpa0_0.below hB431 hX0).cell hx440)) rfl ?_
           refine bindE h2 ?_; clear h2; intro r441 hr442 h2
           refine gv_call0 (by kernel_rfl) rfl (by kernel_rfl) enters14 (law4_BytestrTranslates_1_ok fuel pa1_0 pc1_0 from_1 ((x439).toNat : Int) w429 (fun k => X0 k) (fun k hk => (fun k (hk : X0 k) => ltl (hX0 k hk) hB431.size) k hk) ((hpa1_0.below hB431 hX0).wide (fun k hk => hk)) r441 hr442) ?_
           rintro v445 w443 ⟨hg444, rfl⟩
           refine gv_pureN 1 [22] [(22, (.int .i64 r441))] (by kernel_rfl) ?_
           refine gv_nil <| gv_block <| gv_seq <| gv_region <| gv_pureN 4 [133, 134, 135, 136] [(133, (.func (.func 14) #[] #[])), (134, (.slice pa3_0 (List.length drop_3) pc3_0)), (135, (.slice pa0_0 (List.length b_0) pc0_0)), (136, (.int .i64 s411.2))] (by kernel_rfl) ?_
           refine bindE h2 ?_; clear h2; intro x446 hx447 h2
           have hB448 := bg hB431 hg444 nb
           refine gv_idxaddr (t := 22) (e := 5) (a := pa0_0) (len := List.length b_0) (cap := pc0_0) (kk := .i64) (i := s411.2) (sz := 1) [] (fun e => by cases e) rfl rfl rfl (by kernel_rfl) (by kernel_rfl) Tryd.underlying22 (by kernel_rfl) ((hpa0_0.below hB448 hX0).has hx447) (idx_spec hx447).1 (idx_spec hx447).2.1 rfl ?_
           refine gv_load (t := 5) (A := (elemAddr pa0_0 ((s411.2 : Int).toNat * 1))) (.int .u8 ((x446).toNat : Int)) [] (fun e => by cases e) rfl rfl rfl (by kernel_rfl) (by kernel_rfl) (by kernel_rfl) (inw0 ((hpa0_0.below hB448 hX0).cell hx447)) rfl ?_
           refine bindE h2 ?_; clear h2; intro r449 hr450 h2
           refine gv_call0 (by kernel_rfl) rfl (by kernel_rfl) enters14 (law4_BytestrTranslates_1_ok fuel pa3_0 pc3_0 drop_3 ((x446).toNat : Int) w443 (fun k => X0 k) (fun k hk => (fun k (hk : X0 k) => ltl (hX0 k hk) hB448.size) k hk) ((hpa3_0.below hB448 hX0).wide (fun k hk => hk)) r449 hr450) ?_
           rintro v453 w451 ⟨hg452, rfl⟩
           have hz454 := (nt (nt hz437 hg444.size) hg452.size)
           clear hr450 hx447 hr442 hx440 hc438 hz437 hB431
           refine gv_pureN 2 [132, 140] [(132, (.bool (decide (r449 ≥ 0))))] (by kernel_rfl) ?_
           refine gv_nil <| bindE h2 ?_; clear h2; intro j455 h3 h2
           refine gv_cut_code (J := fun a w456 => ∃ (a20_0j : Option Addr) (c20_0j : Nat), Below w0.heap.size w0 w456 ∧ w451.heap.size ≤ w456.heap.size ∧ Gv.Own bE 5 w456 (fun _ => False) a20_0j c20_0j j455 ∧ (∀ g, blk a20_0j = some g → w0.heap.size ≤ g) ∧ (∀ g, blk a20_0j = some g → ¬ (· = b11) g) ∧ (∀ g, blk a20_0j = some g → ¬ (· = b188) g) ∧ (∀ g, blk a20_0j = some g → ¬ (fun k => blk a6 = some k) g) ∧ ¬ (fun k => blk a20_0j = some k) b11 ∧ ¬ (fun k => blk a20_0j = some k) b188 ∧ (∀ g, blk a6 = some g → ¬ (fun k => blk a20_0j = some k) g) ∧ Box w456 b11 25 #[(.int .i64 r1.2.1), (.int .i64 r1.2.2)] ∧ Box w456 b188 25 #[(.int .i64 j341.1), (.int .i64 j341.2)] ∧ Gv.Own bE 5 w456 (fun _ => False) a6 c7 r1.1 ∧ a.defers = [] ∧ a.tmps.size = 156 ∧ Ok [(0, (.slice pa0_0 (List.length b_0) pc0_0)), (1, (.slice pa1_0 (List.length from_1) pc1_0)), (2, (.slice pa2_0 (List.length to_2) pc2_0)), (3, (.slice pa3_0 (List.length drop_3) pc3_0)), (11, (.slice a6 (List.length r1.1) c7)), (12, (bp b11)), (17, (bp b188)), (18, (.func (.func 14) #[] #[])), (20, (.slice a20_0j (List.length j455) c20_0j)), (21, (.int .i64 s411.2))] a.tmps) ?_ ?_
           ·skip
            refine gv_cond (b := (decide (r449 ≥ 0))) (by kernel_rfl) (fun hc457 => ?_) (fun hc457 => ?_)
            ·replace h3 := ite_t hc457 h3
             refine gv_skip ?_
             have e := sj h3; subst e
             refine gv_goal fun a hd hs hok => ?_
             have hB458 := bg hB448 hg452 nb
             have hg459 := (grown_trans hg444 hg452)
             have hk460 := hk436.grown hg459 (fun _ h => h.elim) nb
             have hk461 := hb433.grown hg459 nb
             have hk462 := hb434.grown hg459 nb
             have hk463 := hk435.grown hg459 (fun _ h => h.elim) nb
             exact ⟨a415, c416, hB458, (Nat.le_refl _), hk460, hl418, ap419, ap420, ap421, ap422, ap423, ap424, hk461, hk462, hk463, hd, hs, ok_pick [0, 1, 2, 3, 11, 12, 17, 18, 20, 21] hok (by kernel_rfl)⟩
            ·replace h3 := ite_f hc457 h3
             refine gv_seq <| gv_region <| gv_pureN 3 [141, 142, 143] [(141, (.bool (decide (r441 ≥ 0))))] (by kernel_rfl) ?_
             refine gv_nil <| gv_cond (b := (decide (r441 ≥ 0))) (by kernel_rfl) (fun hc464 => ?_) (fun hc464 => ?_)
             ·replace h3 := ite_t hc464 h3
              refine gv_region <| gv_pureN 3 [144, 145, 146] [(144, (.slice a415 (List.length s411.1) c416)), (145, (.slice pa2_0 (List.length to_2) pc2_0)), (146, (.int .i64 r441))] (by kernel_rfl) ?_
              refine bindE h3 ?_; clear h3; intro x465 hx466 h3
              have hB467 := bg hB448 hg452 nb
              refine gv_idxaddr (t := 22) (e := 5) (a := pa2_0) (len := List.length to_2) (cap := pc2_0) (kk := .i64) (i := r441) (sz := 1) [] (fun e => by cases e) rfl rfl rfl (by kernel_rfl) (by kernel_rfl) Tryd.underlying22 (by kernel_rfl) ((hpa2_0.below hB467 hX0).has hx466) (idx_spec hx466).1 (idx_spec hx466).2.1 rfl ?_
              refine gv_load (t := 5) (A := (elemAddr pa2_0 ((r441 : Int).toNat * 1))) (.int .u8 ((x465).toNat : Int)) [] (fun e => by cases e) rfl rfl rfl (by kernel_rfl) (by kernel_rfl) (by kernel_rfl) (inw0 ((hpa2_0.below hB467 hX0).cell hx466)) rfl ?_
              refine gv_sub [0, 1, 2, 3, 11, 12, 17, 18, 21, 144, 148] (σ' := [(0, (.slice pa0_0 (List.length b_0) pc0_0)), (1, (.slice pa1_0 (List.length from_1) pc1_0)), (2, (.slice pa2_0 (List.length to_2) pc2_0)), (3, (.slice pa3_0 (List.length drop_3) pc3_0)), (11, (.slice a6 (List.length r1.1) c7)), (12, (bp b11)), (17, (bp b188)), (18, (.func (.func 14) #[] #[])), (21, (.int .i64 s411.2)), (144, (.slice a415 (List.length s411.1) c416)), (148, (.int .u8 ((x465).toNat : Int)))]) (by kernel_rfl) ?_
              refine gv_new0 (fun b => .slice (some ⟨b, 0, none⟩) 1 1) #[(.int .u8 ((x465).toNat : Int))] 5 (by kernel_rfl) (by kernel_rfl) ?_
              intro b468 w469 hg470 hb471 hbe472 hz473
              have ho474 : Gv.Own bE 5 w469 (fun _ => False) (some ⟨b468, 0, none⟩) 1 ([x465] : List UInt8) := Box.ownE hb471 ⟨[(.int .u8 ((x465).toNat : Int))], [], rfl, rfl, rfl⟩ (show 1 ≤ maxLen by decide) (fun h => h)
              have hl475 : ∀ g, blk (some ⟨b468, 0, none⟩) = some g → w0.heap.size ≤ g := loo hbe472 hB467.size
              refine bindE h3 ?_; clear h3; intro l479 hx480 h3
              have hg487 := (grown_trans (grown_trans hg444 hg452) hg470)
              have hk488 := hk436.grown hg487 (fun _ h => h.elim) nb
              refine gv_append bE (t := 22) (ty := 22) (e := 5) (a := a415) (ax := (some ⟨b468, 0, none⟩)) (cap := c416) (cx := 1) (xs := s411.1) (ys := ([x465] : List UInt8)) l479 (X := (fun _ => False)) (Y := (fun k => blk (some ⟨b468, 0, none⟩) = some k)) (by decide) rfl rfl (by kernel_rfl) (by kernel_rfl) Tryd.underlying22 info5 hk488 (ho474.rd (Y := fun k => blk (some ⟨b468, 0, none⟩) = some k) (fun _ h => h.elim) (fun g e => e)) hx480 (.inr fun _ _ _ _ _ h => h) (fun _ h => h.elim) ?_
              intro a481 c482 w483 hg484 ho485 hk486
              refine ⟨(fun e => by cases e), ?_⟩
              have hB490 := bg hB467 hg470 nb
              have hl489 : ∀ g, blk a481 = some g → w0.heap.size ≤ g := blk_step hk486 hl418 hB490.size
              have hk492 := hb433.grown hg487 nb
              have ap491 : ∀ g, blk a481 = some g → ¬ (· = b11) g := blk_neX hk486 ap419 (ltb hk492)
              have ap493 : ¬ (fun k => blk a481 = some k) b11 := fun h => blk_rev hk486 (fun h => (ap422) h) (hk492.lt) h
              have hk495 := hb434.grown hg487 nb
              have ap494 : ∀ g, blk a481 = some g → ¬ (· = b188) g := blk_neX hk486 ap420 (ltb hk495)
              have ap496 : ¬ (fun k => blk a481 = some k) b188 := fun h => blk_rev hk486 (fun h => (ap423) h) (hk495.lt) h
              have hk498 := hk435.grown hg487 (fun _ h => h.elim) nb
              have ap497 : ∀ g, blk a481 = some g → ¬ (fun k => blk a6 = some k) g := blk_neX hk486 ap421 (fun k (hk : blk a6 = some k) => hk498.lt k hk)
              have ap499 : ∀ g, blk a6 = some g → ¬ (fun k => blk a481 = some k) g := fun g e h => blk_rev hk486 (fun h => ((ap424) g e) h) (hk498.lt g e) h
              have hg501 := (grown_trans hg444 hg452)
              have hk502 := hk436.grown hg501 (fun _ h => h.elim) nb
              have ap503 : ∀ g, blk a415 = some g → ¬ (fun k => blk (some ⟨b468, 0, none⟩) = some k) g := fun g e hx => nl ((lowo hbe472) _ hx) ((fun k (hk : blk a415 = some k) => hk502.lt k hk) g e)
              have ap500 : ∀ g, blk a481 = some g → ¬ (fun k => blk (some ⟨b468, 0, none⟩) = some k) g := blk_neX hk486 ap503 (fun k (hk : blk (some ⟨b468, 0, none⟩) = some k) => ho474.lt k hk)
              have ap505 : ∀ g, blk (some ⟨b468, 0, none⟩) = some g → ¬ (fun k => blk a415 = some k) g := fun g e hx => nl ((lowo hbe472) g e) ((fun k (hk : blk a415 = some k) => hk502.lt k hk) _ hx)
              have ap504 : ∀ g, blk (some ⟨b468, 0, none⟩) = some g → ¬ (fun k => blk a481 = some k) g := fun g e h => blk_rev hk486 (fun h => ((ap505) g e) h) (ho474.lt g e) h
              refine gv_pureN 1 [20] [(20, (.slice a481 (List.length l479) c482))] (by kernel_rfl) ?_
              refine gv_nil ?_
              have e := sj h3; subst e
              refine gv_goal fun a hd hs hok => ?_
              have hB506 := bg hB490 hg484 hl418
              have hz507 := (nt hg470.size hg484.size)
              have hk508 := hk492.grown hg484 ap419
              have hk509 := hk495.grown hg484 ap420
              have hk510 := hk498.grown hg484 (fun _ h => h.elim) (rdnn ap421)
              exact ⟨a481, c482, hB506, hz507, ho485, hl489, ap491, ap494, ap497, ap493, ap496, ap499, hk508, hk509, hk510, hd, hs, ok_pick [0, 1, 2, 3, 11, 12, 17, 18, 20, 21] hok (by kernel_rfl)⟩
             ·replace h3 := ite_f hc464 h3
              refine gv_region <| gv_pureN 3 [125, 126, 127] [(125, (.slice a415 (List.length s411.1) c416)), (126, (.slice pa0_0 (List.length b_0) pc0_0)), (127, (.int .i64 s411.2))] (by kernel_rfl) ?_
              refine bindE h3 ?_; clear h3; intro x511 hx512 h3
              have hB513 := bg hB448 hg452 nb
              refine gv_idxaddr (t := 22) (e := 5) (a := pa0_0) (len := List.length b_0) (cap := pc0_0) (kk := .i64) (i := s411.2) (sz := 1) [] (fun e => by cases e) rfl rfl rfl (by kernel_rfl) (by kernel_rfl) Tryd.underlying22 (by kernel_rfl) ((hpa0_0.below hB513 hX0).has hx512) (idx_spec hx512).1 (idx_spec hx512).2.1 rfl ?_
              refine gv_load (t := 5) (A := (elemAddr pa0_0 ((s411.2 : Int).toNat * 1))) (.int .u8 ((x511).toNat : Int)) [] (fun e => by cases e) rfl rfl rfl (by kernel_rfl) (by kernel_rfl) (by kernel_rfl) (inw0 ((hpa0_0.below hB513 hX0).cell hx512)) rfl ?_
              refine gv_sub [0, 1, 2, 3, 11, 12, 17, 18, 21, 125, 129] (σ' := [(0, (.slice pa0_0 (List.length b_0) pc0_0)), (1, (.slice pa1_0 (List.length from_1) pc1_0)), (2, (.slice pa2_0 (List.length to_2) pc2_0)), (3, (.slice pa3_0 (List.length drop_3) pc3_0)), (11, (.slice a6 (List.length r1.1) c7)), (12, (bp b11)), (17, (bp b188)), (18, (.func (.func 14) #[] #[])), (21, (.int .i64 s411.2)), (125, (.slice a415 (List.length s411.1) c416)), (129, (.int .u8 ((x511).toNat : Int)))]) (by kernel_rfl) ?_
              refine gv_new0 (fun b => .slice (some ⟨b, 0, none⟩) 1 1) #[(.int .u8 ((x511).toNat : Int))] 5 (by kernel_rfl) (by kernel_rfl) ?_
              intro b514 w515 hg516 hb517 hbe518 hz519
              have ho520 : Gv.Own bE 5 w515 (fun _ => False) (some ⟨b514, 0, none⟩) 1 ([x511] : List UInt8) := Box.ownE hb517 ⟨[(.int .u8 ((x511).toNat : Int))], [], rfl, rfl, rfl⟩ (show 1 ≤ maxLen by decide) (fun h => h)
              have hl521 : ∀ g, blk (some ⟨b514, 0, none⟩) = some g → w0.heap.size ≤ g := loo hbe518 hB513.size
              refine bindE h3 ?_; clear h3; intro l525 hx526 h3
              have hg533 := (grown_trans (grown_trans hg444 hg452) hg516)
              have hk534 := hk436.grown hg533 (fun _ h => h.elim) nb
              refine gv_append bE (t := 22) (ty := 22) (e := 5) (a := a415) (ax := (some ⟨b514, 0, none⟩)) (cap := c416) (cx := 1) (xs := s411.1) (ys := ([x511] : List UInt8)) l525 (X := (fun _ => False)) (Y := (fun k => blk (some ⟨b514, 0, none⟩) = some k)) (by decide) rfl rfl (by kernel_rfl) (by kernel_rfl) Tryd.underlying22 info5 hk534 (ho520.rd (Y := fun k => blk (some ⟨b514, 0, none⟩) = some k) (fun _ h => h.elim) (fun g e => e)) hx526 (.inr fun _ _ _ _ _ h => h) (fun _ h => h.elim) ?_
              intro a527 c528 w529 hg530 ho531 hk532
              refine ⟨(fun e => by cases e), ?_⟩
              have hB536 := bg hB513 hg516 nb
              have hl535 : ∀ g, blk a527 = some g → w0.heap.size ≤ g := blk_step hk532 hl418 hB536.size
              have hk538 := hb433.grown hg533 nb
              have ap537 : ∀ g, blk a527 = some g → ¬ (· = b11) g := blk_neX hk532 ap419 (ltb hk538)
              have ap539 : ¬ (fun k => blk a527 = some k) b11 := fun h => blk_rev hk532 (fun h => (ap422) h) (hk538.lt) h
              have hk541 := hb434.grown hg533 nb
              have ap540 : ∀ g, blk a527 = some g → ¬ (· = b188) g := blk_neX hk532 ap420 (ltb hk541)
              have ap542 : ¬ (fun k => blk a527 = some k) b188 := fun h => blk_rev hk532 (fun h => (ap423) h) (hk541.lt) h
              have hk544 := hk435.grown hg533 (fun _ h => h.elim) nb
              have ap543 : ∀ g, blk a527 = some g → ¬ (fun k => blk a6 = some k) g := blk_neX hk532 ap421 (fun k (hk : blk a6 = some k) => hk544.lt k hk)
              have ap545 : ∀ g, blk a6 = some g → ¬ (fun k => blk a527 = some k) g := fun g e h => blk_rev hk532 (fun h => ((ap424) g e) h) (hk544.lt g e) h
              have hg547 := (grown_trans hg444 hg452)
              have hk548 := hk436.grown hg547 (fun _ h => h.elim) nb
              have ap549 : ∀ g, blk a415 = some g → ¬ (fun k => blk (some ⟨b514, 0, none⟩) = some k) g := fun g e hx => nl ((lowo hbe518) _ hx) ((fun k (hk : blk a415 = some k) => hk548.lt k hk) g e)
              have ap546 : ∀ g, blk a527 = some g → ¬ (fun k => blk (some ⟨b514, 0, none⟩) = some k) g := blk_neX hk532 ap549 (fun k (hk : blk (some ⟨b514, 0, none⟩) = some k) => ho520.lt k hk)
              have ap551 : ∀ g, blk (some ⟨b514, 0, none⟩) = some g → ¬ (fun k => blk a415 = some k) g := fun g e hx => nl ((lowo hbe518) g e) ((fun k (hk : blk a415 = some k) => hk548.lt k hk) _ hx)
              have ap550 : ∀ g, blk (some ⟨b514, 0, none⟩) = some g → ¬ (fun k => blk a527 = some k) g := fun g e h => blk_rev hk532 (fun h => ((ap551) g e) h) (ho520.lt g e) h
              refine gv_pureN 1 [20] [(20, (.slice a527 (List.length l525) c528))] (by kernel_rfl) ?_
              refine gv_nil ?_
              have e := sj h3; subst e
              refine gv_goal fun a hd hs hok => ?_
              have hB552 := bg hB536 hg530 hl418
              have hz553 := (nt hg516.size hg530.size)
              have hk554 := hk538.grown hg530 ap419
              have hk555 := hk541.grown hg530 ap420
              have hk556 := hk544.grown hg530 (fun _ h => h.elim) (rdnn ap421)
              exact ⟨a527, c528, hB552, hz553, ho531, hl535, ap537, ap540, ap543, ap539, ap542, ap545, hk554, hk555, hk556, hd, hs, ok_pick [0, 1, 2, 3, 11, 12, 17, 18, 20, 21] hok (by kernel_rfl)⟩
           ·rintro a w456 ⟨a559, c560, hB557, hz558, ho561, hl562, ap563, ap564, ap565, ap566, ap567, ap568, hb569, hb570, hk571, hd, hs, hok⟩
            refine gv_in ?_ hd hs hok
            clear hd hs hok
            have hz572 := (nt hz454 hz558)
            clear hz558 hz454 hg452 hB448 hg444 hk436 hk435 hb434 hb433 ap424 ap423 ap422 ap421 ap420 ap419 hl418
            refine gv_blk <| gv_blk <| gv_region <| gv_pureN 3 [21, 116, 117] [(21, (.int .i64 (IntKind.i64.wrap (s411.2 + 1))))] (by kernel_rfl) ?_
            refine gv_nil ?_
            have e := sj h2; subst e
            refine gv_goal fun a hd hs hok => ?_
            have hz573 := hz572
            exact ⟨(j455, (IntKind.i64.wrap (s411.2 + 1))), rfl, a559, c560, hB557, hz573, ho561, hl562, ap563, ap564, ap565, ap566, ap567, ap568, hb569, hb570, hk571, hd, hs, ok_pick [0, 1, 2, 3, 11, 12, 17, 18, 20, 21] hok (by kernel_rfl)⟩
          ·replace h2 := ite_f hc438 h2
           refine gv_cexit <| gv_exit rfl ?_
           have e := sj h2; subst e
           replace h1 := congrArg some (hR2 _ rfl)
           have e := sj h1; subst e
           refine gv_goal fun a hd hs hok => ?_
           have hz574 := hz437
           exact ⟨a415, c416, hB431, hz574, hk436, hl418, ap419, ap420, ap421, ap422, ap423, ap424, hb433, hb434, hk435, hd, hs, ok_pick [11, 12, 17, 20] hok (by kernel_rfl)⟩
       ·rintro a w410 ⟨a577, c578, hB575, hz576, ho579, hl580, ap581, ap582, ap583, ap584, ap585, ap586, hb587, hb588, hk589, hd, hs, hok⟩
        refine gv_in ?_ hd hs hok
        clear hd hs hok
        clear hz576 hk408 hb407 hb406 hB404
        refine gv_seq <| gv_region <| gv_pureN 1 [151] [(151, (.slice a6 (List.length r1.1) c7))] (by kernel_rfl) ?_
        refine gv_loadBox (t := 25) (b := b11) (t' := 25) (fr := (0, 0)) #[(.int .i64 r1.2.1), (.int .i64 r1.2.2)] [] (fun e => by cases e) rfl rfl rfl (by kernel_rfl) (by kernel_rfl) (by kernel_rfl) (by kernel_rfl) (inw0 hb587) rfl ?_
        refine gv_pureN 1 [153] [(153, (.slice a577 (List.length j409) c578))] (by kernel_rfl) ?_
        refine gv_loadBox (t := 25) (b := b188) (t' := 25) (fr := (0, 0)) #[(.int .i64 j341.1), (.int .i64 j341.2)] [] (fun e => by cases e) rfl rfl rfl (by kernel_rfl) (by kernel_rfl) (by kernel_rfl) (by kernel_rfl) (inw0 hb588) rfl ?_
        refine bindE h0 ?_; clear h0; intro r590 hr591 h0
        refine gv_call0 (by kernel_rfl) rfl (by kernel_rfl) enters13 (law4_raw_ok fuel a6 c7 r1.1 (r1.2.1, r1.2.2) a577 c578 j409 (j341.1, j341.2) w410 (fun k => (fun k => blk a6 = some k) k ∨ (fun k => blk a577 = some k) k) (fun k hk => (hk).elim (fun h => (fun k (hk : blk a6 = some k) => hk589.lt k hk) k h) (fun h => (fun k (hk : blk a577 = some k) => ho579.lt k hk) k h)) ((hk589.rd (Y := fun k => blk a6 = some k) (fun _ h => h.elim) (fun g e => e)).wide (fun k hk => (.inl hk))) ((ho579.rd (Y := fun k => blk a577 = some k) (fun _ h => h.elim) (fun g e => e)).wide (fun k hk => (.inr hk))) r590 hr591) ?_
        rintro v594 w592 ⟨hg593, rfl⟩
        refine gv_pureN 1 [10] [(10, (.bool r590))] (by kernel_rfl) ?_
        refine gv_nil <| gv_cret ?_
        have e := sj h0; subst e
        refine gv_ret (gv_done [(.bool r590)] rfl ⟨(by kernel_rfl), trivial⟩ ?_)
        have hB595 := bg hB575 hg593 nb
        exact ⟨grown_of_below hB595, rfl⟩

end Go.Proofs.YtlclmpegnkomcaaDoor
