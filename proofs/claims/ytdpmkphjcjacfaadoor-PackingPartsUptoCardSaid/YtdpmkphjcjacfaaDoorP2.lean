import Derived.Test.YtdpmkphjcjacfaaDoorP1
set_option linter.all false
set_option maxHeartbeats 4000000
set_option maxRecDepth 100000
/- Own work, printed by a program of mine: the walk of each function: a call returns what the plain function says. -/
namespace Go.Proofs.YtdpmkphjcjacfaaDoor
open Go.Gv Go.Gv.D Go.RowKit
open List (length)
theorem law4_PackingParts_ok (fuel : Nat) (pa0_0 : Option Addr) (pc0_0 : Nat) (l_0 : (List (Int × Int × Bool))) (pa1_0 : Option Addr) (pc1_0 : Nat) (vs_1 : (List (Int × (Bool × (List Int)) × (Bool × (List Int)) × ByteArray × Int))) (cut_2 : Int) (w0 : World) (X0 : Nat → Prop) (hX0 : ∀ k, X0 k → k < w0.heap.size) (hpa0_0 : Rd (prE (iE .u8) (prE (iE .i64) tE)) w0 X0 pa0_0 pc0_0 l_0) (hpa1_0 : Rd (prE (iE .i64) (prE (prE tE (slE (iE .u32))) (prE (prE tE (slE (iE .u32))) (prE sE (iE .i64))))) w0 X0 pa1_0 pc1_0 vs_1) {erx : TypeId × Value} (hG2 : Rd eE w0 X0 (some ⟨2, 0, none⟩) 1 [erx]) (r0 : Bool) (h0 : law4_PackingParts fuel l_0 vs_1 cut_2 = some r0) :
    Calls Tryd.prog 3 ([(.slice pa0_0 (length l_0) pc0_0), (.slice pa1_0 (length vs_1) pc1_0), (.int .i64 cut_2)] : List Value).toArray w0 (Ret fun v w' => w0.grownBy w' none ∧ v = tup [(.bool r0)]) := by
 have hB0 : Below w0.heap.size w0 w0 := Below.refl _ _
 unfold law4_PackingParts at h0
 refine calls_run Tryd.func3 rfl Tryd.ntmps3 (by kernel_rfl) ?_
 refine gv_sub [0, 1, 2] (σ' := [(0, (.slice pa0_0 (length l_0) pc0_0)), (1, (.slice pa1_0 (length vs_1) pc1_0)), (2, (.int .i64 cut_2))]) (by kernel_rfl) ?_
 refine gv_seq <| gv_region <| pN 1 [6] [] ?_
 refine gv_nil <| gv_seq <| gv_region <| pN 2 [29, 30] [(29, (.slice pa0_0 (length l_0) pc0_0)), (30, (.slice pa1_0 (length vs_1) pc1_0))] ?_
 refine bindE h0 ?_; clear h0; intro r1 hr2 h0
 refine gv_call0 (by kernel_rfl) rfl (by kernel_rfl) enters6 (packing_Pack_ok fuel pa0_0 pc0_0 l_0 pa1_0 pc1_0 vs_1 w0 (fun k => X0 k ∨ X0 k) (fun k hk => (hk).elim (fun h => (fun k (hk : X0 k) => ltl (hX0 k hk) hB0.size) k h) (fun h => (fun k (hk : X0 k) => ltl (hX0 k hk) hB0.size) k h)) ((hpa0_0.below hB0 hX0).wide (fun k hk => (.inl hk))) ((hpa1_0.below hB0 hX0).wide (fun k hk => (.inr hk))) r1 hr2) ?_
 rintro v5 w3 ⟨hg4, a6, c7, rfl, ho8, hl9⟩
 have hl10 : ∀ g, blk a6 = some g → w0.heap.size ≤ g := fun g e => Nat.le_trans hB0.size (hl9 g e)
 refine pN 3 [28, 32, 33] [(32, (.slice a6 (length r1.1) c7)), (33, (.agg #[(.int .i64 r1.2.1), (.int .i64 r1.2.2)]))] ?_
 refine gv_new0 (fun b => .pointer (some ⟨b, 0, none⟩)) #[(.int .i64 0), (.int .i64 0)] 26 (by kernel_rfl) (by kernel_rfl) ?_
 intro b11 w12 hg13 hb14 hbe15 hz16
 refine pN 1 [7] [(7, (.slice a6 (length r1.1) c7))] ?_
 refine gv_store0 26 0 (.agg #[(.int .i64 r1.2.1), (.int .i64 r1.2.2)]) #[(.int .i64 r1.2.1), (.int .i64 r1.2.2)] hb14 (by kernel_rfl) (by kernel_rfl) (by kernel_rfl) ?_
 intro w17 hg18 hb19 hz20
 refine gv_nil <| gv_seq <| gv_seq <| gv_region <| bindE h0 ?_; clear h0; intro r21 hr22 h0
 have hg23 := (grown_trans hg4 hg13)
 have hB24 := bg hB0 hg23 nb
 have hB25 := bg hB0 hg4 nb
 have hlo26 : w0.heap.size ≤ b11 := lob hbe15 hB25.size
 have hB27 := bg hB24 hg18 (rowlo hlo26)
 refine gv_call0 (by kernel_rfl) rfl (by kernel_rfl) enters7 (law4_packs_ok fuel  w17 (fun k => X0 k) (fun k hk => (fun k (hk : X0 k) => ltl (hX0 k hk) hB27.size) k hk) ((hG2.below hB27 hX0).wide (fun k hk => hk)) r21 hr22) ?_
 rintro v30 w28 ⟨hg29, rfl⟩
 refine pN 1 [35] [(35, (.bool (!r21)))] ?_
 refine gv_nil <| gv_cond (b := (!r21)) (by kernel_rfl) (fun hc31 => ?_) (fun hc31 => ?_)
 ·replace h0 := ite_t hc31 h0
  refine gv_seq <| gv_region <| pN 1 [6] [(6, (.bool false))] ?_
  refine gv_nil <| gv_cret ?_
  have e := sj h0; subst e
  refine gv_ret (gv_done [(.bool false)] rfl ⟨(by kernel_rfl), trivial⟩ ?_)
  have hB32 := bg hB27 hg29 nb
  exact ⟨grown_of_below hB32, rfl⟩
 ·replace h0 := ite_f hc31 h0
  refine gv_skip <| gv_seq <| gv_seq <| gv_region <| pN 1 [36] [(36, (bp b11))] ?_
  have hk33 := hb19.grown hg29 nb
  refine gv_load (t := 3) (A := ⟨b11, 0, none⟩) (.int .i64 r1.2.1) [] (fun e => by cases e) rfl rfl rfl (by kernel_rfl) (by kernel_rfl) (by kernel_rfl) (inw0 (hk33.cell 0 rfl)) rfl ?_
  refine pN 1 [38] [(38, (.bool (r1.2.1 != 0)))] ?_
  refine gv_nil <| gv_cond (b := (r1.2.1 != 0)) (by kernel_rfl) (fun hc34 => ?_) (fun hc34 => ?_)
  ·replace h0 := ite_t hc34 h0
   refine gv_seq <| gv_region <| pN 4 [6, 39, 40, 41] [(6, (.bool (((length r1.1 : Nat) : Int) == 0)))] ?_
   refine gv_nil <| gv_cret ?_
   have e := sj h0; subst e
   refine gv_ret (gv_done [(.bool (((length r1.1 : Nat) : Int) == 0))] rfl ⟨(by kernel_rfl), trivial⟩ ?_)
   have hB35 := bg hB27 hg29 nb
   exact ⟨grown_of_below hB35, rfl⟩
  ·replace h0 := ite_f hc34 h0
   refine gv_skip <| gv_seq <| gv_seq <| gv_region <| gv_cut_ops (J := fun a w36 => w28 = w36 ∧ a.defers = [] ∧ a.tmps.size = 231 ∧ Ok [(0, (.slice pa0_0 (length l_0) pc0_0)), (1, (.slice pa1_0 (length vs_1) pc1_0)), (2, (.int .i64 cut_2)), (7, (.slice a6 (length r1.1) c7)), (49, (.bool ((decide (cut_2 < 0)) || (decide (cut_2 > ((length l_0 : Nat) : Int))))))] a.tmps) ?_ ?_
   ·skip
    refine pN 3 [42, 43, 44] [(44, (.bool (decide (cut_2 < 0))))] ?_
    refine gv_split (s := 44) (g := (decide (cut_2 < 0))) (by kernel_rfl) (fun hc37 => ?_) (fun hc37 => ?_)
    ·skip
     refine pN 5 [45, 46, 47, 48, 49] [(49, (.bool true))] ?_
     refine gv_sub [0, 1, 2, 7, 49] (σ' := [(0, (.slice pa0_0 (length l_0) pc0_0)), (1, (.slice pa1_0 (length vs_1) pc1_0)), (2, (.int .i64 cut_2)), (7, (.slice a6 (length r1.1) c7)), (49, (.bool true))]) (by kernel_rfl) ?_
     refine gv_nil <| gv_sub [0, 1, 2, 7, 49] (σ' := [(0, (.slice pa0_0 (length l_0) pc0_0)), (1, (.slice pa1_0 (length vs_1) pc1_0)), (2, (.int .i64 cut_2)), (7, (.slice a6 (length r1.1) c7)), (49, (.bool true))]) (by kernel_rfl) ?_
     refine gv_goal fun a hd hs hok => ⟨rfl, hd, hs, ?_⟩
     obtain ⟨q0, q1, q2, q7, q49, _⟩ := hok
     exact ⟨q0, q1, q2, q7, (by rw [hc37]; exact q49), trivial⟩
    ·skip
     refine pN 5 [45, 46, 47, 48, 49] [(49, (.bool (decide (cut_2 > ((length l_0 : Nat) : Int)))))] ?_
     refine gv_sub [0, 1, 2, 7, 49] (σ' := [(0, (.slice pa0_0 (length l_0) pc0_0)), (1, (.slice pa1_0 (length vs_1) pc1_0)), (2, (.int .i64 cut_2)), (7, (.slice a6 (length r1.1) c7)), (49, (.bool (decide (cut_2 > ((length l_0 : Nat) : Int)))))]) (by kernel_rfl) ?_
     refine gv_nil <| gv_sub [0, 1, 2, 7, 49] (σ' := [(0, (.slice pa0_0 (length l_0) pc0_0)), (1, (.slice pa1_0 (length vs_1) pc1_0)), (2, (.int .i64 cut_2)), (7, (.slice a6 (length r1.1) c7)), (49, (.bool (decide (cut_2 > ((length l_0 : Nat) : Int)))))]) (by kernel_rfl) ?_
     refine gv_goal fun a hd hs hok => ⟨rfl, hd, hs, ?_⟩
     obtain ⟨q0, q1, q2, q7, q49, _⟩ := hok
     exact ⟨q0, q1, q2, q7, (by rw [hc37]; exact q49), trivial⟩
   ·rintro a w36 ⟨e, hd, hs, hok⟩; subst e
    refine gv_in ?_ hd hs hok
    clear hd hs hok
    refine gv_cond (b := ((decide (cut_2 < 0)) || (decide (cut_2 > ((length l_0 : Nat) : Int))))) (by kernel_rfl) (fun hc38 => ?_) (fun hc38 => ?_)
    ·replace h0 := ite_t hc38 h0
     refine gv_seq <| gv_region <| pN 1 [6] [(6, (.bool true))] ?_
     refine gv_nil <| gv_cret ?_
     have e := sj h0; subst e
     refine gv_ret (gv_done [(.bool true)] rfl ⟨(by kernel_rfl), trivial⟩ ?_)
     have hB39 := bg hB27 hg29 nb
     exact ⟨grown_of_below hB39, rfl⟩
    ·replace h0 := ite_f hc38 h0
     refine gv_skip <| gv_seq <| gv_region <| pN 1 [9] [(9, (.int .i64 0))] ?_
     refine gv_nil <| gv_seq <| gv_region <| pN 1 [10] [(10, (.slice none (length ([] : List (Int × Int × Bool))) 0))] ?_
     refine gv_sub [0, 1, 2, 7, 9, 10] (σ' := [(0, (.slice pa0_0 (length l_0) pc0_0)), (1, (.slice pa1_0 (length vs_1) pc1_0)), (2, (.int .i64 cut_2)), (7, (.slice a6 (length r1.1) c7)), (9, (.int .i64 0)), (10, (.slice none (length ([] : List (Int × Int × Bool))) 0))]) (by kernel_rfl) ?_
     refine gv_nil <| gv_seq <| gv_seq <| gv_region <| pN 1 [11] [(11, (.int .i64 0))] ?_
     refine gv_nil <| bindE h0 ?_; clear h0; intro j40 h1 h0
     refine gv_cut_code (J := fun a w41 => ∃ (a10_0j : Option Addr) (c10_0j : Nat), Below w0.heap.size w0 w41 ∧ w28.heap.size ≤ w41.heap.size ∧ Gv.Own (prE (iE .u8) (prE (iE .i64) tE)) 31 w41 (fun _ => False) a10_0j c10_0j j40.2 ∧ (∀ g, blk a10_0j = some g → w0.heap.size ≤ g) ∧ (∀ g, blk a10_0j = some g → ¬ (fun k => blk a6 = some k) g) ∧ (∀ g, blk a6 = some g → ¬ (fun k => blk a10_0j = some k) g) ∧ Gv.Own bE 5 w41 (fun _ => False) a6 c7 r1.1 ∧ a.defers = [] ∧ a.tmps.size = 231 ∧ Ok [(0, (.slice pa0_0 (length l_0) pc0_0)), (1, (.slice pa1_0 (length vs_1) pc1_0)), (2, (.int .i64 cut_2)), (7, (.slice a6 (length r1.1) c7)), (9, (.int .i64 j40.1)), (10, (.slice a10_0j (length j40.2) c10_0j))] a.tmps) ?_ ?_
     ·skip
      refine gv_block <| gv_loop (A := fun (s42 : (Int × (List (Int × Int × Bool)) × Int)) a w43 => ∃ (a10_0j : Option Addr) (c10_0j : Nat), Below w0.heap.size w0 w43 ∧ w28.heap.size ≤ w43.heap.size ∧ Gv.Own (prE (iE .u8) (prE (iE .i64) tE)) 31 w43 (fun _ => False) a10_0j c10_0j s42.2.1 ∧ (∀ g, blk a10_0j = some g → w0.heap.size ≤ g) ∧ (∀ g, blk a10_0j = some g → ¬ (fun k => blk a6 = some k) g) ∧ (∀ g, blk a6 = some g → ¬ (fun k => blk a10_0j = some k) g) ∧ Gv.Own bE 5 w43 (fun _ => False) a6 c7 r1.1 ∧ a.defers = [] ∧ a.tmps.size = 231 ∧ Ok [(0, (.slice pa0_0 (length l_0) pc0_0)), (1, (.slice pa1_0 (length vs_1) pc1_0)), (2, (.int .i64 cut_2)), (7, (.slice a6 (length r1.1) c7)), (9, (.int .i64 s42.1)), (10, (.slice a10_0j (length s42.2.1) c10_0j)), (11, (.int .i64 s42.2.2))] a.tmps) h1 ?_ ?_
      ·intro a hd hs hok
       have hB44 := bg hB27 hg29 nb
       have ap45 : ¬ (fun k => blk a6 = some k) b11 := fun hx => nl ((lowb hbe15) _ rfl) ((fun k (hk : blk a6 = some k) => ho8.lt k hk) _ hx)
       have hk46 := ((ho8.grown hg13 (fun _ h => h.elim) nb).grown hg18 (fun _ h => h.elim) (rdnn (rowne ap45))).grown hg29 (fun _ h => h.elim) nb
       exact ⟨none, 0, hB44, nrf, (Gv.Own.nil (prE (iE .u8) (prE (iE .i64) tE)) 31 w28 (fun _ => False)), (fun _ h => by cases h), (fun _ h => by cases h), (fun _ _ h => by cases h), hk46, hd, hs, okp [0, 1, 2, 7, 9, 10, 11] hok⟩
      ·rintro s42 r2 h2 hR2 a w43 ⟨a49, c50, hB47, hz48, ho51, hl52, ap53, ap54, hk55, hd, hs, hok⟩
       refine gv_in ?_ hd hs hok
       clear hd hs hok
       clear hc38 hc34 hk33 hc31 hg29 hB27 hlo26 hB25 hB24 hg23 hr22 hz20 hb19 hg18 hz16 hbe15 hb14 hg13 hl9 ho8 hg4 hr2
       refine gv_seq <| gv_seq <| gv_region <| pN 4 [50, 51, 52, 53] [(53, (.bool (decide (s42.2.2 < ((length l_0 : Nat) : Int)))))] ?_
       refine gv_nil <| gv_cond (b := (decide (s42.2.2 < ((length l_0 : Nat) : Int)))) (by kernel_rfl) (fun hc56 => ?_) (fun hc56 => ?_)
       ·replace h2 := ite_t hc56 h2
        refine gv_skip <| gv_seq <| gv_block <| gv_seq <| gv_seq <| gv_region <| bindE h2 ?_; clear h2; intro j57 h3 h2
        refine gv_cut_ops (J := fun a w58 => Below w0.heap.size w0 w58 ∧ w43.heap.size ≤ w58.heap.size ∧ Gv.Own bE 5 w58 (fun _ => False) a6 c7 r1.1 ∧ Gv.Own (prE (iE .u8) (prE (iE .i64) tE)) 31 w58 (fun _ => False) a49 c50 s42.2.1 ∧ a.defers = [] ∧ a.tmps.size = 231 ∧ Ok [(0, (.slice pa0_0 (length l_0) pc0_0)), (1, (.slice pa1_0 (length vs_1) pc1_0)), (2, (.int .i64 cut_2)), (7, (.slice a6 (length r1.1) c7)), (9, (.int .i64 s42.1)), (10, (.slice a49 (length s42.2.1) c50)), (11, (.int .i64 s42.2.2)), (66, (.bool j57))] a.tmps) ?_ ?_
        ·skip
         refine pN 4 [56, 57, 58, 59] [(59, (.bool (decide (s42.2.2 < cut_2))))] ?_
         refine gv_split (s := 59) (g := (decide (s42.2.2 < cut_2))) (by kernel_rfl) (fun hc59 => ?_) (fun hc59 => ?_)
         ·skip
          replace h3 := ite_t hc59 h3
          refine pN 2 [60, 61] [(60, (.slice pa0_0 (length l_0) pc0_0)), (61, (.int .i64 s42.2.2))] ?_
          refine bindE h3 ?_; clear h3; intro x60 hx61 h3
          refine gv_idxaddr (t := 22) (e := 31) (a := pa0_0) (len := length l_0) (cap := pc0_0) (kk := .i64) (i := s42.2.2) (sz := 3) [] (fun e => by cases e) rfl rfl rfl (by kernel_rfl) (by kernel_rfl) Tryd.underlying22 (by kernel_rfl) ((hpa0_0.below hB47 hX0).has hx61) (idx_spec hx61).1 (idx_spec hx61).2.1 rfl ?_
          refine pN 1 [63] [(63, (.pointer (some (elemAddr pa0_0 ((s42.2.2 : Int).toNat * 3)))))] ?_
          obtain ⟨_, ⟨_, _, rfl, rfl, ⟨_, _, rfl, rfl, rfl⟩⟩, hc62⟩ := hpa0_0.cellsK hx61
          refine gv_load (t := 5) (A := (elemAddr pa0_0 ((s42.2.2 : Int).toNat * 3))) (.int .u8 x60.1) [] (fun e => by cases e) rfl rfl rfl (by kernel_rfl) (by kernel_rfl) (by kernel_rfl) (inw0 ((hc62 w43 (fun k hk => hB47.block k (hX0 k hk))).zero rfl)) rfl ?_
          refine pN 2 [65, 66] [(66, (.bool (x60.1 != 120)))] ?_
          refine gv_nil ?_
          have e := sj h3; subst e
          refine gv_goal fun a hd hs hok => ?_
          exact ⟨hB47, nrf, hk55, ho51, hd, hs, okp [0, 1, 2, 7, 9, 10, 11, 66] hok⟩
         ·skip
          replace h3 := ite_f hc59 h3
          refine pN 7 [60, 61, 62, 63, 64, 65, 66] [(66, (.bool false))] ?_
          refine gv_nil ?_
          have e := sj h3; subst e
          refine gv_goal fun a hd hs hok => ?_
          exact ⟨hB47, nrf, hk55, ho51, hd, hs, okp [0, 1, 2, 7, 9, 10, 11, 66] hok⟩
        ·rintro a w58 ⟨hB63, hz64, hk65, hk66, hd, hs, hok⟩
         refine gv_in ?_ hd hs hok
         clear hd hs hok
         have hz67 := (nt hz48 hz64)
         clear hz64 hc56 hk55 ho51 hz48 hB47
         refine bindE h2 ?_; clear h2; intro j68 h3 h2
         refine gv_cut_code (J := fun a w69 => Below w0.heap.size w0 w69 ∧ w58.heap.size ≤ w69.heap.size ∧ Gv.Own bE 5 w69 (fun _ => False) a6 c7 r1.1 ∧ Gv.Own (prE (iE .u8) (prE (iE .i64) tE)) 31 w69 (fun _ => False) a49 c50 s42.2.1 ∧ a.defers = [] ∧ a.tmps.size = 231 ∧ Ok [(0, (.slice pa0_0 (length l_0) pc0_0)), (1, (.slice pa1_0 (length vs_1) pc1_0)), (2, (.int .i64 cut_2)), (7, (.slice a6 (length r1.1) c7)), (9, (.int .i64 j68)), (10, (.slice a49 (length s42.2.1) c50)), (11, (.int .i64 s42.2.2))] a.tmps) ?_ ?_
         ·skip
          refine gv_cond (b := j57) (by kernel_rfl) (fun hc70 => ?_) (fun hc70 => ?_)
          ·replace h3 := ite_t hc70 h3
           refine gv_region <| pN 3 [9, 67, 68] [(9, (.int .i64 (IntKind.i64.wrap (s42.1 + 1))))] ?_
           refine gv_nil ?_
           have e := sj h3; subst e
           refine gv_goal fun a hd hs hok => ?_
           exact ⟨hB63, nrf, hk65, hk66, hd, hs, okp [0, 1, 2, 7, 9, 10, 11] hok⟩
          ·replace h3 := ite_f hc70 h3
           refine gv_skip ?_
           have e := sj h3; subst e
           refine gv_goal fun a hd hs hok => ?_
           exact ⟨hB63, nrf, hk65, hk66, hd, hs, okp [0, 1, 2, 7, 9, 10, 11] hok⟩
         ·rintro a w69 ⟨hB71, hz72, hk73, hk74, hd, hs, hok⟩
          refine gv_in ?_ hd hs hok
          clear hd hs hok
          have hz75 := (nt hz67 hz72)
          clear hz72 hz67 hk66 hk65 hB63
          refine gv_seq <| gv_region <| pN 2 [69, 70] [(69, (.slice pa0_0 (length l_0) pc0_0)), (70, (.int .i64 s42.2.2))] ?_
          refine bindE h2 ?_; clear h2; intro x76 hx77 h2
          refine gv_idxaddr (t := 22) (e := 31) (a := pa0_0) (len := length l_0) (cap := pc0_0) (kk := .i64) (i := s42.2.2) (sz := 3) [] (fun e => by cases e) rfl rfl rfl (by kernel_rfl) (by kernel_rfl) Tryd.underlying22 (by kernel_rfl) ((hpa0_0.below hB71 hX0).has hx77) (idx_spec hx77).1 (idx_spec hx77).2.1 rfl ?_
          obtain ⟨_, ⟨_, _, rfl, rfl, ⟨_, _, rfl, rfl, rfl⟩⟩, hc78⟩ := hpa0_0.cellsK hx77
          refine gv_loadAgg (t := 31) (A := (elemAddr pa0_0 ((s42.2.2 : Int).toNat * 3))) #[(.int .u8 x76.1), (.int .i64 x76.2.1), (.bool x76.2.2)] [] (fun e => by cases e) rfl rfl rfl (by kernel_rfl) (by kernel_rfl) (by kernel_rfl) (by kernel_rfl) (inw0 (hc78 w69 (fun k hk => hB71.block k (hX0 k hk)))) rfl ?_
          refine gv_new0 (fun b => .pointer (some ⟨b, 0, none⟩)) #[(.int .u8 0), (.int .i64 0), (.bool false)] 31 (by kernel_rfl) (by kernel_rfl) ?_
          intro b79 w80 hg81 hb82 hbe83 hz84
          refine gv_store0 31 0 (.agg #[(.int .u8 x76.1), (.int .i64 x76.2.1), (.bool x76.2.2)]) #[(.int .u8 x76.1), (.int .i64 x76.2.1), (.bool x76.2.2)] hb82 (by kernel_rfl) (by kernel_rfl) (by kernel_rfl) ?_
          intro w85 hg86 hb87 hz88
          refine gv_nil <| gv_seq <| gv_region <| pN 1 [73] [(73, (.pointer (some ⟨b79, 2, none⟩)))] ?_
          refine gv_load (t := 4) (A := ⟨b79, 2, none⟩) (.bool x76.2.2) [] (fun e => by cases e) rfl rfl rfl (by kernel_rfl) (by kernel_rfl) (by kernel_rfl) (inw0 (hb87.cell 2 rfl)) rfl ?_
          refine pN 2 [75, 76] [(75, (.bool (!x76.2.2))), (76, (.pointer (some ⟨b79, 2, none⟩)))] ?_
          refine gv_store0 4 2 (.bool (!x76.2.2)) #[(.int .u8 x76.1), (.int .i64 x76.2.1), (.bool (!x76.2.2))] hb87 (by kernel_rfl) (by kernel_rfl) (by kernel_rfl) ?_
          intro w89 hg90 hb91 hz92
          refine gv_nil <| gv_region <| pN 1 [77] [(77, (.slice a49 (length s42.2.1) c50))] ?_
          refine gv_loadBox (t := 31) (b := b79) (t' := 31) (fr := (0, 0)) #[(.int .u8 x76.1), (.int .i64 x76.2.1), (.bool (!x76.2.2))] [] (fun e => by cases e) rfl rfl rfl (by kernel_rfl) (by kernel_rfl) (by kernel_rfl) (by kernel_rfl) (inw0 hb91) rfl ?_
          refine gv_new0 (fun b => .slice (some ⟨b, 0, none⟩) 1 1) #[(.int .u8 x76.1), (.int .i64 x76.2.1), (.bool (!x76.2.2))] 31 (by kernel_rfl) (by kernel_rfl) ?_
          intro b93 w94 hg95 hb96 hbe97 hz98
          have ho99 : Gv.Own (prE (iE .u8) (prE (iE .i64) tE)) 31 w94 (fun _ => False) (some ⟨b93, 0, none⟩) 1 ([(x76.1, x76.2.1, (!x76.2.2))] : List (Int × Int × Bool)) := Box.ownE hb96 ⟨[(.int .u8 x76.1), (.int .i64 x76.2.1), (.bool (!x76.2.2))], [], rfl, ⟨[(.int .u8 x76.1)], [(.int .i64 x76.2.1), (.bool (!x76.2.2))], rfl, rfl, ⟨[(.int .i64 x76.2.1)], [(.bool (!x76.2.2))], rfl, rfl, rfl⟩⟩, rfl⟩ (show 1 ≤ maxLen by decide) (fun h => h)
          have hB104 := bg hB71 hg81 nb
          have hlo105 : w0.heap.size ≤ b79 := lob hbe83 hB71.size
          have hB106 := bg hB104 hg86 (rowlo hlo105)
          have hB107 := bg hB106 hg90 (rowlo hlo105)
          have hl100 : ∀ g, blk (some ⟨b93, 0, none⟩) = some g → w0.heap.size ≤ g := loo hbe97 hB107.size
          have hz108 := (nt (nt (nt (nt hz75 hg81.size) hg86.size) hg90.size) hg95.size)
          clear hB106 hlo105 hB104 hz98 hb96 hz92 hb91 hz88 hb87 hz84 hb82 hc78 hx77 hz75 hB71
          refine bindE h2 ?_; clear h2; intro l109 hx110 h2
          have ap117 : ¬ (fun k => blk a49 = some k) b79 := fun hx => nl ((lowb hbe83) _ rfl) ((fun k (hk : blk a49 = some k) => hk74.lt k hk) _ hx)
          have hk118 := (((hk74.grown hg81 (fun _ h => h.elim) nb).grown hg86 (fun _ h => h.elim) (rdnn (rowne ap117))).grown hg90 (fun _ h => h.elim) (rdnn (rowne ap117))).grown hg95 (fun _ h => h.elim) nb
          refine gv_append (prE (iE .u8) (prE (iE .i64) tE)) (t := 22) (ty := 22) (e := 31) (a := a49) (ax := (some ⟨b93, 0, none⟩)) (cap := c50) (cx := 1) (xs := s42.2.1) (ys := ([(x76.1, x76.2.1, (!x76.2.2))] : List (Int × Int × Bool))) l109 (X := (fun _ => False)) (Y := (fun k => blk (some ⟨b93, 0, none⟩) = some k)) (by decide) rfl rfl (by kernel_rfl) (by kernel_rfl) Tryd.underlying22 info31 hk118 (ho99.rd (Y := fun k => blk (some ⟨b93, 0, none⟩) = some k) (fun _ h => h.elim) (fun g e => e)) hx110 (.inr (rf_pr rf_flat (rf_pr rf_flat rf_flat))) (fun _ h => h.elim) ?_
          intro a111 c112 w113 hg114 ho115 hk116
          refine ⟨(fun e => by cases e), ?_⟩
          have hB120 := bg hB107 hg95 nb
          have hl119 : ∀ g, blk a111 = some g → w0.heap.size ≤ g := blk_step hk116 hl52 hB120.size
          have ap122 : ¬ (fun k => blk a6 = some k) b79 := fun hx => nl ((lowb hbe83) _ rfl) ((fun k (hk : blk a6 = some k) => hk73.lt k hk) _ hx)
          have hk123 := (((hk73.grown hg81 (fun _ h => h.elim) nb).grown hg86 (fun _ h => h.elim) (rdnn (rowne ap122))).grown hg90 (fun _ h => h.elim) (rdnn (rowne ap122))).grown hg95 (fun _ h => h.elim) nb
          have ap121 : ∀ g, blk a111 = some g → ¬ (fun k => blk a6 = some k) g := blk_neX hk116 ap53 (fun k (hk : blk a6 = some k) => hk123.lt k hk)
          have ap124 : ∀ g, blk a6 = some g → ¬ (fun k => blk a111 = some k) g := fun g e h => blk_rev hk116 (fun h => ((ap54) g e) h) (hk123.lt g e) h
          have hk126 := ((hk74.grown hg81 (fun _ h => h.elim) nb).grown hg86 (fun _ h => h.elim) (rdnn (rowne ap117))).grown hg90 (fun _ h => h.elim) (rdnn (rowne ap117))
          have ap127 : ∀ g, blk a49 = some g → ¬ (fun k => blk (some ⟨b93, 0, none⟩) = some k) g := fun g e hx => nl ((lowo hbe97) _ hx) ((fun k (hk : blk a49 = some k) => hk126.lt k hk) g e)
          have ap125 : ∀ g, blk a111 = some g → ¬ (fun k => blk (some ⟨b93, 0, none⟩) = some k) g := blk_neX hk116 ap127 (fun k (hk : blk (some ⟨b93, 0, none⟩) = some k) => ho99.lt k hk)
          have ap129 : ∀ g, blk (some ⟨b93, 0, none⟩) = some g → ¬ (fun k => blk a49 = some k) g := fun g e hx => nl ((lowo hbe97) g e) ((fun k (hk : blk a49 = some k) => hk126.lt k hk) _ hx)
          have ap128 : ∀ g, blk (some ⟨b93, 0, none⟩) = some g → ¬ (fun k => blk a111 = some k) g := fun g e h => blk_rev hk116 (fun h => ((ap129) g e) h) (ho99.lt g e) h
          refine pN 1 [10] [(10, (.slice a111 (length l109) c112))] ?_
          refine gv_sub [0, 1, 2, 7, 9, 10, 11] (σ' := [(0, (.slice pa0_0 (length l_0) pc0_0)), (1, (.slice pa1_0 (length vs_1) pc1_0)), (2, (.int .i64 cut_2)), (7, (.slice a6 (length r1.1) c7)), (9, (.int .i64 j68)), (10, (.slice a111 (length l109) c112)), (11, (.int .i64 s42.2.2))]) (by kernel_rfl) ?_
          refine gv_nil <| gv_blk <| gv_region <| pN 3 [11, 54, 55] [(11, (.int .i64 (IntKind.i64.wrap (s42.2.2 + 1))))] ?_
          refine gv_nil ?_
          have e := sj h2; subst e
          refine gv_goal fun a hd hs hok => ?_
          have hB130 := bg hB120 hg114 hl52
          have hz131 := (nt hz108 hg114.size)
          have hk132 := hk123.grown hg114 (fun _ h => h.elim) (rdnn ap53)
          exact ⟨(j68, l109, (IntKind.i64.wrap (s42.2.2 + 1))), rfl, a111, c112, hB130, hz131, ho115, hl119, ap121, ap124, hk132, hd, hs, okp [0, 1, 2, 7, 9, 10, 11] hok⟩
       ·replace h2 := ite_f hc56 h2
        refine gv_cexit <| gv_exit rfl ?_
        have e := sj h2; subst e
        replace h1 := congrArg some (hR2 _ rfl)
        have e := sj h1; subst e
        refine gv_goal fun a hd hs hok => ?_
        have hz133 := hz48
        exact ⟨a49, c50, hB47, hz133, ho51, hl52, ap53, ap54, hk55, hd, hs, okp [0, 1, 2, 7, 9, 10] hok⟩
     ·rintro a w41 ⟨a136, c137, hB134, hz135, ho138, hl139, ap140, ap141, hk142, hd, hs, hok⟩
      refine gv_in ?_ hd hs hok
      clear hd hs hok
      clear hz135 hc38 hc34 hk33 hc31 hg29 hB27 hlo26 hB25 hB24 hg23 hr22 hz20 hb19 hg18 hz16 hbe15 hb14 hg13 hl9 ho8 hg4 hr2
      refine gv_seq <| gv_seq <| gv_region <| pN 4 [81, 82, 83, 84] [(84, (.bool (decide (j40.1 > ((length vs_1 : Nat) : Int)))))] ?_
      refine gv_nil <| gv_cond (b := (decide (j40.1 > ((length vs_1 : Nat) : Int)))) (by kernel_rfl) (fun hc143 => ?_) (fun hc143 => ?_)
      ·replace h0 := ite_t hc143 h0
       refine gv_seq <| gv_region <| pN 1 [6] [(6, (.bool false))] ?_
       refine gv_nil <| gv_cret ?_
       have e := sj h0; subst e
       refine gv_ret (gv_done [(.bool false)] rfl ⟨(by kernel_rfl), trivial⟩ ?_)
       exact ⟨grown_of_below hB134, rfl⟩
      ·replace h0 := ite_f hc143 h0
       refine gv_skip <| gv_seq <| gv_anyM [] (by kernel_rfl) [0, 1, 2, 3, 4, 5, 6, 7, 8, 9, 10, 11] [(12, none)] (by kernel_rfl) ?_
       intro w144 hg145
       have hk147 := ho138.grown hg145 (fun _ h => h.elim) nb
       have hM146 : ∀ k, (fun k => blk a136 = some k) k → k < w144.heap.size := (fun k (hk : blk a136 = some k) => hk147.lt k hk)
       have hk149 := hk142.grown hg145 (fun _ h => h.elim) nb
       have hM148 : ∀ k, (fun k => blk a6 = some k) k → k < w144.heap.size := (fun k (hk : blk a6 = some k) => hk149.lt k hk)
       refine bindE h0 ?_; clear h0; intro x152 hx153 h0
       refine bindE h0 ?_; clear h0; intro x159 hx160 h0
       refine bindE h0 ?_; clear h0; intro r176 hr177 h0
       refine gv_thrs [0, 1, 2, 3, 4, 5, 6, 7, 8, 9, 10, 11] [(12, none)] [11] [0, 1, 3, 4, 2, 5] [(6, [7, 8, 9])] [⟨10, 14, 26, #[(.int .i64 0), (.int .i64 0)], none⟩] (fun p => match p with | 0 => [0, 1, 2, 7, 9, 10, 88, 91] | _ => [0, 1, 2, 7, 9, 10, 93, 94]) (fun p σ B w => match p with | 0 => (∃ (a154 : Option Addr), ∃ (c155 : Nat), ∃ (a161 : Option Addr), ∃ (c162 : Nat), σ = [(0, (.slice pa0_0 (length l_0) pc0_0)), (1, (.slice pa1_0 (length vs_1) pc1_0)), (2, (.int .i64 cut_2)), (7, (.slice a6 (length r1.1) c7)), (9, (.int .i64 j40.1)), (10, (.slice a136 (length j40.2) c137)), (88, (.slice a154 (length x152) c155)), (91, (.slice a161 (length x159) c162))] ∧ Below w0.heap.size w0 w ∧ w144.heap.size ≤ w.heap.size ∧ Rd (prE (iE .u8) (prE (iE .i64) tE)) w0 X0 a154 c155 x152 ∧ Rd (prE (iE .i64) (prE (prE tE (slE (iE .u32))) (prE (prE tE (slE (iE .u32))) (prE sE (iE .i64))))) w0 X0 a161 c162 x159 ∧ Gv.Own (prE (iE .u8) (prE (iE .i64) tE)) 31 w (fun _ => False) a136 c137 j40.2 ∧ Gv.Own bE 5 w (fun _ => False) a6 c7 r1.1) | _ => (∃ (a181 : Option Addr), ∃ (c182 : Nat), σ = [(0, (.slice pa0_0 (length l_0) pc0_0)), (1, (.slice pa1_0 (length vs_1) pc1_0)), (2, (.int .i64 cut_2)), (7, (.slice a6 (length r1.1) c7)), (9, (.int .i64 j40.1)), (10, (.slice a136 (length j40.2) c137)), (93, (.slice a181 (length r176.1) c182)), (94, (.agg #[(.int .i64 r176.2.1), (.int .i64 r176.2.2)]))] ∧ Below w0.heap.size w0 w ∧ w144.heap.size ≤ w.heap.size ∧ Gv.Own (prE (iE .u8) (prE (iE .i64) tE)) 31 w (fun _ => False) a136 c137 j40.2 ∧ Gv.Own bE 5 w (fun _ => False) a6 c7 r1.1 ∧ Gv.Own bE 5 w (fun _ => False) a181 c182 r176.1 ∧ (∀ g, blk a181 = some g → w0.heap.size ≤ g) ∧ (∀ k, (fun k => blk a181 = some k) k → B k → False) ∧ (∀ g, blk a181 = some g → ¬ (fun k => blk a136 = some k) g) ∧ (∀ g, blk a136 = some g → ¬ (fun k => blk a181 = some k) g) ∧ (∀ g, blk a181 = some g → ¬ (fun k => blk a6 = some k) g) ∧ (∀ g, blk a6 = some g → ¬ (fun k => blk a181 = some k) g))) (by kernel_rfl) (by kernel_rfl) (by decide) ⟨⟨rfl, rfl, by decide, fun _ _ => by kernel_rfl⟩, trivial⟩ ⟨(fun s x h => by cases h), trivial⟩ ?_ ?_ ?_ ?_ ?_ ?_
       ·rintro σ B w ⟨a181, c182, rfl, hB265, hz266, hk267, hk268, hk269, hlo270, hnb271, hap272, hap273, hap274, hap275⟩
        exact ⟨(fun s x h => by cases h), trivial⟩
       ·intro p
        rcases p with _ | p
        ·rintro σ B197 w195 w196 b199 ⟨a154, c155, a161, c162, rfl, hB203, hz204, hpf205, hpf206, hk207, hk208⟩ hBl198 hC hbe200 hg201 hz202
         have hB209 := bg hB203 hg201 nb
         have hz210 := (nt hz204 hg201.size)
         have hk211 := hk207.grown hg201 (fun _ h => h.elim) nb
         have hk212 := hk208.grown hg201 (fun _ h => h.elim) nb
         exact ⟨a154, c155, a161, c162, rfl, hB209, hz210, hpf205, hpf206, hk211, hk212⟩
        ·rintro σ B215 w213 w214 b217 ⟨a181, c182, rfl, hB221, hz222, hk223, hk224, hk225, hlo226, hnb227, hap228, hap229, hap230, hap231⟩ hBl216 hC hbe218 hg219 hz220
         have hB232 := bg hB221 hg219 nb
         have hz233 := (nt hz222 hg219.size)
         have hk234 := hk223.grown hg219 (fun _ h => h.elim) nb
         have hk235 := hk224.grown hg219 (fun _ h => h.elim) nb
         have hk236 := hk225.grown hg219 (fun _ h => h.elim) nb
         exact ⟨a181, c182, rfl, hB232, hz233, hk234, hk235, hk236, hlo226, (fun k hk hb => hb.elim (fun hb => hnb227 k hk hb) (fun e => Nat.ne_of_lt ((fun k (hk : blk a181 = some k) => hk225.lt k hk) k hk) (e.trans hbe218))), hap228, hap229, hap230, hap231⟩
       ·rintro σ B239 w237 w238 b241 ⟨a181, c182, rfl, hB245, hz246, hk247, hk248, hk249, hlo250, hnb251, hap252, hap253, hap254, hap255⟩ hBl240 hC hBb242 hg243 hz244
        have hB257 := bg hB134 hg145 nb
        have hB256 := below_grown hB245 hg243 hB245.size (rowlo (Nat.le_trans hB257.size (hBl240 _ hBb242).1))
        have : w237.heap.size ≤ w238.heap.size := hg243.size
        have hr258 : ∀ g, some b241 = some g → ¬ (fun k => blk a136 = some k) g := fun g e h => by cases e; exact (fun k (h : (fun k => blk a136 = some k) k) (hb : B239 k) => nl (hBl240 k hb).1 (hM146 k h)) _ h hBb242
        have hk259 := hk247.grown hg243 (fun _ h => h.elim) (fun g e => ⟨fun h => h, hr258 g e⟩)
        have hr260 : ∀ g, some b241 = some g → ¬ (fun k => blk a6 = some k) g := fun g e h => by cases e; exact (fun k (h : (fun k => blk a6 = some k) k) (hb : B239 k) => nl (hBl240 k hb).1 (hM148 k h)) _ h hBb242
        have hk261 := hk248.grown hg243 (fun _ h => h.elim) (fun g e => ⟨fun h => h, hr260 g e⟩)
        have hr262 : ∀ g, some b241 = some g → ¬ (fun k => blk a181 = some k) g := fun g e h => by cases e; exact hnb251 _ h hBb242
        have hk263 := hk249.grown hg243 (fun _ h => h.elim) (fun g e => ⟨fun h => h, hr262 g e⟩)
        have hz264 := (nt hz246 hg243.size)
        exact ⟨a181, c182, rfl, hB256, hz264, hk259, hk261, hk263, hlo250, hnb251, hap252, hap253, hap254, hap255⟩
       ·intro p m qs' hp
        rcases p with _ | p
        ·cases (show some ((6, [7, 8, 9]) : Nat × List Nat) = some (m, qs') from hp)
         rintro σ B166 w165 es167 ⟨a154, c155, a161, c162, rfl, hB170, hz171, hpf172, hpf173, hk174, hk175⟩ hBl168 hC169
         refine gv_sub [0, 1, 2, 7, 9, 10, 14, 88, 91] (σ' := [(0, (.slice pa0_0 (length l_0) pc0_0)), (1, (.slice pa1_0 (length vs_1) pc1_0)), (2, (.int .i64 cut_2)), (7, (.slice a6 (length r1.1) c7)), (9, (.int .i64 j40.1)), (10, (.slice a136 (length j40.2) c137)), (14, (es167 0)), (88, (.slice a154 (length x152) c155)), (91, (.slice a161 (length x159) c162))]) (by kernel_rfl) ?_
         refine gv_call (f := 6) (vs := [(.slice a154 (length x152) c155), (.slice a161 (length x159) c162)]) (cap := []) _ (by decide) rfl rfl rfl (by kernel_rfl) (by kernel_rfl) enters6 (packing_Pack_ok fuel a154 c155 x152 a161 c162 x159 w165 (fun k => X0 k ∨ X0 k) (fun k hk => (hk).elim (fun h => (fun k (hk : X0 k) => ltl (hX0 k hk) hB170.size) k h) (fun h => (fun k (hk : X0 k) => ltl (hX0 k hk) hB170.size) k h)) ((hpf172.below hB170 hX0).wide (fun k hk => (.inl hk))) ((hpf173.below hB170 hX0).wide (fun k hk => (.inr hk))) r176 hr177) ?_
         rintro v180 w178 ⟨hg179, a181, c182, rfl, ho183, hl184⟩
         refine ⟨(fun _ => hC169.grown hg179 nb), ?_⟩
         have hl185 : ∀ g, blk a181 = some g → w0.heap.size ≤ g := fun g e => Nat.le_trans hB170.size (hl184 g e)
         have nb186 : ∀ k, (fun k => blk a181 = some k) k → B166 k → False := fun k hk hb => (fun h => nl (hl184 k h) (hBl168 k hb).2) hk
         refine pN 3 [85, 93, 94] [(93, (.slice a181 (length r176.1) c182)), (94, (.agg #[(.int .i64 r176.2.1), (.int .i64 r176.2.2)]))] ?_
         refine gv_nil <| gv_sub [0, 1, 2, 7, 9, 10, 14, 93, 94] (σ' := [(0, (.slice pa0_0 (length l_0) pc0_0)), (1, (.slice pa1_0 (length vs_1) pc1_0)), (2, (.int .i64 cut_2)), (7, (.slice a6 (length r1.1) c7)), (9, (.int .i64 j40.1)), (10, (.slice a136 (length j40.2) c137)), (14, (es167 0)), (93, (.slice a181 (length r176.1) c182)), (94, (.agg #[(.int .i64 r176.2.1), (.int .i64 r176.2.2)]))]) (by kernel_rfl) ?_
         refine gv_goal fun a hd hs hok => ?_
         obtain ⟨q0, q1, q2, q7, q9, q10, q14, q93, q94, _⟩ := hok
         have hB187 := bg hB170 hg179 nb
         have hz188 := (nt hz171 hg179.size)
         have hk189 := hk174.grown hg179 (fun _ h => h.elim) nb
         have hk190 := hk175.grown hg179 (fun _ h => h.elim) nb
         have ap191 : ∀ g, blk a181 = some g → ¬ (fun k => blk a136 = some k) g := fun g e hx => nl ((show ∀ k, blk a181 = some k → w165.heap.size ≤ k from hl184) g e) ((fun k (hk : blk a136 = some k) => hk174.lt k hk) _ hx)
         have ap192 : ∀ g, blk a136 = some g → ¬ (fun k => blk a181 = some k) g := fun g e hx => nl ((show ∀ k, blk a181 = some k → w165.heap.size ≤ k from hl184) _ hx) ((fun k (hk : blk a136 = some k) => hk174.lt k hk) g e)
         have ap193 : ∀ g, blk a181 = some g → ¬ (fun k => blk a6 = some k) g := fun g e hx => nl ((show ∀ k, blk a181 = some k → w165.heap.size ≤ k from hl184) g e) ((fun k (hk : blk a6 = some k) => hk175.lt k hk) _ hx)
         have ap194 : ∀ g, blk a6 = some g → ¬ (fun k => blk a181 = some k) g := fun g e hx => nl ((show ∀ k, blk a181 = some k → w165.heap.size ≤ k from hl184) _ hx) ((fun k (hk : blk a6 = some k) => hk175.lt k hk) g e)
         exact ⟨⟨_, hg179, fun _ e => by cases e⟩, hd, hs, [(0, (.slice pa0_0 (length l_0) pc0_0)), (1, (.slice pa1_0 (length vs_1) pc1_0)), (2, (.int .i64 cut_2)), (7, (.slice a6 (length r1.1) c7)), (9, (.int .i64 j40.1)), (10, (.slice a136 (length j40.2) c137)), (93, (.slice a181 (length r176.1) c182)), (94, (.agg #[(.int .i64 r176.2.1), (.int .i64 r176.2.2)]))], rfl, ⟨a181, c182, rfl, hB187, hz188, hk189, hk190, ho183, hl185, nb186, ap191, ap192, ap193, ap194⟩, ⟨q0, q1, q2, q7, q9, q10, q93, q94, q14, trivial⟩⟩
        ·simp at hp
       ·skip
        have hC151 := Cls.refl w144 []
        refine pN 4 [86, 87, 89, 90] [(86, (.slice pa0_0 (length l_0) pc0_0)), (87, (.int .i64 cut_2)), (89, (.slice pa1_0 (length vs_1) pc1_0)), (90, (.int .i64 j40.1))] ?_
        have hB157 := bg hB134 hg145 nb
        refine gv_ssl2 (prE (iE .u8) (prE (iE .i64) tE)) (t := 22) (e := 31) (xs := l_0) (a := pa0_0) (cap := pc0_0) (lo := none) (hi := (some (.int .i64 cut_2))) 0 cut_2 x152 (fun e => by cases e) rfl rfl rfl (by kernel_rfl) (by kernel_rfl) Tryd.underlying22 (by kernel_rfl) (.inl ⟨rfl, rfl⟩) (.inr ⟨_, rfl⟩) hx153 (hpa0_0.below hB157 hX0).1 ?_
        intro a154 c155 hsub156
        have hp158 := hsub156 _ _ hpa0_0
        refine gv_ssl2 (prE (iE .i64) (prE (prE tE (slE (iE .u32))) (prE (prE tE (slE (iE .u32))) (prE sE (iE .i64))))) (t := 23) (e := 48) (xs := vs_1) (a := pa1_0) (cap := pc1_0) (lo := none) (hi := (some (.int .i64 j40.1))) 0 j40.1 x159 (fun e => by cases e) rfl rfl rfl (by kernel_rfl) (by kernel_rfl) Tryd.underlying23 (by kernel_rfl) (.inl ⟨rfl, rfl⟩) (.inr ⟨_, rfl⟩) hx160 (hpa1_0.below hB157 hX0).1 ?_
        intro a161 c162 hsub163
        have hp164 := hsub163 _ _ hpa1_0
        refine gv_nil <| gv_sub [0, 1, 2, 7, 9, 10, 88, 91] (σ' := [(0, (.slice pa0_0 (length l_0) pc0_0)), (1, (.slice pa1_0 (length vs_1) pc1_0)), (2, (.int .i64 cut_2)), (7, (.slice a6 (length r1.1) c7)), (9, (.int .i64 j40.1)), (10, (.slice a136 (length j40.2) c137)), (88, (.slice a154 (length x152) c155)), (91, (.slice a161 (length x159) c162))]) (by kernel_rfl) ?_
        refine gv_goal fun a hd hs hok => ?_
        obtain ⟨q0, q1, q2, q7, q9, q10, q88, q91, _⟩ := hok
        exact ⟨rfl, hd, hs, [(0, (.slice pa0_0 (length l_0) pc0_0)), (1, (.slice pa1_0 (length vs_1) pc1_0)), (2, (.int .i64 cut_2)), (7, (.slice a6 (length r1.1) c7)), (9, (.int .i64 j40.1)), (10, (.slice a136 (length j40.2) c137)), (88, (.slice a154 (length x152) c155)), (91, (.slice a161 (length x159) c162))], rfl, ⟨a154, c155, a161, c162, rfl, hB157, nrf, hp158, hp164, hk147, hk149⟩, ⟨q0, q1, q2, q7, q9, q10, q88, q91, trivial⟩⟩
       ·rintro σ B277 w276 bf280 ⟨a181, c182, rfl, hB283, hz284, hk285, hk286, hk287, hlo288, hnb289, hap290, hap291, hap292, hap293⟩ hBl278 hC279 hb281 hne282
        obtain ⟨hBb294, hb295⟩ : B277 (bf280 0) ∧ Box w276 (bf280 0) 26 #[(.int .i64 0), (.int .i64 0)] := hb281 0 _ rfl
        have hlo296 := (hBl278 _ hBb294).1
        have ap297 : ¬ (fun k => blk a136 = some k) (bf280 0) := fun h => (fun k (h : (fun k => blk a136 = some k) k) (hb : B277 k) => nl (hBl278 k hb).1 (hM146 k h)) _ h hBb294
        have ap298 : ∀ g, blk a136 = some g → ¬ (· = (bf280 0)) g := fun g e h => by have h : g = (bf280 0) := h; exact (fun k (h : (fun k => blk a136 = some k) k) (hb : B277 k) => nl (hBl278 k hb).1 (hM146 k h)) g e (h ▸ hBb294)
        have ap299 : ¬ (fun k => blk a6 = some k) (bf280 0) := fun h => (fun k (h : (fun k => blk a6 = some k) k) (hb : B277 k) => nl (hBl278 k hb).1 (hM148 k h)) _ h hBb294
        have ap300 : ∀ g, blk a6 = some g → ¬ (· = (bf280 0)) g := fun g e h => by have h : g = (bf280 0) := h; exact (fun k (h : (fun k => blk a6 = some k) k) (hb : B277 k) => nl (hBl278 k hb).1 (hM148 k h)) g e (h ▸ hBb294)
        have ap301 : ¬ (fun k => blk a181 = some k) (bf280 0) := fun h => hnb289 _ h hBb294
        have ap302 : ∀ g, blk a181 = some g → ¬ (· = (bf280 0)) g := fun g e h => by have h : g = (bf280 0) := h; exact hnb289 g e (h ▸ hBb294)
        have hB304 := bg hB134 hg145 nb
        have hz303 := hB304.size
        refine pN 1 [13] [(13, (.slice a181 (length r176.1) c182))] ?_
        refine gv_nil <| gv_store0 26 0 (.agg #[(.int .i64 r176.2.1), (.int .i64 r176.2.2)]) #[(.int .i64 r176.2.1), (.int .i64 r176.2.2)] hb295 (by kernel_rfl) (by kernel_rfl) (by kernel_rfl) ?_
        intro w305 hg306 hb307 hz308
        refine gv_nil <| gv_seq <| gv_anyM [] (by kernel_rfl) [0, 1, 2, 3, 4, 5, 6, 7, 8, 9, 10, 11] [(12, none)] (by kernel_rfl) ?_
        intro w309 hg310
        have hk312 := (hk285.grown hg306 (fun _ h => h.elim) (rdnn (rowne ap297))).grown hg310 (fun _ h => h.elim) nb
        have hM311 : ∀ k, (fun k => blk a136 = some k) k → k < w309.heap.size := (fun k (hk : blk a136 = some k) => hk312.lt k hk)
        have hk314 := (hk286.grown hg306 (fun _ h => h.elim) (rdnn (rowne ap299))).grown hg310 (fun _ h => h.elim) nb
        have hM313 : ∀ k, (fun k => blk a6 = some k) k → k < w309.heap.size := (fun k (hk : blk a6 = some k) => hk314.lt k hk)
        have hk316 := (hk287.grown hg306 (fun _ h => h.elim) (rdnn (rowne ap301))).grown hg310 (fun _ h => h.elim) nb
        have hM315 : ∀ k, (fun k => blk a181 = some k) k → k < w309.heap.size := (fun k (hk : blk a181 = some k) => hk316.lt k hk)
        have hk318 := hb307.grown hg310 nb
        have hM317 : ∀ k, (· = (bf280 0)) k → k < w309.heap.size := (ltb hk318)
        refine bindE h0 ?_; clear h0; intro x321 hx322 h0
        refine bindE h0 ?_; clear h0; intro x330 hx331 h0
        refine bindE h0 ?_; clear h0; intro r349 hr350 h0
        refine gv_thrs [0, 1, 2, 3, 4, 5, 6, 7, 8, 9, 10, 11] [(12, none)] [11] [0, 1, 3, 4, 2, 5] [(6, [7, 8, 9])] [⟨10, 16, 26, #[(.int .i64 0), (.int .i64 0)], none⟩] (fun p => match p with | 0 => [0, 1, 7, 10, 13, 14, 98, 101] | _ => [0, 1, 7, 10, 13, 14, 103, 104]) (fun p σ B w => match p with | 0 => (∃ (a323 : Option Addr), ∃ (c324 : Nat), ∃ (a332 : Option Addr), ∃ (c333 : Nat), σ = [(0, (.slice pa0_0 (length l_0) pc0_0)), (1, (.slice pa1_0 (length vs_1) pc1_0)), (7, (.slice a6 (length r1.1) c7)), (10, (.slice a136 (length j40.2) c137)), (13, (.slice a181 (length r176.1) c182)), (14, (bp (bf280 0))), (98, (.slice a323 (length x321) c324)), (101, (.slice a332 (length x330) c333))] ∧ Below w0.heap.size w0 w ∧ w309.heap.size ≤ w.heap.size ∧ Rd (prE (iE .u8) (prE (iE .i64) tE)) w0 X0 a323 c324 x321 ∧ Rd (prE (iE .i64) (prE (prE tE (slE (iE .u32))) (prE (prE tE (slE (iE .u32))) (prE sE (iE .i64))))) w0 X0 a332 c333 x330 ∧ Gv.Own (prE (iE .u8) (prE (iE .i64) tE)) 31 w (fun _ => False) a136 c137 j40.2 ∧ Gv.Own bE 5 w (fun _ => False) a6 c7 r1.1 ∧ Gv.Own bE 5 w (fun _ => False) a181 c182 r176.1 ∧ Box w (bf280 0) 26 #[(.int .i64 r176.2.1), (.int .i64 r176.2.2)]) | _ => (∃ (a354 : Option Addr), ∃ (c355 : Nat), σ = [(0, (.slice pa0_0 (length l_0) pc0_0)), (1, (.slice pa1_0 (length vs_1) pc1_0)), (7, (.slice a6 (length r1.1) c7)), (10, (.slice a136 (length j40.2) c137)), (13, (.slice a181 (length r176.1) c182)), (14, (bp (bf280 0))), (103, (.slice a354 (length r349.1) c355)), (104, (.agg #[(.int .i64 r349.2.1), (.int .i64 r349.2.2)]))] ∧ Below w0.heap.size w0 w ∧ w309.heap.size ≤ w.heap.size ∧ Gv.Own (prE (iE .u8) (prE (iE .i64) tE)) 31 w (fun _ => False) a136 c137 j40.2 ∧ Gv.Own bE 5 w (fun _ => False) a6 c7 r1.1 ∧ Gv.Own bE 5 w (fun _ => False) a181 c182 r176.1 ∧ Box w (bf280 0) 26 #[(.int .i64 r176.2.1), (.int .i64 r176.2.2)] ∧ Gv.Own bE 5 w (fun _ => False) a354 c355 r349.1 ∧ (∀ g, blk a354 = some g → w0.heap.size ≤ g) ∧ (∀ k, (fun k => blk a354 = some k) k → B k → False) ∧ (∀ g, blk a354 = some g → ¬ (fun k => blk a136 = some k) g) ∧ (∀ g, blk a136 = some g → ¬ (fun k => blk a354 = some k) g) ∧ (∀ g, blk a354 = some g → ¬ (fun k => blk a6 = some k) g) ∧ (∀ g, blk a6 = some g → ¬ (fun k => blk a354 = some k) g) ∧ (∀ g, blk a354 = some g → ¬ (fun k => blk a181 = some k) g) ∧ (∀ g, blk a181 = some g → ¬ (fun k => blk a354 = some k) g) ∧ (∀ g, blk a354 = some g → ¬ (· = (bf280 0)) g) ∧ (¬ (fun k => blk a354 = some k) (bf280 0)))) (by kernel_rfl) (by kernel_rfl) (by decide) ⟨⟨rfl, rfl, by decide, fun _ _ => by kernel_rfl⟩, trivial⟩ ⟨(fun s x h => by cases h), trivial⟩ ?_ ?_ ?_ ?_ ?_ ?_
        ·rintro σ B w ⟨a354, c355, rfl, hB468, hz469, hk470, hk471, hk472, hk473, hk474, hlo475, hnb476, hap477, hap478, hap479, hap480, hap481, hap482, hap483, hap484⟩
         exact ⟨(fun s x h => by cases h), trivial⟩
        ·intro p
         rcases p with _ | p
         ·rintro σ B376 w374 w375 b378 ⟨a323, c324, a332, c333, rfl, hB382, hz383, hpf384, hpf385, hk386, hk387, hk388, hk389⟩ hBl377 hC hbe379 hg380 hz381
          have hB390 := bg hB382 hg380 nb
          have hz391 := (nt hz383 hg380.size)
          have hk392 := hk386.grown hg380 (fun _ h => h.elim) nb
          have hk393 := hk387.grown hg380 (fun _ h => h.elim) nb
          have hk394 := hk388.grown hg380 (fun _ h => h.elim) nb
          have hk395 := hk389.grown hg380 nb
          exact ⟨a323, c324, a332, c333, rfl, hB390, hz391, hpf384, hpf385, hk392, hk393, hk394, hk395⟩
         ·rintro σ B398 w396 w397 b400 ⟨a354, c355, rfl, hB404, hz405, hk406, hk407, hk408, hk409, hk410, hlo411, hnb412, hap413, hap414, hap415, hap416, hap417, hap418, hap419, hap420⟩ hBl399 hC hbe401 hg402 hz403
          have hB421 := bg hB404 hg402 nb
          have hz422 := (nt hz405 hg402.size)
          have hk423 := hk406.grown hg402 (fun _ h => h.elim) nb
          have hk424 := hk407.grown hg402 (fun _ h => h.elim) nb
          have hk425 := hk408.grown hg402 (fun _ h => h.elim) nb
          have hk426 := hk409.grown hg402 nb
          have hk427 := hk410.grown hg402 (fun _ h => h.elim) nb
          exact ⟨a354, c355, rfl, hB421, hz422, hk423, hk424, hk425, hk426, hk427, hlo411, (fun k hk hb => hb.elim (fun hb => hnb412 k hk hb) (fun e => Nat.ne_of_lt ((fun k (hk : blk a354 = some k) => hk410.lt k hk) k hk) (e.trans hbe401))), hap413, hap414, hap415, hap416, hap417, hap418, hap419, hap420⟩
        ·rintro σ B430 w428 w429 b432 ⟨a354, c355, rfl, hB436, hz437, hk438, hk439, hk440, hk441, hk442, hlo443, hnb444, hap445, hap446, hap447, hap448, hap449, hap450, hap451, hap452⟩ hBl431 hC hBb433 hg434 hz435
         have hlo454 : w0.heap.size ≤ (bf280 0) := Nat.le_trans hB304.size hlo296
         have hB455 := bg hB283 hg306 (rowlo hlo454)
         have hB456 := bg hB455 hg310 nb
         have hB453 := below_grown hB436 hg434 hB436.size (rowlo (Nat.le_trans hB456.size (hBl431 _ hBb433).1))
         have : w428.heap.size ≤ w429.heap.size := hg434.size
         have hr457 : ∀ g, some b432 = some g → ¬ (fun k => blk a136 = some k) g := fun g e h => by cases e; exact (fun k (h : (fun k => blk a136 = some k) k) (hb : B430 k) => nl (hBl431 k hb).1 (hM311 k h)) _ h hBb433
         have hk458 := hk438.grown hg434 (fun _ h => h.elim) (fun g e => ⟨fun h => h, hr457 g e⟩)
         have hr459 : ∀ g, some b432 = some g → ¬ (fun k => blk a6 = some k) g := fun g e h => by cases e; exact (fun k (h : (fun k => blk a6 = some k) k) (hb : B430 k) => nl (hBl431 k hb).1 (hM313 k h)) _ h hBb433
         have hk460 := hk439.grown hg434 (fun _ h => h.elim) (fun g e => ⟨fun h => h, hr459 g e⟩)
         have hr461 : ∀ g, some b432 = some g → ¬ (fun k => blk a181 = some k) g := fun g e h => by cases e; exact (fun k (h : (fun k => blk a181 = some k) k) (hb : B430 k) => nl (hBl431 k hb).1 (hM315 k h)) _ h hBb433
         have hk462 := hk440.grown hg434 (fun _ h => h.elim) (fun g e => ⟨fun h => h, hr461 g e⟩)
         have hr463 : ∀ g, some b432 = some g → ¬ (· = (bf280 0)) g := fun g e h => by cases e; exact (fun k (h : (· = (bf280 0)) k) (hb : B430 k) => nl (hBl431 k hb).1 (hM317 k h)) _ h hBb433
         have hk464 := hk441.grown hg434 hr463
         have hr465 : ∀ g, some b432 = some g → ¬ (fun k => blk a354 = some k) g := fun g e h => by cases e; exact hnb444 _ h hBb433
         have hk466 := hk442.grown hg434 (fun _ h => h.elim) (fun g e => ⟨fun h => h, hr465 g e⟩)
         have hz467 := (nt hz437 hg434.size)
         exact ⟨a354, c355, rfl, hB453, hz467, hk458, hk460, hk462, hk464, hk466, hlo443, hnb444, hap445, hap446, hap447, hap448, hap449, hap450, hap451, hap452⟩
        ·intro p m qs' hp
         rcases p with _ | p
         ·cases (show some ((6, [7, 8, 9]) : Nat × List Nat) = some (m, qs') from hp)
          rintro σ B337 w336 es338 ⟨a323, c324, a332, c333, rfl, hB341, hz342, hpf343, hpf344, hk345, hk346, hk347, hk348⟩ hBl339 hC340
          refine gv_sub [0, 1, 7, 10, 13, 14, 16, 98, 101] (σ' := [(0, (.slice pa0_0 (length l_0) pc0_0)), (1, (.slice pa1_0 (length vs_1) pc1_0)), (7, (.slice a6 (length r1.1) c7)), (10, (.slice a136 (length j40.2) c137)), (13, (.slice a181 (length r176.1) c182)), (14, (bp (bf280 0))), (16, (es338 0)), (98, (.slice a323 (length x321) c324)), (101, (.slice a332 (length x330) c333))]) (by kernel_rfl) ?_
          refine gv_call (f := 6) (vs := [(.slice a323 (length x321) c324), (.slice a332 (length x330) c333)]) (cap := []) _ (by decide) rfl rfl rfl (by kernel_rfl) (by kernel_rfl) enters6 (packing_Pack_ok fuel a323 c324 x321 a332 c333 x330 w336 (fun k => X0 k ∨ X0 k) (fun k hk => (hk).elim (fun h => (fun k (hk : X0 k) => ltl (hX0 k hk) hB341.size) k h) (fun h => (fun k (hk : X0 k) => ltl (hX0 k hk) hB341.size) k h)) ((hpf343.below hB341 hX0).wide (fun k hk => (.inl hk))) ((hpf344.below hB341 hX0).wide (fun k hk => (.inr hk))) r349 hr350) ?_
          rintro v353 w351 ⟨hg352, a354, c355, rfl, ho356, hl357⟩
          refine ⟨(fun _ => hC340.grown hg352 nb), ?_⟩
          have hl358 : ∀ g, blk a354 = some g → w0.heap.size ≤ g := fun g e => Nat.le_trans hB341.size (hl357 g e)
          have nb359 : ∀ k, (fun k => blk a354 = some k) k → B337 k → False := fun k hk hb => (fun h => nl (hl357 k h) (hBl339 k hb).2) hk
          refine pN 3 [95, 103, 104] [(103, (.slice a354 (length r349.1) c355)), (104, (.agg #[(.int .i64 r349.2.1), (.int .i64 r349.2.2)]))] ?_
          refine gv_nil <| gv_sub [0, 1, 7, 10, 13, 14, 16, 103, 104] (σ' := [(0, (.slice pa0_0 (length l_0) pc0_0)), (1, (.slice pa1_0 (length vs_1) pc1_0)), (7, (.slice a6 (length r1.1) c7)), (10, (.slice a136 (length j40.2) c137)), (13, (.slice a181 (length r176.1) c182)), (14, (bp (bf280 0))), (16, (es338 0)), (103, (.slice a354 (length r349.1) c355)), (104, (.agg #[(.int .i64 r349.2.1), (.int .i64 r349.2.2)]))]) (by kernel_rfl) ?_
          refine gv_goal fun a hd hs hok => ?_
          obtain ⟨q0, q1, q7, q10, q13, q14, q16, q103, q104, _⟩ := hok
          have hB360 := bg hB341 hg352 nb
          have hz361 := (nt hz342 hg352.size)
          have hk362 := hk345.grown hg352 (fun _ h => h.elim) nb
          have hk363 := hk346.grown hg352 (fun _ h => h.elim) nb
          have hk364 := hk347.grown hg352 (fun _ h => h.elim) nb
          have hk365 := hk348.grown hg352 nb
          have ap366 : ∀ g, blk a354 = some g → ¬ (fun k => blk a136 = some k) g := fun g e hx => nl ((show ∀ k, blk a354 = some k → w336.heap.size ≤ k from hl357) g e) ((fun k (hk : blk a136 = some k) => hk345.lt k hk) _ hx)
          have ap367 : ∀ g, blk a136 = some g → ¬ (fun k => blk a354 = some k) g := fun g e hx => nl ((show ∀ k, blk a354 = some k → w336.heap.size ≤ k from hl357) _ hx) ((fun k (hk : blk a136 = some k) => hk345.lt k hk) g e)
          have ap368 : ∀ g, blk a354 = some g → ¬ (fun k => blk a6 = some k) g := fun g e hx => nl ((show ∀ k, blk a354 = some k → w336.heap.size ≤ k from hl357) g e) ((fun k (hk : blk a6 = some k) => hk346.lt k hk) _ hx)
          have ap369 : ∀ g, blk a6 = some g → ¬ (fun k => blk a354 = some k) g := fun g e hx => nl ((show ∀ k, blk a354 = some k → w336.heap.size ≤ k from hl357) _ hx) ((fun k (hk : blk a6 = some k) => hk346.lt k hk) g e)
          have ap370 : ∀ g, blk a354 = some g → ¬ (fun k => blk a181 = some k) g := fun g e hx => nl ((show ∀ k, blk a354 = some k → w336.heap.size ≤ k from hl357) g e) ((fun k (hk : blk a181 = some k) => hk347.lt k hk) _ hx)
          have ap371 : ∀ g, blk a181 = some g → ¬ (fun k => blk a354 = some k) g := fun g e hx => nl ((show ∀ k, blk a354 = some k → w336.heap.size ≤ k from hl357) _ hx) ((fun k (hk : blk a181 = some k) => hk347.lt k hk) g e)
          have ap372 : ∀ g, blk a354 = some g → ¬ (· = (bf280 0)) g := fun g e hx => nl ((show ∀ k, blk a354 = some k → w336.heap.size ≤ k from hl357) g e) ((ltb hk348) _ hx)
          have ap373 : ¬ (fun k => blk a354 = some k) (bf280 0) := fun hx => nl ((show ∀ k, blk a354 = some k → w336.heap.size ≤ k from hl357) _ hx) ((ltb hk348) _ rfl)
          exact ⟨⟨_, hg352, fun _ e => by cases e⟩, hd, hs, [(0, (.slice pa0_0 (length l_0) pc0_0)), (1, (.slice pa1_0 (length vs_1) pc1_0)), (7, (.slice a6 (length r1.1) c7)), (10, (.slice a136 (length j40.2) c137)), (13, (.slice a181 (length r176.1) c182)), (14, (bp (bf280 0))), (103, (.slice a354 (length r349.1) c355)), (104, (.agg #[(.int .i64 r349.2.1), (.int .i64 r349.2.2)]))], rfl, ⟨a354, c355, rfl, hB360, hz361, hk362, hk363, hk364, hk365, ho356, hl358, nb359, ap366, ap367, ap368, ap369, ap370, ap371, ap372, ap373⟩, ⟨q0, q1, q7, q10, q13, q14, q103, q104, q16, trivial⟩⟩
         ·simp at hp
        ·skip
         have hC320 := Cls.refl w309 []
         refine pN 4 [96, 97, 99, 100] [(96, (.slice pa0_0 (length l_0) pc0_0)), (97, (.int .i64 cut_2)), (99, (.slice pa1_0 (length vs_1) pc1_0)), (100, (.int .i64 j40.1))] ?_
         have hlo326 : w0.heap.size ≤ (bf280 0) := Nat.le_trans hB304.size hlo296
         have hB327 := bg hB283 hg306 (rowlo hlo326)
         have hB328 := bg hB327 hg310 nb
         refine gv_ssl2 (prE (iE .u8) (prE (iE .i64) tE)) (t := 22) (e := 31) (xs := l_0) (a := pa0_0) (cap := pc0_0) (lo := (some (.int .i64 cut_2))) (hi := none) cut_2 ((length l_0 : Nat) : Int) x321 (fun e => by cases e) rfl rfl rfl (by kernel_rfl) (by kernel_rfl) Tryd.underlying22 (by kernel_rfl) (.inr ⟨_, rfl⟩) (.inl ⟨rfl, rfl⟩) hx322 (hpa0_0.below hB328 hX0).1 ?_
         intro a323 c324 hsub325
         have hp329 := hsub325 _ _ hpa0_0
         refine gv_ssl2 (prE (iE .i64) (prE (prE tE (slE (iE .u32))) (prE (prE tE (slE (iE .u32))) (prE sE (iE .i64))))) (t := 23) (e := 48) (xs := vs_1) (a := pa1_0) (cap := pc1_0) (lo := (some (.int .i64 j40.1))) (hi := none) j40.1 ((length vs_1 : Nat) : Int) x330 (fun e => by cases e) rfl rfl rfl (by kernel_rfl) (by kernel_rfl) Tryd.underlying23 (by kernel_rfl) (.inr ⟨_, rfl⟩) (.inl ⟨rfl, rfl⟩) hx331 (hpa1_0.below hB328 hX0).1 ?_
         intro a332 c333 hsub334
         have hp335 := hsub334 _ _ hpa1_0
         refine gv_nil <| gv_sub [0, 1, 7, 10, 13, 14, 98, 101] (σ' := [(0, (.slice pa0_0 (length l_0) pc0_0)), (1, (.slice pa1_0 (length vs_1) pc1_0)), (7, (.slice a6 (length r1.1) c7)), (10, (.slice a136 (length j40.2) c137)), (13, (.slice a181 (length r176.1) c182)), (14, (bp (bf280 0))), (98, (.slice a323 (length x321) c324)), (101, (.slice a332 (length x330) c333))]) (by kernel_rfl) ?_
         refine gv_goal fun a hd hs hok => ?_
         obtain ⟨q0, q1, q7, q10, q13, q14, q98, q101, _⟩ := hok
         exact ⟨rfl, hd, hs, [(0, (.slice pa0_0 (length l_0) pc0_0)), (1, (.slice pa1_0 (length vs_1) pc1_0)), (7, (.slice a6 (length r1.1) c7)), (10, (.slice a136 (length j40.2) c137)), (13, (.slice a181 (length r176.1) c182)), (14, (bp (bf280 0))), (98, (.slice a323 (length x321) c324)), (101, (.slice a332 (length x330) c333))], rfl, ⟨a323, c324, a332, c333, rfl, hB328, nrf, hp329, hp335, hk312, hk314, hk316, hk318⟩, ⟨q0, q1, q7, q10, q13, q14, q98, q101, trivial⟩⟩
        ·rintro σ B486 w485 bf489 ⟨a354, c355, rfl, hB492, hz493, hk494, hk495, hk496, hk497, hk498, hlo499, hnb500, hap501, hap502, hap503, hap504, hap505, hap506, hap507, hap508⟩ hBl487 hC488 hb490 hne491
         obtain ⟨hBb509, hb510⟩ : B486 (bf489 0) ∧ Box w485 (bf489 0) 26 #[(.int .i64 0), (.int .i64 0)] := hb490 0 _ rfl
         have hlo511 := (hBl487 _ hBb509).1
         have ap512 : ¬ (fun k => blk a136 = some k) (bf489 0) := fun h => (fun k (h : (fun k => blk a136 = some k) k) (hb : B486 k) => nl (hBl487 k hb).1 (hM311 k h)) _ h hBb509
         have ap513 : ∀ g, blk a136 = some g → ¬ (· = (bf489 0)) g := fun g e h => by have h : g = (bf489 0) := h; exact (fun k (h : (fun k => blk a136 = some k) k) (hb : B486 k) => nl (hBl487 k hb).1 (hM311 k h)) g e (h ▸ hBb509)
         have ap514 : ¬ (fun k => blk a6 = some k) (bf489 0) := fun h => (fun k (h : (fun k => blk a6 = some k) k) (hb : B486 k) => nl (hBl487 k hb).1 (hM313 k h)) _ h hBb509
         have ap515 : ∀ g, blk a6 = some g → ¬ (· = (bf489 0)) g := fun g e h => by have h : g = (bf489 0) := h; exact (fun k (h : (fun k => blk a6 = some k) k) (hb : B486 k) => nl (hBl487 k hb).1 (hM313 k h)) g e (h ▸ hBb509)
         have ap516 : ¬ (fun k => blk a181 = some k) (bf489 0) := fun h => (fun k (h : (fun k => blk a181 = some k) k) (hb : B486 k) => nl (hBl487 k hb).1 (hM315 k h)) _ h hBb509
         have ap517 : ∀ g, blk a181 = some g → ¬ (· = (bf489 0)) g := fun g e h => by have h : g = (bf489 0) := h; exact (fun k (h : (fun k => blk a181 = some k) k) (hb : B486 k) => nl (hBl487 k hb).1 (hM315 k h)) g e (h ▸ hBb509)
         have ap518 : ¬ (· = (bf280 0)) (bf489 0) := fun h => (fun k (h : (· = (bf280 0)) k) (hb : B486 k) => nl (hBl487 k hb).1 (hM317 k h)) _ h hBb509
         have ap519 : ¬ (fun k => blk a354 = some k) (bf489 0) := fun h => hnb500 _ h hBb509
         have ap520 : ∀ g, blk a354 = some g → ¬ (· = (bf489 0)) g := fun g e h => by have h : g = (bf489 0) := h; exact hnb500 g e (h ▸ hBb509)
         have hlo522 : w0.heap.size ≤ (bf280 0) := Nat.le_trans hB304.size hlo296
         have hB523 := bg hB283 hg306 (rowlo hlo522)
         have hB524 := bg hB523 hg310 nb
         have hz521 := hB524.size
         clear hz521 hB523 hb490 hC488 hz493 hg310 hz308 hb307 hg306 hz303 hB304 hlo296 hb295 hb281 hC279 hk287 hk286 hk285 hz284 hB283 hM148 hk149 hM146 hk147 hg145 hc143 hk142 ho138 hB134
         refine pN 1 [15] [(15, (.slice a354 (length r349.1) c355))] ?_
         refine gv_sub [0, 1, 7, 10, 13, 14, 15, 16, 104] (σ' := [(0, (.slice pa0_0 (length l_0) pc0_0)), (1, (.slice pa1_0 (length vs_1) pc1_0)), (7, (.slice a6 (length r1.1) c7)), (10, (.slice a136 (length j40.2) c137)), (13, (.slice a181 (length r176.1) c182)), (14, (bp (bf280 0))), (15, (.slice a354 (length r349.1) c355)), (16, (bp (bf489 0))), (104, (.agg #[(.int .i64 r349.2.1), (.int .i64 r349.2.2)]))]) (by kernel_rfl) ?_
         refine gv_nil <| gv_store0 26 0 (.agg #[(.int .i64 r349.2.1), (.int .i64 r349.2.2)]) #[(.int .i64 r349.2.1), (.int .i64 r349.2.2)] hb510 (by kernel_rfl) (by kernel_rfl) (by kernel_rfl) ?_
         intro w525 hg526 hb527 hz528
         refine gv_nil <| gv_seq <| gv_region <| pN 2 [106, 107] [(106, (.slice a136 (length j40.2) c137)), (107, (.slice pa1_0 (length vs_1) pc1_0))] ?_
         refine bindE h0 ?_; clear h0; intro r529 hr530 h0
         have hk531 := hk494.grown hg526 (fun _ h => h.elim) (rdnn (rowne ap512))
         have hlo532 : w0.heap.size ≤ (bf489 0) := Nat.le_trans hB524.size hlo511
         have hB533 := bg hB492 hg526 (rowlo hlo532)
         refine gv_call0 (by kernel_rfl) rfl (by kernel_rfl) enters6 (packing_Pack_ok fuel a136 c137 j40.2 pa1_0 pc1_0 vs_1 w525 (fun k => (fun k => blk a136 = some k) k ∨ X0 k) (fun k hk => (hk).elim (fun h => (fun k (hk : blk a136 = some k) => hk531.lt k hk) k h) (fun h => (fun k (hk : X0 k) => ltl (hX0 k hk) hB533.size) k h)) ((hk531.rd (Y := fun k => blk a136 = some k) (fun _ h => h.elim) (fun g e => e)).wide (fun k hk => (.inl hk))) ((hpa1_0.below hB533 hX0).wide (fun k hk => (.inr hk))) r529 hr530) ?_
         rintro v536 w534 ⟨hg535, a537, c538, rfl, ho539, hl540⟩
         have hl541 : ∀ g, blk a537 = some g → w0.heap.size ≤ g := fun g e => Nat.le_trans hB533.size (hl540 g e)
         refine pN 3 [105, 109, 110] [(109, (.slice a537 (length r529.1) c538)), (110, (.agg #[(.int .i64 r529.2.1), (.int .i64 r529.2.2)]))] ?_
         refine gv_new0 (fun b => .pointer (some ⟨b, 0, none⟩)) #[(.int .i64 0), (.int .i64 0)] 26 (by kernel_rfl) (by kernel_rfl) ?_
         intro b542 w543 hg544 hb545 hbe546 hz547
         refine pN 1 [17] [(17, (.slice a537 (length r529.1) c538))] ?_
         refine gv_store0 26 0 (.agg #[(.int .i64 r529.2.1), (.int .i64 r529.2.2)]) #[(.int .i64 r529.2.1), (.int .i64 r529.2.2)] hb545 (by kernel_rfl) (by kernel_rfl) (by kernel_rfl) ?_
         intro w548 hg549 hb550 hz551
         refine gv_nil <| gv_seq <| gv_seq <| gv_region <| bindE h0 ?_; clear h0; intro j552 h1 h0
         refine gv_cut_ops (J := fun a w553 => Below w0.heap.size w0 w553 ∧ w548.heap.size ≤ w553.heap.size ∧ Gv.Own bE 5 w553 (fun _ => False) a6 c7 r1.1 ∧ Gv.Own bE 5 w553 (fun _ => False) a537 c538 r529.1 ∧ a.defers = [] ∧ a.tmps.size = 231 ∧ Ok [(0, (.slice pa0_0 (length l_0) pc0_0)), (1, (.slice pa1_0 (length vs_1) pc1_0)), (7, (.slice a6 (length r1.1) c7)), (17, (.slice a537 (length r529.1) c538)), (139, (.bool j552))] a.tmps) ?_ ?_
         ·skip
          refine pN 1 [111] [(111, (bp (bf280 0)))] ?_
          have hg554 := (grown_trans hg535 hg544)
          have hk555 := (hk497.grown hg526 (rowne ap518)).grown hg535 nb
          have lt556 := ltl ((ltb hk555) _ rfl) ((lowb hbe546) _ rfl)
          have hk557 := ((hk497.grown hg526 (rowne ap518)).grown hg554 nb).grown hg549 (rowne (ng lt556))
          refine gv_load (t := 3) (A := ⟨(bf280 0), 0, none⟩) (.int .i64 r176.2.1) [] (fun e => by cases e) rfl rfl rfl (by kernel_rfl) (by kernel_rfl) (by kernel_rfl) (inw0 (hk557.cell 0 rfl)) rfl ?_
          refine pN 2 [113, 114] [(114, (.bool (r176.2.1 != 0)))] ?_
          refine gv_split (s := 114) (g := (r176.2.1 != 0)) (by kernel_rfl) (fun hc558 => ?_) (fun hc558 => ?_)
          ·skip
           replace h1 := ite_t hc558 h1
           refine pN 25 [115, 116, 117, 118, 119, 120, 121, 122, 123, 124, 125, 126, 127, 128, 129, 130, 131, 132, 133, 134, 135, 136, 137, 138, 139] [(139, (.bool true))] ?_
           refine gv_nil ?_
           have e := sj h1; subst e
           refine gv_goal fun a hd hs hok => ?_
           have hB559 := bg hB533 hg554 nb
           have hB560 := bg hB533 hg535 nb
           have hlo561 : w0.heap.size ≤ b542 := lob hbe546 hB560.size
           have hB562 := bg hB559 hg549 (rowlo hlo561)
           have hk563 := (hk495.grown hg526 (fun _ h => h.elim) (rdnn (rowne ap514))).grown hg535 (fun _ h => h.elim) nb
           have ap564 : ¬ (fun k => blk a6 = some k) b542 := fun hx => nl ((lowb hbe546) _ rfl) ((fun k (hk : blk a6 = some k) => hk563.lt k hk) _ hx)
           have hk565 := ((hk495.grown hg526 (fun _ h => h.elim) (rdnn (rowne ap514))).grown hg554 (fun _ h => h.elim) nb).grown hg549 (fun _ h => h.elim) (rdnn (rowne ap564))
           have ap566 : ¬ (fun k => blk a537 = some k) b542 := fun hx => nl ((lowb hbe546) _ rfl) ((fun k (hk : blk a537 = some k) => ho539.lt k hk) _ hx)
           have hk567 := (ho539.grown hg544 (fun _ h => h.elim) nb).grown hg549 (fun _ h => h.elim) (rdnn (rowne ap566))
           exact ⟨hB562, nrf, hk565, hk567, hd, hs, okp [0, 1, 7, 17, 139] hok⟩
          ·skip
           replace h1 := ite_f hc558 h1
           refine pN 1 [115] [(115, (bp (bf489 0)))] ?_
           have hk568 := hb527.grown hg535 nb
           have lt569 := ltl ((ltb hk568) _ rfl) ((lowb hbe546) _ rfl)
           have hk570 := (hb527.grown hg554 nb).grown hg549 (rowne (ng lt569))
           refine gv_load (t := 3) (A := ⟨(bf489 0), 0, none⟩) (.int .i64 r349.2.1) [] (fun e => by cases e) rfl rfl rfl (by kernel_rfl) (by kernel_rfl) (by kernel_rfl) (inw0 (hk570.cell 0 rfl)) rfl ?_
           refine pN 3 [117, 118, 119] [(119, (.bool (r349.2.1 != 0)))] ?_
           refine gv_split (s := 119) (g := (r349.2.1 != 0)) (by kernel_rfl) (fun hc571 => ?_) (fun hc571 => ?_)
           ·skip
            replace h1 := ite_t hc571 h1
            refine pN 20 [120, 121, 122, 123, 124, 125, 126, 127, 128, 129, 130, 131, 132, 133, 134, 135, 136, 137, 138, 139] [(139, (.bool true))] ?_
            refine gv_sub [0, 1, 7, 17, 139] (σ' := [(0, (.slice pa0_0 (length l_0) pc0_0)), (1, (.slice pa1_0 (length vs_1) pc1_0)), (7, (.slice a6 (length r1.1) c7)), (17, (.slice a537 (length r529.1) c538)), (139, (.bool true))]) (by kernel_rfl) ?_
            refine gv_nil ?_
            have e := sj h1; subst e
            refine gv_goal fun a hd hs hok => ?_
            have hB572 := bg hB533 hg554 nb
            have hB573 := bg hB533 hg535 nb
            have hlo574 : w0.heap.size ≤ b542 := lob hbe546 hB573.size
            have hB575 := bg hB572 hg549 (rowlo hlo574)
            have hk576 := (hk495.grown hg526 (fun _ h => h.elim) (rdnn (rowne ap514))).grown hg535 (fun _ h => h.elim) nb
            have ap577 : ¬ (fun k => blk a6 = some k) b542 := fun hx => nl ((lowb hbe546) _ rfl) ((fun k (hk : blk a6 = some k) => hk576.lt k hk) _ hx)
            have hk578 := ((hk495.grown hg526 (fun _ h => h.elim) (rdnn (rowne ap514))).grown hg554 (fun _ h => h.elim) nb).grown hg549 (fun _ h => h.elim) (rdnn (rowne ap577))
            have ap579 : ¬ (fun k => blk a537 = some k) b542 := fun hx => nl ((lowb hbe546) _ rfl) ((fun k (hk : blk a537 = some k) => ho539.lt k hk) _ hx)
            have hk580 := (ho539.grown hg544 (fun _ h => h.elim) nb).grown hg549 (fun _ h => h.elim) (rdnn (rowne ap579))
            exact ⟨hB575, nrf, hk578, hk580, hd, hs, okp [0, 1, 7, 17, 139] hok⟩
           ·skip
            replace h1 := ite_f hc571 h1
            refine pN 1 [120] [(120, (bp b542))] ?_
            refine gv_sub [0, 1, 7, 13, 15, 17, 119, 120] (σ' := [(0, (.slice pa0_0 (length l_0) pc0_0)), (1, (.slice pa1_0 (length vs_1) pc1_0)), (7, (.slice a6 (length r1.1) c7)), (13, (.slice a181 (length r176.1) c182)), (15, (.slice a354 (length r349.1) c355)), (17, (.slice a537 (length r529.1) c538)), (119, (.bool false)), (120, (bp b542))]) (by kernel_rfl) ?_
            refine gv_load (t := 3) (A := ⟨b542, 0, none⟩) (.int .i64 r529.2.1) [] (fun e => by cases e) rfl rfl rfl (by kernel_rfl) (by kernel_rfl) (by kernel_rfl) (inw0 (hb550.cell 0 rfl)) rfl ?_
            refine pN 3 [122, 123, 124] [(124, (.bool (r529.2.1 != 0)))] ?_
            refine gv_split (s := 124) (g := (r529.2.1 != 0)) (by kernel_rfl) (fun hc581 => ?_) (fun hc581 => ?_)
            ·skip
             replace h1 := ite_t hc581 h1
             refine pN 15 [125, 126, 127, 128, 129, 130, 131, 132, 133, 134, 135, 136, 137, 138, 139] [(139, (.bool true))] ?_
             refine gv_nil ?_
             have e := sj h1; subst e
             refine gv_goal fun a hd hs hok => ?_
             have hB582 := bg hB533 hg554 nb
             have hB583 := bg hB533 hg535 nb
             have hlo584 : w0.heap.size ≤ b542 := lob hbe546 hB583.size
             have hB585 := bg hB582 hg549 (rowlo hlo584)
             have hk586 := (hk495.grown hg526 (fun _ h => h.elim) (rdnn (rowne ap514))).grown hg535 (fun _ h => h.elim) nb
             have ap587 : ¬ (fun k => blk a6 = some k) b542 := fun hx => nl ((lowb hbe546) _ rfl) ((fun k (hk : blk a6 = some k) => hk586.lt k hk) _ hx)
             have hk588 := ((hk495.grown hg526 (fun _ h => h.elim) (rdnn (rowne ap514))).grown hg554 (fun _ h => h.elim) nb).grown hg549 (fun _ h => h.elim) (rdnn (rowne ap587))
             have ap589 : ¬ (fun k => blk a537 = some k) b542 := fun hx => nl ((lowb hbe546) _ rfl) ((fun k (hk : blk a537 = some k) => ho539.lt k hk) _ hx)
             have hk590 := (ho539.grown hg544 (fun _ h => h.elim) nb).grown hg549 (fun _ h => h.elim) (rdnn (rowne ap589))
             exact ⟨hB585, nrf, hk588, hk590, hd, hs, okp [0, 1, 7, 17, 139] hok⟩
            ·skip
             replace h1 := ite_f hc581 h1
             refine pN 1 [125] [(125, (.slice a181 (length r176.1) c182))] ?_
             refine bindE h1 ?_; clear h1; intro l591 hx592 h1
             have hk599 := (hk496.grown hg526 (fun _ h => h.elim) (rdnn (rowne ap516))).grown hg535 (fun _ h => h.elim) nb
             have ap600 : ¬ (fun k => blk a181 = some k) b542 := fun hx => nl ((lowb hbe546) _ rfl) ((fun k (hk : blk a181 = some k) => hk599.lt k hk) _ hx)
             have hk601 := ((hk496.grown hg526 (fun _ h => h.elim) (rdnn (rowne ap516))).grown hg554 (fun _ h => h.elim) nb).grown hg549 (fun _ h => h.elim) (rdnn (rowne ap600))
             refine gv_append bE (t := 24) (ty := 24) (e := 5) (a := none) (ax := a181) (cap := 0) (cx := c182) (xs := ([] : List UInt8)) (ys := r176.1) l591 (X := (fun _ => False)) (Y := (fun k => blk a181 = some k)) (by decide) rfl rfl (by kernel_rfl) (by kernel_rfl) Tryd.underlying24 info5 (Gv.Own.nil bE 5 w548 (fun _ => False)) (hk601.rd (Y := fun k => blk a181 = some k) (fun _ h => h.elim) (fun g e => e)) hx592 (.inr fun _ _ _ _ _ h => h) (fun _ h => h.elim) ?_
             intro a593 c594 w595 hg596 ho597 hk598
             refine ⟨(fun e => by cases e), ?_⟩
             have hB603 := bg hB533 hg554 nb
             have hB604 := bg hB533 hg535 nb
             have hlo605 : w0.heap.size ≤ b542 := lob hbe546 hB604.size
             have hB606 := bg hB603 hg549 (rowlo hlo605)
             have hl602 : ∀ g, blk a593 = some g → w0.heap.size ≤ g := blk_step hk598 (fun _ h => by cases h) hB606.size
             have hk608 := hk531.grown hg535 (fun _ h => h.elim) nb
             have ap609 : ¬ (fun k => blk a136 = some k) b542 := fun hx => nl ((lowb hbe546) _ rfl) ((fun k (hk : blk a136 = some k) => hk608.lt k hk) _ hx)
             have hk610 := (hk531.grown hg554 (fun _ h => h.elim) nb).grown hg549 (fun _ h => h.elim) (rdnn (rowne ap609))
             have ap607 : ∀ g, blk a593 = some g → ¬ (fun k => blk a136 = some k) g := blk_neX hk598 (fun _ h => by cases h) (fun k (hk : blk a136 = some k) => hk610.lt k hk)
             have ap611 : ∀ g, blk a136 = some g → ¬ (fun k => blk a593 = some k) g := fun g e h => blk_rev hk598 (fun h => by cases h) (hk610.lt g e) h
             have hk613 := (hk495.grown hg526 (fun _ h => h.elim) (rdnn (rowne ap514))).grown hg535 (fun _ h => h.elim) nb
             have ap614 : ¬ (fun k => blk a6 = some k) b542 := fun hx => nl ((lowb hbe546) _ rfl) ((fun k (hk : blk a6 = some k) => hk613.lt k hk) _ hx)
             have hk615 := ((hk495.grown hg526 (fun _ h => h.elim) (rdnn (rowne ap514))).grown hg554 (fun _ h => h.elim) nb).grown hg549 (fun _ h => h.elim) (rdnn (rowne ap614))
             have ap612 : ∀ g, blk a593 = some g → ¬ (fun k => blk a6 = some k) g := blk_neX hk598 (fun _ h => by cases h) (fun k (hk : blk a6 = some k) => hk615.lt k hk)
             have ap616 : ∀ g, blk a6 = some g → ¬ (fun k => blk a593 = some k) g := fun g e h => blk_rev hk598 (fun h => by cases h) (hk615.lt g e) h
             have ap617 : ∀ g, blk a593 = some g → ¬ (fun k => blk a181 = some k) g := blk_neX hk598 (fun _ h => by cases h) (fun k (hk : blk a181 = some k) => hk601.lt k hk)
             have ap618 : ∀ g, blk a181 = some g → ¬ (fun k => blk a593 = some k) g := fun g e h => blk_rev hk598 (fun h => by cases h) (hk601.lt g e) h
             have ap619 : ∀ g, blk a593 = some g → ¬ (· = (bf280 0)) g := blk_neX hk598 (fun _ h => by cases h) (ltb hk557)
             have ap620 : ¬ (fun k => blk a593 = some k) (bf280 0) := fun h => blk_rev hk598 (fun h => by cases h) (hk557.lt) h
             have hk622 := (hk498.grown hg526 (fun _ h => h.elim) (rdnn (rowne ap519))).grown hg535 (fun _ h => h.elim) nb
             have ap623 : ¬ (fun k => blk a354 = some k) b542 := fun hx => nl ((lowb hbe546) _ rfl) ((fun k (hk : blk a354 = some k) => hk622.lt k hk) _ hx)
             have hk624 := ((hk498.grown hg526 (fun _ h => h.elim) (rdnn (rowne ap519))).grown hg554 (fun _ h => h.elim) nb).grown hg549 (fun _ h => h.elim) (rdnn (rowne ap623))
             have ap621 : ∀ g, blk a593 = some g → ¬ (fun k => blk a354 = some k) g := blk_neX hk598 (fun _ h => by cases h) (fun k (hk : blk a354 = some k) => hk624.lt k hk)
             have ap625 : ∀ g, blk a354 = some g → ¬ (fun k => blk a593 = some k) g := fun g e h => blk_rev hk598 (fun h => by cases h) (hk624.lt g e) h
             have ap626 : ∀ g, blk a593 = some g → ¬ (· = (bf489 0)) g := blk_neX hk598 (fun _ h => by cases h) (ltb hk570)
             have ap627 : ¬ (fun k => blk a593 = some k) (bf489 0) := fun h => blk_rev hk598 (fun h => by cases h) (hk570.lt) h
             have ap629 : ¬ (fun k => blk a537 = some k) b542 := fun hx => nl ((lowb hbe546) _ rfl) ((fun k (hk : blk a537 = some k) => ho539.lt k hk) _ hx)
             have hk630 := (ho539.grown hg544 (fun _ h => h.elim) nb).grown hg549 (fun _ h => h.elim) (rdnn (rowne ap629))
             have ap628 : ∀ g, blk a593 = some g → ¬ (fun k => blk a537 = some k) g := blk_neX hk598 (fun _ h => by cases h) (fun k (hk : blk a537 = some k) => hk630.lt k hk)
             have ap631 : ∀ g, blk a537 = some g → ¬ (fun k => blk a593 = some k) g := fun g e h => blk_rev hk598 (fun h => by cases h) (hk630.lt g e) h
             have ap632 : ∀ g, blk a593 = some g → ¬ (· = b542) g := blk_neX hk598 (fun _ h => by cases h) (ltb hb550)
             have ap633 : ¬ (fun k => blk a593 = some k) b542 := fun h => blk_rev hk598 (fun h => by cases h) (hb550.lt) h
             refine pN 1 [127] [(127, (.slice a354 (length r349.1) c355))] ?_
             refine bindE h1 ?_; clear h1; intro l634 hx635 h1
             have hk642 := hk624.grown hg596 (fun _ h => h.elim) nb
             refine gv_append bE (t := 24) (ty := 24) (e := 5) (a := a593) (ax := a354) (cap := c594) (cx := c355) (xs := l591) (ys := r349.1) l634 (X := (fun _ => False)) (Y := (fun k => blk a354 = some k)) (by decide) rfl rfl (by kernel_rfl) (by kernel_rfl) Tryd.underlying24 info5 ho597 (hk642.rd (Y := fun k => blk a354 = some k) (fun _ h => h.elim) (fun g e => e)) hx635 (.inr fun _ _ _ _ _ h => h) (fun _ h => h.elim) ?_
             intro a636 c637 w638 hg639 ho640 hk641
             refine ⟨(fun e => by cases e), ?_⟩
             have hB644 := bg hB606 hg596 nb
             have hl643 : ∀ g, blk a636 = some g → w0.heap.size ≤ g := blk_step hk641 hl602 hB644.size
             have hk646 := hk610.grown hg596 (fun _ h => h.elim) nb
             have ap645 : ∀ g, blk a636 = some g → ¬ (fun k => blk a136 = some k) g := blk_neX hk641 ap607 (fun k (hk : blk a136 = some k) => hk646.lt k hk)
             have ap647 : ∀ g, blk a136 = some g → ¬ (fun k => blk a636 = some k) g := fun g e h => blk_rev hk641 (fun h => ((ap611) g e) h) (hk646.lt g e) h
             have hk649 := hk615.grown hg596 (fun _ h => h.elim) nb
             have ap648 : ∀ g, blk a636 = some g → ¬ (fun k => blk a6 = some k) g := blk_neX hk641 ap612 (fun k (hk : blk a6 = some k) => hk649.lt k hk)
             have ap650 : ∀ g, blk a6 = some g → ¬ (fun k => blk a636 = some k) g := fun g e h => blk_rev hk641 (fun h => ((ap616) g e) h) (hk649.lt g e) h
             have hk652 := hk601.grown hg596 (fun _ h => h.elim) nb
             have ap651 : ∀ g, blk a636 = some g → ¬ (fun k => blk a181 = some k) g := blk_neX hk641 ap617 (fun k (hk : blk a181 = some k) => hk652.lt k hk)
             have ap653 : ∀ g, blk a181 = some g → ¬ (fun k => blk a636 = some k) g := fun g e h => blk_rev hk641 (fun h => ((ap618) g e) h) (hk652.lt g e) h
             have hk655 := hk557.grown hg596 nb
             have ap654 : ∀ g, blk a636 = some g → ¬ (· = (bf280 0)) g := blk_neX hk641 ap619 (ltb hk655)
             have ap656 : ¬ (fun k => blk a636 = some k) (bf280 0) := fun h => blk_rev hk641 (fun h => (ap620) h) (hk655.lt) h
             have ap657 : ∀ g, blk a636 = some g → ¬ (fun k => blk a354 = some k) g := blk_neX hk641 ap621 (fun k (hk : blk a354 = some k) => hk642.lt k hk)
             have ap658 : ∀ g, blk a354 = some g → ¬ (fun k => blk a636 = some k) g := fun g e h => blk_rev hk641 (fun h => ((ap625) g e) h) (hk642.lt g e) h
             have hk660 := hk570.grown hg596 nb
             have ap659 : ∀ g, blk a636 = some g → ¬ (· = (bf489 0)) g := blk_neX hk641 ap626 (ltb hk660)
             have ap661 : ¬ (fun k => blk a636 = some k) (bf489 0) := fun h => blk_rev hk641 (fun h => (ap627) h) (hk660.lt) h
             have hk663 := hk630.grown hg596 (fun _ h => h.elim) nb
             have ap662 : ∀ g, blk a636 = some g → ¬ (fun k => blk a537 = some k) g := blk_neX hk641 ap628 (fun k (hk : blk a537 = some k) => hk663.lt k hk)
             have ap664 : ∀ g, blk a537 = some g → ¬ (fun k => blk a636 = some k) g := fun g e h => blk_rev hk641 (fun h => ((ap631) g e) h) (hk663.lt g e) h
             have hk666 := hb550.grown hg596 nb
             have ap665 : ∀ g, blk a636 = some g → ¬ (· = b542) g := blk_neX hk641 ap632 (ltb hk666)
             have ap667 : ¬ (fun k => blk a636 = some k) b542 := fun h => blk_rev hk641 (fun h => (ap633) h) (hk666.lt) h
             refine pN 1 [129] [(129, (.slice a6 (length r1.1) c7))] ?_
             refine bindE h1 ?_; clear h1; intro r668 hr669 h1
             have hk670 := hk649.grown hg639 (fun _ h => h.elim) (rdnn ap612)
             refine gv_call0 (by kernel_rfl) rfl (by kernel_rfl) enters8 (ref4_SameBytes_ok fuel a636 c637 l634 a6 c7 r1.1 w638 (fun k => (fun k => blk a636 = some k) k ∨ (fun k => blk a6 = some k) k) (fun k hk => (hk).elim (fun h => (fun k (hk : blk a636 = some k) => ho640.lt k hk) k h) (fun h => (fun k (hk : blk a6 = some k) => hk670.lt k hk) k h)) ((ho640.rd (Y := fun k => blk a636 = some k) (fun _ h => h.elim) (fun g e => e)).wide (fun k hk => (.inl hk))) ((hk670.rd (Y := fun k => blk a6 = some k) (fun _ h => h.elim) (fun g e => e)).wide (fun k hk => (.inr hk))) r668 hr669) ?_
             rintro v673 w671 ⟨hg672, rfl⟩
             refine pN 3 [131, 132, 133] [(133, (.bool (!r668)))] ?_
             refine gv_split (s := 133) (g := (!r668)) (by kernel_rfl) (fun hc674 => ?_) (fun hc674 => ?_)
             ·skip
              replace h1 := ite_t hc674 h1
              refine pN 6 [134, 135, 136, 137, 138, 139] [(139, (.bool true))] ?_
              refine gv_nil ?_
              have e := sj h1; subst e
              refine gv_goal fun a hd hs hok => ?_
              have hB675 := bg hB644 hg639 hl602
              have hB676 := bg hB675 hg672 nb
              have hz677 := (nt (nt hg596.size hg639.size) hg672.size)
              have hk678 := hk670.grown hg672 (fun _ h => h.elim) nb
              have hk679 := (hk663.grown hg639 (fun _ h => h.elim) (rdnn ap628)).grown hg672 (fun _ h => h.elim) nb
              exact ⟨hB676, hz677, hk678, hk679, hd, hs, okp [0, 1, 7, 17, 139] hok⟩
             ·skip
              replace h1 := ite_f hc674 h1
              refine pN 6 [134, 135, 136, 137, 138, 139] [(139, (.bool (((length r529.1 : Nat) : Int) != ((length r1.1 : Nat) : Int))))] ?_
              refine gv_nil ?_
              have e := sj h1; subst e
              refine gv_goal fun a hd hs hok => ?_
              have hB680 := bg hB644 hg639 hl602
              have hB681 := bg hB680 hg672 nb
              have hz682 := (nt (nt hg596.size hg639.size) hg672.size)
              have hk683 := hk670.grown hg672 (fun _ h => h.elim) nb
              have hk684 := (hk663.grown hg639 (fun _ h => h.elim) (rdnn ap628)).grown hg672 (fun _ h => h.elim) nb
              exact ⟨hB681, hz682, hk683, hk684, hd, hs, okp [0, 1, 7, 17, 139] hok⟩
         ·rintro a w553 ⟨hB685, hz686, hk687, hk688, hd, hs, hok⟩
          refine gv_in ?_ hd hs hok
          clear hd hs hok
          clear hz686 hz551 hb550 hg549 hz547 hbe546 hb545 hg544 ho539 hg535 hB533 hlo532 hk531 hr530 hz528 hb527 ap520 ap519 ap518 ap517 ap516 ap515 ap513 ap512 hlo511 hb510 hlo499 hk498 hk497 hk496 hk494 hB492 ap302 ap301 ap300 ap299 ap298 ap297 ap141 ap140
          refine gv_cond (b := j552) (by kernel_rfl) (fun hc689 => ?_) (fun hc689 => ?_)
          ·replace h0 := ite_t hc689 h0
           refine gv_seq <| gv_region <| pN 1 [6] [(6, (.bool false))] ?_
           refine gv_nil <| gv_cret ?_
           have e := sj h0; subst e
           refine gv_ret (gv_done [(.bool false)] rfl ⟨(by kernel_rfl), trivial⟩ ?_)
           exact ⟨grown_of_below hB685, rfl⟩
          ·replace h0 := ite_f hc689 h0
           refine gv_skip <| gv_seq <| gv_region <| pN 2 [19, 20] [(19, (.int .i64 0)), (20, (.int .i64 0))] ?_
           refine gv_nil <| gv_seq <| gv_seq <| gv_region <| pN 1 [21] [(21, (.int .i64 0))] ?_
           refine gv_nil <| bindE h0 ?_; clear h0; intro j690 h1 h0
           refine gv_cut_code (J := fun a w692 => ∃ s691 : Int, j690 = .inl s691 ∧ Below w0.heap.size w0 w692 ∧ w553.heap.size ≤ w692.heap.size ∧ Gv.Own bE 5 w692 (fun _ => False) a6 c7 r1.1 ∧ a.defers = [] ∧ a.tmps.size = 231 ∧ Ok [(7, (.slice a6 (length r1.1) c7)), (19, (.int .i64 s691))] a.tmps) ?_ ?_
           ·skip
            refine gv_block <| gv_loop (A := fun (s693 : (Int × Int × Int)) a w694 => Below w0.heap.size w0 w694 ∧ w553.heap.size ≤ w694.heap.size ∧ Gv.Own bE 5 w694 (fun _ => False) a6 c7 r1.1 ∧ Gv.Own bE 5 w694 (fun _ => False) a537 c538 r529.1 ∧ a.defers = [] ∧ a.tmps.size = 231 ∧ Ok [(0, (.slice pa0_0 (length l_0) pc0_0)), (1, (.slice pa1_0 (length vs_1) pc1_0)), (7, (.slice a6 (length r1.1) c7)), (17, (.slice a537 (length r529.1) c538)), (19, (.int .i64 s693.1)), (20, (.int .i64 s693.2.1)), (21, (.int .i64 s693.2.2))] a.tmps) h1 ?_ ?_
            ·intro a hd hs hok
             exact ⟨hB685, nrf, hk687, hk688, hd, hs, okp [0, 1, 7, 17, 19, 20, 21] hok⟩
            ·rintro s693 r2 h2 hR2 a w694 ⟨hB695, hz696, hk697, hk698, hd, hs, hok⟩
             refine gv_in ?_ hd hs hok
             clear hd hs hok
             clear hc689 hk688 hk687 hB685
             refine gv_seq <| gv_seq <| gv_region <| pN 4 [140, 141, 142, 143] [(143, (.bool (decide (s693.2.2 < ((length l_0 : Nat) : Int)))))] ?_
             refine gv_nil <| gv_cond (b := (decide (s693.2.2 < ((length l_0 : Nat) : Int)))) (by kernel_rfl) (fun hc699 => ?_) (fun hc699 => ?_)
             ·replace h2 := ite_t hc699 h2
              refine gv_skip <| gv_seq <| gv_block <| gv_seq <| gv_region <| pN 1 [22] [(22, (.slice none (length ([] : List (Int × (Bool × (List Int)) × (Bool × (List Int)) × ByteArray × Int))) 0))] ?_
              refine gv_nil <| gv_seq <| gv_seq <| gv_region <| pN 2 [146, 147] [(146, (.slice pa0_0 (length l_0) pc0_0)), (147, (.int .i64 s693.2.2))] ?_
              refine bindE h2 ?_; clear h2; intro x700 hx701 h2
              refine gv_idxaddr (t := 22) (e := 31) (a := pa0_0) (len := length l_0) (cap := pc0_0) (kk := .i64) (i := s693.2.2) (sz := 3) [] (fun e => by cases e) rfl rfl rfl (by kernel_rfl) (by kernel_rfl) Tryd.underlying22 (by kernel_rfl) ((hpa0_0.below hB695 hX0).has hx701) (idx_spec hx701).1 (idx_spec hx701).2.1 rfl ?_
              refine pN 1 [149] [(149, (.pointer (some (elemAddr pa0_0 ((s693.2.2 : Int).toNat * 3)))))] ?_
              obtain ⟨_, ⟨_, _, rfl, rfl, ⟨_, _, rfl, rfl, rfl⟩⟩, hc702⟩ := hpa0_0.cellsK hx701
              refine gv_load (t := 5) (A := (elemAddr pa0_0 ((s693.2.2 : Int).toNat * 3))) (.int .u8 x700.1) [] (fun e => by cases e) rfl rfl rfl (by kernel_rfl) (by kernel_rfl) (by kernel_rfl) (inw0 ((hc702 w694 (fun k hk => hB695.block k (hX0 k hk))).zero rfl)) rfl ?_
              refine pN 1 [151] [(151, (.bool (x700.1 != 120)))] ?_
              refine gv_nil <| bindE h2 ?_; clear h2; intro j703 h3 h2
              refine gv_cut_code (J := fun a w704 => ∃ (a22_0j : Option Addr) (c22_0j : Nat), Below w0.heap.size w0 w704 ∧ w694.heap.size ≤ w704.heap.size ∧ Rd (prE (iE .i64) (prE (prE tE (slE (iE .u32))) (prE (prE tE (slE (iE .u32))) (prE sE (iE .i64))))) w0 X0 a22_0j c22_0j j703.2 ∧ Gv.Own bE 5 w704 (fun _ => False) a6 c7 r1.1 ∧ Gv.Own bE 5 w704 (fun _ => False) a537 c538 r529.1 ∧ a.defers = [] ∧ a.tmps.size = 231 ∧ Ok [(0, (.slice pa0_0 (length l_0) pc0_0)), (1, (.slice pa1_0 (length vs_1) pc1_0)), (7, (.slice a6 (length r1.1) c7)), (17, (.slice a537 (length r529.1) c538)), (19, (.int .i64 s693.1)), (20, (.int .i64 j703.1)), (21, (.int .i64 s693.2.2)), (22, (.slice a22_0j (length j703.2) c22_0j))] a.tmps) ?_ ?_
              ·skip
               refine gv_cond (b := (x700.1 != 120)) (by kernel_rfl) (fun hc705 => ?_) (fun hc705 => ?_)
               ·replace h3 := ite_t hc705 h3
                refine gv_seq <| gv_region <| pN 4 [152, 153, 154, 155] [(152, (.slice pa1_0 (length vs_1) pc1_0)), (153, (.int .i64 s693.2.1)), (155, (.int .i64 (IntKind.i64.wrap (s693.2.1 + 1))))] ?_
                refine bindE h3 ?_; clear h3; intro x706 hx707 h3
                refine gv_ssl2 (prE (iE .i64) (prE (prE tE (slE (iE .u32))) (prE (prE tE (slE (iE .u32))) (prE sE (iE .i64))))) (t := 23) (e := 48) (xs := vs_1) (a := pa1_0) (cap := pc1_0) (lo := (some (.int .i64 s693.2.1))) (hi := (some (.int .i64 (IntKind.i64.wrap (s693.2.1 + 1))))) s693.2.1 (IntKind.i64.wrap (s693.2.1 + 1)) x706 (fun e => by cases e) rfl rfl rfl (by kernel_rfl) (by kernel_rfl) Tryd.underlying23 (by kernel_rfl) (.inr ⟨_, rfl⟩) (.inr ⟨_, rfl⟩) hx707 (hpa1_0.below hB695 hX0).1 ?_
                intro a708 c709 hsub710
                have hp711 := hsub710 _ _ hpa1_0
                refine pN 1 [22] [(22, (.slice a708 (length x706) c709))] ?_
                refine gv_nil <| gv_region <| pN 3 [20, 157, 158] [(20, (.int .i64 (IntKind.i64.wrap (s693.2.1 + 1))))] ?_
                refine gv_nil ?_
                have e := sj h3; subst e
                refine gv_goal fun a hd hs hok => ?_
                exact ⟨a708, c709, hB695, nrf, hp711, hk697, hk698, hd, hs, okp [0, 1, 7, 17, 19, 20, 21, 22] hok⟩
               ·replace h3 := ite_f hc705 h3
                refine gv_skip ?_
                have e := sj h3; subst e
                refine gv_goal fun a hd hs hok => ?_
                exact ⟨none, 0, hB695, nrf, (Rd.nil (prE (iE .i64) (prE (prE tE (slE (iE .u32))) (prE (prE tE (slE (iE .u32))) (prE sE (iE .i64))))) w0 X0 none 0), hk697, hk698, hd, hs, okp [0, 1, 7, 17, 19, 20, 21, 22] hok⟩
              ·rintro a w704 ⟨a714, c715, hB712, hz713, hp716, hk717, hk718, hd, hs, hok⟩
               refine gv_in ?_ hd hs hok
               clear hd hs hok
               have hz719 := (nt hz696 hz713)
               clear hz713 hc702 hx701 hc699 hk698 hk697 hz696 hB695
               refine gv_seq <| gv_region <| pN 4 [160, 161, 162, 163] [(160, (.slice pa0_0 (length l_0) pc0_0)), (161, (.int .i64 s693.2.2)), (163, (.int .i64 (IntKind.i64.wrap (s693.2.2 + 1))))] ?_
               refine bindE h2 ?_; clear h2; intro x720 hx721 h2
               refine gv_ssl2 (prE (iE .u8) (prE (iE .i64) tE)) (t := 22) (e := 31) (xs := l_0) (a := pa0_0) (cap := pc0_0) (lo := (some (.int .i64 s693.2.2))) (hi := (some (.int .i64 (IntKind.i64.wrap (s693.2.2 + 1))))) s693.2.2 (IntKind.i64.wrap (s693.2.2 + 1)) x720 (fun e => by cases e) rfl rfl rfl (by kernel_rfl) (by kernel_rfl) Tryd.underlying22 (by kernel_rfl) (.inr ⟨_, rfl⟩) (.inr ⟨_, rfl⟩) hx721 (hpa0_0.below hB712 hX0).1 ?_
               intro a722 c723 hsub724
               have hp725 := hsub724 _ _ hpa0_0
               refine pN 1 [165] [(165, (.slice a714 (length j703.2) c715))] ?_
               refine bindE h2 ?_; clear h2; intro r726 hr727 h2
               refine gv_call0 (by kernel_rfl) rfl (by kernel_rfl) enters6 (packing_Pack_ok fuel a722 c723 x720 a714 c715 j703.2 w704 (fun k => X0 k ∨ X0 k) (fun k hk => (hk).elim (fun h => (fun k (hk : X0 k) => ltl (hX0 k hk) hB712.size) k h) (fun h => (fun k (hk : X0 k) => ltl (hX0 k hk) hB712.size) k h)) ((hp725.below hB712 hX0).wide (fun k hk => (.inl hk))) ((hp716.below hB712 hX0).wide (fun k hk => (.inr hk))) r726 hr727) ?_
               rintro v730 w728 ⟨hg729, a731, c732, rfl, ho733, hl734⟩
               have hl735 : ∀ g, blk a731 = some g → w0.heap.size ≤ g := fun g e => Nat.le_trans hB712.size (hl734 g e)
               have hz736 := (nt hz719 hg729.size)
               clear hr727 hsub724 hx721 hz719
               refine pN 3 [159, 167, 168] [(167, (.slice a731 (length r726.1) c732)), (168, (.agg #[(.int .i64 r726.2.1), (.int .i64 r726.2.2)]))] ?_
               refine gv_new0 (fun b => .pointer (some ⟨b, 0, none⟩)) #[(.int .i64 0), (.int .i64 0)] 26 (by kernel_rfl) (by kernel_rfl) ?_
               intro b737 w738 hg739 hb740 hbe741 hz742
               refine pN 1 [23] [(23, (.slice a731 (length r726.1) c732))] ?_
               refine gv_store0 26 0 (.agg #[(.int .i64 r726.2.1), (.int .i64 r726.2.2)]) #[(.int .i64 r726.2.1), (.int .i64 r726.2.2)] hb740 (by kernel_rfl) (by kernel_rfl) (by kernel_rfl) ?_
               intro w743 hg744 hb745 hz746
               refine gv_nil <| gv_seq <| gv_seq <| gv_region <| bindE h2 ?_; clear h2; intro j747 h3 h2
               refine gv_cut_ops (J := fun a w748 => Below w0.heap.size w0 w748 ∧ w743.heap.size ≤ w748.heap.size ∧ Gv.Own bE 5 w748 (fun _ => False) a6 c7 r1.1 ∧ Gv.Own bE 5 w748 (fun _ => False) a537 c538 r529.1 ∧ Gv.Own bE 5 w748 (fun _ => False) a731 c732 r726.1 ∧ a.defers = [] ∧ a.tmps.size = 231 ∧ Ok [(0, (.slice pa0_0 (length l_0) pc0_0)), (1, (.slice pa1_0 (length vs_1) pc1_0)), (7, (.slice a6 (length r1.1) c7)), (17, (.slice a537 (length r529.1) c538)), (19, (.int .i64 s693.1)), (20, (.int .i64 j703.1)), (21, (.int .i64 s693.2.2)), (23, (.slice a731 (length r726.1) c732)), (192, (.bool j747))] a.tmps) ?_ ?_
               ·skip
                refine pN 1 [169] [(169, (bp b737))] ?_
                refine gv_load (t := 3) (A := ⟨b737, 0, none⟩) (.int .i64 r726.2.1) [] (fun e => by cases e) rfl rfl rfl (by kernel_rfl) (by kernel_rfl) (by kernel_rfl) (inw0 (hb745.cell 0 rfl)) rfl ?_
                refine pN 2 [171, 172] [(172, (.bool (r726.2.1 != 0)))] ?_
                refine gv_split (s := 172) (g := (r726.2.1 != 0)) (by kernel_rfl) (fun hc749 => ?_) (fun hc749 => ?_)
                ·skip
                 replace h3 := ite_t hc749 h3
                 refine pN 20 [173, 174, 175, 176, 177, 178, 179, 180, 181, 182, 183, 184, 185, 186, 187, 188, 189, 190, 191, 192] [(192, (.bool true))] ?_
                 refine gv_nil ?_
                 have e := sj h3; subst e
                 refine gv_goal fun a hd hs hok => ?_
                 have hg750 := (grown_trans hg729 hg739)
                 have hB751 := bg hB712 hg750 nb
                 have hB752 := bg hB712 hg729 nb
                 have hlo753 : w0.heap.size ≤ b737 := lob hbe741 hB752.size
                 have hB754 := bg hB751 hg744 (rowlo hlo753)
                 have hk755 := hk717.grown hg729 (fun _ h => h.elim) nb
                 have ap756 : ¬ (fun k => blk a6 = some k) b737 := fun hx => nl ((lowb hbe741) _ rfl) ((fun k (hk : blk a6 = some k) => hk755.lt k hk) _ hx)
                 have hk757 := (hk717.grown hg750 (fun _ h => h.elim) nb).grown hg744 (fun _ h => h.elim) (rdnn (rowne ap756))
                 have hk758 := hk718.grown hg729 (fun _ h => h.elim) nb
                 have ap759 : ¬ (fun k => blk a537 = some k) b737 := fun hx => nl ((lowb hbe741) _ rfl) ((fun k (hk : blk a537 = some k) => hk758.lt k hk) _ hx)
                 have hk760 := (hk718.grown hg750 (fun _ h => h.elim) nb).grown hg744 (fun _ h => h.elim) (rdnn (rowne ap759))
                 have ap761 : ¬ (fun k => blk a731 = some k) b737 := fun hx => nl ((lowb hbe741) _ rfl) ((fun k (hk : blk a731 = some k) => ho733.lt k hk) _ hx)
                 have hk762 := (ho733.grown hg739 (fun _ h => h.elim) nb).grown hg744 (fun _ h => h.elim) (rdnn (rowne ap761))
                 exact ⟨hB754, nrf, hk757, hk760, hk762, hd, hs, okp [0, 1, 7, 17, 19, 20, 21, 23, 192] hok⟩
                ·skip
                 replace h3 := ite_f hc749 h3
                 refine pN 9 [173, 174, 175, 176, 177, 178, 179, 180, 181] [(181, (.bool (decide ((IntKind.i64.wrap (s693.1 + ((length r726.1 : Nat) : Int))) > ((length r1.1 : Nat) : Int)))))] ?_
                 refine gv_split (s := 181) (g := (decide ((IntKind.i64.wrap (s693.1 + ((length r726.1 : Nat) : Int))) > ((length r1.1 : Nat) : Int)))) (by kernel_rfl) (fun hc763 => ?_) (fun hc763 => ?_)
                 ·skip
                  replace h3 := ite_t hc763 h3
                  refine pN 11 [182, 183, 184, 185, 186, 187, 188, 189, 190, 191, 192] [(192, (.bool true))] ?_
                  refine gv_nil ?_
                  have e := sj h3; subst e
                  refine gv_goal fun a hd hs hok => ?_
                  have hg764 := (grown_trans hg729 hg739)
                  have hB765 := bg hB712 hg764 nb
                  have hB766 := bg hB712 hg729 nb
                  have hlo767 : w0.heap.size ≤ b737 := lob hbe741 hB766.size
                  have hB768 := bg hB765 hg744 (rowlo hlo767)
                  have hk769 := hk717.grown hg729 (fun _ h => h.elim) nb
                  have ap770 : ¬ (fun k => blk a6 = some k) b737 := fun hx => nl ((lowb hbe741) _ rfl) ((fun k (hk : blk a6 = some k) => hk769.lt k hk) _ hx)
                  have hk771 := (hk717.grown hg764 (fun _ h => h.elim) nb).grown hg744 (fun _ h => h.elim) (rdnn (rowne ap770))
                  have hk772 := hk718.grown hg729 (fun _ h => h.elim) nb
                  have ap773 : ¬ (fun k => blk a537 = some k) b737 := fun hx => nl ((lowb hbe741) _ rfl) ((fun k (hk : blk a537 = some k) => hk772.lt k hk) _ hx)
                  have hk774 := (hk718.grown hg764 (fun _ h => h.elim) nb).grown hg744 (fun _ h => h.elim) (rdnn (rowne ap773))
                  have ap775 : ¬ (fun k => blk a731 = some k) b737 := fun hx => nl ((lowb hbe741) _ rfl) ((fun k (hk : blk a731 = some k) => ho733.lt k hk) _ hx)
                  have hk776 := (ho733.grown hg739 (fun _ h => h.elim) nb).grown hg744 (fun _ h => h.elim) (rdnn (rowne ap775))
                  exact ⟨hB768, nrf, hk771, hk774, hk776, hd, hs, okp [0, 1, 7, 17, 19, 20, 21, 23, 192] hok⟩
                 ·skip
                  replace h3 := ite_f hc763 h3
                  refine pN 7 [182, 183, 184, 185, 186, 187, 188] [(182, (.slice a731 (length r726.1) c732)), (183, (.slice a6 (length r1.1) c7)), (184, (.int .i64 s693.1)), (188, (.int .i64 (IntKind.i64.wrap (s693.1 + ((length r726.1 : Nat) : Int)))))] ?_
                  refine bindE h3 ?_; clear h3; intro x777 hx778 h3
                  have hg782 := (grown_trans hg729 hg739)
                  have hk783 := hk717.grown hg729 (fun _ h => h.elim) nb
                  have ap784 : ¬ (fun k => blk a6 = some k) b737 := fun hx => nl ((lowb hbe741) _ rfl) ((fun k (hk : blk a6 = some k) => hk783.lt k hk) _ hx)
                  have hk785 := (hk717.grown hg782 (fun _ h => h.elim) nb).grown hg744 (fun _ h => h.elim) (rdnn (rowne ap784))
                  refine gv_ssl2 bE (t := 24) (e := 5) (xs := r1.1) (a := a6) (cap := c7) (lo := (some (.int .i64 s693.1))) (hi := (some (.int .i64 (IntKind.i64.wrap (s693.1 + ((length r726.1 : Nat) : Int)))))) s693.1 (IntKind.i64.wrap (s693.1 + ((length r726.1 : Nat) : Int))) x777 (fun e => by cases e) rfl rfl rfl (by kernel_rfl) (by kernel_rfl) Tryd.underlying24 (by kernel_rfl) (.inr ⟨_, rfl⟩) (.inr ⟨_, rfl⟩) hx778 (hk785.rd (Y := fun k => blk a6 = some k) (fun _ h => h.elim) (fun g e => e)).1 ?_
                  intro a779 c780 hsub781
                  have hr786 := hsub781 _ _ (hk785.rd (Y := fun k => blk a6 = some k) (fun _ h => h.elim) (fun g e => e))
                  refine gv_sub [0, 1, 7, 17, 19, 20, 21, 23, 181, 182, 189] (σ' := [(0, (.slice pa0_0 (length l_0) pc0_0)), (1, (.slice pa1_0 (length vs_1) pc1_0)), (7, (.slice a6 (length r1.1) c7)), (17, (.slice a537 (length r529.1) c538)), (19, (.int .i64 s693.1)), (20, (.int .i64 j703.1)), (21, (.int .i64 s693.2.2)), (23, (.slice a731 (length r726.1) c732)), (181, (.bool false)), (182, (.slice a731 (length r726.1) c732)), (189, (.slice a779 (length x777) c780))]) (by kernel_rfl) ?_
                  refine bindE h3 ?_; clear h3; intro r787 hr788 h3
                  have ap789 : ¬ (fun k => blk a731 = some k) b737 := fun hx => nl ((lowb hbe741) _ rfl) ((fun k (hk : blk a731 = some k) => ho733.lt k hk) _ hx)
                  have hk790 := (ho733.grown hg739 (fun _ h => h.elim) nb).grown hg744 (fun _ h => h.elim) (rdnn (rowne ap789))
                  refine gv_call0 (by kernel_rfl) rfl (by kernel_rfl) enters8 (ref4_SameBytes_ok fuel a731 c732 r726.1 a779 c780 x777 w743 (fun k => (fun k => blk a731 = some k) k ∨ (fun k => blk a6 = some k) k) (fun k hk => (hk).elim (fun h => (fun k (hk : blk a731 = some k) => hk790.lt k hk) k h) (fun h => (fun k (hk : blk a6 = some k) => hk785.lt k hk) k h)) ((hk790.rd (Y := fun k => blk a731 = some k) (fun _ h => h.elim) (fun g e => e)).wide (fun k hk => (.inl hk))) (hr786.wide (fun k hk => (.inr hk))) r787 hr788) ?_
                  rintro v793 w791 ⟨hg792, rfl⟩
                  refine pN 2 [191, 192] [(192, (.bool (!r787)))] ?_
                  refine gv_nil ?_
                  have e := sj h3; subst e
                  refine gv_goal fun a hd hs hok => ?_
                  have hB794 := bg hB712 hg782 nb
                  have hB795 := bg hB712 hg729 nb
                  have hlo796 : w0.heap.size ≤ b737 := lob hbe741 hB795.size
                  have hB797 := bg hB794 hg744 (rowlo hlo796)
                  have hB798 := bg hB797 hg792 nb
                  have hz799 := hg792.size
                  have hk800 := hk785.grown hg792 (fun _ h => h.elim) nb
                  have hk801 := hk718.grown hg729 (fun _ h => h.elim) nb
                  have ap802 : ¬ (fun k => blk a537 = some k) b737 := fun hx => nl ((lowb hbe741) _ rfl) ((fun k (hk : blk a537 = some k) => hk801.lt k hk) _ hx)
                  have hk803 := ((hk718.grown hg782 (fun _ h => h.elim) nb).grown hg744 (fun _ h => h.elim) (rdnn (rowne ap802))).grown hg792 (fun _ h => h.elim) nb
                  have hk804 := hk790.grown hg792 (fun _ h => h.elim) nb
                  exact ⟨hB798, hz799, hk800, hk803, hk804, hd, hs, okp [0, 1, 7, 17, 19, 20, 21, 23, 192] hok⟩
               ·rintro a w748 ⟨hB805, hz806, hk807, hk808, hk809, hd, hs, hok⟩
                refine gv_in ?_ hd hs hok
                clear hd hs hok
                have hz810 := (nt (nt (nt hz736 hg739.size) hg744.size) hz806)
                clear hz806 hz746 hb745 hg744 hz742 hbe741 hb740 hg739 hz736 ho733 hg729 hB712
                refine gv_cond (b := j747) (by kernel_rfl) (fun hc811 => ?_) (fun hc811 => ?_)
                ·replace h2 := ite_t hc811 h2
                 refine gv_seq <| gv_region <| pN 1 [6] [(6, (.bool false))] ?_
                 refine gv_nil <| gv_cret ?_
                 have e := sj h2; subst e
                 replace h1 := congrArg some (hR2 _ rfl)
                 have e := sj h1; subst e
                 replace h0 := cont_inr h0
                 have e := sj h0; subst e
                 refine gv_ret (gv_done [(.bool false)] rfl ⟨(by kernel_rfl), trivial⟩ ?_)
                 exact ⟨grown_of_below hB805, rfl⟩
                ·replace h2 := ite_f hc811 h2
                 refine gv_skip <| gv_seq <| gv_seq <| gv_region <| pN 1 [25] [(25, (.int .i64 0))] ?_
                 refine gv_nil <| bindE h2 ?_; clear h2; intro j812 h3 h2
                 refine gv_cut_code (J := fun a w814 => ∃ s813 : Unit, j812 = .inl s813 ∧ Below w0.heap.size w0 w814 ∧ w748.heap.size ≤ w814.heap.size ∧ Gv.Own bE 5 w814 (fun _ => False) a6 c7 r1.1 ∧ Gv.Own bE 5 w814 (fun _ => False) a537 c538 r529.1 ∧ Gv.Own bE 5 w814 (fun _ => False) a731 c732 r726.1 ∧ a.defers = [] ∧ a.tmps.size = 231 ∧ Ok [(0, (.slice pa0_0 (length l_0) pc0_0)), (1, (.slice pa1_0 (length vs_1) pc1_0)), (7, (.slice a6 (length r1.1) c7)), (17, (.slice a537 (length r529.1) c538)), (19, (.int .i64 s693.1)), (20, (.int .i64 j703.1)), (21, (.int .i64 s693.2.2)), (23, (.slice a731 (length r726.1) c732))] a.tmps) ?_ ?_
                 ·skip
                  refine gv_block <| gv_loop (A := fun (s815 : Int) a w816 => Below w0.heap.size w0 w816 ∧ w748.heap.size ≤ w816.heap.size ∧ Gv.Own bE 5 w816 (fun _ => False) a6 c7 r1.1 ∧ Gv.Own bE 5 w816 (fun _ => False) a537 c538 r529.1 ∧ Gv.Own bE 5 w816 (fun _ => False) a731 c732 r726.1 ∧ a.defers = [] ∧ a.tmps.size = 231 ∧ Ok [(0, (.slice pa0_0 (length l_0) pc0_0)), (1, (.slice pa1_0 (length vs_1) pc1_0)), (7, (.slice a6 (length r1.1) c7)), (17, (.slice a537 (length r529.1) c538)), (19, (.int .i64 s693.1)), (20, (.int .i64 j703.1)), (21, (.int .i64 s693.2.2)), (23, (.slice a731 (length r726.1) c732)), (25, (.int .i64 s815))] a.tmps) h3 ?_ ?_
                  ·intro a hd hs hok
                   exact ⟨hB805, nrf, hk807, hk808, hk809, hd, hs, okp [0, 1, 7, 17, 19, 20, 21, 23, 25] hok⟩
                  ·rintro s815 r4 h4 hR4 a w816 ⟨hB817, hz818, hk819, hk820, hk821, hd, hs, hok⟩
                   refine gv_in ?_ hd hs hok
                   clear hd hs hok
                   clear hc811 hk809 hk808 hk807 hB805
                   refine gv_seq <| gv_seq <| gv_region <| pN 4 [193, 194, 195, 196] [(196, (.bool (decide (s815 < ((length r726.1 : Nat) : Int)))))] ?_
                   refine gv_nil <| gv_cond (b := (decide (s815 < ((length r726.1 : Nat) : Int)))) (by kernel_rfl) (fun hc822 => ?_) (fun hc822 => ?_)
                   ·replace h4 := ite_t hc822 h4
                    refine gv_skip <| gv_seq <| gv_block <| gv_seq <| gv_region <| pN 2 [26, 199] [(26, (.int .i64 s815))] ?_
                    refine gv_nil <| gv_seq <| gv_seq <| gv_region <| pN 2 [200, 201] [(200, (.slice pa0_0 (length l_0) pc0_0)), (201, (.int .i64 s693.2.2))] ?_
                    refine bindE h4 ?_; clear h4; intro x823 hx824 h4
                    refine gv_idxaddr (t := 22) (e := 31) (a := pa0_0) (len := length l_0) (cap := pc0_0) (kk := .i64) (i := s693.2.2) (sz := 3) [] (fun e => by cases e) rfl rfl rfl (by kernel_rfl) (by kernel_rfl) Tryd.underlying22 (by kernel_rfl) ((hpa0_0.below hB817 hX0).has hx824) (idx_spec hx824).1 (idx_spec hx824).2.1 rfl ?_
                    refine pN 1 [203] [(203, (.pointer (some (elemAddr pa0_0 ((s693.2.2 : Int).toNat * 3)))))] ?_
                    obtain ⟨_, ⟨_, _, rfl, rfl, ⟨_, _, rfl, rfl, rfl⟩⟩, hc825⟩ := hpa0_0.cellsK hx824
                    refine gv_load (t := 5) (A := (elemAddr pa0_0 ((s693.2.2 : Int).toNat * 3))) (.int .u8 x823.1) [] (fun e => by cases e) rfl rfl rfl (by kernel_rfl) (by kernel_rfl) (by kernel_rfl) (inw0 ((hc825 w816 (fun k hk => hB817.block k (hX0 k hk))).zero rfl)) rfl ?_
                    refine bindE h4 ?_; clear h4; intro r826 hr827 h4
                    refine gv_call0 (by kernel_rfl) rfl (by kernel_rfl) enters9 (law4_oneOf_ok fuel x823.1 w816  r826 hr827) ?_
                    rintro v830 w828 ⟨hg829, rfl⟩
                    refine pN 1 [27] [(27, (.bool r826))] ?_
                    refine gv_nil <| gv_seq <| gv_region <| pN 1 [206] [(206, (.bool r826))] ?_
                    refine gv_nil <| bindE h4 ?_; clear h4; intro j831 h5 h4
                    refine gv_cut_code (J := fun a w832 => Below w0.heap.size w0 w832 ∧ w828.heap.size ≤ w832.heap.size ∧ Gv.Own bE 5 w832 (fun _ => False) a6 c7 r1.1 ∧ Gv.Own bE 5 w832 (fun _ => False) a537 c538 r529.1 ∧ Gv.Own bE 5 w832 (fun _ => False) a731 c732 r726.1 ∧ a.defers = [] ∧ a.tmps.size = 231 ∧ Ok [(0, (.slice pa0_0 (length l_0) pc0_0)), (1, (.slice pa1_0 (length vs_1) pc1_0)), (7, (.slice a6 (length r1.1) c7)), (17, (.slice a537 (length r529.1) c538)), (19, (.int .i64 s693.1)), (20, (.int .i64 j703.1)), (21, (.int .i64 s693.2.2)), (23, (.slice a731 (length r726.1) c732)), (25, (.int .i64 s815)), (26, (.int .i64 j831))] a.tmps) ?_ ?_
                    ·skip
                     refine gv_cond (b := r826) (by kernel_rfl) (fun hc833 => ?_) (fun hc833 => ?_)
                     ·replace h5 := ite_t hc833 h5
                      refine gv_region <| pN 6 [26, 207, 208, 209, 210, 211] [(26, (.int .i64 (IntKind.i64.wrap ((IntKind.i64.wrap (((length r726.1 : Nat) : Int) - 1)) - s815))))] ?_
                      refine bindE h5 ?_; clear h5; intro n834 hn835 h5
                      refine gv_name (s := 26) (v := (.int .i64 (IntKind.i64.wrap ((IntKind.i64.wrap (((length r726.1 : Nat) : Int) - 1)) - s815)))) (v' := (.int .i64 n834)) (by kernel_rfl) (congrArg (Value.int .i64) (sj hn835)) ?_
                      refine gv_nil ?_
                      have e := sj h5; subst e
                      refine gv_goal fun a hd hs hok => ?_
                      have hB836 := bg hB817 hg829 nb
                      have hk837 := hk819.grown hg829 (fun _ h => h.elim) nb
                      have hk838 := hk820.grown hg829 (fun _ h => h.elim) nb
                      have hk839 := hk821.grown hg829 (fun _ h => h.elim) nb
                      exact ⟨hB836, nrf, hk837, hk838, hk839, hd, hs, okp [0, 1, 7, 17, 19, 20, 21, 23, 25, 26] hok⟩
                     ·replace h5 := ite_f hc833 h5
                      refine gv_skip ?_
                      have e := sj h5; subst e
                      refine gv_goal fun a hd hs hok => ?_
                      have hB840 := bg hB817 hg829 nb
                      have hk841 := hk819.grown hg829 (fun _ h => h.elim) nb
                      have hk842 := hk820.grown hg829 (fun _ h => h.elim) nb
                      have hk843 := hk821.grown hg829 (fun _ h => h.elim) nb
                      exact ⟨hB840, nrf, hk841, hk842, hk843, hd, hs, okp [0, 1, 7, 17, 19, 20, 21, 23, 25, 26] hok⟩
                    ·rintro a w832 ⟨hB844, hz845, hk846, hk847, hk848, hd, hs, hok⟩
                     refine gv_in ?_ hd hs hok
                     clear hd hs hok
                     have hz849 := (nt (nt hz818 hg829.size) hz845)
                     clear hz845 hg829 hr827 hc825 hx824 hc822 hk821 hk820 hk819 hz818 hB817
                     refine gv_seq <| gv_drawA (by kernel_rfl) ?_
                     intro w850 hg851
                     refine gv_pre [0, 1, 2, 3, 4, 6, 7, 8] (bA 11 [0, 1, 2, 3, 4, 6, 7, 8]) 3 (by kernel_rfl) (by kernel_rfl) ?_
                     refine pN 4 [212, 213, 214, 215] [(212, (.slice a537 (length r529.1) c538)), (215, (.int .i64 (IntKind.i64.wrap (s693.1 + j831))))] ?_
                     refine bindE h4 ?_; clear h4; intro x852 hx853 h4
                     have hk854 := hk847.grown hg851 (fun _ h => h.elim) nb
                     refine gv_idxaddr (t := 24) (e := 5) (a := a537) (len := length r529.1) (cap := c538) (kk := .i64) (i := (IntKind.i64.wrap (s693.1 + j831))) (sz := 1) [] (fun e => by cases e) rfl rfl rfl (by kernel_rfl) (by kernel_rfl) Tryd.underlying24 (by kernel_rfl) ((hk854.rd (Y := fun k => blk a537 = some k) (fun _ h => h.elim) (fun g e => e)).has hx853) (idx_spec hx853).1 (idx_spec hx853).2.1 rfl ?_
                     refine pN 2 [218, 219] [(218, (.slice a731 (length r726.1) c732)), (219, (.int .i64 s815))] ?_
                     refine bindE h4 ?_; clear h4; intro x855 hx856 h4
                     have hk857 := hk848.grown hg851 (fun _ h => h.elim) nb
                     refine gv_idxaddr (t := 24) (e := 5) (a := a731) (len := length r726.1) (cap := c732) (kk := .i64) (i := s815) (sz := 1) [] (fun e => by cases e) rfl rfl rfl (by kernel_rfl) (by kernel_rfl) Tryd.underlying24 (by kernel_rfl) ((hk857.rd (Y := fun k => blk a731 = some k) (fun _ h => h.elim) (fun g e => e)).has hx856) (idx_spec hx856).1 (idx_spec hx856).2.1 rfl ?_
                     refine gv_nil <| gv_goA ?_
                     refine gv_stage (Cls w850 []) [5, 9] [(5, some true), (9, some true)] (bA 11 [0, 1, 2, 3, 4, 5, 6, 7, 8, 9]) 1 (by kernel_rfl) (by kernel_rfl) (Cls.refl _ _) ?_
                     have hC858 := Cls.refl w850 []
                     refine gv_load (t := 5) (A := (elemAddr a537 (((IntKind.i64.wrap (s693.1 + j831)) : Int).toNat * 1))) (.int .u8 ((x852).toNat : Int)) [] (fun e => by cases e) rfl rfl rfl (by kernel_rfl) (by kernel_rfl) (by kernel_rfl) (inw1 fun w' hC' => ((hC'.rd (hk854.rd (Y := fun k => blk a537 = some k) (fun _ h => h.elim) (fun g e => e)) (fun k (hk : blk a537 = some k) => hk854.lt k hk) nmx_nil).cell hx853)) rfl ?_
                     refine gv_load (t := 5) (A := (elemAddr a731 ((s815 : Int).toNat * 1))) (.int .u8 ((x855).toNat : Int)) [] (fun e => by cases e) rfl rfl rfl (by kernel_rfl) (by kernel_rfl) (by kernel_rfl) (inw1 fun w' hC' => ((hC'.rd (hk857.rd (Y := fun k => blk a731 = some k) (fun _ h => h.elim) (fun g e => e)) (fun k (hk : blk a731 = some k) => hk857.lt k hk) nmx_nil).cell hx856)) rfl ?_
                     refine gv_nil <| gv_goA ?_
                     refine gv_pre [10] (bA 11 [0, 1, 2, 3, 4, 5, 6, 7, 8, 9, 10]) 0 (by kernel_rfl) (by kernel_rfl) ?_
                     refine pN 1 [222] [(222, (.bool (((x852).toNat : Int) != ((x855).toNat : Int))))] ?_
                     refine gv_nil <| gv_goA ?_
                     refine gv_stageE (by kernel_rfl) ?_
                     refine gv_cond (b := (((x852).toNat : Int) != ((x855).toNat : Int))) (by kernel_rfl) (fun hc859 => ?_) (fun hc859 => ?_)
                     ·replace h4 := ite_t hc859 h4
                      refine gv_seq <| gv_region <| pN 1 [6] [(6, (.bool false))] ?_
                      refine gv_nil <| gv_cret ?_
                      have e := sj h4; subst e
                      replace h3 := congrArg some (hR4 _ rfl)
                      have e := sj h3; subst e
                      replace h2 := cont_inr h2
                      have e := sj h2; subst e
                      replace h1 := congrArg some (hR2 _ rfl)
                      have e := sj h1; subst e
                      replace h0 := cont_inr h0
                      have e := sj h0; subst e
                      refine gv_ret (gv_done [(.bool false)] rfl ⟨(by kernel_rfl), trivial⟩ ?_)
                      have hB860 := bg hB844 hg851 nb
                      exact ⟨grown_of_below hB860, rfl⟩
                     ·replace h4 := ite_f hc859 h4
                      refine gv_skip <| gv_blk <| gv_region <| pN 3 [25, 197, 198] [(25, (.int .i64 (IntKind.i64.wrap (s815 + 1))))] ?_
                      refine gv_nil ?_
                      have e := sj h4; subst e
                      refine gv_goal fun a hd hs hok => ?_
                      have hB861 := bg hB844 hg851 nb
                      have hz862 := (nt hz849 hg851.size)
                      have hk863 := hk846.grown hg851 (fun _ h => h.elim) nb
                      exact ⟨(IntKind.i64.wrap (s815 + 1)), rfl, hB861, hz862, hk863, hk854, hk857, hd, hs, okp [0, 1, 7, 17, 19, 20, 21, 23, 25] hok⟩
                   ·replace h4 := ite_f hc822 h4
                    refine gv_cexit <| gv_exit rfl ?_
                    have e := sj h4; subst e
                    replace h3 := congrArg some (hR4 _ rfl)
                    have e := sj h3; subst e
                    refine gv_goal fun a hd hs hok => ?_
                    have hz864 := hz818
                    exact ⟨(), rfl, hB817, hz864, hk819, hk820, hk821, hd, hs, okp [0, 1, 7, 17, 19, 20, 21, 23] hok⟩
                 ·rintro a w814 ⟨s813, e, hB865, hz866, hk867, hk868, hk869, hd, hs, hok⟩
                  subst e
                  refine gv_in ?_ hd hs hok
                  clear hd hs hok
                  replace h2 := cont_inl h2
                  have hz870 := (nt hz810 hz866)
                  clear hz866 hc811 hz810 hk809 hk808 hk807 hB805
                  refine gv_region <| pN 5 [19, 223, 224, 225, 226] [(19, (.int .i64 (IntKind.i64.wrap (s693.1 + ((length r726.1 : Nat) : Int)))))] ?_
                  refine bindE h2 ?_; clear h2; intro n871 hn872 h2
                  refine gv_name (s := 19) (v := (.int .i64 (IntKind.i64.wrap (s693.1 + ((length r726.1 : Nat) : Int))))) (v' := (.int .i64 n871)) (by kernel_rfl) (congrArg (Value.int .i64) (sj hn872)) ?_
                  refine gv_nil <| gv_blk <| gv_region <| pN 3 [21, 144, 145] [(21, (.int .i64 (IntKind.i64.wrap (s693.2.2 + 1))))] ?_
                  refine gv_nil ?_
                  have e := sj h2; subst e
                  refine gv_goal fun a hd hs hok => ?_
                  have hz873 := hz870
                  exact ⟨(n871, j703.1, (IntKind.i64.wrap (s693.2.2 + 1))), rfl, hB865, hz873, hk867, hk868, hd, hs, okp [0, 1, 7, 17, 19, 20, 21] hok⟩
             ·replace h2 := ite_f hc699 h2
              refine gv_cexit <| gv_exit rfl ?_
              have e := sj h2; subst e
              replace h1 := congrArg some (hR2 _ rfl)
              have e := sj h1; subst e
              refine gv_goal fun a hd hs hok => ?_
              have hz874 := hz696
              exact ⟨s693.1, rfl, hB695, hz874, hk697, hd, hs, okp [7, 19] hok⟩
           ·rintro a w692 ⟨s691, e, hB875, hz876, hk877, hd, hs, hok⟩
            subst e
            refine gv_in ?_ hd hs hok
            clear hd hs hok
            replace h0 := cont_inl h0
            clear hz876 hc689 hk688 hk687 hB685 hl541 hl540 hg526 ap514 hk495
            refine gv_seq <| gv_region <| pN 5 [6, 227, 228, 229, 230] [(6, (.bool (s691 == ((length r1.1 : Nat) : Int))))] ?_
            refine bindE h0 ?_; clear h0; intro n878 hn879 h0
            refine gv_name (s := 6) (v := (.bool (s691 == ((length r1.1 : Nat) : Int)))) (v' := (.bool n878)) (by kernel_rfl) (congrArg (Value.bool) (sj hn879)) ?_
            refine gv_nil <| gv_cret ?_
            have e := sj h0; subst e
            refine gv_ret (gv_done [(.bool n878)] rfl ⟨(by kernel_rfl), trivial⟩ ?_)
            exact ⟨grown_of_below hB875, rfl⟩

end Go.Proofs.YtdpmkphjcjacfaaDoor
