import Derived.Test.YtdpmkphjcjacfaaGreatDoorP0
set_option linter.all false
set_option maxHeartbeats 4000000
set_option maxRecDepth 100000
/- Own work, printed by a program of mine: the walk of each function: a call returns what the plain function says. -/
namespace Go.Proofs.YtdpmkphjcjacfaaGreatDoor
open Go.Gv Go.Gv.D Go.RowKit
open List (length)
theorem ref3_Plus_ok (fuel : Nat) (pa0_0 : Option Addr) (pc0_0 : Nat) (a_0 : (List Int)) (pa1_0 : Option Addr) (pc1_0 : Nat) (b_1 : (List Int)) (w0 : World) (X0 : Nat → Prop) (hX0 : ∀ k, X0 k → k < w0.heap.size) (hpa0_0 : Rd (iE .i64) w0 X0 pa0_0 pc0_0 a_0) (hpa1_0 : Rd (iE .i64) w0 X0 pa1_0 pc1_0 b_1) (r0 : (List Int)) (h0 : ref3_Plus fuel a_0 b_1 = some r0) :
    Calls Tryz.prog 46 ([(.slice pa0_0 (length a_0) pc0_0), (.slice pa1_0 (length b_1) pc1_0)] : List Value).toArray w0 (Ret fun v w' => w0.grownBy w' none ∧ ∃ (a0_0r : Option Addr) (c0_0r : Nat), ∃ (X0_0r : Nat → Prop), v = tup [(.slice a0_0r (length r0) c0_0r)] ∧ Rd (iE .i64) w' X0_0r a0_0r c0_0r r0 ∧ (∀ k, X0_0r k → k < w'.heap.size ∧ (X0 k ∨ w0.heap.size ≤ k))) := by
 have hB0 : Below w0.heap.size w0 w0 := Below.refl _ _
 unfold ref3_Plus at h0
 refine calls_run Tryz.func46 rfl Tryz.ntmps46 kr ?_
 refine gv_sub [0, 1] (σ' := [(0, (.slice pa0_0 (length a_0) pc0_0)), (1, (.slice pa1_0 (length b_1) pc1_0))]) kr ?_
 refine gv_seq <| gv_region <| pN 1 [4] [] ?_
 refine gv_nil <| gv_seq <| gv_region <| pN 1 [5] [(5, (.slice none (length ([] : List Int)) 0))] ?_
 refine gv_nil <| gv_seq <| gv_region <| pN 1 [6] [(6, (.int .i64 0))] ?_
 refine gv_nil <| gv_seq <| gv_seq <| gv_region <| pN 1 [7] [(7, (.int .i64 0))] ?_
 refine gv_nil <| bindE h0 ?_; clear h0; intro j1 h1 h0
 refine gv_cut_code (J := fun a w2 => ∃ (a5_0j : Option Addr) (c5_0j : Nat), Below w0.heap.size w0 w2 ∧ w0.heap.size ≤ w2.heap.size ∧ Gv.Own (iE .i64) 3 w2 (fun _ => False) a5_0j c5_0j j1 ∧ (∀ g, blk a5_0j = some g → w0.heap.size ≤ g) ∧ a.defers = [] ∧ a.tmps.size = 53 ∧ Ok [(5, (.slice a5_0j (length j1) c5_0j))] a.tmps) ?_ ?_
 ·skip
  refine gv_block <| gv_loop (A := fun (s3 : ((List Int) × Int × Int)) a w4 => ∃ (a5_0j : Option Addr) (c5_0j : Nat), Below w0.heap.size w0 w4 ∧ w0.heap.size ≤ w4.heap.size ∧ Gv.Own (iE .i64) 3 w4 (fun _ => False) a5_0j c5_0j s3.1 ∧ (∀ g, blk a5_0j = some g → w0.heap.size ≤ g) ∧ a.defers = [] ∧ a.tmps.size = 53 ∧ Ok [(0, (.slice pa0_0 (length a_0) pc0_0)), (1, (.slice pa1_0 (length b_1) pc1_0)), (5, (.slice a5_0j (length s3.1) c5_0j)), (6, (.int .i64 s3.2.1)), (7, (.int .i64 s3.2.2))] a.tmps) h1 ?_ ?_
  ·intro a hd hs hok
   exact ⟨none, 0, hB0, nrf, (Gv.Own.nil (iE .i64) 3 w0 (fun _ => False)), (fun _ h => by cases h), hd, hs, okp [0, 1, 5, 6, 7] hok⟩
  ·rintro s3 r2 h2 hR2 a w4 ⟨a7, c8, hB5, hz6, ho9, hl10, hd, hs, hok⟩
   refine gv_in ?_ hd hs hok
   clear hd hs hok
   refine gv_seq <| gv_seq <| gv_region <| gv_cut_ops (J := fun a w11 => w4 = w11 ∧ a.defers = [] ∧ a.tmps.size = 53 ∧ Ok [(0, (.slice pa0_0 (length a_0) pc0_0)), (1, (.slice pa1_0 (length b_1) pc1_0)), (5, (.slice a7 (length s3.1) c8)), (6, (.int .i64 s3.2.1)), (7, (.int .i64 s3.2.2)), (21, (.bool ((decide (s3.2.2 < ((length a_0 : Nat) : Int))) || ((decide (s3.2.2 < ((length b_1 : Nat) : Int))) || (decide (s3.2.1 > 0))))))] a.tmps) ?_ ?_
   ·skip
    refine pN 5 [8, 9, 10, 11, 12] [(12, (.bool (decide (s3.2.2 < ((length a_0 : Nat) : Int)))))] ?_
    refine gv_split (s := 12) (g := (decide (s3.2.2 < ((length a_0 : Nat) : Int)))) kr (fun hc12 => ?_) (fun hc12 => ?_)
    ·skip
     refine pN 9 [13, 14, 15, 16, 17, 18, 19, 20, 21] [(21, (.bool true))] ?_
     refine gv_nil <| gv_sub [0, 1, 5, 6, 7, 21] (σ' := [(0, (.slice pa0_0 (length a_0) pc0_0)), (1, (.slice pa1_0 (length b_1) pc1_0)), (5, (.slice a7 (length s3.1) c8)), (6, (.int .i64 s3.2.1)), (7, (.int .i64 s3.2.2)), (21, (.bool true))]) kr ?_
     refine gv_goal fun a hd hs hok => ⟨rfl, hd, hs, ?_⟩
     obtain ⟨q0, q1, q5, q6, q7, q21, _⟩ := hok
     exact ⟨q0, q1, q5, q6, q7, (by rw [hc12]; exact q21), trivial⟩
    ·skip
     refine pN 6 [13, 14, 15, 16, 17, 18] [(18, (.bool (decide (s3.2.2 < ((length b_1 : Nat) : Int)))))] ?_
     refine gv_split (s := 18) (g := (decide (s3.2.2 < ((length b_1 : Nat) : Int)))) kr (fun hc13 => ?_) (fun hc13 => ?_)
     ·skip
      refine pN 3 [19, 20, 21] [(21, (.bool true))] ?_
      refine gv_nil <| gv_sub [0, 1, 5, 6, 7, 21] (σ' := [(0, (.slice pa0_0 (length a_0) pc0_0)), (1, (.slice pa1_0 (length b_1) pc1_0)), (5, (.slice a7 (length s3.1) c8)), (6, (.int .i64 s3.2.1)), (7, (.int .i64 s3.2.2)), (21, (.bool true))]) kr ?_
      refine gv_goal fun a hd hs hok => ⟨rfl, hd, hs, ?_⟩
      obtain ⟨q0, q1, q5, q6, q7, q21, _⟩ := hok
      exact ⟨q0, q1, q5, q6, q7, (by rw [hc12, hc13]; exact q21), trivial⟩
     ·skip
      refine pN 3 [19, 20, 21] [(21, (.bool (decide (s3.2.1 > 0))))] ?_
      refine gv_nil <| gv_sub [0, 1, 5, 6, 7, 21] (σ' := [(0, (.slice pa0_0 (length a_0) pc0_0)), (1, (.slice pa1_0 (length b_1) pc1_0)), (5, (.slice a7 (length s3.1) c8)), (6, (.int .i64 s3.2.1)), (7, (.int .i64 s3.2.2)), (21, (.bool (decide (s3.2.1 > 0))))]) kr ?_
      refine gv_goal fun a hd hs hok => ⟨rfl, hd, hs, ?_⟩
      obtain ⟨q0, q1, q5, q6, q7, q21, _⟩ := hok
      exact ⟨q0, q1, q5, q6, q7, (by rw [hc12, hc13]; exact q21), trivial⟩
   ·rintro a w11 ⟨e, hd, hs, hok⟩; subst e
    refine gv_in ?_ hd hs hok
    clear hd hs hok
    refine gv_cond (b := ((decide (s3.2.2 < ((length a_0 : Nat) : Int))) || ((decide (s3.2.2 < ((length b_1 : Nat) : Int))) || (decide (s3.2.1 > 0))))) kr (fun hc14 => ?_) (fun hc14 => ?_)
    ·replace h2 := ite_t hc14 h2
     refine gv_skip <| gv_seq <| gv_block <| gv_seq <| gv_seq <| gv_region <| pN 4 [24, 25, 26, 27] [(27, (.bool (decide (s3.2.2 < ((length a_0 : Nat) : Int)))))] ?_
     refine gv_nil <| bindE h2 ?_; clear h2; intro j15 h3 h2
     refine gv_cut_code (J := fun a w16 => Below w0.heap.size w0 w16 ∧ w4.heap.size ≤ w16.heap.size ∧ Gv.Own (iE .i64) 3 w16 (fun _ => False) a7 c8 s3.1 ∧ a.defers = [] ∧ a.tmps.size = 53 ∧ Ok [(0, (.slice pa0_0 (length a_0) pc0_0)), (1, (.slice pa1_0 (length b_1) pc1_0)), (5, (.slice a7 (length s3.1) c8)), (6, (.int .i64 j15)), (7, (.int .i64 s3.2.2))] a.tmps) ?_ ?_
     ·skip
      refine gv_cond (b := (decide (s3.2.2 < ((length a_0 : Nat) : Int)))) kr (fun hc17 => ?_) (fun hc17 => ?_)
      ·replace h3 := ite_t hc17 h3
       refine gv_region <| pN 3 [28, 29, 30] [(28, (.int .i64 s3.2.1)), (29, (.slice pa0_0 (length a_0) pc0_0)), (30, (.int .i64 s3.2.2))] ?_
       refine bindE h3 ?_; clear h3; intro x18 hx19 h3
       refine gv_idxaddr (t := 55) (e := 3) (a := pa0_0) (len := length a_0) (cap := pc0_0) (kk := .i64) (i := s3.2.2) (sz := 1) [] (fun e => by cases e) rfl rfl rfl kr kr Tryz.underlying55 kr ((hpa0_0.below hB5 hX0).has hx19) (idx_spec hx19).1 (idx_spec hx19).2.1 rfl ?_
       refine gv_load (t := 3) (A := (elemAddr pa0_0 ((s3.2.2 : Int).toNat * 1))) (.int .i64 x18) [] (fun e => by cases e) rfl rfl rfl kr kr kr (inw0 ((hpa0_0.below hB5 hX0).cell hx19)) rfl ?_
       refine pN 2 [6, 33] [(6, (.int .i64 (IntKind.i64.wrap (s3.2.1 + x18))))] ?_
       refine gv_nil ?_
       have e := sj h3; subst e
       refine gv_goal fun a hd hs hok => ?_
       exact ⟨hB5, nrf, ho9, hd, hs, okp [0, 1, 5, 6, 7] hok⟩
      ·replace h3 := ite_f hc17 h3
       refine gv_skip ?_
       have e := sj h3; subst e
       refine gv_goal fun a hd hs hok => ?_
       exact ⟨hB5, nrf, ho9, hd, hs, okp [0, 1, 5, 6, 7] hok⟩
     ·rintro a w16 ⟨hB20, hz21, hk22, hd, hs, hok⟩
      refine gv_in ?_ hd hs hok
      clear hd hs hok
      have hz23 := (nt hz6 hz21)
      clear hz21 hc14 ho9 hz6 hB5
      refine gv_seq <| gv_seq <| gv_region <| pN 4 [34, 35, 36, 37] [(37, (.bool (decide (s3.2.2 < ((length b_1 : Nat) : Int)))))] ?_
      refine gv_nil <| bindE h2 ?_; clear h2; intro j24 h3 h2
      refine gv_cut_code (J := fun a w25 => Below w0.heap.size w0 w25 ∧ w16.heap.size ≤ w25.heap.size ∧ Gv.Own (iE .i64) 3 w25 (fun _ => False) a7 c8 s3.1 ∧ a.defers = [] ∧ a.tmps.size = 53 ∧ Ok [(0, (.slice pa0_0 (length a_0) pc0_0)), (1, (.slice pa1_0 (length b_1) pc1_0)), (5, (.slice a7 (length s3.1) c8)), (6, (.int .i64 j24)), (7, (.int .i64 s3.2.2))] a.tmps) ?_ ?_
      ·skip
       refine gv_cond (b := (decide (s3.2.2 < ((length b_1 : Nat) : Int)))) kr (fun hc26 => ?_) (fun hc26 => ?_)
       ·replace h3 := ite_t hc26 h3
        refine gv_region <| pN 3 [38, 39, 40] [(38, (.int .i64 j15)), (39, (.slice pa1_0 (length b_1) pc1_0)), (40, (.int .i64 s3.2.2))] ?_
        refine bindE h3 ?_; clear h3; intro x27 hx28 h3
        refine gv_idxaddr (t := 55) (e := 3) (a := pa1_0) (len := length b_1) (cap := pc1_0) (kk := .i64) (i := s3.2.2) (sz := 1) [] (fun e => by cases e) rfl rfl rfl kr kr Tryz.underlying55 kr ((hpa1_0.below hB20 hX0).has hx28) (idx_spec hx28).1 (idx_spec hx28).2.1 rfl ?_
        refine gv_load (t := 3) (A := (elemAddr pa1_0 ((s3.2.2 : Int).toNat * 1))) (.int .i64 x27) [] (fun e => by cases e) rfl rfl rfl kr kr kr (inw0 ((hpa1_0.below hB20 hX0).cell hx28)) rfl ?_
        refine pN 2 [6, 43] [(6, (.int .i64 (IntKind.i64.wrap (j15 + x27))))] ?_
        refine gv_nil ?_
        have e := sj h3; subst e
        refine gv_goal fun a hd hs hok => ?_
        exact ⟨hB20, nrf, hk22, hd, hs, okp [0, 1, 5, 6, 7] hok⟩
       ·replace h3 := ite_f hc26 h3
        refine gv_skip ?_
        have e := sj h3; subst e
        refine gv_goal fun a hd hs hok => ?_
        exact ⟨hB20, nrf, hk22, hd, hs, okp [0, 1, 5, 6, 7] hok⟩
      ·rintro a w25 ⟨hB29, hz30, hk31, hd, hs, hok⟩
       refine gv_in ?_ hd hs hok
       clear hd hs hok
       have hz32 := (nt hz23 hz30)
       clear hz30 hz23 hk22 hB20
       refine gv_seq <| gv_region <| pN 3 [44, 45, 46] [(44, (.slice a7 (length s3.1) c8)), (46, (.int .i64 ((j24).tmod 65536)))] ?_
       refine gv_new0 (fun b => .slice (some ⟨b, 0, none⟩) 1 1) #[(.int .i64 ((j24).tmod 65536))] 3 kr kr ?_
       intro b33 w34 hg35 hb36 hbe37 hz38
       have ho39 : Gv.Own (iE .i64) 3 w34 (fun _ => False) (some ⟨b33, 0, none⟩) 1 ([((j24).tmod 65536)] : List Int) := Box.ownE hb36 ⟨[(.int .i64 ((j24).tmod 65536))], [], rfl, rfl, rfl⟩ (show 1 ≤ maxLen by decide) (fun h => h)
       have hl40 : ∀ g, blk (some ⟨b33, 0, none⟩) = some g → w0.heap.size ≤ g := loo hbe37 hB29.size
       refine bindE h2 ?_; clear h2; intro l44 hx45 h2
       have hk52 := hk31.grown hg35 (fun _ h => h.elim) nb
       refine gv_append (iE .i64) (t := 55) (ty := 55) (e := 3) (a := a7) (ax := (some ⟨b33, 0, none⟩)) (cap := c8) (cx := 1) (xs := s3.1) (ys := ([((j24).tmod 65536)] : List Int)) l44 (X := (fun _ => False)) (Y := (fun k => blk (some ⟨b33, 0, none⟩) = some k)) (by decide) rfl rfl kr kr Tryz.underlying55 info3 hk52 (ho39.rd (Y := fun k => blk (some ⟨b33, 0, none⟩) = some k) (fun _ h => h.elim) (fun g e => e)) hx45 (.inr fun _ _ _ _ _ h => h) (fun _ h => h.elim) ?_
       intro a46 c47 w48 hg49 ho50 hk51
       refine ⟨(fun e => by cases e), ?_⟩
       have hB54 := bg hB29 hg35 nb
       have hl53 : ∀ g, blk a46 = some g → w0.heap.size ≤ g := blk_step hk51 hl10 hB54.size
       have ap56 : ∀ g, blk a7 = some g → ¬ (fun k => blk (some ⟨b33, 0, none⟩) = some k) g := fun g e hx => nl ((lowo hbe37) _ hx) ((fun k (hk : blk a7 = some k) => hk31.lt k hk) g e)
       have ap55 : ∀ g, blk a46 = some g → ¬ (fun k => blk (some ⟨b33, 0, none⟩) = some k) g := blk_neX hk51 ap56 (fun k (hk : blk (some ⟨b33, 0, none⟩) = some k) => ho39.lt k hk)
       have ap58 : ∀ g, blk (some ⟨b33, 0, none⟩) = some g → ¬ (fun k => blk a7 = some k) g := fun g e hx => nl ((lowo hbe37) g e) ((fun k (hk : blk a7 = some k) => hk31.lt k hk) _ hx)
       have ap57 : ∀ g, blk (some ⟨b33, 0, none⟩) = some g → ¬ (fun k => blk a46 = some k) g := fun g e h => blk_rev hk51 (fun h => ((ap58) g e) h) (ho39.lt g e) h
       refine pN 1 [5] [(5, (.slice a46 (length l44) c47))] ?_
       refine gv_nil <| gv_region <| pN 3 [6, 49, 50] [(6, (.int .i64 (IntKind.i64.wrap ((j24).tdiv 65536))))] ?_
       refine gv_nil <| gv_blk <| gv_region <| pN 3 [7, 22, 23] [(7, (.int .i64 (IntKind.i64.wrap (s3.2.2 + 1))))] ?_
       refine gv_nil ?_
       have e := sj h2; subst e
       refine gv_goal fun a hd hs hok => ?_
       have hB59 := bg hB54 hg49 hl10
       have hz60 := (nt (nt hz32 hg35.size) hg49.size)
       exact ⟨(l44, (IntKind.i64.wrap ((j24).tdiv 65536)), (IntKind.i64.wrap (s3.2.2 + 1))), rfl, a46, c47, hB59, hz60, ho50, hl53, hd, hs, okp [0, 1, 5, 6, 7] hok⟩
    ·replace h2 := ite_f hc14 h2
     refine gv_cexit <| gv_exit rfl ?_
     have e := sj h2; subst e
     replace h1 := congrArg some (hR2 _ rfl)
     have e := sj h1; subst e
     refine gv_goal fun a hd hs hok => ?_
     have hz61 := hz6
     exact ⟨a7, c8, hB5, hz61, ho9, hl10, hd, hs, okp [5] hok⟩
 ·rintro a w2 ⟨a64, c65, hB62, hz63, ho66, hl67, hd, hs, hok⟩
  refine gv_in ?_ hd hs hok
  clear hd hs hok
  refine gv_seq <| gv_region <| pN 1 [51] [(51, (.slice a64 (length j1) c65))] ?_
  refine bindE h0 ?_; clear h0; intro r68 hr69 h0
  refine gv_call0 kr rfl kr enters50 (ref3_trim_ok fuel a64 c65 j1 w2 (fun k => (fun k => blk a64 = some k) k) (fun k hk => (fun k (hk : blk a64 = some k) => ho66.lt k hk) k hk) ((ho66.rd (Y := fun k => blk a64 = some k) (fun _ h => h.elim) (fun g e => e)).wide (fun k hk => hk)) r68 hr69) ?_
  rintro v72 w70 ⟨hg71, a73, c74, X76, rfl, ho75, hx77⟩
  have hx78 : ∀ k, X76 k → k < w70.heap.size := fun k hk => (hx77 k hk).1
  have hx79 : ∀ k, X76 k → X0 k ∨ w0.heap.size ≤ k := fun k hk => (hx77 k hk).2.elim (fun h => (fun k (hk : blk a64 = some k) => Or.inr (hl67 k hk)) k h) (fun h => .inr (Nat.le_trans hB62.size h))
  refine pN 1 [4] [(4, (.slice a73 (length r68) c74))] ?_
  refine gv_nil <| gv_cret ?_
  have e := sj h0; subst e
  refine gv_ret (gv_done [(.slice a73 (length r68) c74)] rfl ⟨kr, trivial⟩ ?_)
  have hB80 := bg hB62 hg71 nb
  exact ⟨grown_of_below hB80, a73, c74, X76, rfl, ho75, (fun k hk => ⟨hx78 k hk, hx79 k hk⟩)⟩

theorem ref3_Compare_ok (fuel : Nat) (pa0_0 : Option Addr) (pc0_0 : Nat) (a_0 : (List Int)) (pa1_0 : Option Addr) (pc1_0 : Nat) (b_1 : (List Int)) (w0 : World) (X0 : Nat → Prop) (hX0 : ∀ k, X0 k → k < w0.heap.size) (hpa0_0 : Rd (iE .i64) w0 X0 pa0_0 pc0_0 a_0) (hpa1_0 : Rd (iE .i64) w0 X0 pa1_0 pc1_0 b_1) (r0 : Int) (h0 : ref3_Compare fuel a_0 b_1 = some r0) :
    Calls Tryz.prog 47 ([(.slice pa0_0 (length a_0) pc0_0), (.slice pa1_0 (length b_1) pc1_0)] : List Value).toArray w0 (Ret fun v w' => w0.grownBy w' none ∧ v = tup [(.int .i64 r0)]) := by
 have hB0 : Below w0.heap.size w0 w0 := Below.refl _ _
 unfold ref3_Compare at h0
 refine calls_run Tryz.func47 rfl Tryz.ntmps47 kr ?_
 refine gv_sub [0, 1] (σ' := [(0, (.slice pa0_0 (length a_0) pc0_0)), (1, (.slice pa1_0 (length b_1) pc1_0))]) kr ?_
 refine gv_seq <| gv_region <| pN 1 [4] [] ?_
 refine gv_nil <| gv_seq <| gv_seq <| gv_region <| pN 5 [6, 7, 8, 9, 10] [(10, (.bool (((length a_0 : Nat) : Int) != ((length b_1 : Nat) : Int))))] ?_
 refine gv_nil <| gv_cond (b := (((length a_0 : Nat) : Int) != ((length b_1 : Nat) : Int))) kr (fun hc1 => ?_) (fun hc1 => ?_)
 ·replace h0 := ite_t hc1 h0
  refine gv_seq <| gv_seq <| gv_region <| pN 5 [11, 12, 13, 14, 15] [(15, (.bool (decide (((length a_0 : Nat) : Int) < ((length b_1 : Nat) : Int)))))] ?_
  refine gv_nil <| gv_cond (b := (decide (((length a_0 : Nat) : Int) < ((length b_1 : Nat) : Int)))) kr (fun hc2 => ?_) (fun hc2 => ?_)
  ·replace h0 := ite_t hc2 h0
   refine gv_seq <| gv_region <| pN 1 [4] [(4, (.int .i64 (-1)))] ?_
   refine gv_nil <| gv_cret ?_
   have e := sj h0; subst e
   refine gv_ret (gv_done [(.int .i64 (-1))] rfl ⟨kr, trivial⟩ ?_)
   exact ⟨grown_of_below hB0, rfl⟩
  ·replace h0 := ite_f hc2 h0
   refine gv_skip <| gv_seq <| gv_region <| pN 1 [4] [(4, (.int .i64 1))] ?_
   refine gv_nil <| gv_cret ?_
   have e := sj h0; subst e
   refine gv_ret (gv_done [(.int .i64 1)] rfl ⟨kr, trivial⟩ ?_)
   exact ⟨grown_of_below hB0, rfl⟩
 ·replace h0 := ite_f hc1 h0
  refine gv_skip <| gv_seq <| gv_seq <| gv_region <| pN 4 [5, 16, 17, 18] [(5, (.int .i64 (IntKind.i64.wrap (((length a_0 : Nat) : Int) - 1))))] ?_
  refine bindE h0 ?_; clear h0; intro n3 hn4 h0
  refine gv_name (s := 5) (v := (.int .i64 (IntKind.i64.wrap (((length a_0 : Nat) : Int) - 1)))) (v' := (.int .i64 n3)) kr (congrArg (Value.int .i64) (sj hn4)) ?_
  refine gv_nil <| bindE h0 ?_; clear h0; intro j5 h1 h0
  refine gv_cut_code (J := fun a w7 => ∃ s6 : Unit, j5 = .inl s6 ∧ Below w0.heap.size w0 w7 ∧ w0.heap.size ≤ w7.heap.size ∧ a.defers = [] ∧ a.tmps.size = 41 ∧ Ok [] a.tmps) ?_ ?_
  ·skip
   refine gv_block <| gv_loop (A := fun (s8 : Int) a w9 => Below w0.heap.size w0 w9 ∧ w0.heap.size ≤ w9.heap.size ∧ a.defers = [] ∧ a.tmps.size = 41 ∧ Ok [(0, (.slice pa0_0 (length a_0) pc0_0)), (1, (.slice pa1_0 (length b_1) pc1_0)), (5, (.int .i64 s8))] a.tmps) h1 ?_ ?_
   ·intro a hd hs hok
    exact ⟨hB0, nrf, hd, hs, okp [0, 1, 5] hok⟩
   ·rintro s8 r2 h2 hR2 a w9 ⟨hB10, hz11, hd, hs, hok⟩
    refine gv_in ?_ hd hs hok
    clear hd hs hok
    refine gv_seq <| gv_seq <| gv_region <| pN 2 [19, 20] [(20, (.bool (decide (s8 ≥ 0))))] ?_
    refine gv_nil <| gv_cond (b := (decide (s8 ≥ 0))) kr (fun hc12 => ?_) (fun hc12 => ?_)
    ·replace h2 := ite_t hc12 h2
     refine gv_skip <| gv_seq <| gv_block <| gv_seq <| gv_seq <| gv_drawA kr ?_
     intro w13 hg14
     refine gv_pre [0, 1, 2, 4, 5, 6] (bA 9 [0, 1, 2, 4, 5, 6]) 3 kr kr ?_
     refine pN 2 [23, 24] [(23, (.slice pa0_0 (length a_0) pc0_0)), (24, (.int .i64 s8))] ?_
     refine bindE h2 ?_; clear h2; intro x15 hx16 h2
     have hB17 := bg hB10 hg14 nb
     refine gv_idxaddr (t := 55) (e := 3) (a := pa0_0) (len := length a_0) (cap := pc0_0) (kk := .i64) (i := s8) (sz := 1) [] (fun e => by cases e) rfl rfl rfl kr kr Tryz.underlying55 kr ((hpa0_0.below hB17 hX0).has hx16) (idx_spec hx16).1 (idx_spec hx16).2.1 rfl ?_
     refine pN 2 [27, 28] [(27, (.slice pa1_0 (length b_1) pc1_0)), (28, (.int .i64 s8))] ?_
     refine bindE h2 ?_; clear h2; intro x18 hx19 h2
     refine gv_idxaddr (t := 55) (e := 3) (a := pa1_0) (len := length b_1) (cap := pc1_0) (kk := .i64) (i := s8) (sz := 1) [] (fun e => by cases e) rfl rfl rfl kr kr Tryz.underlying55 kr ((hpa1_0.below hB17 hX0).has hx19) (idx_spec hx19).1 (idx_spec hx19).2.1 rfl ?_
     refine gv_nil <| gv_goA ?_
     refine gv_stage (Cls w13 []) [3, 7] [(3, some true), (7, some true)] (bA 9 [0, 1, 2, 3, 4, 5, 6, 7]) 1 kr kr (Cls.refl _ _) ?_
     have hC20 := Cls.refl w13 []
     refine gv_load (t := 3) (A := (elemAddr pa0_0 ((s8 : Int).toNat * 1))) (.int .i64 x15) [] (fun e => by cases e) rfl rfl rfl kr kr kr (inw1 fun w' hC' => ((hC'.rd (hpa0_0.below hB17 hX0) (fun k (hk : X0 k) => ltl (hX0 k hk) hB17.size) nmx_nil).cell hx16)) rfl ?_
     refine gv_load (t := 3) (A := (elemAddr pa1_0 ((s8 : Int).toNat * 1))) (.int .i64 x18) [] (fun e => by cases e) rfl rfl rfl kr kr kr (inw1 fun w' hC' => ((hC'.rd (hpa1_0.below hB17 hX0) (fun k (hk : X0 k) => ltl (hX0 k hk) hB17.size) nmx_nil).cell hx19)) rfl ?_
     refine gv_nil <| gv_goA ?_
     refine gv_pre [8] (bA 9 [0, 1, 2, 3, 4, 5, 6, 7, 8]) 0 kr kr ?_
     refine pN 1 [31] [(31, (.bool (decide (x15 < x18))))] ?_
     refine gv_nil <| gv_goA ?_
     refine gv_stageE kr ?_
     refine gv_cond (b := (decide (x15 < x18))) kr (fun hc21 => ?_) (fun hc21 => ?_)
     ·replace h2 := ite_t hc21 h2
      refine gv_seq <| gv_region <| pN 1 [4] [(4, (.int .i64 (-1)))] ?_
      refine gv_nil <| gv_cret ?_
      have e := sj h2; subst e
      replace h1 := congrArg some (hR2 _ rfl)
      have e := sj h1; subst e
      replace h0 := cont_inr h0
      have e := sj h0; subst e
      refine gv_ret (gv_done [(.int .i64 (-1))] rfl ⟨kr, trivial⟩ ?_)
      exact ⟨grown_of_below hB17, rfl⟩
     ·replace h2 := ite_f hc21 h2
      refine gv_skip <| gv_seq <| gv_drawA kr ?_
      intro w22 hg23
      refine gv_pre [0, 1, 2, 4, 5, 6] (bA 9 [0, 1, 2, 4, 5, 6]) 3 kr kr ?_
      refine pN 2 [32, 33] [(32, (.slice pa0_0 (length a_0) pc0_0)), (33, (.int .i64 s8))] ?_
      refine bindE h2 ?_; clear h2; intro x24 hx25 h2
      have hB26 := bg hB17 hg23 nb
      refine gv_idxaddr (t := 55) (e := 3) (a := pa0_0) (len := length a_0) (cap := pc0_0) (kk := .i64) (i := s8) (sz := 1) [] (fun e => by cases e) rfl rfl rfl kr kr Tryz.underlying55 kr ((hpa0_0.below hB26 hX0).has hx25) (idx_spec hx25).1 (idx_spec hx25).2.1 rfl ?_
      refine pN 2 [36, 37] [(36, (.slice pa1_0 (length b_1) pc1_0)), (37, (.int .i64 s8))] ?_
      refine bindE h2 ?_; clear h2; intro x27 hx28 h2
      refine gv_idxaddr (t := 55) (e := 3) (a := pa1_0) (len := length b_1) (cap := pc1_0) (kk := .i64) (i := s8) (sz := 1) [] (fun e => by cases e) rfl rfl rfl kr kr Tryz.underlying55 kr ((hpa1_0.below hB26 hX0).has hx28) (idx_spec hx28).1 (idx_spec hx28).2.1 rfl ?_
      refine gv_nil <| gv_goA ?_
      refine gv_stage (Cls w22 []) [3, 7] [(3, some true), (7, some true)] (bA 9 [0, 1, 2, 3, 4, 5, 6, 7]) 1 kr kr (Cls.refl _ _) ?_
      have hC29 := Cls.refl w22 []
      refine gv_load (t := 3) (A := (elemAddr pa0_0 ((s8 : Int).toNat * 1))) (.int .i64 x24) [] (fun e => by cases e) rfl rfl rfl kr kr kr (inw1 fun w' hC' => ((hC'.rd (hpa0_0.below hB26 hX0) (fun k (hk : X0 k) => ltl (hX0 k hk) hB26.size) nmx_nil).cell hx25)) rfl ?_
      refine gv_load (t := 3) (A := (elemAddr pa1_0 ((s8 : Int).toNat * 1))) (.int .i64 x27) [] (fun e => by cases e) rfl rfl rfl kr kr kr (inw1 fun w' hC' => ((hC'.rd (hpa1_0.below hB26 hX0) (fun k (hk : X0 k) => ltl (hX0 k hk) hB26.size) nmx_nil).cell hx28)) rfl ?_
      refine gv_nil <| gv_goA ?_
      refine gv_pre [8] (bA 9 [0, 1, 2, 3, 4, 5, 6, 7, 8]) 0 kr kr ?_
      refine pN 1 [40] [(40, (.bool (decide (x24 > x27))))] ?_
      refine gv_sub [0, 1, 5, 40] (σ' := [(0, (.slice pa0_0 (length a_0) pc0_0)), (1, (.slice pa1_0 (length b_1) pc1_0)), (5, (.int .i64 s8)), (40, (.bool (decide (x24 > x27))))]) kr ?_
      refine gv_nil <| gv_goA ?_
      refine gv_stageE kr ?_
      refine gv_cond (b := (decide (x24 > x27))) kr (fun hc30 => ?_) (fun hc30 => ?_)
      ·replace h2 := ite_t hc30 h2
       refine gv_seq <| gv_region <| pN 1 [4] [(4, (.int .i64 1))] ?_
       refine gv_nil <| gv_cret ?_
       have e := sj h2; subst e
       replace h1 := congrArg some (hR2 _ rfl)
       have e := sj h1; subst e
       replace h0 := cont_inr h0
       have e := sj h0; subst e
       refine gv_ret (gv_done [(.int .i64 1)] rfl ⟨kr, trivial⟩ ?_)
       exact ⟨grown_of_below hB26, rfl⟩
      ·replace h2 := ite_f hc30 h2
       refine gv_skip <| gv_blk <| gv_region <| pN 3 [5, 21, 22] [(5, (.int .i64 (IntKind.i64.wrap (s8 - 1))))] ?_
       refine gv_nil ?_
       have e := sj h2; subst e
       refine gv_goal fun a hd hs hok => ?_
       have hz31 := (nt (nt hz11 hg14.size) hg23.size)
       exact ⟨(IntKind.i64.wrap (s8 - 1)), rfl, hB26, hz31, hd, hs, okp [0, 1, 5] hok⟩
    ·replace h2 := ite_f hc12 h2
     refine gv_cexit <| gv_exit rfl ?_
     have e := sj h2; subst e
     replace h1 := congrArg some (hR2 _ rfl)
     have e := sj h1; subst e
     refine gv_goal fun a hd hs hok => ?_
     have hz32 := hz11
     exact ⟨(), rfl, hB10, hz32, hd, hs, okp [] hok⟩
  ·rintro a w7 ⟨s6, e, hB33, hz34, hd, hs, hok⟩
   subst e
   refine gv_in ?_ hd hs hok
   clear hd hs hok
   replace h0 := cont_inl h0
   refine gv_seq <| gv_region <| pN 1 [4] [(4, (.int .i64 0))] ?_
   refine gv_nil <| gv_cret ?_
   have e := sj h0; subst e
   refine gv_ret (gv_done [(.int .i64 0)] rfl ⟨kr, trivial⟩ ?_)
   exact ⟨grown_of_below hB33, rfl⟩

theorem ref3_Minus_ok (fuel : Nat) (pa0_0 : Option Addr) (pc0_0 : Nat) (a_0 : (List Int)) (pa1_0 : Option Addr) (pc1_0 : Nat) (b_1 : (List Int)) (w0 : World) (X0 : Nat → Prop) (hX0 : ∀ k, X0 k → k < w0.heap.size) (hpa0_0 : Rd (iE .i64) w0 X0 pa0_0 pc0_0 a_0) (hpa1_0 : Rd (iE .i64) w0 X0 pa1_0 pc1_0 b_1) (r0 : (List Int)) (h0 : ref3_Minus fuel a_0 b_1 = some r0) :
    Calls Tryz.prog 48 ([(.slice pa0_0 (length a_0) pc0_0), (.slice pa1_0 (length b_1) pc1_0)] : List Value).toArray w0 (Ret fun v w' => w0.grownBy w' none ∧ ∃ (a0_0r : Option Addr) (c0_0r : Nat), ∃ (X0_0r : Nat → Prop), v = tup [(.slice a0_0r (length r0) c0_0r)] ∧ Rd (iE .i64) w' X0_0r a0_0r c0_0r r0 ∧ (∀ k, X0_0r k → k < w'.heap.size ∧ (X0 k ∨ w0.heap.size ≤ k))) := by
 have hB0 : Below w0.heap.size w0 w0 := Below.refl _ _
 unfold ref3_Minus at h0
 refine calls_run Tryz.func48 rfl Tryz.ntmps48 kr ?_
 refine gv_sub [0, 1] (σ' := [(0, (.slice pa0_0 (length a_0) pc0_0)), (1, (.slice pa1_0 (length b_1) pc1_0))]) kr ?_
 refine gv_seq <| gv_region <| pN 1 [4] [] ?_
 refine gv_nil <| gv_seq <| gv_region <| pN 1 [5] [(5, (.slice none (length ([] : List Int)) 0))] ?_
 refine gv_nil <| gv_seq <| gv_region <| pN 1 [6] [(6, (.int .i64 0))] ?_
 refine gv_nil <| gv_seq <| gv_seq <| gv_region <| pN 1 [7] [(7, (.int .i64 0))] ?_
 refine gv_nil <| bindE h0 ?_; clear h0; intro j1 h1 h0
 refine gv_cut_code (J := fun a w2 => ∃ (a5_0j : Option Addr) (c5_0j : Nat), Below w0.heap.size w0 w2 ∧ w0.heap.size ≤ w2.heap.size ∧ Gv.Own (iE .i64) 3 w2 (fun _ => False) a5_0j c5_0j j1 ∧ (∀ g, blk a5_0j = some g → w0.heap.size ≤ g) ∧ a.defers = [] ∧ a.tmps.size = 41 ∧ Ok [(5, (.slice a5_0j (length j1) c5_0j))] a.tmps) ?_ ?_
 ·skip
  refine gv_block <| gv_loop (A := fun (s3 : ((List Int) × Int × Int)) a w4 => ∃ (a5_0j : Option Addr) (c5_0j : Nat), Below w0.heap.size w0 w4 ∧ w0.heap.size ≤ w4.heap.size ∧ Gv.Own (iE .i64) 3 w4 (fun _ => False) a5_0j c5_0j s3.1 ∧ (∀ g, blk a5_0j = some g → w0.heap.size ≤ g) ∧ a.defers = [] ∧ a.tmps.size = 41 ∧ Ok [(0, (.slice pa0_0 (length a_0) pc0_0)), (1, (.slice pa1_0 (length b_1) pc1_0)), (5, (.slice a5_0j (length s3.1) c5_0j)), (6, (.int .i64 s3.2.1)), (7, (.int .i64 s3.2.2))] a.tmps) h1 ?_ ?_
  ·intro a hd hs hok
   exact ⟨none, 0, hB0, nrf, (Gv.Own.nil (iE .i64) 3 w0 (fun _ => False)), (fun _ h => by cases h), hd, hs, okp [0, 1, 5, 6, 7] hok⟩
  ·rintro s3 r2 h2 hR2 a w4 ⟨a7, c8, hB5, hz6, ho9, hl10, hd, hs, hok⟩
   refine gv_in ?_ hd hs hok
   clear hd hs hok
   refine gv_seq <| gv_seq <| gv_region <| pN 4 [9, 10, 11, 12] [(12, (.bool (decide (s3.2.2 < ((length a_0 : Nat) : Int)))))] ?_
   refine gv_nil <| gv_cond (b := (decide (s3.2.2 < ((length a_0 : Nat) : Int)))) kr (fun hc11 => ?_) (fun hc11 => ?_)
   ·replace h2 := ite_t hc11 h2
    refine gv_skip <| gv_seq <| gv_block <| gv_seq <| gv_region <| pN 2 [15, 16] [(15, (.slice pa0_0 (length a_0) pc0_0)), (16, (.int .i64 s3.2.2))] ?_
    refine bindE h2 ?_; clear h2; intro x12 hx13 h2
    refine gv_idxaddr (t := 55) (e := 3) (a := pa0_0) (len := length a_0) (cap := pc0_0) (kk := .i64) (i := s3.2.2) (sz := 1) [] (fun e => by cases e) rfl rfl rfl kr kr Tryz.underlying55 kr ((hpa0_0.below hB5 hX0).has hx13) (idx_spec hx13).1 (idx_spec hx13).2.1 rfl ?_
    refine gv_load (t := 3) (A := (elemAddr pa0_0 ((s3.2.2 : Int).toNat * 1))) (.int .i64 x12) [] (fun e => by cases e) rfl rfl rfl kr kr kr (inw0 ((hpa0_0.below hB5 hX0).cell hx13)) rfl ?_
    refine pN 3 [8, 19, 20] [(8, (.int .i64 (IntKind.i64.wrap (x12 - s3.2.1))))] ?_
    refine gv_nil <| gv_seq <| gv_seq <| gv_region <| pN 4 [21, 22, 23, 24] [(24, (.bool (decide (s3.2.2 < ((length b_1 : Nat) : Int)))))] ?_
    refine gv_nil <| bindE h2 ?_; clear h2; intro j14 h3 h2
    refine gv_cut_code (J := fun a w15 => Below w0.heap.size w0 w15 ∧ w4.heap.size ≤ w15.heap.size ∧ Gv.Own (iE .i64) 3 w15 (fun _ => False) a7 c8 s3.1 ∧ a.defers = [] ∧ a.tmps.size = 41 ∧ Ok [(0, (.slice pa0_0 (length a_0) pc0_0)), (1, (.slice pa1_0 (length b_1) pc1_0)), (5, (.slice a7 (length s3.1) c8)), (7, (.int .i64 s3.2.2)), (8, (.int .i64 j14))] a.tmps) ?_ ?_
    ·skip
     refine gv_cond (b := (decide (s3.2.2 < ((length b_1 : Nat) : Int)))) kr (fun hc16 => ?_) (fun hc16 => ?_)
     ·replace h3 := ite_t hc16 h3
      refine gv_region <| pN 3 [25, 26, 27] [(25, (.int .i64 (IntKind.i64.wrap (x12 - s3.2.1)))), (26, (.slice pa1_0 (length b_1) pc1_0)), (27, (.int .i64 s3.2.2))] ?_
      refine bindE h3 ?_; clear h3; intro x17 hx18 h3
      refine gv_idxaddr (t := 55) (e := 3) (a := pa1_0) (len := length b_1) (cap := pc1_0) (kk := .i64) (i := s3.2.2) (sz := 1) [] (fun e => by cases e) rfl rfl rfl kr kr Tryz.underlying55 kr ((hpa1_0.below hB5 hX0).has hx18) (idx_spec hx18).1 (idx_spec hx18).2.1 rfl ?_
      refine gv_load (t := 3) (A := (elemAddr pa1_0 ((s3.2.2 : Int).toNat * 1))) (.int .i64 x17) [] (fun e => by cases e) rfl rfl rfl kr kr kr (inw0 ((hpa1_0.below hB5 hX0).cell hx18)) rfl ?_
      refine pN 2 [8, 30] [(8, (.int .i64 (IntKind.i64.wrap ((IntKind.i64.wrap (x12 - s3.2.1)) - x17))))] ?_
      refine bindE h3 ?_; clear h3; intro n19 hn20 h3
      refine gv_name (s := 8) (v := (.int .i64 (IntKind.i64.wrap ((IntKind.i64.wrap (x12 - s3.2.1)) - x17)))) (v' := (.int .i64 n19)) kr (congrArg (Value.int .i64) (sj hn20)) ?_
      refine gv_nil ?_
      have e := sj h3; subst e
      refine gv_goal fun a hd hs hok => ?_
      exact ⟨hB5, nrf, ho9, hd, hs, okp [0, 1, 5, 7, 8] hok⟩
     ·replace h3 := ite_f hc16 h3
      refine gv_skip ?_
      have e := sj h3; subst e
      refine gv_goal fun a hd hs hok => ?_
      exact ⟨hB5, nrf, ho9, hd, hs, okp [0, 1, 5, 7, 8] hok⟩
    ·rintro a w15 ⟨hB21, hz22, hk23, hd, hs, hok⟩
     refine gv_in ?_ hd hs hok
     clear hd hs hok
     have hz24 := (nt hz6 hz22)
     clear hz22 hx13 hc11 ho9 hz6 hB5
     refine gv_seq <| gv_region <| pN 1 [6] [(6, (.int .i64 0))] ?_
     refine gv_nil <| gv_seq <| gv_seq <| gv_region <| pN 2 [31, 32] [(32, (.bool (decide (j14 < 0))))] ?_
     refine gv_nil <| bindE h2 ?_; clear h2; intro j25 h3 h2
     refine gv_cut_code (J := fun a w26 => Below w0.heap.size w0 w26 ∧ w15.heap.size ≤ w26.heap.size ∧ Gv.Own (iE .i64) 3 w26 (fun _ => False) a7 c8 s3.1 ∧ a.defers = [] ∧ a.tmps.size = 41 ∧ Ok [(0, (.slice pa0_0 (length a_0) pc0_0)), (1, (.slice pa1_0 (length b_1) pc1_0)), (5, (.slice a7 (length s3.1) c8)), (6, (.int .i64 j25.1)), (7, (.int .i64 s3.2.2)), (8, (.int .i64 j25.2))] a.tmps) ?_ ?_
     ·skip
      refine gv_cond (b := (decide (j14 < 0))) kr (fun hc27 => ?_) (fun hc27 => ?_)
      ·replace h3 := ite_t hc27 h3
       refine gv_seq <| gv_region <| pN 3 [8, 33, 34] [(8, (.int .i64 (IntKind.i64.wrap (j14 + 65536))))] ?_
       refine gv_nil <| gv_region <| pN 1 [6] [(6, (.int .i64 1))] ?_
       refine gv_nil ?_
       have e := sj h3; subst e
       refine gv_goal fun a hd hs hok => ?_
       exact ⟨hB21, nrf, hk23, hd, hs, okp [0, 1, 5, 6, 7, 8] hok⟩
      ·replace h3 := ite_f hc27 h3
       refine gv_skip ?_
       have e := sj h3; subst e
       refine gv_goal fun a hd hs hok => ?_
       exact ⟨hB21, nrf, hk23, hd, hs, okp [0, 1, 5, 6, 7, 8] hok⟩
     ·rintro a w26 ⟨hB28, hz29, hk30, hd, hs, hok⟩
      refine gv_in ?_ hd hs hok
      clear hd hs hok
      have hz31 := (nt hz24 hz29)
      clear hz29 hz24 hk23 hB21
      refine gv_region <| pN 2 [35, 36] [(35, (.slice a7 (length s3.1) c8)), (36, (.int .i64 j25.2))] ?_
      refine gv_new0 (fun b => .slice (some ⟨b, 0, none⟩) 1 1) #[(.int .i64 j25.2)] 3 kr kr ?_
      intro b32 w33 hg34 hb35 hbe36 hz37
      have ho38 : Gv.Own (iE .i64) 3 w33 (fun _ => False) (some ⟨b32, 0, none⟩) 1 ([j25.2] : List Int) := Box.ownE hb35 ⟨[(.int .i64 j25.2)], [], rfl, rfl, rfl⟩ (show 1 ≤ maxLen by decide) (fun h => h)
      have hl39 : ∀ g, blk (some ⟨b32, 0, none⟩) = some g → w0.heap.size ≤ g := loo hbe36 hB28.size
      refine bindE h2 ?_; clear h2; intro l43 hx44 h2
      have hk51 := hk30.grown hg34 (fun _ h => h.elim) nb
      refine gv_append (iE .i64) (t := 55) (ty := 55) (e := 3) (a := a7) (ax := (some ⟨b32, 0, none⟩)) (cap := c8) (cx := 1) (xs := s3.1) (ys := ([j25.2] : List Int)) l43 (X := (fun _ => False)) (Y := (fun k => blk (some ⟨b32, 0, none⟩) = some k)) (by decide) rfl rfl kr kr Tryz.underlying55 info3 hk51 (ho38.rd (Y := fun k => blk (some ⟨b32, 0, none⟩) = some k) (fun _ h => h.elim) (fun g e => e)) hx44 (.inr fun _ _ _ _ _ h => h) (fun _ h => h.elim) ?_
      intro a45 c46 w47 hg48 ho49 hk50
      refine ⟨(fun e => by cases e), ?_⟩
      have hB53 := bg hB28 hg34 nb
      have hl52 : ∀ g, blk a45 = some g → w0.heap.size ≤ g := blk_step hk50 hl10 hB53.size
      have ap55 : ∀ g, blk a7 = some g → ¬ (fun k => blk (some ⟨b32, 0, none⟩) = some k) g := fun g e hx => nl ((lowo hbe36) _ hx) ((fun k (hk : blk a7 = some k) => hk30.lt k hk) g e)
      have ap54 : ∀ g, blk a45 = some g → ¬ (fun k => blk (some ⟨b32, 0, none⟩) = some k) g := blk_neX hk50 ap55 (fun k (hk : blk (some ⟨b32, 0, none⟩) = some k) => ho38.lt k hk)
      have ap57 : ∀ g, blk (some ⟨b32, 0, none⟩) = some g → ¬ (fun k => blk a7 = some k) g := fun g e hx => nl ((lowo hbe36) g e) ((fun k (hk : blk a7 = some k) => hk30.lt k hk) _ hx)
      have ap56 : ∀ g, blk (some ⟨b32, 0, none⟩) = some g → ¬ (fun k => blk a45 = some k) g := fun g e h => blk_rev hk50 (fun h => ((ap57) g e) h) (ho38.lt g e) h
      refine pN 1 [5] [(5, (.slice a45 (length l43) c46))] ?_
      refine gv_nil <| gv_blk <| gv_region <| pN 3 [7, 13, 14] [(7, (.int .i64 (IntKind.i64.wrap (s3.2.2 + 1))))] ?_
      refine gv_nil ?_
      have e := sj h2; subst e
      refine gv_goal fun a hd hs hok => ?_
      have hB58 := bg hB53 hg48 hl10
      have hz59 := (nt (nt hz31 hg34.size) hg48.size)
      exact ⟨(l43, j25.1, (IntKind.i64.wrap (s3.2.2 + 1))), rfl, a45, c46, hB58, hz59, ho49, hl52, hd, hs, okp [0, 1, 5, 6, 7] hok⟩
   ·replace h2 := ite_f hc11 h2
    refine gv_cexit <| gv_exit rfl ?_
    have e := sj h2; subst e
    replace h1 := congrArg some (hR2 _ rfl)
    have e := sj h1; subst e
    refine gv_goal fun a hd hs hok => ?_
    have hz60 := hz6
    exact ⟨a7, c8, hB5, hz60, ho9, hl10, hd, hs, okp [5] hok⟩
 ·rintro a w2 ⟨a63, c64, hB61, hz62, ho65, hl66, hd, hs, hok⟩
  refine gv_in ?_ hd hs hok
  clear hd hs hok
  refine gv_seq <| gv_region <| pN 1 [39] [(39, (.slice a63 (length j1) c64))] ?_
  refine bindE h0 ?_; clear h0; intro r67 hr68 h0
  refine gv_call0 kr rfl kr enters50 (ref3_trim_ok fuel a63 c64 j1 w2 (fun k => (fun k => blk a63 = some k) k) (fun k hk => (fun k (hk : blk a63 = some k) => ho65.lt k hk) k hk) ((ho65.rd (Y := fun k => blk a63 = some k) (fun _ h => h.elim) (fun g e => e)).wide (fun k hk => hk)) r67 hr68) ?_
  rintro v71 w69 ⟨hg70, a72, c73, X75, rfl, ho74, hx76⟩
  have hx77 : ∀ k, X75 k → k < w69.heap.size := fun k hk => (hx76 k hk).1
  have hx78 : ∀ k, X75 k → X0 k ∨ w0.heap.size ≤ k := fun k hk => (hx76 k hk).2.elim (fun h => (fun k (hk : blk a63 = some k) => Or.inr (hl66 k hk)) k h) (fun h => .inr (Nat.le_trans hB61.size h))
  refine pN 1 [4] [(4, (.slice a72 (length r67) c73))] ?_
  refine gv_nil <| gv_cret ?_
  have e := sj h0; subst e
  refine gv_ret (gv_done [(.slice a72 (length r67) c73)] rfl ⟨kr, trivial⟩ ?_)
  have hB79 := bg hB61 hg70 nb
  exact ⟨grown_of_below hB79, a72, c73, X75, rfl, ho74, (fun k hk => ⟨hx77 k hk, hx78 k hk⟩)⟩

theorem ref3_Int_Plus_ok (fuel : Nat) (pa0_0 : Option Addr) (pc0_0 : Nat) (a_0 : (Bool × (List Int))) (pa1_0 : Option Addr) (pc1_0 : Nat) (b_1 : (Bool × (List Int))) (w0 : World) (X0 : Nat → Prop) (hX0 : ∀ k, X0 k → k < w0.heap.size) (hpa0_0 : Rd (iE .i64) w0 X0 pa0_0 pc0_0 a_0.2) (hpa1_0 : Rd (iE .i64) w0 X0 pa1_0 pc1_0 b_1.2) (r0 : (Bool × (List Int))) (h0 : ref3_Int_Plus fuel a_0 b_1 = some r0) :
    Calls Tryz.prog 21 ([(.agg #[(.bool a_0.1), (.slice pa0_0 (length a_0.2) pc0_0)]), (.agg #[(.bool b_1.1), (.slice pa1_0 (length b_1.2) pc1_0)])] : List Value).toArray w0 (Ret fun v w' => w0.grownBy w' none ∧ ∃ (a0_0r : Option Addr) (c0_0r : Nat), ∃ (X0_0r : Nat → Prop), v = tup [(.agg #[(.bool r0.1), (.slice a0_0r (length r0.2) c0_0r)])] ∧ Rd (iE .i64) w' X0_0r a0_0r c0_0r r0.2 ∧ (∀ k, X0_0r k → k < w'.heap.size ∧ (X0 k ∨ w0.heap.size ≤ k))) := by
 have hB0 : Below w0.heap.size w0 w0 := Below.refl _ _
 unfold ref3_Int_Plus at h0
 refine calls_run Tryz.func21 rfl Tryz.ntmps21 kr ?_
 refine gv_sub [0, 1] (σ' := [(0, (.agg #[(.bool a_0.1), (.slice pa0_0 (length a_0.2) pc0_0)])), (1, (.agg #[(.bool b_1.1), (.slice pa1_0 (length b_1.2) pc1_0)]))]) kr ?_
 refine gv_seq <| gv_region <| gv_new0 (fun b => .pointer (some ⟨b, 0, none⟩)) #[(.bool a_0.1), (.slice pa0_0 (length a_0.2) pc0_0)] 57 kr kr ?_
 intro b1 w2 hg3 hb4 hbe5 hz6
 refine gv_new0 (fun b => .pointer (some ⟨b, 0, none⟩)) #[(.bool b_1.1), (.slice pa1_0 (length b_1.2) pc1_0)] 57 kr kr ?_
 intro b7 w8 hg9 hb10 hbe11 hz12
 refine gv_new0 (fun b => .pointer (some ⟨b, 0, none⟩)) #[(.bool false), (.slice none (length ([] : List Int)) 0)] 57 kr kr ?_
 intro b13 w14 hg15 hb16 hbe17 hz18
 refine gv_nil <| gv_seq <| gv_block <| gv_seq <| gv_region <| pN 1 [6] [(6, (bp b1))] ?_
 have hg19 := (grown_trans hg9 hg15)
 have hk20 := hb4.grown hg19 nb
 refine gv_load (t := 4) (A := ⟨b1, 0, none⟩) (.bool a_0.1) [] (fun e => by cases e) rfl rfl rfl kr kr kr (inw0 (hk20.cell 0 rfl)) rfl ?_
 refine pN 1 [8] [(8, (bp b7))] ?_
 have hk21 := hb10.grown hg15 nb
 refine gv_load (t := 4) (A := ⟨b7, 0, none⟩) (.bool b_1.1) [] (fun e => by cases e) rfl rfl rfl kr kr kr (inw0 (hk21.cell 0 rfl)) rfl ?_
 refine pN 2 [5, 10] [(5, (.bool (a_0.1 == b_1.1)))] ?_
 refine gv_nil <| gv_cond (b := (a_0.1 == b_1.1)) kr (fun hc22 => ?_) (fun hc22 => ?_)
 ·replace h0 := ite_t hc22 h0
  refine gv_seq <| gv_drawA kr ?_
  intro w23 hg24
  refine gv_pre [0, 2, 4] (bA 9 [0, 2, 4]) 6 kr kr ?_
  refine pN 3 [11, 13, 15] [(11, (bp b1)), (13, (.pointer (some ⟨b1, 1, none⟩))), (15, (.pointer (some ⟨b7, 1, none⟩)))] ?_
  refine gv_nil <| gv_goA ?_
  refine gv_stage (Cls w23 []) [1, 3, 5, 6] [(1, some true), (3, some true), (5, some true), (6, some false)] (bA 9 [0, 1, 2, 3, 4, 5, 6]) 2 kr kr (Cls.refl _ _) ?_
  have hC25 := Cls.refl w23 []
  have hk26 := hk20.grown hg24 nb
  refine gv_load (t := 4) (A := ⟨b1, 0, none⟩) (.bool a_0.1) [] (fun e => by cases e) rfl rfl rfl kr kr kr (inw1 fun w' hC' => ((hC'.box hk26 nm_nil).cell 0 rfl)) rfl ?_
  refine gv_load (t := 55) (A := ⟨b1, 1, none⟩) (.slice pa0_0 (length a_0.2) pc0_0) [] (fun e => by cases e) rfl rfl rfl kr kr kr (inw1 fun w' hC' => ((hC'.box hk26 nm_nil).cell 1 rfl)) rfl ?_
  have hk27 := hk21.grown hg24 nb
  refine gv_load (t := 55) (A := ⟨b7, 1, none⟩) (.slice pa1_0 (length b_1.2) pc1_0) [] (fun e => by cases e) rfl rfl rfl kr kr kr (inw1 fun w' hC' => ((hC'.box hk27 nm_nil).cell 1 rfl)) rfl ?_
  refine bindE h0 ?_; clear h0; intro r28 hr29 h0
  have hg30 := (grown_trans (grown_trans hg3 hg19) hg24)
  have hB31 := bg hB0 hg30 nb
  refine gv_call (f := 46) (vs := [(.slice pa0_0 (length a_0.2) pc0_0), (.slice pa1_0 (length b_1.2) pc1_0)]) (cap := []) _ (by decide) rfl rfl rfl kr kr enters46 (ref3_Plus_ok fuel pa0_0 pc0_0 a_0.2 pa1_0 pc1_0 b_1.2 w23 (fun k => X0 k ∨ X0 k) (fun k hk => (hk).elim (fun h => (fun k (hk : X0 k) => ltl (hX0 k hk) hB31.size) k h) (fun h => (fun k (hk : X0 k) => ltl (hX0 k hk) hB31.size) k h)) ((hpa0_0.below hB31 hX0).wide (fun k hk => (.inl hk))) ((hpa1_0.below hB31 hX0).wide (fun k hk => (.inr hk))) r28 hr29) ?_
  rintro v34 w32 ⟨hg33, a35, c36, X38, rfl, ho37, hx39⟩
  refine ⟨(fun _ => hC25.grown hg33 nb), ?_⟩
  have hx40 : ∀ k, X38 k → k < w32.heap.size := fun k hk => (hx39 k hk).1
  have hx41 : ∀ k, X38 k → X0 k ∨ w0.heap.size ≤ k := fun k hk => (hx39 k hk).2.elim (fun h => (h).elim (fun h => (fun k (hk : X0 k) => Or.inl hk) k h) (fun h => (fun k (hk : X0 k) => Or.inl hk) k h)) (fun h => .inr (Nat.le_trans hB31.size h))
  refine gv_nil <| gv_goA ?_
  refine gv_pre [7] (bA 9 [0, 1, 2, 3, 4, 5, 6, 7]) 1 kr kr ?_
  refine pN 1 [18] [(18, (.agg #[(.bool a_0.1), (.slice a35 (length r28) c36)]))] ?_
  refine gv_sub [4, 18] (σ' := [(4, (bp b13)), (18, (.agg #[(.bool a_0.1), (.slice a35 (length r28) c36)]))]) kr ?_
  refine gv_nil <| gv_goA ?_
  refine gv_stage (fun _ => True) [8] [(8, some false)] (bA 9 [0, 1, 2, 3, 4, 5, 6, 7, 8]) 0 kr kr trivial ?_
  have hg46 := (grown_trans hg24 hg33)
  have hk47 := hb16.grown hg46 nb
  refine gv_store (t := 57) (b := b13) (off := 0) (v := (.agg #[(.bool a_0.1), (.slice a35 (length r28) c36)])) (t' := 57) (cs := #[(.bool false), (.slice none (length ([] : List Int)) 0)]) #[(.bool a_0.1), (.slice a35 (length r28) c36)] (by decide) rfl rfl kr kr kr (by intro u hu; simp [Value.cells] at hu; rcases hu with rfl | rfl <;> rfl) (show 0 + 2 ≤ 2 by decide) (by rfl) hk47 ?_
  intro w42 hg43 hb44 hz45
  refine ⟨(fun _ => trivial), ?_⟩
  refine gv_nil <| gv_goA ?_
  refine gv_stageE kr ?_
  refine gv_cret ?_
  have e := sj h0; subst e
  refine gv_ret (gv_done [(.agg #[(.bool a_0.1), (.slice a35 (length r28) c36)])] rfl ⟨⟨⟨b13, 0, none⟩, kr, run_loadVar_row w42 b13 _ 57 _ _ _ hb44 Tryz.underlying57 rfl kr⟩, trivial⟩ ?_)
  have hB48 := bg hB31 hg33 nb
  have hg49 := (grown_trans hg3 hg9)
  have hB50 := bg hB0 hg49 nb
  have hlo51 : w0.heap.size ≤ b13 := lob hbe17 hB50.size
  have hB52 := bg hB48 hg43 (rowlo hlo51)
  have hk53 := hb16.grown hg24 nb
  have ap54 : ¬ X38 b13 := fun h => ((hx39 _ h).2.elim (fun h => (h).elim (fun h => ((fun (hx : X0 b13) => nl hlo51 (hX0 _ hx)))  h) (fun h => ((fun (hx : X0 b13) => nl hlo51 (hX0 _ hx)))  h)) (fun h => nl h (hk53.lt)))
  have hk55 := ho37.grown hg43 hx40 (rowne ap54)
  have hx56 := ltx hx40 hg43.size
  exact ⟨grown_of_below hB52, a35, c36, X38, rfl, hk55, (fun k hk => ⟨hx56 k hk, hx41 k hk⟩)⟩
 ·replace h0 := ite_f hc22 h0
  refine gv_seq <| gv_region <| pN 1 [20] [(20, (.pointer (some ⟨b1, 1, none⟩)))] ?_
  refine gv_load (t := 55) (A := ⟨b1, 1, none⟩) (.slice pa0_0 (length a_0.2) pc0_0) [] (fun e => by cases e) rfl rfl rfl kr kr kr (inw0 (hk20.cell 1 rfl)) rfl ?_
  refine pN 1 [22] [(22, (.pointer (some ⟨b7, 1, none⟩)))] ?_
  refine gv_load (t := 55) (A := ⟨b7, 1, none⟩) (.slice pa1_0 (length b_1.2) pc1_0) [] (fun e => by cases e) rfl rfl rfl kr kr kr (inw0 (hk21.cell 1 rfl)) rfl ?_
  refine bindE h0 ?_; clear h0; intro r57 hr58 h0
  have hg59 := (grown_trans hg3 hg19)
  have hB60 := bg hB0 hg59 nb
  refine gv_call0 kr rfl kr enters47 (ref3_Compare_ok fuel pa0_0 pc0_0 a_0.2 pa1_0 pc1_0 b_1.2 w14 (fun k => X0 k ∨ X0 k) (fun k hk => (hk).elim (fun h => (fun k (hk : X0 k) => ltl (hX0 k hk) hB60.size) k h) (fun h => (fun k (hk : X0 k) => ltl (hX0 k hk) hB60.size) k h)) ((hpa0_0.below hB60 hX0).wide (fun k hk => (.inl hk))) ((hpa1_0.below hB60 hX0).wide (fun k hk => (.inr hk))) r57 hr58) ?_
  rintro v63 w61 ⟨hg62, rfl⟩
  refine pN 2 [19, 25] [(19, (.bool (decide (r57 ≥ 0))))] ?_
  refine gv_sub [2, 3, 4, 19] (σ' := [(2, (bp b1)), (3, (bp b7)), (4, (bp b13)), (19, (.bool (decide (r57 ≥ 0))))]) kr ?_
  refine gv_nil <| gv_cond (b := (decide (r57 ≥ 0))) kr (fun hc64 => ?_) (fun hc64 => ?_)
  ·replace h0 := ite_t hc64 h0
   refine gv_seq <| gv_drawA kr ?_
   intro w65 hg66
   refine gv_pre [0, 2, 4] (bA 9 [0, 2, 4]) 6 kr kr ?_
   clear hc64 hg59 hr58 hc22 hg19 hz18 hg15 hz12 hz6
   refine pN 3 [26, 28, 30] [(26, (bp b1)), (28, (.pointer (some ⟨b1, 1, none⟩))), (30, (.pointer (some ⟨b7, 1, none⟩)))] ?_
   refine gv_nil <| gv_goA ?_
   refine gv_stage (Cls w65 []) [1, 3, 5, 6] [(1, some true), (3, some true), (5, some true), (6, some false)] (bA 9 [0, 1, 2, 3, 4, 5, 6]) 2 kr kr (Cls.refl _ _) ?_
   have hC67 := Cls.refl w65 []
   have hg68 := (grown_trans hg62 hg66)
   have hk69 := hk20.grown hg68 nb
   refine gv_load (t := 4) (A := ⟨b1, 0, none⟩) (.bool a_0.1) [] (fun e => by cases e) rfl rfl rfl kr kr kr (inw1 fun w' hC' => ((hC'.box hk69 nm_nil).cell 0 rfl)) rfl ?_
   refine gv_load (t := 55) (A := ⟨b1, 1, none⟩) (.slice pa0_0 (length a_0.2) pc0_0) [] (fun e => by cases e) rfl rfl rfl kr kr kr (inw1 fun w' hC' => ((hC'.box hk69 nm_nil).cell 1 rfl)) rfl ?_
   have hk70 := hk21.grown hg68 nb
   refine gv_load (t := 55) (A := ⟨b7, 1, none⟩) (.slice pa1_0 (length b_1.2) pc1_0) [] (fun e => by cases e) rfl rfl rfl kr kr kr (inw1 fun w' hC' => ((hC'.box hk70 nm_nil).cell 1 rfl)) rfl ?_
   refine bindE h0 ?_; clear h0; intro r71 hr72 h0
   have hB73 := bg hB60 hg68 nb
   refine gv_call (f := 48) (vs := [(.slice pa0_0 (length a_0.2) pc0_0), (.slice pa1_0 (length b_1.2) pc1_0)]) (cap := []) _ (by decide) rfl rfl rfl kr kr enters48 (ref3_Minus_ok fuel pa0_0 pc0_0 a_0.2 pa1_0 pc1_0 b_1.2 w65 (fun k => X0 k ∨ X0 k) (fun k hk => (hk).elim (fun h => (fun k (hk : X0 k) => ltl (hX0 k hk) hB73.size) k h) (fun h => (fun k (hk : X0 k) => ltl (hX0 k hk) hB73.size) k h)) ((hpa0_0.below hB73 hX0).wide (fun k hk => (.inl hk))) ((hpa1_0.below hB73 hX0).wide (fun k hk => (.inr hk))) r71 hr72) ?_
   rintro v76 w74 ⟨hg75, a77, c78, X80, rfl, ho79, hx81⟩
   refine ⟨(fun _ => hC67.grown hg75 nb), ?_⟩
   have hx82 : ∀ k, X80 k → k < w74.heap.size := fun k hk => (hx81 k hk).1
   have hx83 : ∀ k, X80 k → X0 k ∨ w0.heap.size ≤ k := fun k hk => (hx81 k hk).2.elim (fun h => (h).elim (fun h => (fun k (hk : X0 k) => Or.inl hk) k h) (fun h => (fun k (hk : X0 k) => Or.inl hk) k h)) (fun h => .inr (Nat.le_trans hB73.size h))
   refine gv_nil <| gv_goA ?_
   refine gv_pre [7] (bA 9 [0, 1, 2, 3, 4, 5, 6, 7]) 1 kr kr ?_
   refine pN 1 [33] [(33, (.agg #[(.bool a_0.1), (.slice a77 (length r71) c78)]))] ?_
   refine gv_nil <| gv_goA ?_
   refine gv_stage (fun _ => True) [8] [(8, some false)] (bA 9 [0, 1, 2, 3, 4, 5, 6, 7, 8]) 0 kr kr trivial ?_
   have hg88 := (grown_trans hg68 hg75)
   have hk89 := hb16.grown hg88 nb
   refine gv_store (t := 57) (b := b13) (off := 0) (v := (.agg #[(.bool a_0.1), (.slice a77 (length r71) c78)])) (t' := 57) (cs := #[(.bool false), (.slice none (length ([] : List Int)) 0)]) #[(.bool a_0.1), (.slice a77 (length r71) c78)] (by decide) rfl rfl kr kr kr (by intro u hu; simp [Value.cells] at hu; rcases hu with rfl | rfl <;> rfl) (show 0 + 2 ≤ 2 by decide) (by rfl) hk89 ?_
   intro w84 hg85 hb86 hz87
   refine ⟨(fun _ => trivial), ?_⟩
   refine gv_nil <| gv_goA ?_
   refine gv_stageE kr ?_
   refine gv_cret ?_
   have e := sj h0; subst e
   refine gv_ret (gv_done [(.agg #[(.bool a_0.1), (.slice a77 (length r71) c78)])] rfl ⟨⟨⟨b13, 0, none⟩, kr, run_loadVar_row w84 b13 _ 57 _ _ _ hb86 Tryz.underlying57 rfl kr⟩, trivial⟩ ?_)
   have hB90 := bg hB73 hg75 nb
   have hg91 := (grown_trans hg3 hg9)
   have hB92 := bg hB0 hg91 nb
   have hlo93 : w0.heap.size ≤ b13 := lob hbe17 hB92.size
   have hB94 := bg hB90 hg85 (rowlo hlo93)
   have hk95 := hb16.grown hg68 nb
   have ap96 : ¬ X80 b13 := fun h => ((hx81 _ h).2.elim (fun h => (h).elim (fun h => ((fun (hx : X0 b13) => nl hlo93 (hX0 _ hx)))  h) (fun h => ((fun (hx : X0 b13) => nl hlo93 (hX0 _ hx)))  h)) (fun h => nl h (hk95.lt)))
   have hk97 := ho79.grown hg85 hx82 (rowne ap96)
   have hx98 := ltx hx82 hg85.size
   exact ⟨grown_of_below hB94, a77, c78, X80, rfl, hk97, (fun k hk => ⟨hx98 k hk, hx83 k hk⟩)⟩
  ·replace h0 := ite_f hc64 h0
   refine gv_skip <| gv_blk <| gv_seq <| gv_drawA kr ?_
   intro w99 hg100
   refine gv_pre [0, 2, 4] (bA 9 [0, 2, 4]) 6 kr kr ?_
   refine pN 3 [34, 36, 38] [(34, (bp b7)), (36, (.pointer (some ⟨b7, 1, none⟩))), (38, (.pointer (some ⟨b1, 1, none⟩)))] ?_
   refine gv_nil <| gv_goA ?_
   refine gv_stage (Cls w99 []) [1, 3, 5, 6] [(1, some true), (3, some true), (5, some true), (6, some false)] (bA 9 [0, 1, 2, 3, 4, 5, 6]) 2 kr kr (Cls.refl _ _) ?_
   have hC101 := Cls.refl w99 []
   have hg102 := (grown_trans hg62 hg100)
   have hk103 := hk21.grown hg102 nb
   refine gv_load (t := 4) (A := ⟨b7, 0, none⟩) (.bool b_1.1) [] (fun e => by cases e) rfl rfl rfl kr kr kr (inw1 fun w' hC' => ((hC'.box hk103 nm_nil).cell 0 rfl)) rfl ?_
   refine gv_load (t := 55) (A := ⟨b7, 1, none⟩) (.slice pa1_0 (length b_1.2) pc1_0) [] (fun e => by cases e) rfl rfl rfl kr kr kr (inw1 fun w' hC' => ((hC'.box hk103 nm_nil).cell 1 rfl)) rfl ?_
   have hk104 := hk20.grown hg102 nb
   refine gv_load (t := 55) (A := ⟨b1, 1, none⟩) (.slice pa0_0 (length a_0.2) pc0_0) [] (fun e => by cases e) rfl rfl rfl kr kr kr (inw1 fun w' hC' => ((hC'.box hk104 nm_nil).cell 1 rfl)) rfl ?_
   refine bindE h0 ?_; clear h0; intro r105 hr106 h0
   have hB107 := bg hB60 hg102 nb
   refine gv_call (f := 48) (vs := [(.slice pa1_0 (length b_1.2) pc1_0), (.slice pa0_0 (length a_0.2) pc0_0)]) (cap := []) _ (by decide) rfl rfl rfl kr kr enters48 (ref3_Minus_ok fuel pa1_0 pc1_0 b_1.2 pa0_0 pc0_0 a_0.2 w99 (fun k => X0 k ∨ X0 k) (fun k hk => (hk).elim (fun h => (fun k (hk : X0 k) => ltl (hX0 k hk) hB107.size) k h) (fun h => (fun k (hk : X0 k) => ltl (hX0 k hk) hB107.size) k h)) ((hpa1_0.below hB107 hX0).wide (fun k hk => (.inl hk))) ((hpa0_0.below hB107 hX0).wide (fun k hk => (.inr hk))) r105 hr106) ?_
   rintro v110 w108 ⟨hg109, a111, c112, X114, rfl, ho113, hx115⟩
   refine ⟨(fun _ => hC101.grown hg109 nb), ?_⟩
   have hx116 : ∀ k, X114 k → k < w108.heap.size := fun k hk => (hx115 k hk).1
   have hx117 : ∀ k, X114 k → X0 k ∨ w0.heap.size ≤ k := fun k hk => (hx115 k hk).2.elim (fun h => (h).elim (fun h => (fun k (hk : X0 k) => Or.inl hk) k h) (fun h => (fun k (hk : X0 k) => Or.inl hk) k h)) (fun h => .inr (Nat.le_trans hB107.size h))
   refine gv_nil <| gv_goA ?_
   refine gv_pre [7] (bA 9 [0, 1, 2, 3, 4, 5, 6, 7]) 1 kr kr ?_
   refine pN 1 [41] [(41, (.agg #[(.bool b_1.1), (.slice a111 (length r105) c112)]))] ?_
   refine gv_nil <| gv_goA ?_
   refine gv_stage (fun _ => True) [8] [(8, some false)] (bA 9 [0, 1, 2, 3, 4, 5, 6, 7, 8]) 0 kr kr trivial ?_
   have hg122 := (grown_trans hg102 hg109)
   have hk123 := hb16.grown hg122 nb
   refine gv_store (t := 57) (b := b13) (off := 0) (v := (.agg #[(.bool b_1.1), (.slice a111 (length r105) c112)])) (t' := 57) (cs := #[(.bool false), (.slice none (length ([] : List Int)) 0)]) #[(.bool b_1.1), (.slice a111 (length r105) c112)] (by decide) rfl rfl kr kr kr (by intro u hu; simp [Value.cells] at hu; rcases hu with rfl | rfl <;> rfl) (show 0 + 2 ≤ 2 by decide) (by rfl) hk123 ?_
   intro w118 hg119 hb120 hz121
   refine ⟨(fun _ => trivial), ?_⟩
   refine gv_nil <| gv_goA ?_
   refine gv_stageE kr ?_
   refine gv_cret ?_
   have e := sj h0; subst e
   refine gv_ret (gv_done [(.agg #[(.bool b_1.1), (.slice a111 (length r105) c112)])] rfl ⟨⟨⟨b13, 0, none⟩, kr, run_loadVar_row w118 b13 _ 57 _ _ _ hb120 Tryz.underlying57 rfl kr⟩, trivial⟩ ?_)
   have hB124 := bg hB107 hg109 nb
   have hg125 := (grown_trans hg3 hg9)
   have hB126 := bg hB0 hg125 nb
   have hlo127 : w0.heap.size ≤ b13 := lob hbe17 hB126.size
   have hB128 := bg hB124 hg119 (rowlo hlo127)
   have hk129 := hb16.grown hg102 nb
   have ap130 : ¬ X114 b13 := fun h => ((hx115 _ h).2.elim (fun h => (h).elim (fun h => ((fun (hx : X0 b13) => nl hlo127 (hX0 _ hx)))  h) (fun h => ((fun (hx : X0 b13) => nl hlo127 (hX0 _ hx)))  h)) (fun h => nl h (hk129.lt)))
   have hk131 := ho113.grown hg119 hx116 (rowne ap130)
   have hx132 := ltx hx116 hg119.size
   exact ⟨grown_of_below hB128, a111, c112, X114, rfl, hk131, (fun k hk => ⟨hx132 k hk, hx117 k hk⟩)⟩

theorem ref3_Halve_ok (fuel : Nat) (pa0_0 : Option Addr) (pc0_0 : Nat) (a_0 : (List Int)) (d_1 : Int) (w0 : World) (X0 : Nat → Prop) (hX0 : ∀ k, X0 k → k < w0.heap.size) (hpa0_0 : Rd (iE .i64) w0 X0 pa0_0 pc0_0 a_0) (r0 : ((List Int) × Int)) (h0 : ref3_Halve fuel a_0 d_1 = some r0) :
    Calls Tryz.prog 23 ([(.slice pa0_0 (length a_0) pc0_0), (.int .i64 d_1)] : List Value).toArray w0 (Ret fun v w' => w0.grownBy w' none ∧ ∃ (a0_0r : Option Addr) (c0_0r : Nat), ∃ (X0_0r : Nat → Prop), v = tup [(.slice a0_0r (length r0.1) c0_0r), (.int .i64 r0.2)] ∧ Rd (iE .i64) w' X0_0r a0_0r c0_0r r0.1 ∧ (∀ k, X0_0r k → k < w'.heap.size ∧ (X0 k ∨ w0.heap.size ≤ k))) := by
 have hB0 : Below w0.heap.size w0 w0 := Below.refl _ _
 unfold ref3_Halve at h0
 refine calls_run Tryz.func23 rfl Tryz.ntmps23 kr ?_
 refine gv_sub [0, 1] (σ' := [(0, (.slice pa0_0 (length a_0) pc0_0)), (1, (.int .i64 d_1))]) kr ?_
 refine gv_seq <| gv_region <| pN 2 [4, 5] [] ?_
 refine gv_nil <| gv_seq <| gv_region <| pN 2 [9, 10] [(10, (.int .i64 ((length a_0 : Nat) : Int)))] ?_
 refine bindE h0 ?_; clear h0; intro l1 hx2 h0
 refine gv_makeC (f := (fun n : Int => Value.int .i64 n)) (hf := fun _ => rfl) (t := 55) (e := 3) (kl := .i64) (kc := .i64) (l := ((length a_0 : Nat) : Int)) (c := ((length a_0 : Nat) : Int)) (bytes := 8) 0 l1 (by decide) rfl rfl kr kr Tryz.underlying55 kr (by decide) hx2 ?_
 intro b3 w4 hg5 ho6 hbe7 hz8
 refine ⟨(fun e => by cases e), ?_⟩
 have hl9 : ∀ g, blk (some ⟨b3, 0, none⟩) = some g → w0.heap.size ≤ g := loo hbe7 hB0.size
 refine pN 1 [6] [(6, (.slice (some ⟨b3, 0, none⟩) (length l1) (((length a_0 : Nat) : Int)).toNat))] ?_
 refine gv_nil <| gv_seq <| gv_region <| pN 1 [7] [(7, (.int .i64 0))] ?_
 refine gv_nil <| gv_seq <| gv_seq <| gv_region <| pN 4 [8, 12, 13, 14] [(8, (.int .i64 (IntKind.i64.wrap (((length a_0 : Nat) : Int) - 1))))] ?_
 refine bindE h0 ?_; clear h0; intro n10 hn11 h0
 refine gv_name (s := 8) (v := (.int .i64 (IntKind.i64.wrap (((length a_0 : Nat) : Int) - 1)))) (v' := (.int .i64 n10)) kr (congrArg (Value.int .i64) (sj hn11)) ?_
 refine gv_nil <| bindE h0 ?_; clear h0; intro j12 h1 h0
 refine gv_cut_code (J := fun a w13 => ∃ (a6_0j : Option Addr) (c6_0j : Nat), Below w0.heap.size w0 w13 ∧ w4.heap.size ≤ w13.heap.size ∧ Gv.Own (iE .i64) 3 w13 (fun _ => False) a6_0j c6_0j j12.1 ∧ (∀ g, blk a6_0j = some g → w0.heap.size ≤ g) ∧ a.defers = [] ∧ a.tmps.size = 38 ∧ Ok [(6, (.slice a6_0j (length j12.1) c6_0j)), (7, (.int .i64 j12.2))] a.tmps) ?_ ?_
 ·skip
  refine gv_block <| gv_loop (A := fun (s14 : ((List Int) × Int × Int)) a w15 => ∃ (a6_0j : Option Addr) (c6_0j : Nat), Below w0.heap.size w0 w15 ∧ w4.heap.size ≤ w15.heap.size ∧ Gv.Own (iE .i64) 3 w15 (fun _ => False) a6_0j c6_0j s14.1 ∧ (∀ g, blk a6_0j = some g → w0.heap.size ≤ g) ∧ a.defers = [] ∧ a.tmps.size = 38 ∧ Ok [(0, (.slice pa0_0 (length a_0) pc0_0)), (1, (.int .i64 d_1)), (6, (.slice a6_0j (length s14.1) c6_0j)), (7, (.int .i64 s14.2.1)), (8, (.int .i64 s14.2.2))] a.tmps) h1 ?_ ?_
  ·intro a hd hs hok
   have hB16 := bg hB0 hg5 nb
   exact ⟨(some ⟨b3, 0, none⟩), (((length a_0 : Nat) : Int)).toNat, hB16, nrf, ho6, hl9, hd, hs, okp [0, 1, 6, 7, 8] hok⟩
  ·rintro s14 r2 h2 hR2 a w15 ⟨a19, c20, hB17, hz18, ho21, hl22, hd, hs, hok⟩
   refine gv_in ?_ hd hs hok
   clear hd hs hok
   clear hn11 hl9 hz8 hbe7 ho6 hg5 hx2
   refine gv_seq <| gv_seq <| gv_region <| pN 2 [15, 16] [(16, (.bool (decide (s14.2.2 ≥ 0))))] ?_
   refine gv_nil <| gv_cond (b := (decide (s14.2.2 ≥ 0))) kr (fun hc23 => ?_) (fun hc23 => ?_)
   ·replace h2 := ite_t hc23 h2
    refine gv_skip <| gv_seq <| gv_block <| gv_seq <| gv_region <| pN 4 [19, 20, 21, 22] [(20, (.int .i64 (IntKind.i64.wrap (s14.2.1 * 65536)))), (21, (.slice pa0_0 (length a_0) pc0_0)), (22, (.int .i64 s14.2.2))] ?_
    refine bindE h2 ?_; clear h2; intro x24 hx25 h2
    refine gv_idxaddr (t := 55) (e := 3) (a := pa0_0) (len := length a_0) (cap := pc0_0) (kk := .i64) (i := s14.2.2) (sz := 1) [] (fun e => by cases e) rfl rfl rfl kr kr Tryz.underlying55 kr ((hpa0_0.below hB17 hX0).has hx25) (idx_spec hx25).1 (idx_spec hx25).2.1 rfl ?_
    refine gv_load (t := 3) (A := (elemAddr pa0_0 ((s14.2.2 : Int).toNat * 1))) (.int .i64 x24) [] (fun e => by cases e) rfl rfl rfl kr kr kr (inw0 ((hpa0_0.below hB17 hX0).cell hx25)) rfl ?_
    refine pN 2 [7, 25] [(7, (.int .i64 (IntKind.i64.wrap ((IntKind.i64.wrap (s14.2.1 * 65536)) + x24))))] ?_
    refine bindE h2 ?_; clear h2; intro n26 hn27 h2
    refine gv_name (s := 7) (v := (.int .i64 (IntKind.i64.wrap ((IntKind.i64.wrap (s14.2.1 * 65536)) + x24)))) (v' := (.int .i64 n26)) kr (congrArg (Value.int .i64) (sj hn27)) ?_
    refine gv_nil <| gv_seq <| gv_region <| pN 4 [26, 27, 28, 29] [(26, (.slice a19 (length s14.1) c20)), (27, (.int .i64 s14.2.2)), (28, (.int .i64 n26)), (29, (.int .i64 d_1))] ?_
    refine bindE h2 ?_; clear h2; intro _ hx28 h2
    refine gv_quo (t := 3) (kk := .i64) (x := n26) (y := d_1) [] (fun e => by cases e) rfl rfl rfl kr kr (nz_spec hx28) rfl ?_
    refine bindE h2 ?_; clear h2; intro x29 hx30 h2
    refine gv_idxaddr (t := 55) (e := 3) (a := a19) (len := length s14.1) (cap := c20) (kk := .i64) (i := s14.2.2) (sz := 1) [] (fun e => by cases e) rfl rfl rfl kr kr Tryz.underlying55 kr ((ho21.rd (Y := fun k => blk a19 = some k) (fun _ h => h.elim) (fun g e => e)).has hx30) (idx_spec hx30).1 (idx_spec hx30).2.1 rfl ?_
    refine bindE h2 ?_; clear h2; intro l31 hx32 h2
    refine gv_upd (f := (fun n : Int => Value.int .i64 n)) (hf := fun _ => rfl) (t := 3) (e := 3) (a := a19) (cap := c20) (xs := s14.1) (i := s14.2.2) (IntKind.i64.wrap ((n26).tdiv d_1)) l31 (by decide) rfl rfl kr rfl kr kr ho21 hx32 ?_
    intro w33 hg34 ho35 hz36
    refine ⟨(fun e => by cases e), ?_⟩
    have hln37 : length s14.1 = length l31 := by obtain ⟨_, _, e⟩ := upd_spec hx32; rw [e, List.length_set]
    refine gv_name (s := 6) (v := (.slice a19 (length s14.1) c20)) (v' := (.slice a19 (length l31) c20)) kr (by rw [hln37]) ?_
    refine gv_nil <| gv_region <| pN 2 [32, 33] [(32, (.int .i64 n26)), (33, (.int .i64 d_1))] ?_
    refine bindE h2 ?_; clear h2; intro _ hx38 h2
    refine gv_rem (t := 3) (kk := .i64) (x := n26) (y := d_1) [] (fun e => by cases e) rfl rfl rfl kr kr (nz_spec hx38) rfl ?_
    refine pN 1 [7] [(7, (.int .i64 ((n26).tmod d_1)))] ?_
    refine gv_nil <| gv_blk <| gv_region <| pN 3 [8, 17, 18] [(8, (.int .i64 (IntKind.i64.wrap (s14.2.2 - 1))))] ?_
    refine gv_nil ?_
    have e := sj h2; subst e
    refine gv_goal fun a hd hs hok => ?_
    have hB39 := bg hB17 hg34 hl22
    have hz40 := (nt hz18 hg34.size)
    exact ⟨(l31, ((n26).tmod d_1), (IntKind.i64.wrap (s14.2.2 - 1))), rfl, a19, c20, hB39, hz40, ho35, hl22, hd, hs, okp [0, 1, 6, 7, 8] hok⟩
   ·replace h2 := ite_f hc23 h2
    refine gv_cexit <| gv_exit rfl ?_
    have e := sj h2; subst e
    replace h1 := congrArg some (hR2 _ rfl)
    have e := sj h1; subst e
    refine gv_goal fun a hd hs hok => ?_
    have hz41 := hz18
    exact ⟨a19, c20, hB17, hz41, ho21, hl22, hd, hs, okp [6, 7] hok⟩
 ·rintro a w13 ⟨a44, c45, hB42, hz43, ho46, hl47, hd, hs, hok⟩
  refine gv_in ?_ hd hs hok
  clear hd hs hok
  clear hz43 hn11 hl9 hz8 hbe7 ho6 hg5 hx2
  refine gv_seq <| gv_region <| pN 1 [35] [(35, (.slice a44 (length j12.1) c45))] ?_
  refine bindE h0 ?_; clear h0; intro r48 hr49 h0
  refine gv_call0 kr rfl kr enters50 (ref3_trim_ok fuel a44 c45 j12.1 w13 (fun k => (fun k => blk a44 = some k) k) (fun k hk => (fun k (hk : blk a44 = some k) => ho46.lt k hk) k hk) ((ho46.rd (Y := fun k => blk a44 = some k) (fun _ h => h.elim) (fun g e => e)).wide (fun k hk => hk)) r48 hr49) ?_
  rintro v52 w50 ⟨hg51, a53, c54, X56, rfl, ho55, hx57⟩
  have hx58 : ∀ k, X56 k → k < w50.heap.size := fun k hk => (hx57 k hk).1
  have hx59 : ∀ k, X56 k → X0 k ∨ w0.heap.size ≤ k := fun k hk => (hx57 k hk).2.elim (fun h => (fun k (hk : blk a44 = some k) => Or.inr (hl47 k hk)) k h) (fun h => .inr (Nat.le_trans hB42.size h))
  refine pN 3 [4, 5, 37] [(4, (.slice a53 (length r48) c54)), (5, (.int .i64 j12.2))] ?_
  refine gv_nil <| gv_cret ?_
  have e := sj h0; subst e
  refine gv_ret (gv_done [(.slice a53 (length r48) c54), (.int .i64 j12.2)] rfl ⟨kr, kr, trivial⟩ ?_)
  have hB60 := bg hB42 hg51 nb
  exact ⟨grown_of_below hB60, a53, c54, X56, rfl, ho55, (fun k hk => ⟨hx58 k hk, hx59 k hk⟩)⟩

theorem ref3_Int_Minus_ok (fuel : Nat) (pa0_0 : Option Addr) (pc0_0 : Nat) (a_0 : (Bool × (List Int))) (w0 : World) (X0 : Nat → Prop) (hX0 : ∀ k, X0 k → k < w0.heap.size) (hpa0_0 : Rd (iE .i64) w0 X0 pa0_0 pc0_0 a_0.2) (r0 : (Bool × (List Int))) (h0 : ref3_Int_Minus fuel a_0 = some r0) :
    Calls Tryz.prog 24 ([(.agg #[(.bool a_0.1), (.slice pa0_0 (length a_0.2) pc0_0)])] : List Value).toArray w0 (Ret fun v w' => w0.grownBy w' none ∧ ∃ (a0_0r : Option Addr) (c0_0r : Nat), ∃ (X0_0r : Nat → Prop), v = tup [(.agg #[(.bool r0.1), (.slice a0_0r (length r0.2) c0_0r)])] ∧ Rd (iE .i64) w' X0_0r a0_0r c0_0r r0.2 ∧ (∀ k, X0_0r k → k < w'.heap.size ∧ (X0 k ∨ w0.heap.size ≤ k))) := by
 have hB0 : Below w0.heap.size w0 w0 := Below.refl _ _
 unfold ref3_Int_Minus at h0
 refine calls_run Tryz.func24 rfl Tryz.ntmps24 kr ?_
 refine gv_sub [0] (σ' := [(0, (.agg #[(.bool a_0.1), (.slice pa0_0 (length a_0.2) pc0_0)]))]) kr ?_
 refine gv_seq <| gv_region <| gv_new0 (fun b => .pointer (some ⟨b, 0, none⟩)) #[(.bool a_0.1), (.slice pa0_0 (length a_0.2) pc0_0)] 57 kr kr ?_
 intro b1 w2 hg3 hb4 hbe5 hz6
 refine gv_new0 (fun b => .pointer (some ⟨b, 0, none⟩)) #[(.bool false), (.slice none (length ([] : List Int)) 0)] 57 kr kr ?_
 intro b7 w8 hg9 hb10 hbe11 hz12
 refine gv_nil <| gv_seq <| gv_region <| bindE h0 ?_; clear h0; intro j13 h1 h0
 refine gv_cut_ops (J := fun a w14 => ∃ (abb7_0j : Option Addr) (cbb7_0j : Nat), Below w0.heap.size w0 w14 ∧ w8.heap.size ≤ w14.heap.size ∧ Rd (iE .i64) w0 X0 abb7_0j cbb7_0j j13.2 ∧ Box w14 b7 57 #[(.bool j13.1), (.slice abb7_0j (length j13.2) cbb7_0j)] ∧ a.defers = [] ∧ a.tmps.size = 15 ∧ Ok [(2, (bp b7))] a.tmps) ?_ ?_
 ·skip
  refine pN 1 [3] [(3, (bp b1))] ?_
  have hk15 := hb4.grown hg9 nb
  refine gv_load (t := 4) (A := ⟨b1, 0, none⟩) (.bool a_0.1) [] (fun e => by cases e) rfl rfl rfl kr kr kr (inw0 (hk15.cell 0 rfl)) rfl ?_
  refine pN 2 [5, 6] [(6, (.bool (!a_0.1)))] ?_
  refine gv_split (s := 6) (g := (!a_0.1)) kr (fun hc16 => ?_) (fun hc16 => ?_)
  ·skip
   replace h1 := ite_t hc16 h1
   refine pN 1 [7] [(7, (.pointer (some ⟨b1, 1, none⟩)))] ?_
   refine gv_load (t := 55) (A := ⟨b1, 1, none⟩) (.slice pa0_0 (length a_0.2) pc0_0) [] (fun e => by cases e) rfl rfl rfl kr kr kr (inw0 (hk15.cell 1 rfl)) rfl ?_
   refine pN 4 [9, 10, 11, 12] [(11, (.bool (decide (((length a_0.2 : Nat) : Int) > 0)))), (12, (.pointer (some ⟨b1, 1, none⟩)))] ?_
   refine gv_load (t := 55) (A := ⟨b1, 1, none⟩) (.slice pa0_0 (length a_0.2) pc0_0) [] (fun e => by cases e) rfl rfl rfl kr kr kr (inw0 (hk15.cell 1 rfl)) rfl ?_
   refine pN 1 [14] [(14, (.agg #[(.bool (decide (((length a_0.2 : Nat) : Int) > 0))), (.slice pa0_0 (length a_0.2) pc0_0)]))] ?_
   refine gv_store0 57 0 (.agg #[(.bool (decide (((length a_0.2 : Nat) : Int) > 0))), (.slice pa0_0 (length a_0.2) pc0_0)]) #[(.bool (decide (((length a_0.2 : Nat) : Int) > 0))), (.slice pa0_0 (length a_0.2) pc0_0)] hb10 kr kr kr ?_
   intro w17 hg18 hb19 hz20
   refine gv_nil ?_
   have e := sj h1; subst e
   refine gv_goal fun a hd hs hok => ?_
   have hg21 := (grown_trans hg3 hg9)
   have hB22 := bg hB0 hg21 nb
   have hB23 := bg hB0 hg3 nb
   have hlo24 : w0.heap.size ≤ b7 := lob hbe11 hB23.size
   have hB25 := bg hB22 hg18 (rowlo hlo24)
   have hz26 := hg18.size
   exact ⟨pa0_0, pc0_0, hB25, hz26, hpa0_0, hb19, hd, hs, okp [2] hok⟩
  ·skip
   replace h1 := ite_f hc16 h1
   refine pN 6 [7, 8, 9, 10, 11, 12] [(11, (.bool false)), (12, (.pointer (some ⟨b1, 1, none⟩)))] ?_
   refine gv_load (t := 55) (A := ⟨b1, 1, none⟩) (.slice pa0_0 (length a_0.2) pc0_0) [] (fun e => by cases e) rfl rfl rfl kr kr kr (inw0 (hk15.cell 1 rfl)) rfl ?_
   refine pN 1 [14] [(14, (.agg #[(.bool false), (.slice pa0_0 (length a_0.2) pc0_0)]))] ?_
   refine gv_store0 57 0 (.agg #[(.bool false), (.slice pa0_0 (length a_0.2) pc0_0)]) #[(.bool false), (.slice pa0_0 (length a_0.2) pc0_0)] hb10 kr kr kr ?_
   intro w27 hg28 hb29 hz30
   refine gv_nil ?_
   have e := sj h1; subst e
   refine gv_goal fun a hd hs hok => ?_
   have hg31 := (grown_trans hg3 hg9)
   have hB32 := bg hB0 hg31 nb
   have hB33 := bg hB0 hg3 nb
   have hlo34 : w0.heap.size ≤ b7 := lob hbe11 hB33.size
   have hB35 := bg hB32 hg28 (rowlo hlo34)
   have hz36 := hg28.size
   exact ⟨pa0_0, pc0_0, hB35, hz36, hpa0_0, hb29, hd, hs, okp [2] hok⟩
 ·rintro a w14 ⟨a39, c40, hB37, hz38, hp41, hb42, hd, hs, hok⟩
  refine gv_in ?_ hd hs hok
  clear hd hs hok
  clear hz38 hz12 hb10 hg9 hz6 hbe5 hb4
  refine gv_cret ?_
  have e := sj h0; subst e
  refine gv_ret (gv_done [(.agg #[(.bool j13.1), (.slice a39 (length j13.2) c40)])] rfl ⟨⟨⟨b7, 0, none⟩, kr, run_loadVar_row w14 b7 _ 57 _ _ _ hb42 Tryz.underlying57 rfl kr⟩, trivial⟩ ?_)
  exact ⟨grown_of_below hB37, a39, c40, X0, rfl, (hp41.below hB37 hX0), (fun k hk => ⟨(fun k (hk : X0 k) => ltl (hX0 k hk) hB37.size) k hk, (fun k (hk : X0 k) => Or.inl hk) k hk⟩)⟩

theorem ref3_Ones_ok (fuel : Nat) (pa0_0 : Option Addr) (pc0_0 : Nat) (a_0 : (List Int)) (w0 : World) (X0 : Nat → Prop) (hX0 : ∀ k, X0 k → k < w0.heap.size) (hpa0_0 : Rd (iE .i64) w0 X0 pa0_0 pc0_0 a_0) (r0 : (List Bool)) (h0 : ref3_Ones fuel a_0 = some r0) :
    Calls Tryz.prog 74 ([(.slice pa0_0 (length a_0) pc0_0)] : List Value).toArray w0 (Ret fun v w' => w0.grownBy w' none ∧ ∃ (a0_0r : Option Addr) (c0_0r : Nat), v = tup [(.slice a0_0r (length r0) c0_0r)] ∧ Gv.Own tE 4 w' (fun _ => False) a0_0r c0_0r r0 ∧ (∀ g, blk a0_0r = some g → w0.heap.size ≤ g)) := by
 have hB0 : Below w0.heap.size w0 w0 := Below.refl _ _
 unfold ref3_Ones at h0
 refine calls_run Tryz.func74 rfl Tryz.ntmps74 kr ?_
 refine gv_sub [0] (σ' := [(0, (.slice pa0_0 (length a_0) pc0_0))]) kr ?_
 refine gv_seq <| gv_region <| pN 1 [2] [] ?_
 refine gv_nil <| gv_seq <| gv_region <| pN 1 [3] [(3, (.slice none (length ([] : List Bool)) 0))] ?_
 refine gv_nil <| gv_seq <| gv_seq <| gv_region <| pN 1 [4] [(4, (.int .i64 0))] ?_
 refine gv_nil <| bindE h0 ?_; clear h0; intro j1 h1 h0
 refine gv_cut_code (J := fun a w2 => ∃ (a3_0j : Option Addr) (c3_0j : Nat), Below w0.heap.size w0 w2 ∧ w0.heap.size ≤ w2.heap.size ∧ Gv.Own tE 4 w2 (fun _ => False) a3_0j c3_0j j1 ∧ (∀ g, blk a3_0j = some g → w0.heap.size ≤ g) ∧ a.defers = [] ∧ a.tmps.size = 47 ∧ Ok [(3, (.slice a3_0j (length j1) c3_0j))] a.tmps) ?_ ?_
 ·skip
  refine gv_block <| gv_loop (A := fun (s3 : ((List Bool) × Int)) a w4 => ∃ (a3_0j : Option Addr) (c3_0j : Nat), Below w0.heap.size w0 w4 ∧ w0.heap.size ≤ w4.heap.size ∧ Gv.Own tE 4 w4 (fun _ => False) a3_0j c3_0j s3.1 ∧ (∀ g, blk a3_0j = some g → w0.heap.size ≤ g) ∧ a.defers = [] ∧ a.tmps.size = 47 ∧ Ok [(0, (.slice pa0_0 (length a_0) pc0_0)), (3, (.slice a3_0j (length s3.1) c3_0j)), (4, (.int .i64 s3.2))] a.tmps) h1 ?_ ?_
  ·intro a hd hs hok
   exact ⟨none, 0, hB0, nrf, (Gv.Own.nil tE 4 w0 (fun _ => False)), (fun _ h => by cases h), hd, hs, okp [0, 3, 4] hok⟩
  ·rintro s3 r2 h2 hR2 a w4 ⟨a7, c8, hB5, hz6, ho9, hl10, hd, hs, hok⟩
   refine gv_in ?_ hd hs hok
   clear hd hs hok
   refine gv_seq <| gv_seq <| gv_region <| pN 4 [7, 8, 9, 10] [(10, (.bool (decide (s3.2 < ((length a_0 : Nat) : Int)))))] ?_
   refine gv_nil <| gv_cond (b := (decide (s3.2 < ((length a_0 : Nat) : Int)))) kr (fun hc11 => ?_) (fun hc11 => ?_)
   ·replace h2 := ite_t hc11 h2
    refine gv_skip <| gv_seq <| gv_block <| gv_seq <| gv_region <| pN 2 [13, 14] [(13, (.slice pa0_0 (length a_0) pc0_0)), (14, (.int .i64 s3.2))] ?_
    refine bindE h2 ?_; clear h2; intro x12 hx13 h2
    refine gv_idxaddr (t := 55) (e := 3) (a := pa0_0) (len := length a_0) (cap := pc0_0) (kk := .i64) (i := s3.2) (sz := 1) [] (fun e => by cases e) rfl rfl rfl kr kr Tryz.underlying55 kr ((hpa0_0.below hB5 hX0).has hx13) (idx_spec hx13).1 (idx_spec hx13).2.1 rfl ?_
    refine gv_load (t := 3) (A := (elemAddr pa0_0 ((s3.2 : Int).toNat * 1))) (.int .i64 x12) [] (fun e => by cases e) rfl rfl rfl kr kr kr (inw0 ((hpa0_0.below hB5 hX0).cell hx13)) rfl ?_
    refine pN 1 [5] [(5, (.int .i64 x12))] ?_
    refine gv_nil <| gv_seq <| gv_region <| pN 1 [6] [(6, (.int .i64 0))] ?_
    refine gv_nil <| bindE h2 ?_; clear h2; intro j14 h3 h2
    refine gv_cut_code (J := fun a w15 => ∃ (a3_0j : Option Addr) (c3_0j : Nat), Below w0.heap.size w0 w15 ∧ w4.heap.size ≤ w15.heap.size ∧ Gv.Own tE 4 w15 (fun _ => False) a3_0j c3_0j j14 ∧ (∀ g, blk a3_0j = some g → w0.heap.size ≤ g) ∧ a.defers = [] ∧ a.tmps.size = 47 ∧ Ok [(0, (.slice pa0_0 (length a_0) pc0_0)), (3, (.slice a3_0j (length j14) c3_0j)), (4, (.int .i64 s3.2))] a.tmps) ?_ ?_
    ·skip
     refine gv_block <| gv_loop (A := fun (s16 : ((List Bool) × Int × Int)) a w17 => ∃ (a3_0j : Option Addr) (c3_0j : Nat), Below w0.heap.size w0 w17 ∧ w4.heap.size ≤ w17.heap.size ∧ Gv.Own tE 4 w17 (fun _ => False) a3_0j c3_0j s16.1 ∧ (∀ g, blk a3_0j = some g → w0.heap.size ≤ g) ∧ a.defers = [] ∧ a.tmps.size = 47 ∧ Ok [(0, (.slice pa0_0 (length a_0) pc0_0)), (3, (.slice a3_0j (length s16.1) c3_0j)), (4, (.int .i64 s3.2)), (5, (.int .i64 s16.2.1)), (6, (.int .i64 s16.2.2))] a.tmps) h3 ?_ ?_
     ·intro a hd hs hok
      exact ⟨a7, c8, hB5, nrf, ho9, hl10, hd, hs, okp [0, 3, 4, 5, 6] hok⟩
     ·rintro s16 r4 h4 hR4 a w17 ⟨a20, c21, hB18, hz19, ho22, hl23, hd, hs, hok⟩
      refine gv_in ?_ hd hs hok
      clear hd hs hok
      clear hx13 hc11 hl10 ho9 hB5
      refine gv_seq <| gv_seq <| gv_region <| pN 2 [17, 18] [(18, (.bool (decide (s16.2.2 < 16))))] ?_
      refine gv_nil <| gv_cond (b := (decide (s16.2.2 < 16))) kr (fun hc24 => ?_) (fun hc24 => ?_)
      ·replace h4 := ite_t hc24 h4
       refine gv_skip <| gv_seq <| gv_block <| gv_seq <| gv_region <| pN 4 [21, 22, 23, 24] [(21, (.slice a20 (length s16.1) c21)), (24, (.bool (((s16.2.1).tmod 2) == 1)))] ?_
       refine gv_new0 (fun b => .slice (some ⟨b, 0, none⟩) 1 1) #[(.bool (((s16.2.1).tmod 2) == 1))] 4 kr kr ?_
       intro b25 w26 hg27 hb28 hbe29 hz30
       have ho31 : Gv.Own tE 4 w26 (fun _ => False) (some ⟨b25, 0, none⟩) 1 ([(((s16.2.1).tmod 2) == 1)] : List Bool) := Box.ownE hb28 ⟨[(.bool (((s16.2.1).tmod 2) == 1))], [], rfl, rfl, rfl⟩ (show 1 ≤ maxLen by decide) (fun h => h)
       have hl32 : ∀ g, blk (some ⟨b25, 0, none⟩) = some g → w0.heap.size ≤ g := loo hbe29 hB18.size
       refine bindE h4 ?_; clear h4; intro l36 hx37 h4
       have hk44 := ho22.grown hg27 (fun _ h => h.elim) nb
       refine gv_append tE (t := 87) (ty := 87) (e := 4) (a := a20) (ax := (some ⟨b25, 0, none⟩)) (cap := c21) (cx := 1) (xs := s16.1) (ys := ([(((s16.2.1).tmod 2) == 1)] : List Bool)) l36 (X := (fun _ => False)) (Y := (fun k => blk (some ⟨b25, 0, none⟩) = some k)) (by decide) rfl rfl kr kr Tryz.underlying87 info4 hk44 (ho31.rd (Y := fun k => blk (some ⟨b25, 0, none⟩) = some k) (fun _ h => h.elim) (fun g e => e)) hx37 (.inr fun _ _ _ _ _ h => h) (fun _ h => h.elim) ?_
       intro a38 c39 w40 hg41 ho42 hk43
       refine ⟨(fun e => by cases e), ?_⟩
       have hB46 := bg hB18 hg27 nb
       have hl45 : ∀ g, blk a38 = some g → w0.heap.size ≤ g := blk_step hk43 hl23 hB46.size
       have ap48 : ∀ g, blk a20 = some g → ¬ (fun k => blk (some ⟨b25, 0, none⟩) = some k) g := fun g e hx => nl ((lowo hbe29) _ hx) ((fun k (hk : blk a20 = some k) => ho22.lt k hk) g e)
       have ap47 : ∀ g, blk a38 = some g → ¬ (fun k => blk (some ⟨b25, 0, none⟩) = some k) g := blk_neX hk43 ap48 (fun k (hk : blk (some ⟨b25, 0, none⟩) = some k) => ho31.lt k hk)
       have ap50 : ∀ g, blk (some ⟨b25, 0, none⟩) = some g → ¬ (fun k => blk a20 = some k) g := fun g e hx => nl ((lowo hbe29) g e) ((fun k (hk : blk a20 = some k) => ho22.lt k hk) _ hx)
       have ap49 : ∀ g, blk (some ⟨b25, 0, none⟩) = some g → ¬ (fun k => blk a38 = some k) g := fun g e h => blk_rev hk43 (fun h => ((ap50) g e) h) (ho31.lt g e) h
       refine pN 1 [3] [(3, (.slice a38 (length l36) c39))] ?_
       refine gv_nil <| gv_region <| pN 3 [5, 27, 28] [(5, (.int .i64 (IntKind.i64.wrap ((s16.2.1).tdiv 2))))] ?_
       refine gv_nil <| gv_blk <| gv_region <| pN 3 [6, 19, 20] [(6, (.int .i64 (IntKind.i64.wrap (s16.2.2 + 1))))] ?_
       refine gv_nil ?_
       have e := sj h4; subst e
       refine gv_goal fun a hd hs hok => ?_
       have hB51 := bg hB46 hg41 hl23
       have hz52 := (nt (nt hz19 hg27.size) hg41.size)
       exact ⟨(l36, (IntKind.i64.wrap ((s16.2.1).tdiv 2)), (IntKind.i64.wrap (s16.2.2 + 1))), rfl, a38, c39, hB51, hz52, ho42, hl45, hd, hs, okp [0, 3, 4, 5, 6] hok⟩
      ·replace h4 := ite_f hc24 h4
       refine gv_cexit <| gv_exit rfl ?_
       have e := sj h4; subst e
       replace h3 := congrArg some (hR4 _ rfl)
       have e := sj h3; subst e
       refine gv_goal fun a hd hs hok => ?_
       have hz53 := hz19
       exact ⟨a20, c21, hB18, hz53, ho22, hl23, hd, hs, okp [0, 3, 4] hok⟩
    ·rintro a w15 ⟨a56, c57, hB54, hz55, ho58, hl59, hd, hs, hok⟩
     refine gv_in ?_ hd hs hok
     clear hd hs hok
     have hz60 := (nt hz6 hz55)
     clear hz55 hx13 hc11 hl10 ho9 hz6 hB5
     refine gv_blk <| gv_region <| pN 3 [4, 11, 12] [(4, (.int .i64 (IntKind.i64.wrap (s3.2 + 1))))] ?_
     refine gv_nil ?_
     have e := sj h2; subst e
     refine gv_goal fun a hd hs hok => ?_
     have hz61 := hz60
     exact ⟨(j14, (IntKind.i64.wrap (s3.2 + 1))), rfl, a56, c57, hB54, hz61, ho58, hl59, hd, hs, okp [0, 3, 4] hok⟩
   ·replace h2 := ite_f hc11 h2
    refine gv_cexit <| gv_exit rfl ?_
    have e := sj h2; subst e
    replace h1 := congrArg some (hR2 _ rfl)
    have e := sj h1; subst e
    refine gv_goal fun a hd hs hok => ?_
    have hz62 := hz6
    exact ⟨a7, c8, hB5, hz62, ho9, hl10, hd, hs, okp [3] hok⟩
 ·rintro a w2 ⟨a65, c66, hB63, hz64, ho67, hl68, hd, hs, hok⟩
  refine gv_in ?_ hd hs hok
  clear hd hs hok
  refine gv_seq <| bindE h0 ?_; clear h0; intro j69 h1 h0
  refine gv_cut_code (J := fun a w70 => ∃ (a3_0j : Option Addr) (c3_0j : Nat), Below w0.heap.size w0 w70 ∧ w2.heap.size ≤ w70.heap.size ∧ Gv.Own tE 4 w70 (fun _ => False) a3_0j c3_0j j69 ∧ (∀ g, blk a3_0j = some g → w0.heap.size ≤ g) ∧ a.defers = [] ∧ a.tmps.size = 47 ∧ Ok [(3, (.slice a3_0j (length j69) c3_0j))] a.tmps) ?_ ?_
  ·skip
   refine gv_block <| gv_loop (A := fun (s71 : (List Bool)) a w72 => ∃ (a3_0j : Option Addr) (c3_0j : Nat), Below w0.heap.size w0 w72 ∧ w2.heap.size ≤ w72.heap.size ∧ Gv.Own tE 4 w72 (fun _ => False) a3_0j c3_0j s71 ∧ (∀ g, blk a3_0j = some g → w0.heap.size ≤ g) ∧ a.defers = [] ∧ a.tmps.size = 47 ∧ Ok [(3, (.slice a3_0j (length s71) c3_0j))] a.tmps) h1 ?_ ?_
   ·intro a hd hs hok
    exact ⟨a65, c66, hB63, nrf, ho67, hl68, hd, hs, okp [3] hok⟩
   ·rintro s71 r2 h2 hR2 a w72 ⟨a75, c76, hB73, hz74, ho77, hl78, hd, hs, hok⟩
    refine gv_in ?_ hd hs hok
    clear hd hs hok
    clear hl68 ho67 hz64 hB63
    refine gv_seq <| gv_seq <| gv_region <| bindE h2 ?_; clear h2; intro j79 h3 h2
    refine gv_cut_ops (J := fun a w80 => Below w0.heap.size w0 w80 ∧ w72.heap.size ≤ w80.heap.size ∧ Gv.Own tE 4 w80 (fun _ => False) a75 c76 s71 ∧ a.defers = [] ∧ a.tmps.size = 47 ∧ Ok [(3, (.slice a75 (length s71) c76)), (40, (.bool j79))] a.tmps) ?_ ?_
    ·skip
     refine pN 4 [29, 30, 31, 32] [(32, (.bool (decide (((length s71 : Nat) : Int) > 0))))] ?_
     refine gv_split (s := 32) (g := (decide (((length s71 : Nat) : Int) > 0))) kr (fun hc81 => ?_) (fun hc81 => ?_)
     ·skip
      replace h3 := ite_t hc81 h3
      refine pN 4 [33, 34, 35, 36] [(33, (.slice a75 (length s71) c76)), (36, (.int .i64 (IntKind.i64.wrap (((length s71 : Nat) : Int) - 1))))] ?_
      refine bindE h3 ?_; clear h3; intro x82 hx83 h3
      refine gv_idxaddr (t := 87) (e := 4) (a := a75) (len := length s71) (cap := c76) (kk := .i64) (i := (IntKind.i64.wrap (((length s71 : Nat) : Int) - 1))) (sz := 1) [] (fun e => by cases e) rfl rfl rfl kr kr Tryz.underlying87 kr ((ho77.rd (Y := fun k => blk a75 = some k) (fun _ h => h.elim) (fun g e => e)).has hx83) (idx_spec hx83).1 (idx_spec hx83).2.1 rfl ?_
      refine gv_load (t := 4) (A := (elemAddr a75 (((IntKind.i64.wrap (((length s71 : Nat) : Int) - 1)) : Int).toNat * 1))) (.bool x82) [] (fun e => by cases e) rfl rfl rfl kr kr kr (inw0 ((ho77.rd (Y := fun k => blk a75 = some k) (fun _ h => h.elim) (fun g e => e)).cell hx83)) rfl ?_
      refine pN 2 [39, 40] [(40, (.bool (!x82)))] ?_
      refine gv_nil ?_
      have e := sj h3; subst e
      refine gv_goal fun a hd hs hok => ?_
      exact ⟨hB73, nrf, ho77, hd, hs, okp [3, 40] hok⟩
     ·skip
      replace h3 := ite_f hc81 h3
      refine pN 8 [33, 34, 35, 36, 37, 38, 39, 40] [(40, (.bool false))] ?_
      refine gv_nil ?_
      have e := sj h3; subst e
      refine gv_goal fun a hd hs hok => ?_
      exact ⟨hB73, nrf, ho77, hd, hs, okp [3, 40] hok⟩
    ·rintro a w80 ⟨hB84, hz85, hk86, hd, hs, hok⟩
     refine gv_in ?_ hd hs hok
     clear hd hs hok
     have hz87 := (nt hz74 hz85)
     clear hz85 ho77 hz74 hB73
     refine gv_cond (b := j79) kr (fun hc88 => ?_) (fun hc88 => ?_)
     ·replace h2 := ite_t hc88 h2
      refine gv_skip <| gv_block <| gv_region <| pN 4 [41, 42, 43, 44] [(41, (.slice a75 (length s71) c76)), (44, (.int .i64 (IntKind.i64.wrap (((length s71 : Nat) : Int) - 1))))] ?_
      refine bindE h2 ?_; clear h2; intro x89 hx90 h2
      refine gv_pop tE (t := 87) (e := 4) (xs := s71) (a := a75) (cap := c76) (lo := none) (hi := (some (.int .i64 (IntKind.i64.wrap (((length s71 : Nat) : Int) - 1))))) (IntKind.i64.wrap (((length s71 : Nat) : Int) - 1)) x89 (fun e => by cases e) rfl rfl rfl kr kr Tryz.underlying87 kr (.inl ⟨rfl, rfl⟩) (.inr ⟨_, rfl⟩) hx90 (hk86.rd (Y := fun k => blk a75 = some k) (fun _ h => h.elim) (fun g e => e)).1 ?_
      have ho91 := hk86.pop hx90
      refine pN 1 [3] [(3, (.slice a75 (length x89) c76))] ?_
      refine gv_nil <| gv_blk ?_
      have e := sj h2; subst e
      refine gv_goal fun a hd hs hok => ?_
      have hz92 := hz87
      exact ⟨x89, rfl, a75, c76, hB84, hz92, ho91, hl78, hd, hs, okp [3] hok⟩
     ·replace h2 := ite_f hc88 h2
      refine gv_cexit <| gv_exit rfl ?_
      have e := sj h2; subst e
      replace h1 := congrArg some (hR2 _ rfl)
      have e := sj h1; subst e
      refine gv_goal fun a hd hs hok => ?_
      have hz93 := hz87
      exact ⟨a75, c76, hB84, hz93, hk86, hl78, hd, hs, okp [3] hok⟩
  ·rintro a w70 ⟨a96, c97, hB94, hz95, ho98, hl99, hd, hs, hok⟩
   refine gv_in ?_ hd hs hok
   clear hd hs hok
   clear hz95 hl68 ho67 hz64 hB63
   refine gv_seq <| gv_region <| pN 2 [2, 46] [(2, (.slice a96 (length j69) c97))] ?_
   refine gv_nil <| gv_cret ?_
   have e := sj h0; subst e
   refine gv_ret (gv_done [(.slice a96 (length j69) c97)] rfl ⟨kr, trivial⟩ ?_)
   exact ⟨grown_of_below hB94, a96, c97, rfl, ho98, hl99⟩

theorem ref3_Moved_ok (fuel : Nat) (pa0_0 : Option Addr) (pc0_0 : Nat) (a_0 : (List Int)) (n_1 : Int) (w0 : World) (X0 : Nat → Prop) (hX0 : ∀ k, X0 k → k < w0.heap.size) (hpa0_0 : Rd (iE .i64) w0 X0 pa0_0 pc0_0 a_0) (r0 : (List Int)) (h0 : ref3_Moved fuel a_0 n_1 = some r0) :
    Calls Tryz.prog 52 ([(.slice pa0_0 (length a_0) pc0_0), (.int .i64 n_1)] : List Value).toArray w0 (Ret fun v w' => w0.grownBy w' none ∧ ∃ (a0_0r : Option Addr) (c0_0r : Nat), ∃ (X0_0r : Nat → Prop), v = tup [(.slice a0_0r (length r0) c0_0r)] ∧ Rd (iE .i64) w' X0_0r a0_0r c0_0r r0 ∧ (∀ k, X0_0r k → k < w'.heap.size ∧ (X0 k ∨ w0.heap.size ≤ k))) := by
 have hB0 : Below w0.heap.size w0 w0 := Below.refl _ _
 unfold ref3_Moved at h0
 refine calls_run Tryz.func52 rfl Tryz.ntmps52 kr ?_
 refine gv_sub [0, 1] (σ' := [(0, (.slice pa0_0 (length a_0) pc0_0)), (1, (.int .i64 n_1))]) kr ?_
 refine gv_seq <| gv_region <| pN 1 [4] [] ?_
 refine gv_nil <| gv_seq <| gv_region <| pN 1 [6] [(6, (.slice pa0_0 (length a_0) pc0_0))] ?_
 refine bindE h0 ?_; clear h0; intro r1 hr2 h0
 refine gv_call0 kr rfl kr enters74 (ref3_Ones_ok fuel pa0_0 pc0_0 a_0 w0 (fun k => X0 k) (fun k hk => (fun k (hk : X0 k) => ltl (hX0 k hk) hB0.size) k hk) ((hpa0_0.below hB0 hX0).wide (fun k hk => hk)) r1 hr2) ?_
 rintro v5 w3 ⟨hg4, a6, c7, rfl, ho8, hl9⟩
 have hl10 : ∀ g, blk a6 = some g → w0.heap.size ≤ g := fun g e => Nat.le_trans hB0.size (hl9 g e)
 refine pN 1 [5] [(5, (.slice a6 (length r1) c7))] ?_
 refine gv_nil <| gv_seq <| gv_block <| gv_seq <| gv_region <| gv_cut_ops (J := fun a w11 => w3 = w11 ∧ a.defers = [] ∧ a.tmps.size = 32 ∧ Ok [(1, (.int .i64 n_1)), (5, (.slice a6 (length r1) c7)), (8, (.bool ((((length r1 : Nat) : Int) == 0) || (decide (n_1 ≤ (IntKind.i64.wrap (0 - ((length r1 : Nat) : Int))))))))] a.tmps) ?_ ?_
 ·skip
  refine pN 4 [9, 10, 11, 12] [(12, (.bool (((length r1 : Nat) : Int) == 0)))] ?_
  refine gv_split (s := 12) (g := (((length r1 : Nat) : Int) == 0)) kr (fun hc12 => ?_) (fun hc12 => ?_)
  ·skip
   refine pN 7 [8, 13, 14, 15, 16, 17, 18] [(8, (.bool true))] ?_
   refine gv_nil <| gv_sub [1, 5, 8] (σ' := [(1, (.int .i64 n_1)), (5, (.slice a6 (length r1) c7)), (8, (.bool true))]) kr ?_
   refine gv_goal fun a hd hs hok => ⟨rfl, hd, hs, ?_⟩
   obtain ⟨q1, q5, q8, _⟩ := hok
   exact ⟨q1, q5, (by rw [hc12]; exact q8), trivial⟩
  ·skip
   refine pN 7 [8, 13, 14, 15, 16, 17, 18] [(8, (.bool (decide (n_1 ≤ (IntKind.i64.wrap (0 - ((length r1 : Nat) : Int)))))))] ?_
   refine gv_nil <| gv_sub [1, 5, 8] (σ' := [(1, (.int .i64 n_1)), (5, (.slice a6 (length r1) c7)), (8, (.bool (decide (n_1 ≤ (IntKind.i64.wrap (0 - ((length r1 : Nat) : Int)))))))]) kr ?_
   refine gv_goal fun a hd hs hok => ⟨rfl, hd, hs, ?_⟩
   obtain ⟨q1, q5, q8, _⟩ := hok
   exact ⟨q1, q5, (by rw [hc12]; exact q8), trivial⟩
 ·rintro a w11 ⟨e, hd, hs, hok⟩; subst e
  refine gv_in ?_ hd hs hok
  clear hd hs hok
  refine gv_cond (b := ((((length r1 : Nat) : Int) == 0) || (decide (n_1 ≤ (IntKind.i64.wrap (0 - ((length r1 : Nat) : Int))))))) kr (fun hc13 => ?_) (fun hc13 => ?_)
  ·replace h0 := ite_t hc13 h0
   refine gv_seq <| gv_region <| pN 1 [4] [(4, (.slice none (length ([] : List Int)) 0))] ?_
   refine gv_nil <| gv_cret ?_
   have e := sj h0; subst e
   refine gv_ret (gv_done [(.slice none (length ([] : List Int)) 0)] rfl ⟨kr, trivial⟩ ?_)
   have hB14 := bg hB0 hg4 nb
   exact ⟨grown_of_below hB14, none, 0, (fun _ => False), rfl, (Rd.nil (iE .i64) w3 (fun _ => False) none 0), (fun k hk => ⟨(fun _ h => h.elim) k hk, (fun _ h => h.elim) k hk⟩)⟩
  ·replace h0 := ite_f hc13 h0
   refine gv_seq <| gv_region <| pN 3 [19, 20, 21] [(19, (.bool (decide (n_1 < 0))))] ?_
   refine gv_nil <| gv_cond (b := (decide (n_1 < 0))) kr (fun hc15 => ?_) (fun hc15 => ?_)
   ·replace h0 := ite_t hc15 h0
    refine gv_seq <| gv_region <| pN 3 [22, 23, 24] [(22, (.slice a6 (length r1) c7)), (24, (.int .i64 (IntKind.i64.wrap (0 - n_1))))] ?_
    refine bindE h0 ?_; clear h0; intro x16 hx17 h0
    refine gv_ssl2 tE (t := 87) (e := 4) (xs := r1) (a := a6) (cap := c7) (lo := (some (.int .i64 (IntKind.i64.wrap (0 - n_1))))) (hi := none) (IntKind.i64.wrap (0 - n_1)) ((length r1 : Nat) : Int) x16 (fun e => by cases e) rfl rfl rfl kr kr Tryz.underlying87 kr (.inr ⟨_, rfl⟩) (.inl ⟨rfl, rfl⟩) hx17 (ho8.rd (Y := fun k => blk a6 = some k) (fun _ h => h.elim) (fun g e => e)).1 ?_
    intro a18 c19 hsub20
    have hr21 := hsub20 _ _ (ho8.rd (Y := fun k => blk a6 = some k) (fun _ h => h.elim) (fun g e => e))
    refine bindE h0 ?_; clear h0; intro r22 hr23 h0
    refine gv_call0 kr rfl kr enters45 (ref3_Binary_ok fuel a18 c19 x16 w3 (fun k => (fun k => blk a6 = some k) k) (fun k hk => (fun k (hk : blk a6 = some k) => ho8.lt k hk) k hk) (hr21.wide (fun k hk => hk)) r22 hr23) ?_
    rintro v26 w24 ⟨hg25, a27, c28, X30, rfl, ho29, hx31⟩
    have hx32 : ∀ k, X30 k → k < w24.heap.size := fun k hk => (hx31 k hk).1
    have hB34 := bg hB0 hg4 nb
    have hx33 : ∀ k, X30 k → X0 k ∨ w0.heap.size ≤ k := fun k hk => (hx31 k hk).2.elim (fun h => (fun k (hk : blk a6 = some k) => Or.inr (hl10 k hk)) k h) (fun h => .inr (Nat.le_trans hB34.size h))
    refine pN 1 [4] [(4, (.slice a27 (length r22) c28))] ?_
    refine gv_nil <| gv_cret ?_
    have e := sj h0; subst e
    refine gv_ret (gv_done [(.slice a27 (length r22) c28)] rfl ⟨kr, trivial⟩ ?_)
    have hB35 := bg hB34 hg25 nb
    exact ⟨grown_of_below hB35, a27, c28, X30, rfl, ho29, (fun k hk => ⟨hx32 k hk, hx33 k hk⟩)⟩
   ·replace h0 := ite_f hc15 h0
    refine gv_skip <| gv_blk <| gv_seq <| gv_region <| pN 1 [27] [(27, (.int .i64 n_1))] ?_
    refine bindE h0 ?_; clear h0; intro l36 hx37 h0
    refine gv_makeC (f := Value.bool) (hf := fun _ => rfl) (t := 87) (e := 4) (kl := .i64) (kc := .i64) (l := n_1) (c := n_1) (bytes := 1) false l36 (by decide) rfl rfl kr kr Tryz.underlying87 kr (by decide) hx37 ?_
    intro b38 w39 hg40 ho41 hbe42 hz43
    refine ⟨(fun e => by cases e), ?_⟩
    have hB45 := bg hB0 hg4 nb
    have hl44 : ∀ g, blk (some ⟨b38, 0, none⟩) = some g → w0.heap.size ≤ g := loo hbe42 hB45.size
    refine pN 1 [29] [(29, (.slice a6 (length r1) c7))] ?_
    refine bindE h0 ?_; clear h0; intro l46 hx47 h0
    have hk54 := ho8.grown hg40 (fun _ h => h.elim) nb
    refine gv_append tE (t := 87) (ty := 87) (e := 4) (a := (some ⟨b38, 0, none⟩)) (ax := a6) (cap := (n_1).toNat) (cx := c7) (xs := l36) (ys := r1) l46 (X := (fun _ => False)) (Y := (fun k => blk a6 = some k)) (by decide) rfl rfl kr kr Tryz.underlying87 info4 ho41 (hk54.rd (Y := fun k => blk a6 = some k) (fun _ h => h.elim) (fun g e => e)) hx47 (.inr fun _ _ _ _ _ h => h) (fun _ h => h.elim) ?_
    intro a48 c49 w50 hg51 ho52 hk53
    refine ⟨(fun e => by cases e), ?_⟩
    have hB56 := bg hB45 hg40 nb
    have hl55 : ∀ g, blk a48 = some g → w0.heap.size ≤ g := blk_step hk53 hl44 hB56.size
    have ap58 : ∀ g, blk (some ⟨b38, 0, none⟩) = some g → ¬ (fun k => blk a6 = some k) g := fun g e hx => nl ((lowo hbe42) g e) ((fun k (hk : blk a6 = some k) => ho8.lt k hk) _ hx)
    have ap57 : ∀ g, blk a48 = some g → ¬ (fun k => blk a6 = some k) g := blk_neX hk53 ap58 (fun k (hk : blk a6 = some k) => hk54.lt k hk)
    have ap60 : ∀ g, blk a6 = some g → ¬ (fun k => blk (some ⟨b38, 0, none⟩) = some k) g := fun g e hx => nl ((lowo hbe42) _ hx) ((fun k (hk : blk a6 = some k) => ho8.lt k hk) g e)
    have ap59 : ∀ g, blk a6 = some g → ¬ (fun k => blk a48 = some k) g := fun g e h => blk_rev hk53 (fun h => ((ap60) g e) h) (hk54.lt g e) h
    refine bindE h0 ?_; clear h0; intro r61 hr62 h0
    refine gv_call0 kr rfl kr enters45 (ref3_Binary_ok fuel a48 c49 l46 w50 (fun k => (fun k => blk a48 = some k) k) (fun k hk => (fun k (hk : blk a48 = some k) => ho52.lt k hk) k hk) ((ho52.rd (Y := fun k => blk a48 = some k) (fun _ h => h.elim) (fun g e => e)).wide (fun k hk => hk)) r61 hr62) ?_
    rintro v65 w63 ⟨hg64, a66, c67, X69, rfl, ho68, hx70⟩
    have hx71 : ∀ k, X69 k → k < w63.heap.size := fun k hk => (hx70 k hk).1
    have hB73 := bg hB56 hg51 hl44
    have hx72 : ∀ k, X69 k → X0 k ∨ w0.heap.size ≤ k := fun k hk => (hx70 k hk).2.elim (fun h => (fun k (hk : blk a48 = some k) => Or.inr (hl55 k hk)) k h) (fun h => .inr (Nat.le_trans hB73.size h))
    refine pN 1 [4] [(4, (.slice a66 (length r61) c67))] ?_
    refine gv_nil <| gv_cret ?_
    have e := sj h0; subst e
    refine gv_ret (gv_done [(.slice a66 (length r61) c67)] rfl ⟨kr, trivial⟩ ?_)
    have hB74 := bg hB73 hg64 nb
    exact ⟨grown_of_below hB74, a66, c67, X69, rfl, ho68, (fun k hk => ⟨hx71 k hk, hx72 k hk⟩)⟩

theorem ref3_Small_ok (fuel : Nat) (n_0 : Int) (w0 : World)  (r0 : (List Int)) (h0 : ref3_Small fuel n_0 = some r0) :
    Calls Tryz.prog 53 ([(.int .i64 n_0)] : List Value).toArray w0 (Ret fun v w' => w0.grownBy w' none ∧ ∃ (a0_0r : Option Addr) (c0_0r : Nat), v = tup [(.slice a0_0r (length r0) c0_0r)] ∧ Gv.Own (iE .i64) 3 w' (fun _ => False) a0_0r c0_0r r0 ∧ (∀ g, blk a0_0r = some g → w0.heap.size ≤ g)) := by
 have hB0 : Below w0.heap.size w0 w0 := Below.refl _ _
 unfold ref3_Small at h0
 refine calls_run Tryz.func53 rfl Tryz.ntmps53 kr ?_
 refine gv_sub [0] (σ' := [(0, (.int .i64 n_0))]) kr ?_
 refine gv_seq <| gv_region <| pN 1 [2] [] ?_
 refine gv_nil <| gv_seq <| gv_region <| pN 1 [3] [(3, (.slice none (length ([] : List Int)) 0))] ?_
 refine gv_nil <| gv_seq <| bindE h0 ?_; clear h0; intro j1 h1 h0
 refine gv_cut_code (J := fun a w2 => ∃ (a3_0j : Option Addr) (c3_0j : Nat), Below w0.heap.size w0 w2 ∧ w0.heap.size ≤ w2.heap.size ∧ Gv.Own (iE .i64) 3 w2 (fun _ => False) a3_0j c3_0j j1 ∧ (∀ g, blk a3_0j = some g → w0.heap.size ≤ g) ∧ a.defers = [] ∧ a.tmps.size = 14 ∧ Ok [(3, (.slice a3_0j (length j1) c3_0j))] a.tmps) ?_ ?_
 ·skip
  refine gv_block <| gv_loop (A := fun (s3 : (Int × (List Int))) a w4 => ∃ (a3_0j : Option Addr) (c3_0j : Nat), Below w0.heap.size w0 w4 ∧ w0.heap.size ≤ w4.heap.size ∧ Gv.Own (iE .i64) 3 w4 (fun _ => False) a3_0j c3_0j s3.2 ∧ (∀ g, blk a3_0j = some g → w0.heap.size ≤ g) ∧ a.defers = [] ∧ a.tmps.size = 14 ∧ Ok [(0, (.int .i64 s3.1)), (3, (.slice a3_0j (length s3.2) c3_0j))] a.tmps) h1 ?_ ?_
  ·intro a hd hs hok
   exact ⟨none, 0, hB0, nrf, (Gv.Own.nil (iE .i64) 3 w0 (fun _ => False)), (fun _ h => by cases h), hd, hs, okp [0, 3] hok⟩
  ·rintro s3 r2 h2 hR2 a w4 ⟨a7, c8, hB5, hz6, ho9, hl10, hd, hs, hok⟩
   refine gv_in ?_ hd hs hok
   clear hd hs hok
   refine gv_seq <| gv_seq <| gv_region <| pN 2 [4, 5] [(5, (.bool (decide (s3.1 > 0))))] ?_
   refine gv_nil <| gv_cond (b := (decide (s3.1 > 0))) kr (fun hc11 => ?_) (fun hc11 => ?_)
   ·replace h2 := ite_t hc11 h2
    refine gv_skip <| gv_seq <| gv_block <| gv_region <| pN 3 [8, 9, 10] [(8, (.slice a7 (length s3.2) c8)), (10, (.int .i64 ((s3.1).tmod 65536)))] ?_
    refine gv_new0 (fun b => .slice (some ⟨b, 0, none⟩) 1 1) #[(.int .i64 ((s3.1).tmod 65536))] 3 kr kr ?_
    intro b12 w13 hg14 hb15 hbe16 hz17
    have ho18 : Gv.Own (iE .i64) 3 w13 (fun _ => False) (some ⟨b12, 0, none⟩) 1 ([((s3.1).tmod 65536)] : List Int) := Box.ownE hb15 ⟨[(.int .i64 ((s3.1).tmod 65536))], [], rfl, rfl, rfl⟩ (show 1 ≤ maxLen by decide) (fun h => h)
    have hl19 : ∀ g, blk (some ⟨b12, 0, none⟩) = some g → w0.heap.size ≤ g := loo hbe16 hB5.size
    refine bindE h2 ?_; clear h2; intro l23 hx24 h2
    have hk31 := ho9.grown hg14 (fun _ h => h.elim) nb
    refine gv_append (iE .i64) (t := 55) (ty := 55) (e := 3) (a := a7) (ax := (some ⟨b12, 0, none⟩)) (cap := c8) (cx := 1) (xs := s3.2) (ys := ([((s3.1).tmod 65536)] : List Int)) l23 (X := (fun _ => False)) (Y := (fun k => blk (some ⟨b12, 0, none⟩) = some k)) (by decide) rfl rfl kr kr Tryz.underlying55 info3 hk31 (ho18.rd (Y := fun k => blk (some ⟨b12, 0, none⟩) = some k) (fun _ h => h.elim) (fun g e => e)) hx24 (.inr fun _ _ _ _ _ h => h) (fun _ h => h.elim) ?_
    intro a25 c26 w27 hg28 ho29 hk30
    refine ⟨(fun e => by cases e), ?_⟩
    have hB33 := bg hB5 hg14 nb
    have hl32 : ∀ g, blk a25 = some g → w0.heap.size ≤ g := blk_step hk30 hl10 hB33.size
    have ap35 : ∀ g, blk a7 = some g → ¬ (fun k => blk (some ⟨b12, 0, none⟩) = some k) g := fun g e hx => nl ((lowo hbe16) _ hx) ((fun k (hk : blk a7 = some k) => ho9.lt k hk) g e)
    have ap34 : ∀ g, blk a25 = some g → ¬ (fun k => blk (some ⟨b12, 0, none⟩) = some k) g := blk_neX hk30 ap35 (fun k (hk : blk (some ⟨b12, 0, none⟩) = some k) => ho18.lt k hk)
    have ap37 : ∀ g, blk (some ⟨b12, 0, none⟩) = some g → ¬ (fun k => blk a7 = some k) g := fun g e hx => nl ((lowo hbe16) g e) ((fun k (hk : blk a7 = some k) => ho9.lt k hk) _ hx)
    have ap36 : ∀ g, blk (some ⟨b12, 0, none⟩) = some g → ¬ (fun k => blk a25 = some k) g := fun g e h => blk_rev hk30 (fun h => ((ap37) g e) h) (ho18.lt g e) h
    refine pN 1 [3] [(3, (.slice a25 (length l23) c26))] ?_
    refine gv_nil <| gv_blk <| gv_region <| pN 3 [0, 6, 7] [(0, (.int .i64 (IntKind.i64.wrap ((s3.1).tdiv 65536))))] ?_
    refine gv_nil ?_
    have e := sj h2; subst e
    refine gv_goal fun a hd hs hok => ?_
    have hB38 := bg hB33 hg28 hl10
    have hz39 := (nt (nt hz6 hg14.size) hg28.size)
    exact ⟨((IntKind.i64.wrap ((s3.1).tdiv 65536)), l23), rfl, a25, c26, hB38, hz39, ho29, hl32, hd, hs, okp [0, 3] hok⟩
   ·replace h2 := ite_f hc11 h2
    refine gv_cexit <| gv_exit rfl ?_
    have e := sj h2; subst e
    replace h1 := congrArg some (hR2 _ rfl)
    have e := sj h1; subst e
    refine gv_goal fun a hd hs hok => ?_
    have hz40 := hz6
    exact ⟨a7, c8, hB5, hz40, ho9, hl10, hd, hs, okp [3] hok⟩
 ·rintro a w2 ⟨a43, c44, hB41, hz42, ho45, hl46, hd, hs, hok⟩
  refine gv_in ?_ hd hs hok
  clear hd hs hok
  refine gv_seq <| gv_region <| pN 2 [2, 13] [(2, (.slice a43 (length j1) c44))] ?_
  refine gv_nil <| gv_cret ?_
  have e := sj h0; subst e
  refine gv_ret (gv_done [(.slice a43 (length j1) c44)] rfl ⟨kr, trivial⟩ ?_)
  exact ⟨grown_of_below hB41, a43, c44, rfl, ho45, hl46⟩

theorem ref3_Int_Moved_ok (fuel : Nat) (pa0_0 : Option Addr) (pc0_0 : Nat) (a_0 : (Bool × (List Int))) (n_1 : Int) (w0 : World) (X0 : Nat → Prop) (hX0 : ∀ k, X0 k → k < w0.heap.size) (hpa0_0 : Rd (iE .i64) w0 X0 pa0_0 pc0_0 a_0.2) (r0 : (Bool × (List Int))) (h0 : ref3_Int_Moved fuel a_0 n_1 = some r0) :
    Calls Tryz.prog 28 ([(.agg #[(.bool a_0.1), (.slice pa0_0 (length a_0.2) pc0_0)]), (.int .i64 n_1)] : List Value).toArray w0 (Ret fun v w' => w0.grownBy w' none ∧ ∃ (a0_0r : Option Addr) (c0_0r : Nat), ∃ (X0_0r : Nat → Prop), v = tup [(.agg #[(.bool r0.1), (.slice a0_0r (length r0.2) c0_0r)])] ∧ Rd (iE .i64) w' X0_0r a0_0r c0_0r r0.2 ∧ (∀ k, X0_0r k → k < w'.heap.size ∧ (X0 k ∨ w0.heap.size ≤ k))) := by
 have hB0 : Below w0.heap.size w0 w0 := Below.refl _ _
 unfold ref3_Int_Moved at h0
 refine calls_run Tryz.func28 rfl Tryz.ntmps28 kr ?_
 refine gv_sub [0, 1] (σ' := [(0, (.agg #[(.bool a_0.1), (.slice pa0_0 (length a_0.2) pc0_0)])), (1, (.int .i64 n_1))]) kr ?_
 refine gv_seq <| gv_region <| gv_new0 (fun b => .pointer (some ⟨b, 0, none⟩)) #[(.bool a_0.1), (.slice pa0_0 (length a_0.2) pc0_0)] 57 kr kr ?_
 intro b1 w2 hg3 hb4 hbe5 hz6
 refine gv_new0 (fun b => .pointer (some ⟨b, 0, none⟩)) #[(.bool false), (.slice none (length ([] : List Int)) 0)] 57 kr kr ?_
 intro b7 w8 hg9 hb10 hbe11 hz12
 refine gv_nil <| gv_seq <| gv_seq <| gv_region <| bindE h0 ?_; clear h0; intro j13 h1 h0
 refine gv_cut_ops (J := fun a w14 => Below w0.heap.size w0 w14 ∧ w8.heap.size ≤ w14.heap.size ∧ Box w14 b1 57 #[(.bool a_0.1), (.slice pa0_0 (length a_0.2) pc0_0)] ∧ Box w14 b7 57 #[(.bool false), (.slice none (length ([] : List Int)) 0)] ∧ a.defers = [] ∧ a.tmps.size = 28 ∧ Ok [(1, (.int .i64 n_1)), (2, (bp b1)), (4, (bp b7)), (11, (.bool j13))] a.tmps) ?_ ?_
 ·skip
  refine pN 1 [5] [(5, (bp b1))] ?_
  have hk15 := hb4.grown hg9 nb
  refine gv_load (t := 4) (A := ⟨b1, 0, none⟩) (.bool a_0.1) [] (fun e => by cases e) rfl rfl rfl kr kr kr (inw0 (hk15.cell 0 rfl)) rfl ?_
  refine pN 2 [7, 8] [(8, (.bool (!a_0.1)))] ?_
  refine gv_split (s := 8) (g := (!a_0.1)) kr (fun hc16 => ?_) (fun hc16 => ?_)
  ·skip
   replace h1 := ite_t hc16 h1
   refine pN 3 [9, 10, 11] [(11, (.bool true))] ?_
   refine gv_nil ?_
   have e := sj h1; subst e
   refine gv_goal fun a hd hs hok => ?_
   have hg17 := (grown_trans hg3 hg9)
   have hB18 := bg hB0 hg17 nb
   exact ⟨hB18, nrf, hk15, hb10, hd, hs, okp [1, 2, 4, 11] hok⟩
  ·skip
   replace h1 := ite_f hc16 h1
   refine pN 3 [9, 10, 11] [(11, (.bool (decide (n_1 ≥ 0))))] ?_
   refine gv_nil ?_
   have e := sj h1; subst e
   refine gv_goal fun a hd hs hok => ?_
   have hg19 := (grown_trans hg3 hg9)
   have hB20 := bg hB0 hg19 nb
   exact ⟨hB20, nrf, hk15, hb10, hd, hs, okp [1, 2, 4, 11] hok⟩
 ·rintro a w14 ⟨hB21, hz22, hb23, hb24, hd, hs, hok⟩
  refine gv_in ?_ hd hs hok
  clear hd hs hok
  clear hz22 hz12 hb10 hg9 hz6
  refine gv_cond (b := j13) kr (fun hc25 => ?_) (fun hc25 => ?_)
  ·replace h0 := ite_t hc25 h0
   refine gv_seq <| gv_drawA kr ?_
   intro w26 hg27
   refine gv_pre [0, 2, 4] (bA 8 [0, 2, 4]) 5 kr kr ?_
   refine pN 3 [12, 14, 16] [(12, (bp b1)), (14, (.pointer (some ⟨b1, 1, none⟩))), (16, (.int .i64 n_1))] ?_
   refine gv_nil <| gv_goA ?_
   refine gv_stage (Cls w26 []) [1, 3, 5] [(1, some true), (3, some true), (5, some false)] (bA 8 [0, 1, 2, 3, 4, 5]) 2 kr kr (Cls.refl _ _) ?_
   have hC28 := Cls.refl w26 []
   have hk29 := hb23.grown hg27 nb
   refine gv_load (t := 4) (A := ⟨b1, 0, none⟩) (.bool a_0.1) [] (fun e => by cases e) rfl rfl rfl kr kr kr (inw1 fun w' hC' => ((hC'.box hk29 nm_nil).cell 0 rfl)) rfl ?_
   refine gv_load (t := 55) (A := ⟨b1, 1, none⟩) (.slice pa0_0 (length a_0.2) pc0_0) [] (fun e => by cases e) rfl rfl rfl kr kr kr (inw1 fun w' hC' => ((hC'.box hk29 nm_nil).cell 1 rfl)) rfl ?_
   refine bindE h0 ?_; clear h0; intro r30 hr31 h0
   have hB32 := bg hB21 hg27 nb
   refine gv_call (f := 52) (vs := [(.slice pa0_0 (length a_0.2) pc0_0), (.int .i64 n_1)]) (cap := []) _ (by decide) rfl rfl rfl kr kr enters52 (ref3_Moved_ok fuel pa0_0 pc0_0 a_0.2 n_1 w26 (fun k => X0 k) (fun k hk => (fun k (hk : X0 k) => ltl (hX0 k hk) hB32.size) k hk) ((hpa0_0.below hB32 hX0).wide (fun k hk => hk)) r30 hr31) ?_
   rintro v35 w33 ⟨hg34, a36, c37, X39, rfl, ho38, hx40⟩
   refine ⟨(fun _ => hC28.grown hg34 nb), ?_⟩
   have hx41 : ∀ k, X39 k → k < w33.heap.size := fun k hk => (hx40 k hk).1
   have hx42 : ∀ k, X39 k → X0 k ∨ w0.heap.size ≤ k := fun k hk => (hx40 k hk).2.elim (fun h => (fun k (hk : X0 k) => Or.inl hk) k h) (fun h => .inr (Nat.le_trans hB32.size h))
   refine gv_nil <| gv_goA ?_
   refine gv_pre [6] (bA 8 [0, 1, 2, 3, 4, 5, 6]) 1 kr kr ?_
   refine pN 1 [18] [(18, (.agg #[(.bool a_0.1), (.slice a36 (length r30) c37)]))] ?_
   refine gv_nil <| gv_goA ?_
   refine gv_stage (fun _ => True) [7] [(7, some false)] (bA 8 [0, 1, 2, 3, 4, 5, 6, 7]) 0 kr kr trivial ?_
   have hg47 := (grown_trans hg27 hg34)
   have hk48 := hb24.grown hg47 nb
   refine gv_store (t := 57) (b := b7) (off := 0) (v := (.agg #[(.bool a_0.1), (.slice a36 (length r30) c37)])) (t' := 57) (cs := #[(.bool false), (.slice none (length ([] : List Int)) 0)]) #[(.bool a_0.1), (.slice a36 (length r30) c37)] (by decide) rfl rfl kr kr kr (by intro u hu; simp [Value.cells] at hu; rcases hu with rfl | rfl <;> rfl) (show 0 + 2 ≤ 2 by decide) (by rfl) hk48 ?_
   intro w43 hg44 hb45 hz46
   refine ⟨(fun _ => trivial), ?_⟩
   refine gv_nil <| gv_goA ?_
   refine gv_stageE kr ?_
   refine gv_cret ?_
   have e := sj h0; subst e
   refine gv_ret (gv_done [(.agg #[(.bool a_0.1), (.slice a36 (length r30) c37)])] rfl ⟨⟨⟨b7, 0, none⟩, kr, run_loadVar_row w43 b7 _ 57 _ _ _ hb45 Tryz.underlying57 rfl kr⟩, trivial⟩ ?_)
   have hB49 := bg hB32 hg34 nb
   have hB50 := bg hB0 hg3 nb
   have hlo51 : w0.heap.size ≤ b7 := lob hbe11 hB50.size
   have hB52 := bg hB49 hg44 (rowlo hlo51)
   have hk53 := hb24.grown hg27 nb
   have ap54 : ¬ X39 b7 := fun h => ((hx40 _ h).2.elim (fun h => ((fun (hx : X0 b7) => nl hlo51 (hX0 _ hx)))  h) (fun h => nl h (hk53.lt)))
   have hk55 := ho38.grown hg44 hx41 (rowne ap54)
   have hx56 := ltx hx41 hg44.size
   exact ⟨grown_of_below hB52, a36, c37, X39, rfl, hk55, (fun k hk => ⟨hx56 k hk, hx42 k hk⟩)⟩
  ·replace h0 := ite_f hc25 h0
   refine gv_skip <| gv_seq <| gv_drawA kr ?_
   intro w57 hg58
   refine gv_pre [0, 4] (bA 10 [0, 4]) 8 kr kr ?_
   refine pN 2 [19, 23] [(19, (.pointer (some ⟨b1, 1, none⟩))), (23, (.int .i64 n_1))] ?_
   refine gv_nil <| gv_goA ?_
   refine gv_stage (Cls w57 []) [1, 2] [(1, some true), (2, some false)] (bA 10 [0, 1, 2, 4]) 6 kr kr (Cls.refl _ _) ?_
   have hC59 := Cls.refl w57 []
   have hk60 := hb23.grown hg58 nb
   refine gv_load (t := 55) (A := ⟨b1, 1, none⟩) (.slice pa0_0 (length a_0.2) pc0_0) [] (fun e => by cases e) rfl rfl rfl kr kr kr (inw1 fun w' hC' => ((hC'.box hk60 nm_nil).cell 1 rfl)) rfl ?_
   refine bindE h0 ?_; clear h0; intro r61 hr62 h0
   refine gv_call (f := 53) (vs := [(.int .i64 1)]) (cap := []) _ (by decide) rfl rfl rfl kr kr enters53 (ref3_Small_ok fuel 1 w57  r61 hr62) ?_
   rintro v65 w63 ⟨hg64, a66, c67, rfl, ho68, hl69⟩
   refine ⟨(fun _ => hC59.grown hg64 nb), ?_⟩
   have hB71 := bg hB21 hg58 nb
   have hl70 : ∀ g, blk a66 = some g → w0.heap.size ≤ g := fun g e => Nat.le_trans hB71.size (hl69 g e)
   refine gv_nil <| gv_goA ?_
   refine gv_stage (fun _ => True) [3] [(3, some false)] (bA 10 [0, 1, 2, 3, 4]) 5 kr kr trivial ?_
   refine bindE h0 ?_; clear h0; intro r72 hr73 h0
   have hB74 := bg hB71 hg64 nb
   refine gv_call (f := 48) (vs := [(.slice pa0_0 (length a_0.2) pc0_0), (.slice a66 (length r61) c67)]) (cap := []) _ (by decide) rfl rfl rfl kr kr enters48 (ref3_Minus_ok fuel pa0_0 pc0_0 a_0.2 a66 c67 r61 w63 (fun k => X0 k ∨ (fun k => blk a66 = some k) k) (fun k hk => (hk).elim (fun h => (fun k (hk : X0 k) => ltl (hX0 k hk) hB74.size) k h) (fun h => (fun k (hk : blk a66 = some k) => ho68.lt k hk) k h)) ((hpa0_0.below hB74 hX0).wide (fun k hk => (.inl hk))) ((ho68.rd (Y := fun k => blk a66 = some k) (fun _ h => h.elim) (fun g e => e)).wide (fun k hk => (.inr hk))) r72 hr73) ?_
   rintro v77 w75 ⟨hg76, a78, c79, X81, rfl, ho80, hx82⟩
   refine ⟨(fun _ => trivial), ?_⟩
   have hx83 : ∀ k, X81 k → k < w75.heap.size := fun k hk => (hx82 k hk).1
   have hx84 : ∀ k, X81 k → X0 k ∨ w0.heap.size ≤ k := fun k hk => (hx82 k hk).2.elim (fun h => (h).elim (fun h => (fun k (hk : X0 k) => Or.inl hk) k h) (fun h => (fun k (hk : blk a66 = some k) => Or.inr (hl70 k hk)) k h)) (fun h => .inr (Nat.le_trans hB74.size h))
   clear hr73 hB71 hr62 hC59 hc25 hb23 hB21 hb4
   refine gv_nil <| gv_goA ?_
   refine gv_stage (fun _ => True) [5] [(5, some false)] (bA 10 [0, 1, 2, 3, 4, 5]) 4 kr kr trivial ?_
   refine bindE h0 ?_; clear h0; intro r85 hr86 h0
   refine gv_call (f := 52) (vs := [(.slice a78 (length r72) c79), (.int .i64 n_1)]) (cap := []) _ (by decide) rfl rfl rfl kr kr enters52 (ref3_Moved_ok fuel a78 c79 r72 n_1 w75 (fun k => X81 k) (fun k hk => hx83 k hk) (ho80.wide (fun k hk => hk)) r85 hr86) ?_
   rintro v89 w87 ⟨hg88, a90, c91, X93, rfl, ho92, hx94⟩
   refine ⟨(fun _ => trivial), ?_⟩
   have hx95 : ∀ k, X93 k → k < w87.heap.size := fun k hk => (hx94 k hk).1
   have hB97 := bg hB74 hg76 nb
   have hx96 : ∀ k, X93 k → X0 k ∨ w0.heap.size ≤ k := fun k hk => (hx94 k hk).2.elim (fun h => hx84 k h) (fun h => .inr (Nat.le_trans hB97.size h))
   refine gv_nil <| gv_goA ?_
   refine gv_stage (fun _ => True) [6] [(6, some false)] (bA 10 [0, 1, 2, 3, 4, 5, 6]) 3 kr kr trivial ?_
   refine bindE h0 ?_; clear h0; intro r98 hr99 h0
   refine gv_call (f := 53) (vs := [(.int .i64 1)]) (cap := []) _ (by decide) rfl rfl rfl kr kr enters53 (ref3_Small_ok fuel 1 w87  r98 hr99) ?_
   rintro v102 w100 ⟨hg101, a103, c104, rfl, ho105, hl106⟩
   refine ⟨(fun _ => trivial), ?_⟩
   have hB108 := bg hB97 hg88 nb
   have hl107 : ∀ g, blk a103 = some g → w0.heap.size ≤ g := fun g e => Nat.le_trans hB108.size (hl106 g e)
   refine gv_nil <| gv_goA ?_
   refine gv_stage (fun _ => True) [7] [(7, some false)] (bA 10 [0, 1, 2, 3, 4, 5, 6, 7]) 2 kr kr trivial ?_
   refine bindE h0 ?_; clear h0; intro r109 hr110 h0
   have hx111 := ltx hx95 hg101.size
   have hk112 := ho92.grown hg101 hx95 nb
   refine gv_call (f := 46) (vs := [(.slice a90 (length r85) c91), (.slice a103 (length r98) c104)]) (cap := []) _ (by decide) rfl rfl rfl kr kr enters46 (ref3_Plus_ok fuel a90 c91 r85 a103 c104 r98 w100 (fun k => X93 k ∨ (fun k => blk a103 = some k) k) (fun k hk => (hk).elim (fun h => hx111 k h) (fun h => (fun k (hk : blk a103 = some k) => ho105.lt k hk) k h)) (hk112.wide (fun k hk => (.inl hk))) ((ho105.rd (Y := fun k => blk a103 = some k) (fun _ h => h.elim) (fun g e => e)).wide (fun k hk => (.inr hk))) r109 hr110) ?_
   rintro v115 w113 ⟨hg114, a116, c117, X119, rfl, ho118, hx120⟩
   refine ⟨(fun _ => trivial), ?_⟩
   have hx121 : ∀ k, X119 k → k < w113.heap.size := fun k hk => (hx120 k hk).1
   have hB123 := bg hB108 hg101 nb
   have hx122 : ∀ k, X119 k → X0 k ∨ w0.heap.size ≤ k := fun k hk => (hx120 k hk).2.elim (fun h => (h).elim (fun h => hx96 k h) (fun h => (fun k (hk : blk a103 = some k) => Or.inr (hl107 k hk)) k h)) (fun h => .inr (Nat.le_trans hB123.size h))
   refine gv_nil <| gv_goA ?_
   refine gv_pre [8] (bA 10 [0, 1, 2, 3, 4, 5, 6, 7, 8]) 1 kr kr ?_
   refine pN 1 [27] [(27, (.agg #[(.bool true), (.slice a116 (length r109) c117)]))] ?_
   refine gv_nil <| gv_goA ?_
   refine gv_stage (fun _ => True) [9] [(9, some false)] (bA 10 [0, 1, 2, 3, 4, 5, 6, 7, 8, 9]) 0 kr kr trivial ?_
   have hg128 := (grown_trans (grown_trans (grown_trans (grown_trans (grown_trans hg58 hg64) hg76) hg88) hg101) hg114)
   have hk129 := hb24.grown hg128 nb
   refine gv_store (t := 57) (b := b7) (off := 0) (v := (.agg #[(.bool true), (.slice a116 (length r109) c117)])) (t' := 57) (cs := #[(.bool false), (.slice none (length ([] : List Int)) 0)]) #[(.bool true), (.slice a116 (length r109) c117)] (by decide) rfl rfl kr kr kr (by intro u hu; simp [Value.cells] at hu; rcases hu with rfl | rfl <;> rfl) (show 0 + 2 ≤ 2 by decide) (by rfl) hk129 ?_
   intro w124 hg125 hb126 hz127
   refine ⟨(fun _ => trivial), ?_⟩
   refine gv_nil <| gv_goA ?_
   refine gv_stageE kr ?_
   refine gv_cret ?_
   have e := sj h0; subst e
   refine gv_ret (gv_done [(.agg #[(.bool true), (.slice a116 (length r109) c117)])] rfl ⟨⟨⟨b7, 0, none⟩, kr, run_loadVar_row w124 b7 _ 57 _ _ _ hb126 Tryz.underlying57 rfl kr⟩, trivial⟩ ?_)
   have hB130 := bg hB123 hg114 nb
   have hB131 := bg hB0 hg3 nb
   have hlo132 : w0.heap.size ≤ b7 := lob hbe11 hB131.size
   have hB133 := bg hB130 hg125 (rowlo hlo132)
   have hk134 := hb24.grown hg58 nb
   have ap135 : ¬ (fun k => blk a66 = some k) b7 := fun hx => nl ((show ∀ k, blk a66 = some k → w57.heap.size ≤ k from hl69) _ hx) ((ltb hk134) _ rfl)
   have hk136 := hk134.grown hg64 nb
   have ap137 : ¬ X81 b7 := fun h => ((hx82 _ h).2.elim (fun h => (h).elim (fun h => ((fun (hx : X0 b7) => nl hlo132 (hX0 _ hx)))  h) (fun h => (ap135)  h)) (fun h => nl h (hk136.lt)))
   have hk138 := hk136.grown hg76 nb
   have ap139 : ¬ X93 b7 := fun h => ((hx94 _ h).2.elim (fun h => (ap137)  h) (fun h => nl h (hk138.lt)))
   have hk140 := hk138.grown hg88 nb
   have ap141 : ¬ (fun k => blk a103 = some k) b7 := fun hx => nl ((show ∀ k, blk a103 = some k → w87.heap.size ≤ k from hl106) _ hx) ((ltb hk140) _ rfl)
   have hk142 := hk140.grown hg101 nb
   have ap143 : ¬ X119 b7 := fun h => ((hx120 _ h).2.elim (fun h => (h).elim (fun h => (ap139)  h) (fun h => (ap141)  h)) (fun h => nl h (hk142.lt)))
   have hk144 := ho118.grown hg125 hx121 (rowne ap143)
   have hx145 := ltx hx121 hg125.size
   exact ⟨grown_of_below hB133, a116, c117, X119, rfl, hk144, (fun k hk => ⟨hx145 k hk, hx122 k hk⟩)⟩

theorem ref4_bounds_ok (fuel : Nat) (code_0 : Int) (w0 : World)  (r0 : ((Bool × (List Int)) × (Bool × (List Int)))) (h0 : ref4_bounds fuel code_0 = some r0) :
    Calls Tryz.prog 26 ([(.int .u8 code_0)] : List Value).toArray w0 (Ret fun v w' => w0.grownBy w' none ∧ ∃ (a0_0r : Option Addr) (c0_0r : Nat), ∃ (X0_0r : Nat → Prop), ∃ (a1_0r : Option Addr) (c1_0r : Nat), ∃ (X1_0r : Nat → Prop), v = tup [(.agg #[(.bool r0.1.1), (.slice a0_0r (length r0.1.2) c0_0r)]), (.agg #[(.bool r0.2.1), (.slice a1_0r (length r0.2.2) c1_0r)])] ∧ Rd (iE .i64) w' X0_0r a0_0r c0_0r r0.1.2 ∧ (∀ k, X0_0r k → k < w'.heap.size ∧ ((fun _ => False) k ∨ w0.heap.size ≤ k)) ∧ Rd (iE .i64) w' X1_0r a1_0r c1_0r r0.2.2 ∧ (∀ k, X1_0r k → k < w'.heap.size ∧ ((fun _ => False) k ∨ w0.heap.size ≤ k))) := by
 have hB0 : Below w0.heap.size w0 w0 := Below.refl _ _
 unfold ref4_bounds at h0
 refine calls_run Tryz.func26 rfl Tryz.ntmps26 kr ?_
 refine gv_sub [0] (σ' := [(0, (.int .u8 code_0))]) kr ?_
 refine gv_seq <| gv_region <| gv_new0 (fun b => .pointer (some ⟨b, 0, none⟩)) #[(.bool false), (.slice none (length ([] : List Int)) 0)] 57 kr kr ?_
 intro b1 w2 hg3 hb4 hbe5 hz6
 refine gv_new0 (fun b => .pointer (some ⟨b, 0, none⟩)) #[(.bool false), (.slice none (length ([] : List Int)) 0)] 57 kr kr ?_
 intro b7 w8 hg9 hb10 hbe11 hz12
 refine gv_nil <| gv_seq <| gv_region <| pN 1 [7] [(7, (.int .u8 code_0))] ?_
 refine bindE h0 ?_; clear h0; intro r13 hr14 h0
 refine gv_call0 kr rfl kr enters18 (ref4_widthOf_ok fuel code_0 w8  r13 hr14) ?_
 rintro v17 w15 ⟨hg16, rfl⟩
 refine pN 2 [4, 9] [(4, (.int .i64 (IntKind.i64.wrap (8 * r13))))] ?_
 refine gv_nil <| gv_seq <| gv_seq <| gv_region <| pN 2 [10, 11] [(11, (.bool (code_0 == 118)))] ?_
 refine gv_nil <| bindE h0 ?_; clear h0; intro j18 h1 h0
 refine gv_cut_code (J := fun a w19 => Below w0.heap.size w0 w19 ∧ w15.heap.size ≤ w19.heap.size ∧ Box w19 b1 57 #[(.bool false), (.slice none (length ([] : List Int)) 0)] ∧ Box w19 b7 57 #[(.bool false), (.slice none (length ([] : List Int)) 0)] ∧ a.defers = [] ∧ a.tmps.size = 30 ∧ Ok [(0, (.int .u8 code_0)), (2, (bp b1)), (3, (bp b7)), (4, (.int .i64 j18))] a.tmps) ?_ ?_
 ·skip
  refine gv_cond (b := (code_0 == 118)) kr (fun hc20 => ?_) (fun hc20 => ?_)
  ·replace h1 := ite_t hc20 h1
   refine gv_region <| pN 1 [4] [(4, (.int .i64 64))] ?_
   refine gv_nil ?_
   have e := sj h1; subst e
   refine gv_goal fun a hd hs hok => ?_
   have hg21 := (grown_trans (grown_trans hg3 hg9) hg16)
   have hB22 := bg hB0 hg21 nb
   have hg23 := (grown_trans hg9 hg16)
   have hk24 := hb4.grown hg23 nb
   have hk25 := hb10.grown hg16 nb
   exact ⟨hB22, nrf, hk24, hk25, hd, hs, okp [0, 2, 3, 4] hok⟩
  ·replace h1 := ite_f hc20 h1
   refine gv_skip ?_
   have e := sj h1; subst e
   refine gv_goal fun a hd hs hok => ?_
   have hg26 := (grown_trans (grown_trans hg3 hg9) hg16)
   have hB27 := bg hB0 hg26 nb
   have hg28 := (grown_trans hg9 hg16)
   have hk29 := hb4.grown hg28 nb
   have hk30 := hb10.grown hg16 nb
   exact ⟨hB27, nrf, hk29, hk30, hd, hs, okp [0, 2, 3, 4] hok⟩
 ·rintro a w19 ⟨hB31, hz32, hb33, hb34, hd, hs, hok⟩
  refine gv_in ?_ hd hs hok
  clear hd hs hok
  clear hz32 hg16 hr14 hz12 hb10 hg9 hz6
  refine gv_seq <| gv_region <| bindE h0 ?_; clear h0; intro r35 hr36 h0
  refine gv_call0 kr rfl kr enters20 (ref3_Number_ok fuel 1 w19  r35 hr36) ?_
  rintro v39 w37 ⟨hg38, a40, c41, X43, rfl, ho42, hx44⟩
  have hx45 : ∀ k, X43 k → k < w37.heap.size := fun k hk => (hx44 k hk).1
  have hx46 : ∀ k, X43 k → (fun _ => False) k ∨ w0.heap.size ≤ k := fun k hk => (hx44 k hk).2.elim (fun h => h.elim) (fun h => .inr (Nat.le_trans hB31.size h))
  refine gv_new0 (fun b => .pointer (some ⟨b, 0, none⟩)) #[(.bool false), (.slice none (length ([] : List Int)) 0)] 57 kr kr ?_
  intro b47 w48 hg49 hb50 hbe51 hz52
  refine gv_store0 57 0 (.agg #[(.bool r35.1), (.slice a40 (length r35.2) c41)]) #[(.bool r35.1), (.slice a40 (length r35.2) c41)] hb50 kr kr kr ?_
  intro w53 hg54 hb55 hz56
  refine gv_nil <| gv_seq <| gv_seq <| gv_region <| pN 2 [13, 14] [(14, (.bool (decide (code_0 < 97))))] ?_
  refine gv_nil <| gv_cond (b := (decide (code_0 < 97))) kr (fun hc57 => ?_) (fun hc57 => ?_)
  ·replace h0 := ite_t hc57 h0
   refine gv_seq <| gv_region <| pN 1 [15] [(15, (.agg #[(.bool false), (.slice none (length ([] : List Int)) 0)]))] ?_
   refine gv_loadBox (t := 57) (b := b47) (t' := 57) (fr := (0, 0)) #[(.bool r35.1), (.slice a40 (length r35.2) c41)] [] (fun e => by cases e) rfl rfl rfl kr kr kr kr (inw0 hb55) rfl ?_
   refine pN 1 [17] [(17, (.int .i64 j18))] ?_
   refine bindE h0 ?_; clear h0; intro r58 hr59 h0
   have hx60 := ltx (ltx hx45 hg49.size) hg54.size
   have ap61 : ¬ X43 b47 := fun hx => nl ((lowb hbe51) _ rfl) (hx45 _ hx)
   have hx62 := ltx hx45 hg49.size
   have hk63 := (ho42.grown hg49 hx45 nb).grown hg54 hx62 (rowne ap61)
   refine gv_call0 kr rfl kr enters28 (ref3_Int_Moved_ok fuel a40 c41 (r35.1, r35.2) j18 w53 (fun k => X43 k) (fun k hk => hx60 k hk) (hk63.wide (fun k hk => hk)) r58 hr59) ?_
   rintro v66 w64 ⟨hg65, a67, c68, X70, rfl, ho69, hx71⟩
   have hx72 : ∀ k, X70 k → k < w64.heap.size := fun k hk => (hx71 k hk).1
   have hg74 := (grown_trans hg38 hg49)
   have hB75 := bg hB31 hg74 nb
   have hB76 := bg hB31 hg38 nb
   have hlo77 : w0.heap.size ≤ b47 := lob hbe51 hB76.size
   have hB78 := bg hB75 hg54 (rowlo hlo77)
   have hx73 : ∀ k, X70 k → (fun _ => False) k ∨ w0.heap.size ≤ k := fun k hk => (hx71 k hk).2.elim (fun h => hx46 k h) (fun h => .inr (Nat.le_trans hB78.size h))
   refine bindE h0 ?_; clear h0; intro r79 hr80 h0
   refine gv_call0 kr rfl kr enters20 (ref3_Number_ok fuel (-1) w64  r79 hr80) ?_
   rintro v83 w81 ⟨hg82, a84, c85, X87, rfl, ho86, hx88⟩
   have hx89 : ∀ k, X87 k → k < w81.heap.size := fun k hk => (hx88 k hk).1
   have hB91 := bg hB78 hg65 nb
   have hx90 : ∀ k, X87 k → (fun _ => False) k ∨ w0.heap.size ≤ k := fun k hk => (hx88 k hk).2.elim (fun h => h.elim) (fun h => .inr (Nat.le_trans hB91.size h))
   clear hr80 hB78 hlo77 hB76 hB75 hg74 hk63 hx62 ap61 hx60 hr59 hc57 hz56 hb55 hz52 hb50 hx46 hx45 ho42 hr36 hB31
   refine bindE h0 ?_; clear h0; intro r92 hr93 h0
   have hx94 := ltx hx72 hg82.size
   have hk95 := ho69.grown hg82 hx72 nb
   refine gv_call0 kr rfl kr enters21 (ref3_Int_Plus_ok fuel a67 c68 (r58.1, r58.2) a84 c85 (r79.1, r79.2) w81 (fun k => X70 k ∨ X87 k) (fun k hk => (hk).elim (fun h => hx94 k h) (fun h => hx89 k h)) (hk95.wide (fun k hk => (.inl hk))) (ho86.wide (fun k hk => (.inr hk))) r92 hr93) ?_
   rintro v98 w96 ⟨hg97, a99, c100, X102, rfl, ho101, hx103⟩
   have hx104 : ∀ k, X102 k → k < w96.heap.size := fun k hk => (hx103 k hk).1
   have hB106 := bg hB91 hg82 nb
   have hx105 : ∀ k, X102 k → (fun _ => False) k ∨ w0.heap.size ≤ k := fun k hk => (hx103 k hk).2.elim (fun h => (h).elim (fun h => hx73 k h) (fun h => hx90 k h)) (fun h => .inr (Nat.le_trans hB106.size h))
   have hg111 := (grown_trans hg38 hg49)
   have lt112 := ltl ((ltb hb4) _ rfl) ((lowb hbe11) _ rfl)
   have hk113 := hb34.grown hg38 nb
   have lt114 := ltl ((ltb hk113) _ rfl) ((lowb hbe51) _ rfl)
   have lt115 := ltt lt112 lt114
   have hg116 := (grown_trans (grown_trans hg65 hg82) hg97)
   have hk117 := ((hb33.grown hg111 nb).grown hg54 (rowne (ng lt115))).grown hg116 nb
   refine gv_store0 57 0 (.agg #[(.bool false), (.slice none (length ([] : List Int)) 0)]) #[(.bool false), (.slice none (length ([] : List Int)) 0)] hk117 kr kr kr ?_
   intro w107 hg108 hb109 hz110
   have hk122 := (((hk113.grown hg49 nb).grown hg54 (rowne (ng lt114))).grown hg116 nb).grown hg108 (rowne (Nat.ne_of_lt lt112))
   refine gv_store0 57 0 (.agg #[(.bool r92.1), (.slice a99 (length r92.2) c100)]) #[(.bool r92.1), (.slice a99 (length r92.2) c100)] hk122 kr kr kr ?_
   intro w118 hg119 hb120 hz121
   refine gv_nil <| gv_cret ?_
   have e := sj h0; subst e
   have hk123 := hb109.grown hg119 (rowne (ng lt112))
   refine gv_ret (gv_done [(.agg #[(.bool false), (.slice none (length ([] : List Int)) 0)]), (.agg #[(.bool r92.1), (.slice a99 (length r92.2) c100)])] rfl ⟨⟨⟨b1, 0, none⟩, kr, run_loadVar_row w118 b1 _ 57 _ _ _ hk123 Tryz.underlying57 rfl kr⟩, ⟨⟨b7, 0, none⟩, kr, run_loadVar_row w118 b7 _ 57 _ _ _ hb120 Tryz.underlying57 rfl kr⟩, trivial⟩ ?_)
   have hB124 := bg hB106 hg97 nb
   have hlo125 : w0.heap.size ≤ b1 := lob hbe5 hB0.size
   have hB126 := bg hB124 hg108 (rowlo hlo125)
   have hB127 := bg hB0 hg3 nb
   have hlo128 : w0.heap.size ≤ b7 := lob hbe11 hB127.size
   have hB129 := bg hB126 hg119 (rowlo hlo128)
   have ap130 : ¬ X43 b1 := fun h => ((hx44 _ h).2.elim (fun h => h.elim) (fun h => nl h (hb33.lt)))
   have hk131 := (hb33.grown hg111 nb).grown hg54 (rowne (ng lt115))
   have ap132 : ¬ X70 b1 := fun h => ((hx71 _ h).2.elim (fun h => (ap130)  h) (fun h => nl h (hk131.lt)))
   have hk133 := hk131.grown hg65 nb
   have ap134 : ¬ X87 b1 := fun h => ((hx88 _ h).2.elim (fun h => h.elim) (fun h => nl h (hk133.lt)))
   have hk135 := hk133.grown hg82 nb
   have ap136 : ¬ X102 b1 := fun h => ((hx103 _ h).2.elim (fun h => (h).elim (fun h => (ap132)  h) (fun h => (ap134)  h)) (fun h => nl h (hk135.lt)))
   have ap137 : ¬ X43 b7 := fun h => ((hx44 _ h).2.elim (fun h => h.elim) (fun h => nl h (hb34.lt)))
   have hk138 := (hk113.grown hg49 nb).grown hg54 (rowne (ng lt114))
   have ap139 : ¬ X70 b7 := fun h => ((hx71 _ h).2.elim (fun h => (ap137)  h) (fun h => nl h (hk138.lt)))
   have hk140 := hk138.grown hg65 nb
   have ap141 : ¬ X87 b7 := fun h => ((hx88 _ h).2.elim (fun h => h.elim) (fun h => nl h (hk140.lt)))
   have hk142 := hk140.grown hg82 nb
   have ap143 : ¬ X102 b7 := fun h => ((hx103 _ h).2.elim (fun h => (h).elim (fun h => (ap139)  h) (fun h => (ap141)  h)) (fun h => nl h (hk142.lt)))
   have hx144 := ltx hx104 hg108.size
   have hk145 := (ho101.grown hg108 hx104 (rowne ap136)).grown hg119 hx144 (rowne ap143)
   have hx146 := ltx hx144 hg119.size
   exact ⟨grown_of_below hB129, none, 0, (fun _ => False), a99, c100, X102, rfl, (Rd.nil (iE .i64) w118 (fun _ => False) none 0), (fun k hk => ⟨(fun _ h => h.elim) k hk, (fun _ h => h.elim) k hk⟩), hk145, (fun k hk => ⟨hx146 k hk, hx105 k hk⟩)⟩
  ·replace h0 := ite_f hc57 h0
   refine gv_skip <| gv_seq <| gv_region <| gv_loadBox (t := 57) (b := b47) (t' := 57) (fr := (0, 0)) #[(.bool r35.1), (.slice a40 (length r35.2) c41)] [] (fun e => by cases e) rfl rfl rfl kr kr kr kr (inw0 hb55) rfl ?_
   refine pN 2 [22, 23] [(23, (.int .i64 (IntKind.i64.wrap (j18 - 1))))] ?_
   refine bindE h0 ?_; clear h0; intro r147 hr148 h0
   have hx149 := ltx (ltx hx45 hg49.size) hg54.size
   have ap150 : ¬ X43 b47 := fun hx => nl ((lowb hbe51) _ rfl) (hx45 _ hx)
   have hx151 := ltx hx45 hg49.size
   have hk152 := (ho42.grown hg49 hx45 nb).grown hg54 hx151 (rowne ap150)
   refine gv_call0 kr rfl kr enters28 (ref3_Int_Moved_ok fuel a40 c41 (r35.1, r35.2) (IntKind.i64.wrap (j18 - 1)) w53 (fun k => X43 k) (fun k hk => hx149 k hk) (hk152.wide (fun k hk => hk)) r147 hr148) ?_
   rintro v155 w153 ⟨hg154, a156, c157, X159, rfl, ho158, hx160⟩
   have hx161 : ∀ k, X159 k → k < w153.heap.size := fun k hk => (hx160 k hk).1
   have hg163 := (grown_trans hg38 hg49)
   have hB164 := bg hB31 hg163 nb
   have hB165 := bg hB31 hg38 nb
   have hlo166 : w0.heap.size ≤ b47 := lob hbe51 hB165.size
   have hB167 := bg hB164 hg54 (rowlo hlo166)
   have hx162 : ∀ k, X159 k → (fun _ => False) k ∨ w0.heap.size ≤ k := fun k hk => (hx160 k hk).2.elim (fun h => hx46 k h) (fun h => .inr (Nat.le_trans hB167.size h))
   refine gv_new0 (fun b => .pointer (some ⟨b, 0, none⟩)) #[(.bool false), (.slice none (length ([] : List Int)) 0)] 57 kr kr ?_
   intro b168 w169 hg170 hb171 hbe172 hz173
   refine gv_store0 57 0 (.agg #[(.bool r147.1), (.slice a156 (length r147.2) c157)]) #[(.bool r147.1), (.slice a156 (length r147.2) c157)] hb171 kr kr kr ?_
   intro w174 hg175 hb176 hz177
   refine gv_nil <| gv_seq <| gv_drawA kr ?_
   intro w178 hg179
   refine gv_stage (Cls w178 []) [0, 1, 2, 3] [(0, some true), (2, some true), (1, some false), (3, some false)] (bA 7 [0, 1, 2, 3]) 3 kr kr (Cls.refl _ _) ?_
   have hC180 := Cls.refl w178 []
   have hk181 := hb176.grown hg179 nb
   refine gv_loadBox (t := 57) (b := b168) (t' := 57) (fr := (0, 0)) #[(.bool r147.1), (.slice a156 (length r147.2) c157)] [] (fun e => by cases e) rfl rfl rfl kr kr kr kr (inw1 fun w' hC' => (hC'.box hk181 nm_nil)) rfl ?_
   refine gv_loadBox (t := 57) (b := b168) (t' := 57) (fr := (0, 0)) #[(.bool r147.1), (.slice a156 (length r147.2) c157)] [] (fun e => by cases e) rfl rfl rfl kr kr kr kr (inw1 fun w' hC' => (hC'.box hk181 nm_nil)) rfl ?_
   refine bindE h0 ?_; clear h0; intro r182 hr183 h0
   have hx184 := ltx (ltx (ltx hx161 hg170.size) hg175.size) hg179.size
   have ap185 : ¬ X159 b168 := fun hx => nl ((lowb hbe172) _ rfl) (hx161 _ hx)
   have hx186 := ltx hx161 hg170.size
   have hx187 := ltx hx186 hg175.size
   have hk188 := ((ho158.grown hg170 hx161 nb).grown hg175 hx186 (rowne ap185)).grown hg179 hx187 nb
   refine gv_call (f := 24) (vs := [(.agg #[(.bool r147.1), (.slice a156 (length r147.2) c157)])]) (cap := []) _ (by decide) rfl rfl rfl kr kr enters24 (ref3_Int_Minus_ok fuel a156 c157 (r147.1, r147.2) w178 (fun k => X159 k) (fun k hk => hx184 k hk) (hk188.wide (fun k hk => hk)) r182 hr183) ?_
   rintro v191 w189 ⟨hg190, a192, c193, X195, rfl, ho194, hx196⟩
   refine ⟨(fun _ => hC180.grown hg190 nb), ?_⟩
   have hx197 : ∀ k, X195 k → k < w189.heap.size := fun k hk => (hx196 k hk).1
   have hg199 := (grown_trans hg154 hg170)
   have hB200 := bg hB167 hg199 nb
   have hB201 := bg hB167 hg154 nb
   have hlo202 : w0.heap.size ≤ b168 := lob hbe172 hB201.size
   have hB203 := bg hB200 hg175 (rowlo hlo202)
   have hB204 := bg hB203 hg179 nb
   have hx198 : ∀ k, X195 k → (fun _ => False) k ∨ w0.heap.size ≤ k := fun k hk => (hx196 k hk).2.elim (fun h => hx162 k h) (fun h => .inr (Nat.le_trans hB204.size h))
   clear hB203 hB201 hB200 hg199 hx187 hx186 ap185 hr183 hz177 hb176 hz173 hb171 hB167 hB165 hB164 hg163 hx161 ho158 hx151 ap150 hr148 hc57 hz56 hz52 hb50 hx45 ho42 hr36 hB31
   refine bindE h0 ?_; clear h0; intro r205 hr206 h0
   refine gv_call (f := 20) (vs := [(.int .i64 (-1))]) (cap := []) _ (by decide) rfl rfl rfl kr kr enters20 (ref3_Number_ok fuel (-1) w189  r205 hr206) ?_
   rintro v209 w207 ⟨hg208, a210, c211, X213, rfl, ho212, hx214⟩
   have hC215 := hC180.grown hg190 nb
   refine ⟨(fun _ => hC215.grown hg208 nb), ?_⟩
   have hx216 : ∀ k, X213 k → k < w207.heap.size := fun k hk => (hx214 k hk).1
   have hB218 := bg hB204 hg190 nb
   have hx217 : ∀ k, X213 k → (fun _ => False) k ∨ w0.heap.size ≤ k := fun k hk => (hx214 k hk).2.elim (fun h => h.elim) (fun h => .inr (Nat.le_trans hB218.size h))
   refine gv_nil <| gv_goA ?_
   refine gv_stage (fun _ => True) [4] [(4, some false)] (bA 7 [0, 1, 2, 3, 4]) 2 kr kr trivial ?_
   refine bindE h0 ?_; clear h0; intro r219 hr220 h0
   have hg221 := (grown_trans hg190 hg208)
   have hx222 := ltx hx184 hg221.size
   have hk223 := hk188.grown hg221 hx184 nb
   refine gv_call (f := 21) (vs := [(.agg #[(.bool r147.1), (.slice a156 (length r147.2) c157)]), (.agg #[(.bool r205.1), (.slice a210 (length r205.2) c211)])]) (cap := []) _ (by decide) rfl rfl rfl kr kr enters21 (ref3_Int_Plus_ok fuel a156 c157 (r147.1, r147.2) a210 c211 (r205.1, r205.2) w207 (fun k => X159 k ∨ X213 k) (fun k hk => (hk).elim (fun h => hx222 k h) (fun h => hx216 k h)) (hk223.wide (fun k hk => (.inl hk))) (ho212.wide (fun k hk => (.inr hk))) r219 hr220) ?_
   rintro v226 w224 ⟨hg225, a227, c228, X230, rfl, ho229, hx231⟩
   refine ⟨(fun _ => trivial), ?_⟩
   have hx232 : ∀ k, X230 k → k < w224.heap.size := fun k hk => (hx231 k hk).1
   have hB234 := bg hB218 hg208 nb
   have hx233 : ∀ k, X230 k → (fun _ => False) k ∨ w0.heap.size ≤ k := fun k hk => (hx231 k hk).2.elim (fun h => (h).elim (fun h => hx162 k h) (fun h => hx217 k h)) (fun h => .inr (Nat.le_trans hB234.size h))
   refine gv_nil <| gv_goA ?_
   refine gv_stage (fun _ => True) [5] [(5, some false)] (bA 7 [0, 1, 2, 3, 4, 5]) 1 kr kr trivial ?_
   refine gv_sub [2, 3, 26, 29] (σ' := [(2, (bp b1)), (3, (bp b7)), (26, (.agg #[(.bool r182.1), (.slice a192 (length r182.2) c193)])), (29, (.agg #[(.bool r219.1), (.slice a227 (length r219.2) c228)]))]) kr ?_
   have hg239 := (grown_trans hg38 hg49)
   have lt240 := ltl ((ltb hb4) _ rfl) ((lowb hbe11) _ rfl)
   have hk241 := hb34.grown hg38 nb
   have lt242 := ltl ((ltb hk241) _ rfl) ((lowb hbe51) _ rfl)
   have lt243 := ltt lt240 lt242
   have hg244 := (grown_trans hg154 hg170)
   have hk245 := hb55.grown hg154 nb
   have lt246 := ltl ((ltb hk245) _ rfl) ((lowb hbe172) _ rfl)
   have lt247 := ltt lt243 lt246
   have hg248 := (grown_trans (grown_trans hg179 hg221) hg225)
   have hk249 := ((((hb33.grown hg239 nb).grown hg54 (rowne (ng lt243))).grown hg244 nb).grown hg175 (rowne (ng lt247))).grown hg248 nb
   refine gv_store (t := 57) (b := b1) (off := 0) (v := (.agg #[(.bool r182.1), (.slice a192 (length r182.2) c193)])) (t' := 57) (cs := #[(.bool false), (.slice none (length ([] : List Int)) 0)]) #[(.bool r182.1), (.slice a192 (length r182.2) c193)] (by decide) rfl rfl kr kr kr (by intro u hu; simp [Value.cells] at hu; rcases hu with rfl | rfl <;> rfl) (show 0 + 2 ≤ 2 by decide) (by rfl) hk249 ?_
   intro w235 hg236 hb237 hz238
   refine ⟨(fun _ => trivial), ?_⟩
   refine gv_nil <| gv_goA ?_
   refine gv_stage (fun _ => True) [6] [(6, some false)] (bA 7 [0, 1, 2, 3, 4, 5, 6]) 0 kr kr trivial ?_
   have lt254 := ltt lt242 lt246
   have hk255 := (((((hk241.grown hg49 nb).grown hg54 (rowne (ng lt242))).grown hg244 nb).grown hg175 (rowne (ng lt254))).grown hg248 nb).grown hg236 (rowne (Nat.ne_of_lt lt240))
   refine gv_store (t := 57) (b := b7) (off := 0) (v := (.agg #[(.bool r219.1), (.slice a227 (length r219.2) c228)])) (t' := 57) (cs := #[(.bool false), (.slice none (length ([] : List Int)) 0)]) #[(.bool r219.1), (.slice a227 (length r219.2) c228)] (by decide) rfl rfl kr kr kr (by intro u hu; simp [Value.cells] at hu; rcases hu with rfl | rfl <;> rfl) (show 0 + 2 ≤ 2 by decide) (by rfl) hk255 ?_
   intro w250 hg251 hb252 hz253
   refine ⟨(fun _ => trivial), ?_⟩
   refine gv_nil <| gv_goA ?_
   refine gv_stageE kr ?_
   refine gv_cret ?_
   have e := sj h0; subst e
   have hk256 := hb237.grown hg251 (rowne (ng lt240))
   refine gv_ret (gv_done [(.agg #[(.bool r182.1), (.slice a192 (length r182.2) c193)]), (.agg #[(.bool r219.1), (.slice a227 (length r219.2) c228)])] rfl ⟨⟨⟨b1, 0, none⟩, kr, run_loadVar_row w250 b1 _ 57 _ _ _ hk256 Tryz.underlying57 rfl kr⟩, ⟨⟨b7, 0, none⟩, kr, run_loadVar_row w250 b7 _ 57 _ _ _ hb252 Tryz.underlying57 rfl kr⟩, trivial⟩ ?_)
   have hB257 := bg hB234 hg225 nb
   have hlo258 : w0.heap.size ≤ b1 := lob hbe5 hB0.size
   have hB259 := bg hB257 hg236 (rowlo hlo258)
   have hB260 := bg hB0 hg3 nb
   have hlo261 : w0.heap.size ≤ b7 := lob hbe11 hB260.size
   have hB262 := bg hB259 hg251 (rowlo hlo261)
   have hg263 := (grown_trans hg208 hg225)
   have ap264 : ¬ X43 b1 := fun h => ((hx44 _ h).2.elim (fun h => h.elim) (fun h => nl h (hb33.lt)))
   have hk265 := (hb33.grown hg239 nb).grown hg54 (rowne (ng lt243))
   have ap266 : ¬ X159 b1 := fun h => ((hx160 _ h).2.elim (fun h => (ap264)  h) (fun h => nl h (hk265.lt)))
   have hk267 := ((hk265.grown hg244 nb).grown hg175 (rowne (ng lt247))).grown hg179 nb
   have ap268 : ¬ X195 b1 := fun h => ((hx196 _ h).2.elim (fun h => (ap266)  h) (fun h => nl h (hk267.lt)))
   have hx269 := ltx hx197 hg263.size
   have ap270 : ¬ X43 b7 := fun h => ((hx44 _ h).2.elim (fun h => h.elim) (fun h => nl h (hb34.lt)))
   have hk271 := (hk241.grown hg49 nb).grown hg54 (rowne (ng lt242))
   have ap272 : ¬ X159 b7 := fun h => ((hx160 _ h).2.elim (fun h => (ap270)  h) (fun h => nl h (hk271.lt)))
   have hk273 := ((hk271.grown hg244 nb).grown hg175 (rowne (ng lt254))).grown hg179 nb
   have ap274 : ¬ X195 b7 := fun h => ((hx196 _ h).2.elim (fun h => (ap272)  h) (fun h => nl h (hk273.lt)))
   have hx275 := ltx hx269 hg236.size
   have hk276 := ((ho194.grown hg263 hx197 nb).grown hg236 hx269 (rowne ap268)).grown hg251 hx275 (rowne ap274)
   have hx277 := ltx hx275 hg251.size
   have hk278 := hk267.grown hg190 nb
   have ap279 : ¬ X213 b1 := fun h => ((hx214 _ h).2.elim (fun h => h.elim) (fun h => nl h (hk278.lt)))
   have hk280 := hk278.grown hg208 nb
   have ap281 : ¬ X230 b1 := fun h => ((hx231 _ h).2.elim (fun h => (h).elim (fun h => (ap266)  h) (fun h => (ap279)  h)) (fun h => nl h (hk280.lt)))
   have hk282 := hk273.grown hg190 nb
   have ap283 : ¬ X213 b7 := fun h => ((hx214 _ h).2.elim (fun h => h.elim) (fun h => nl h (hk282.lt)))
   have hk284 := hk282.grown hg208 nb
   have ap285 : ¬ X230 b7 := fun h => ((hx231 _ h).2.elim (fun h => (h).elim (fun h => (ap272)  h) (fun h => (ap283)  h)) (fun h => nl h (hk284.lt)))
   have hx286 := ltx hx232 hg236.size
   have hk287 := (ho229.grown hg236 hx232 (rowne ap281)).grown hg251 hx286 (rowne ap285)
   have hx288 := ltx hx286 hg251.size
   exact ⟨grown_of_below hB262, a192, c193, X195, a227, c228, X230, rfl, hk276, (fun k hk => ⟨hx277 k hk, hx198 k hk⟩), hk287, (fun k hk => ⟨hx288 k hk, hx233 k hk⟩)⟩

theorem ref3_Int_Order_ok (fuel : Nat) (pa0_0 : Option Addr) (pc0_0 : Nat) (a_0 : (Bool × (List Int))) (pa1_0 : Option Addr) (pc1_0 : Nat) (b_1 : (Bool × (List Int))) (w0 : World) (X0 : Nat → Prop) (hX0 : ∀ k, X0 k → k < w0.heap.size) (hpa0_0 : Rd (iE .i64) w0 X0 pa0_0 pc0_0 a_0.2) (hpa1_0 : Rd (iE .i64) w0 X0 pa1_0 pc1_0 b_1.2) (r0 : Int) (h0 : ref3_Int_Order fuel a_0 b_1 = some r0) :
    Calls Tryz.prog 27 ([(.agg #[(.bool a_0.1), (.slice pa0_0 (length a_0.2) pc0_0)]), (.agg #[(.bool b_1.1), (.slice pa1_0 (length b_1.2) pc1_0)])] : List Value).toArray w0 (Ret fun v w' => w0.grownBy w' none ∧ v = tup [(.int .i64 r0)]) := by
 have hB0 : Below w0.heap.size w0 w0 := Below.refl _ _
 unfold ref3_Int_Order at h0
 refine calls_run Tryz.func27 rfl Tryz.ntmps27 kr ?_
 refine gv_sub [0, 1] (σ' := [(0, (.agg #[(.bool a_0.1), (.slice pa0_0 (length a_0.2) pc0_0)])), (1, (.agg #[(.bool b_1.1), (.slice pa1_0 (length b_1.2) pc1_0)]))]) kr ?_
 refine gv_seq <| gv_region <| gv_new0 (fun b => .pointer (some ⟨b, 0, none⟩)) #[(.bool a_0.1), (.slice pa0_0 (length a_0.2) pc0_0)] 57 kr kr ?_
 intro b1 w2 hg3 hb4 hbe5 hz6
 refine gv_new0 (fun b => .pointer (some ⟨b, 0, none⟩)) #[(.bool b_1.1), (.slice pa1_0 (length b_1.2) pc1_0)] 57 kr kr ?_
 intro b7 w8 hg9 hb10 hbe11 hz12
 refine pN 1 [4] [] ?_
 refine gv_nil <| gv_seq <| bindE h0 ?_; clear h0; intro j13 h1 h0
 refine gv_cut_code (J := fun a w14 => Below w0.heap.size w0 w14 ∧ w8.heap.size ≤ w14.heap.size ∧ Box w14 b1 57 #[(.bool a_0.1), (.slice pa0_0 (length a_0.2) pc0_0)] ∧ Box w14 b7 57 #[(.bool b_1.1), (.slice pa1_0 (length b_1.2) pc1_0)] ∧ a.defers = [] ∧ a.tmps.size = 42 ∧ Ok [(2, (bp b1)), (3, (bp b7)), (5, (.bool j13.1)), (6, (.bool j13.2))] a.tmps) ?_ ?_
 ·skip
  refine gv_drawA kr ?_
  intro w15 hg16
  refine gv_pre [0, 8] (bA 18 [0, 8]) 16 kr kr ?_
  refine pN 2 [7, 15] [(7, (bp b1)), (15, (bp b7))] ?_
  refine gv_nil <| gv_goA ?_
  refine gv_stage (Cls w15 []) [1, 2, 3, 4, 5, 6, 7, 9, 10, 11, 12, 13, 14, 15, 16] [(1, some true), (2, some true), (3, some true), (4, some true), (5, some true), (6, some true), (7, some true), (9, some true), (10, some true), (11, some true), (12, some true), (13, some true), (14, some true), (15, some true), (16, some true)] (bA 18 [0, 1, 2, 3, 4, 5, 6, 7, 8, 9, 10, 11, 12, 13, 14, 15, 16]) 1 kr kr (Cls.refl _ _) ?_
  have hC17 := Cls.refl w15 []
  have hg18 := (grown_trans hg9 hg16)
  have hk19 := hb4.grown hg18 nb
  refine gv_load (t := 4) (A := ⟨b1, 0, none⟩) (.bool a_0.1) [] (fun e => by cases e) rfl rfl rfl kr kr kr (inw1 fun w' hC' => ((hC'.box hk19 nm_nil).cell 0 rfl)) rfl ?_
  refine pN 1 [9] [(9, (.bool a_0.1))] ?_
  refine gv_split (s := 9) (g := a_0.1) kr (fun hc20 => ?_) (fun hc20 => ?_)
  ·skip
   replace h1 := ite_t hc20 h1
   refine pN 1 [10] [(10, (.pointer (some ⟨b1, 1, none⟩)))] ?_
   refine gv_load (t := 55) (A := ⟨b1, 1, none⟩) (.slice pa0_0 (length a_0.2) pc0_0) [] (fun e => by cases e) rfl rfl rfl kr kr kr (inw1 fun w' hC' => ((hC'.box hk19 nm_nil).cell 1 rfl)) rfl ?_
   refine pN 3 [12, 13, 14] [(14, (.bool (decide (((length a_0.2 : Nat) : Int) > 0))))] ?_
   have hk21 := hb10.grown hg16 nb
   refine gv_load (t := 4) (A := ⟨b7, 0, none⟩) (.bool b_1.1) [] (fun e => by cases e) rfl rfl rfl kr kr kr (inw1 fun w' hC' => ((hC'.box hk21 nm_nil).cell 0 rfl)) rfl ?_
   refine pN 1 [17] [(17, (.bool b_1.1))] ?_
   refine gv_split (s := 17) (g := b_1.1) kr (fun hc22 => ?_) (fun hc22 => ?_)
   ·skip
    replace h1 := ite_t hc22 h1
    refine pN 1 [18] [(18, (.pointer (some ⟨b7, 1, none⟩)))] ?_
    refine gv_load (t := 55) (A := ⟨b7, 1, none⟩) (.slice pa1_0 (length b_1.2) pc1_0) [] (fun e => by cases e) rfl rfl rfl kr kr kr (inw1 fun w' hC' => ((hC'.box hk21 nm_nil).cell 1 rfl)) rfl ?_
    refine pN 4 [5, 20, 21, 22] [(5, (.bool (decide (((length a_0.2 : Nat) : Int) > 0)))), (22, (.bool (decide (((length b_1.2 : Nat) : Int) > 0))))] ?_
    refine gv_sub [2, 3, 5, 22] (σ' := [(2, (bp b1)), (3, (bp b7)), (5, (.bool (decide (((length a_0.2 : Nat) : Int) > 0)))), (22, (.bool (decide (((length b_1.2 : Nat) : Int) > 0))))]) kr ?_
    refine bindE h1 ?_; clear h1; intro n23 hn24 h1
    refine gv_name (s := 5) (v := (.bool (decide (((length a_0.2 : Nat) : Int) > 0)))) (v' := (.bool n23)) kr (congrArg (Value.bool) (sj hn24)) ?_
    refine gv_nil <| gv_goA ?_
    refine gv_pre [17] (bA 18 [0, 1, 2, 3, 4, 5, 6, 7, 8, 9, 10, 11, 12, 13, 14, 15, 16, 17]) 0 kr kr ?_
    refine pN 1 [6] [(6, (.bool (decide (((length b_1.2 : Nat) : Int) > 0))))] ?_
    refine bindE h1 ?_; clear h1; intro n25 hn26 h1
    refine gv_name (s := 6) (v := (.bool (decide (((length b_1.2 : Nat) : Int) > 0)))) (v' := (.bool n25)) kr (congrArg (Value.bool) (sj hn26)) ?_
    refine gv_nil <| gv_goA ?_
    refine gv_stageE kr ?_
    have e := sj h1; subst e
    refine gv_goal fun a hd hs hok => ?_
    have hg27 := (grown_trans hg3 hg18)
    have hB28 := bg hB0 hg27 nb
    have hz29 := hg16.size
    exact ⟨hB28, hz29, hk19, hk21, hd, hs, okp [2, 3, 5, 6] hok⟩
   ·skip
    replace h1 := ite_f hc22 h1
    refine pN 6 [5, 18, 19, 20, 21, 22] [(5, (.bool (decide (((length a_0.2 : Nat) : Int) > 0)))), (22, (.bool false))] ?_
    refine bindE h1 ?_; clear h1; intro n30 hn31 h1
    refine gv_name (s := 5) (v := (.bool (decide (((length a_0.2 : Nat) : Int) > 0)))) (v' := (.bool n30)) kr (congrArg (Value.bool) (sj hn31)) ?_
    refine gv_nil <| gv_goA ?_
    refine gv_pre [17] (bA 18 [0, 1, 2, 3, 4, 5, 6, 7, 8, 9, 10, 11, 12, 13, 14, 15, 16, 17]) 0 kr kr ?_
    refine pN 1 [6] [(6, (.bool false))] ?_
    refine gv_nil <| gv_goA ?_
    refine gv_stageE kr ?_
    have e := sj h1; subst e
    refine gv_goal fun a hd hs hok => ?_
    have hg32 := (grown_trans hg3 hg18)
    have hB33 := bg hB0 hg32 nb
    have hz34 := hg16.size
    exact ⟨hB33, hz34, hk19, hk21, hd, hs, okp [2, 3, 5, 6] hok⟩
  ·skip
   replace h1 := ite_f hc20 h1
   refine pN 5 [10, 11, 12, 13, 14] [(14, (.bool false))] ?_
   have hk35 := hb10.grown hg16 nb
   refine gv_load (t := 4) (A := ⟨b7, 0, none⟩) (.bool b_1.1) [] (fun e => by cases e) rfl rfl rfl kr kr kr (inw1 fun w' hC' => ((hC'.box hk35 nm_nil).cell 0 rfl)) rfl ?_
   refine pN 1 [17] [(17, (.bool b_1.1))] ?_
   refine gv_split (s := 17) (g := b_1.1) kr (fun hc36 => ?_) (fun hc36 => ?_)
   ·skip
    replace h1 := ite_t hc36 h1
    refine pN 1 [18] [(18, (.pointer (some ⟨b7, 1, none⟩)))] ?_
    refine gv_load (t := 55) (A := ⟨b7, 1, none⟩) (.slice pa1_0 (length b_1.2) pc1_0) [] (fun e => by cases e) rfl rfl rfl kr kr kr (inw1 fun w' hC' => ((hC'.box hk35 nm_nil).cell 1 rfl)) rfl ?_
    refine pN 4 [5, 20, 21, 22] [(5, (.bool false)), (22, (.bool (decide (((length b_1.2 : Nat) : Int) > 0))))] ?_
    refine gv_nil <| gv_goA ?_
    refine gv_pre [17] (bA 18 [0, 1, 2, 3, 4, 5, 6, 7, 8, 9, 10, 11, 12, 13, 14, 15, 16, 17]) 0 kr kr ?_
    refine pN 1 [6] [(6, (.bool (decide (((length b_1.2 : Nat) : Int) > 0))))] ?_
    refine bindE h1 ?_; clear h1; intro n37 hn38 h1
    refine gv_name (s := 6) (v := (.bool (decide (((length b_1.2 : Nat) : Int) > 0)))) (v' := (.bool n37)) kr (congrArg (Value.bool) (sj hn38)) ?_
    refine gv_nil <| gv_goA ?_
    refine gv_stageE kr ?_
    have e := sj h1; subst e
    refine gv_goal fun a hd hs hok => ?_
    have hg39 := (grown_trans hg3 hg18)
    have hB40 := bg hB0 hg39 nb
    have hz41 := hg16.size
    exact ⟨hB40, hz41, hk19, hk35, hd, hs, okp [2, 3, 5, 6] hok⟩
   ·skip
    replace h1 := ite_f hc36 h1
    refine pN 6 [5, 18, 19, 20, 21, 22] [(5, (.bool false)), (22, (.bool false))] ?_
    refine gv_nil <| gv_goA ?_
    refine gv_pre [17] (bA 18 [0, 1, 2, 3, 4, 5, 6, 7, 8, 9, 10, 11, 12, 13, 14, 15, 16, 17]) 0 kr kr ?_
    refine pN 1 [6] [(6, (.bool false))] ?_
    refine gv_nil <| gv_goA ?_
    refine gv_stageE kr ?_
    have e := sj h1; subst e
    refine gv_goal fun a hd hs hok => ?_
    have hg42 := (grown_trans hg3 hg18)
    have hB43 := bg hB0 hg42 nb
    have hz44 := hg16.size
    exact ⟨hB43, hz44, hk19, hk35, hd, hs, okp [2, 3, 5, 6] hok⟩
 ·rintro a w14 ⟨hB45, hz46, hb47, hb48, hd, hs, hok⟩
  refine gv_in ?_ hd hs hok
  clear hd hs hok
  clear hz46 hz12 hb10 hg9 hz6
  refine gv_seq <| gv_block <| gv_seq <| gv_region <| gv_cut_ops (J := fun a w49 => w14 = w49 ∧ a.defers = [] ∧ a.tmps.size = 42 ∧ Ok [(2, (bp b1)), (3, (bp b7)), (5, (.bool j13.1)), (6, (.bool j13.2)), (23, (.bool (j13.1 && j13.2)))] a.tmps) ?_ ?_
  ·skip
   refine pN 2 [24, 25] [(25, (.bool j13.1))] ?_
   refine gv_split (s := 25) (g := j13.1) kr (fun hc50 => ?_) (fun hc50 => ?_)
   ·skip
    refine pN 3 [23, 26, 27] [(23, (.bool j13.2))] ?_
    refine gv_nil <| gv_sub [2, 3, 5, 6, 23] (σ' := [(2, (bp b1)), (3, (bp b7)), (5, (.bool j13.1)), (6, (.bool j13.2)), (23, (.bool j13.2))]) kr ?_
    refine gv_goal fun a hd hs hok => ⟨rfl, hd, hs, ?_⟩
    obtain ⟨q2, q3, q5, q6, q23, _⟩ := hok
    exact ⟨q2, q3, q5, q6, (by rw [hc50]; exact q23), trivial⟩
   ·skip
    refine pN 3 [23, 26, 27] [(23, (.bool false))] ?_
    refine gv_nil <| gv_sub [2, 3, 5, 6, 23] (σ' := [(2, (bp b1)), (3, (bp b7)), (5, (.bool j13.1)), (6, (.bool j13.2)), (23, (.bool false))]) kr ?_
    refine gv_goal fun a hd hs hok => ⟨rfl, hd, hs, ?_⟩
    obtain ⟨q2, q3, q5, q6, q23, _⟩ := hok
    exact ⟨q2, q3, q5, q6, (by rw [hc50]; exact q23), trivial⟩
  ·rintro a w49 ⟨e, hd, hs, hok⟩; subst e
   refine gv_in ?_ hd hs hok
   clear hd hs hok
   refine gv_cond (b := (j13.1 && j13.2)) kr (fun hc51 => ?_) (fun hc51 => ?_)
   ·replace h0 := ite_t hc51 h0
    refine gv_seq <| gv_region <| pN 1 [28] [(28, (.pointer (some ⟨b7, 1, none⟩)))] ?_
    refine gv_load (t := 55) (A := ⟨b7, 1, none⟩) (.slice pa1_0 (length b_1.2) pc1_0) [] (fun e => by cases e) rfl rfl rfl kr kr kr (inw0 (hb48.cell 1 rfl)) rfl ?_
    refine pN 1 [30] [(30, (.pointer (some ⟨b1, 1, none⟩)))] ?_
    refine gv_load (t := 55) (A := ⟨b1, 1, none⟩) (.slice pa0_0 (length a_0.2) pc0_0) [] (fun e => by cases e) rfl rfl rfl kr kr kr (inw0 (hb47.cell 1 rfl)) rfl ?_
    refine bindE h0 ?_; clear h0; intro r52 hr53 h0
    refine gv_call0 kr rfl kr enters47 (ref3_Compare_ok fuel pa1_0 pc1_0 b_1.2 pa0_0 pc0_0 a_0.2 w14 (fun k => X0 k ∨ X0 k) (fun k hk => (hk).elim (fun h => (fun k (hk : X0 k) => ltl (hX0 k hk) hB45.size) k h) (fun h => (fun k (hk : X0 k) => ltl (hX0 k hk) hB45.size) k h)) ((hpa1_0.below hB45 hX0).wide (fun k hk => (.inl hk))) ((hpa0_0.below hB45 hX0).wide (fun k hk => (.inr hk))) r52 hr53) ?_
    rintro v56 w54 ⟨hg55, rfl⟩
    refine pN 1 [4] [(4, (.int .i64 r52))] ?_
    refine gv_nil <| gv_cret ?_
    have e := sj h0; subst e
    refine gv_ret (gv_done [(.int .i64 r52)] rfl ⟨kr, trivial⟩ ?_)
    have hB57 := bg hB45 hg55 nb
    exact ⟨grown_of_below hB57, rfl⟩
   ·replace h0 := ite_f hc51 h0
    refine gv_seq <| gv_region <| pN 2 [33, 34] [(33, (.bool j13.1))] ?_
    refine gv_nil <| gv_cond (b := j13.1) kr (fun hc58 => ?_) (fun hc58 => ?_)
    ·replace h0 := ite_t hc58 h0
     refine gv_seq <| gv_region <| pN 1 [4] [(4, (.int .i64 (-1)))] ?_
     refine gv_nil <| gv_cret ?_
     have e := sj h0; subst e
     refine gv_ret (gv_done [(.int .i64 (-1))] rfl ⟨kr, trivial⟩ ?_)
     exact ⟨grown_of_below hB45, rfl⟩
    ·replace h0 := ite_f hc58 h0
     refine gv_seq <| gv_region <| pN 2 [35, 36] [(35, (.bool j13.2))] ?_
     refine gv_nil <| gv_cond (b := j13.2) kr (fun hc59 => ?_) (fun hc59 => ?_)
     ·replace h0 := ite_t hc59 h0
      refine gv_seq <| gv_region <| pN 1 [4] [(4, (.int .i64 1))] ?_
      refine gv_nil <| gv_cret ?_
      have e := sj h0; subst e
      refine gv_ret (gv_done [(.int .i64 1)] rfl ⟨kr, trivial⟩ ?_)
      exact ⟨grown_of_below hB45, rfl⟩
     ·replace h0 := ite_f hc59 h0
      refine gv_skip <| gv_blk <| gv_seq <| gv_region <| pN 1 [37] [(37, (.pointer (some ⟨b1, 1, none⟩)))] ?_
      refine gv_load (t := 55) (A := ⟨b1, 1, none⟩) (.slice pa0_0 (length a_0.2) pc0_0) [] (fun e => by cases e) rfl rfl rfl kr kr kr (inw0 (hb47.cell 1 rfl)) rfl ?_
      refine pN 1 [39] [(39, (.pointer (some ⟨b7, 1, none⟩)))] ?_
      refine gv_load (t := 55) (A := ⟨b7, 1, none⟩) (.slice pa1_0 (length b_1.2) pc1_0) [] (fun e => by cases e) rfl rfl rfl kr kr kr (inw0 (hb48.cell 1 rfl)) rfl ?_
      refine bindE h0 ?_; clear h0; intro r60 hr61 h0
      refine gv_call0 kr rfl kr enters47 (ref3_Compare_ok fuel pa0_0 pc0_0 a_0.2 pa1_0 pc1_0 b_1.2 w14 (fun k => X0 k ∨ X0 k) (fun k hk => (hk).elim (fun h => (fun k (hk : X0 k) => ltl (hX0 k hk) hB45.size) k h) (fun h => (fun k (hk : X0 k) => ltl (hX0 k hk) hB45.size) k h)) ((hpa0_0.below hB45 hX0).wide (fun k hk => (.inl hk))) ((hpa1_0.below hB45 hX0).wide (fun k hk => (.inr hk))) r60 hr61) ?_
      rintro v64 w62 ⟨hg63, rfl⟩
      refine pN 1 [4] [(4, (.int .i64 r60))] ?_
      refine gv_nil <| gv_cret ?_
      have e := sj h0; subst e
      refine gv_ret (gv_done [(.int .i64 r60)] rfl ⟨kr, trivial⟩ ?_)
      have hB65 := bg hB45 hg63 nb
      exact ⟨grown_of_below hB65, rfl⟩

theorem stringslite_HasPrefix_ok (fuel : Nat) (s_0 : ByteArray) (prefix_1 : ByteArray) (w0 : World)  (r0 : Bool) (h0 : stringslite_HasPrefix fuel s_0 prefix_1 = some r0) :
    Calls Tryz.prog 75 ([(.string s_0), (.string prefix_1)] : List Value).toArray w0 (Ret fun v w' => w0.grownBy w' none ∧ v = tup [(.bool r0)]) := by
 have hB0 : Below w0.heap.size w0 w0 := Below.refl _ _
 unfold stringslite_HasPrefix at h0
 refine calls_run Tryz.func75 rfl Tryz.ntmps75 kr ?_
 refine gv_sub [0, 1] (σ' := [(0, (.string s_0)), (1, (.string prefix_1))]) kr ?_
 refine gv_seq <| gv_region <| pN 1 [4] [] ?_
 refine gv_nil <| gv_seq <| gv_region <| bindE h0 ?_; clear h0; intro j1 h1 h0
 refine gv_cut_ops (J := fun a w2 => Below w0.heap.size w0 w2 ∧ w0.heap.size ≤ w2.heap.size ∧ a.defers = [] ∧ a.tmps.size = 18 ∧ Ok [(4, (.bool j1))] a.tmps) ?_ ?_
 ·skip
  refine pN 6 [5, 6, 7, 8, 9, 10] [(10, (.bool (decide (((ByteArray.size s_0 : Nat) : Int) ≥ ((ByteArray.size prefix_1 : Nat) : Int)))))] ?_
  refine gv_split (s := 10) (g := (decide (((ByteArray.size s_0 : Nat) : Int) ≥ ((ByteArray.size prefix_1 : Nat) : Int)))) kr (fun hc3 => ?_) (fun hc3 => ?_)
  ·skip
   replace h1 := ite_t hc3 h1
   refine pN 3 [11, 12, 13] [(11, (.string s_0)), (13, (.int .i64 ((ByteArray.size prefix_1 : Nat) : Int)))] ?_
   refine bindE h1 ?_; clear h1; intro x4 hx5 h1
   refine gv_ssub (t := 9) (s := s_0) (lo := none) (hi := (some (.int .i64 ((ByteArray.size prefix_1 : Nat) : Int)))) 0 ((ByteArray.size prefix_1 : Nat) : Int) x4 [] (fun e => by cases e) rfl rfl rfl kr kr Tryz.underlying9 (.inl ⟨rfl, rfl⟩) (.inr ⟨_, rfl⟩) hx5 rfl ?_
   refine pN 4 [4, 15, 16, 17] [(4, (.bool (x4.toList == prefix_1.toList)))] ?_
   refine gv_nil ?_
   have e := sj h1; subst e
   refine gv_goal fun a hd hs hok => ?_
   exact ⟨hB0, nrf, hd, hs, okp [4] hok⟩
  ·skip
   replace h1 := ite_f hc3 h1
   refine pN 8 [4, 11, 12, 13, 14, 15, 16, 17] [(4, (.bool false))] ?_
   refine gv_nil ?_
   have e := sj h1; subst e
   refine gv_goal fun a hd hs hok => ?_
   exact ⟨hB0, nrf, hd, hs, okp [4] hok⟩
 ·rintro a w2 ⟨hB6, hz7, hd, hs, hok⟩
  refine gv_in ?_ hd hs hok
  clear hd hs hok
  refine gv_cret ?_
  have e := sj h0; subst e
  refine gv_ret (gv_done [(.bool j1)] rfl ⟨kr, trivial⟩ ?_)
  exact ⟨grown_of_below hB6, rfl⟩

theorem strings_HasPrefix_ok (fuel : Nat) (s_0 : ByteArray) (prefix_1 : ByteArray) (w0 : World)  (r0 : Bool) (h0 : strings_HasPrefix fuel s_0 prefix_1 = some r0) :
    Calls Tryz.prog 54 ([(.string s_0), (.string prefix_1)] : List Value).toArray w0 (Ret fun v w' => w0.grownBy w' none ∧ v = tup [(.bool r0)]) := by
 have hB0 : Below w0.heap.size w0 w0 := Below.refl _ _
 unfold strings_HasPrefix at h0
 refine calls_run Tryz.func54 rfl Tryz.ntmps54 kr ?_
 refine gv_sub [0, 1] (σ' := [(0, (.string s_0)), (1, (.string prefix_1))]) kr ?_
 refine gv_seq <| gv_region <| pN 1 [4] [] ?_
 refine gv_nil <| gv_seq <| gv_region <| pN 2 [5, 6] [(5, (.string s_0)), (6, (.string prefix_1))] ?_
 refine bindE h0 ?_; clear h0; intro r1 hr2 h0
 refine gv_call0 kr rfl kr enters75 (stringslite_HasPrefix_ok fuel s_0 prefix_1 w0  r1 hr2) ?_
 rintro v5 w3 ⟨hg4, rfl⟩
 refine pN 1 [4] [(4, (.bool r1))] ?_
 refine gv_nil <| gv_cret ?_
 have e := sj h0; subst e
 refine gv_ret (gv_done [(.bool r1)] rfl ⟨kr, trivial⟩ ?_)
 have hB6 := bg hB0 hg4 nb
 exact ⟨grown_of_below hB6, rfl⟩

theorem packing_number_ok (fuel : Nat) (s_0 : ByteArray) (w0 : World) (X0 : Nat → Prop) (hX0 : ∀ k, X0 k → k < w0.heap.size) {erx : TypeId × Value} (hG4 : Rd eE w0 X0 (some ⟨4, 0, none⟩) 1 [erx]) (r0 : (Int × ByteArray)) (h0 : packing_number fuel s_0 = some r0) :
    Calls Tryz.prog 55 ([(.string s_0)] : List Value).toArray w0 (Ret fun v w' => w0.grownBy w' none ∧ v = tup [(.int .i64 r0.1), (.string r0.2)]) := by
 have hB0 : Below w0.heap.size w0 w0 := Below.refl _ _
 unfold packing_number at h0
 refine calls_run Tryz.func55 rfl Tryz.ntmps55 kr ?_
 refine gv_sub [0] (σ' := [(0, (.string s_0))]) kr ?_
 refine gv_seq <| gv_region <| pN 2 [2, 3] [] ?_
 refine gv_nil <| gv_seq <| gv_region <| pN 3 [7, 8, 9] [(8, (.int .i64 ((ByteArray.size s_0 : Nat) : Int))), (9, (.string s_0))] ?_
 refine bindE h0 ?_; clear h0; intro r1 hr2 h0
 refine gv_call0 kr rfl kr enters76 (strings_TrimLeft_ok fuel s_0 (strOf [48, 49, 50, 51, 52, 53, 54, 55, 56, 57]) w0  r1 hr2) ?_
 rintro v5 w3 ⟨hg4, rfl⟩
 refine pN 3 [4, 11, 12] [(4, (.int .i64 (IntKind.i64.wrap (((ByteArray.size s_0 : Nat) : Int) - ((ByteArray.size r1 : Nat) : Int)))))] ?_
 refine bindE h0 ?_; clear h0; intro n6 hn7 h0
 refine gv_name (s := 4) (v := (.int .i64 (IntKind.i64.wrap (((ByteArray.size s_0 : Nat) : Int) - ((ByteArray.size r1 : Nat) : Int))))) (v' := (.int .i64 n6)) kr (congrArg (Value.int .i64) (sj hn7)) ?_
 refine gv_nil <| gv_seq <| gv_seq <| gv_region <| pN 2 [13, 14] [(14, (.bool (n6 == 0)))] ?_
 refine gv_nil <| gv_cond (b := (n6 == 0)) kr (fun hc8 => ?_) (fun hc8 => ?_)
 ·replace h0 := ite_t hc8 h0
  refine gv_seq <| gv_region <| pN 3 [2, 3, 15] [(2, (.int .i64 (-1))), (3, (.string s_0))] ?_
  refine gv_nil <| gv_cret ?_
  have e := sj h0; subst e
  refine gv_ret (gv_done [(.int .i64 (-1)), (.string s_0)] rfl ⟨kr, kr, trivial⟩ ?_)
  have hB9 := bg hB0 hg4 nb
  exact ⟨grown_of_below hB9, rfl⟩
 ·replace h0 := ite_f hc8 h0
  refine gv_skip <| gv_seq <| gv_region <| pN 2 [17, 18] [(17, (.string s_0)), (18, (.int .i64 n6))] ?_
  refine bindE h0 ?_; clear h0; intro x10 hx11 h0
  refine gv_ssub (t := 9) (s := s_0) (lo := none) (hi := (some (.int .i64 n6))) 0 n6 x10 [] (fun e => by cases e) rfl rfl rfl kr kr Tryz.underlying9 (.inl ⟨rfl, rfl⟩) (.inr ⟨_, rfl⟩) hx11 rfl ?_
  refine bindE h0 ?_; clear h0; intro r12 hr13 h0
  have hB14 := bg hB0 hg4 nb
  refine gv_call0 kr rfl kr enters77 (strconv_Atoi_ok fuel x10 w3 (fun k => X0 k) (fun k hk => (fun k (hk : X0 k) => ltl (hX0 k hk) hB14.size) k hk) ((hG4.below hB14 hX0).wide (fun k hk => hk)) r12 hr13) ?_
  rintro v17 w15 ⟨hg16, te18, pe19, rfl⟩
  refine pN 5 [5, 6, 16, 21, 22] [(5, (.int .i64 r12.1)), (6, (ifE r12.2 te18 pe19))] ?_
  refine gv_nil <| gv_seq <| gv_seq <| gv_region <| bindE h0 ?_; clear h0; intro j20 h1 h0
  refine gv_cut_ops (J := fun a w21 => Below w0.heap.size w0 w21 ∧ w15.heap.size ≤ w21.heap.size ∧ a.defers = [] ∧ a.tmps.size = 33 ∧ Ok [(0, (.string s_0)), (4, (.int .i64 n6)), (5, (.int .i64 r12.1)), (28, (.bool j20))] a.tmps) ?_ ?_
  ·skip
   refine pN 1 [23] [(23, (ifE r12.2 te18 pe19))] ?_
   refine gv_errneq (t := 120) (x := (.tmp 23)) (b := r12.2) (te := te18) (p := pe19) [] (fun e => by cases e) rfl rfl rfl kr kr kr rfl ?_
   refine pN 1 [25] [(25, (.bool r12.2))] ?_
   refine gv_split (s := 25) (g := r12.2) kr (fun hc22 => ?_) (fun hc22 => ?_)
   ·skip
    replace h1 := ite_t hc22 h1
    refine pN 3 [26, 27, 28] [(28, (.bool true))] ?_
    refine gv_nil ?_
    have e := sj h1; subst e
    refine gv_goal fun a hd hs hok => ?_
    have hB23 := bg hB14 hg16 nb
    exact ⟨hB23, nrf, hd, hs, okp [0, 4, 5, 28] hok⟩
   ·skip
    replace h1 := ite_f hc22 h1
    refine pN 3 [26, 27, 28] [(28, (.bool (decide (r12.1 > 100))))] ?_
    refine gv_nil ?_
    have e := sj h1; subst e
    refine gv_goal fun a hd hs hok => ?_
    have hB24 := bg hB14 hg16 nb
    exact ⟨hB24, nrf, hd, hs, okp [0, 4, 5, 28] hok⟩
  ·rintro a w21 ⟨hB25, hz26, hd, hs, hok⟩
   refine gv_in ?_ hd hs hok
   clear hd hs hok
   clear hz26 hg16 hB14 hr13 hx11 hc8 hn7 hg4 hr2
   refine bindE h0 ?_; clear h0; intro j27 h1 h0
   refine gv_cut_code (J := fun a w28 => Below w0.heap.size w0 w28 ∧ w21.heap.size ≤ w28.heap.size ∧ a.defers = [] ∧ a.tmps.size = 33 ∧ Ok [(0, (.string s_0)), (4, (.int .i64 n6)), (5, (.int .i64 j27))] a.tmps) ?_ ?_
   ·skip
    refine gv_cond (b := j20) kr (fun hc29 => ?_) (fun hc29 => ?_)
    ·replace h1 := ite_t hc29 h1
     refine gv_region <| pN 1 [5] [(5, (.int .i64 101))] ?_
     refine gv_nil ?_
     have e := sj h1; subst e
     refine gv_goal fun a hd hs hok => ?_
     exact ⟨hB25, nrf, hd, hs, okp [0, 4, 5] hok⟩
    ·replace h1 := ite_f hc29 h1
     refine gv_skip ?_
     have e := sj h1; subst e
     refine gv_goal fun a hd hs hok => ?_
     exact ⟨hB25, nrf, hd, hs, okp [0, 4, 5] hok⟩
   ·rintro a w28 ⟨hB30, hz31, hd, hs, hok⟩
    refine gv_in ?_ hd hs hok
    clear hd hs hok
    refine gv_seq <| gv_drawA kr ?_
    intro w32 hg33
    refine gv_pre [0, 1, 2, 3, 4, 5] (bA 6 [0, 1, 2, 3, 4, 5]) 0 kr kr ?_
    refine pN 3 [29, 30, 31] [(29, (.int .i64 j27)), (30, (.string s_0)), (31, (.int .i64 n6))] ?_
    refine bindE h0 ?_; clear h0; intro x34 hx35 h0
    refine gv_ssub (t := 9) (s := s_0) (lo := (some (.int .i64 n6))) (hi := none) n6 ((ByteArray.size s_0 : Nat) : Int) x34 [] (fun e => by cases e) rfl rfl rfl kr kr Tryz.underlying9 (.inr ⟨_, rfl⟩) (.inl ⟨rfl, rfl⟩) hx35 rfl ?_
    refine pN 2 [2, 3] [(2, (.int .i64 j27)), (3, (.string x34))] ?_
    refine gv_nil <| gv_goA ?_
    refine gv_stageE kr ?_
    refine gv_cret ?_
    have e := sj h0; subst e
    refine gv_ret (gv_done [(.int .i64 j27), (.string x34)] rfl ⟨kr, kr, trivial⟩ ?_)
    have hB36 := bg hB30 hg33 nb
    exact ⟨grown_of_below hB36, rfl⟩

theorem packing_Parse_ok (fuel : Nat) (format_0 : ByteArray) (w0 : World) (X0 : Nat → Prop) (hX0 : ∀ k, X0 k → k < w0.heap.size) {erx : TypeId × Value} (hG4 : Rd eE w0 X0 (some ⟨4, 0, none⟩) 1 [erx]) (r0 : ((List (Int × Int × Bool)) × (Int × Int))) (h0 : packing_Parse fuel format_0 = some r0) :
    Calls Tryz.prog 29 ([(.string format_0)] : List Value).toArray w0 (Ret fun v w' => w0.grownBy w' none ∧ ∃ (a0_0r : Option Addr) (c0_0r : Nat), v = tup [(.slice a0_0r (length r0.1) c0_0r), (.agg #[(.int .i64 r0.2.1), (.int .i64 r0.2.2)])] ∧ Gv.Own (prE (iE .u8) (prE (iE .i64) tE)) 49 w' (fun _ => False) a0_0r c0_0r r0.1 ∧ (∀ g, blk a0_0r = some g → w0.heap.size ≤ g)) := by
 have hB0 : Below w0.heap.size w0 w0 := Below.refl _ _
 unfold packing_Parse at h0
 refine calls_run Tryz.func29 rfl Tryz.ntmps29 kr ?_
 refine gv_sub [0] (σ' := [(0, (.string format_0))]) kr ?_
 refine gv_seq <| gv_region <| pN 1 [2] [] ?_
 refine gv_new0 (fun b => .pointer (some ⟨b, 0, none⟩)) #[(.int .i64 0), (.int .i64 0)] 26 kr kr ?_
 intro b1 w2 hg3 hb4 hbe5 hz6
 refine gv_nil <| gv_seq <| gv_seq <| gv_region <| pN 3 [12, 13, 14] [(14, (.bool (decide (((ByteArray.size format_0 : Nat) : Int) > 60))))] ?_
 refine gv_nil <| gv_cond (b := (decide (((ByteArray.size format_0 : Nat) : Int) > 60))) kr (fun hc7 => ?_) (fun hc7 => ?_)
 ·replace h0 := ite_t hc7 h0
  refine gv_seq <| gv_region <| bindE h0 ?_; clear h0; intro r8 hr9 h0
  refine gv_call0 kr rfl kr enters16 (packing_at_ok fuel 3 (-1) w2  r8 hr9) ?_
  rintro v12 w10 ⟨hg11, rfl⟩
  refine pN 1 [2] [(2, (.slice none (length ([] : List (Int × Int × Bool))) 0))] ?_
  have hk17 := hb4.grown hg11 nb
  refine gv_store0 26 0 (.agg #[(.int .i64 r8.1), (.int .i64 r8.2)]) #[(.int .i64 r8.1), (.int .i64 r8.2)] hk17 kr kr kr ?_
  intro w13 hg14 hb15 hz16
  refine gv_nil <| gv_cret ?_
  have e := sj h0; subst e
  refine gv_ret (gv_done [(.slice none (length ([] : List (Int × Int × Bool))) 0), (.agg #[(.int .i64 r8.1), (.int .i64 r8.2)])] rfl ⟨kr, ⟨⟨b1, 0, none⟩, kr, run_loadVar_row w13 b1 _ 26 _ _ _ hb15 Tryz.underlying26 rfl kr⟩, trivial⟩ ?_)
  have hg18 := (grown_trans hg3 hg11)
  have hB19 := bg hB0 hg18 nb
  have hlo20 : w0.heap.size ≤ b1 := lob hbe5 hB0.size
  have hB21 := bg hB19 hg14 (rowlo hlo20)
  exact ⟨grown_of_below hB21, none, 0, rfl, (Gv.Own.nil (prE (iE .u8) (prE (iE .i64) tE)) 49 w13 (fun _ => False)), (fun _ h => by cases h)⟩
 ·replace h0 := ite_f hc7 h0
  refine gv_skip <| gv_seq <| gv_region <| pN 1 [16] [(16, (.string format_0))] ?_
  refine bindE h0 ?_; clear h0; intro r22 hr23 h0
  refine gv_call0 kr rfl kr enters54 (strings_HasPrefix_ok fuel format_0 (strOf [62]) w2  r22 hr23) ?_
  rintro v26 w24 ⟨hg25, rfl⟩
  refine pN 1 [4] [(4, (.bool r22))] ?_
  refine gv_nil <| gv_seq <| gv_seq <| gv_region <| bindE h0 ?_; clear h0; intro j27 h1 h0
  refine gv_cut_ops (J := fun a w28 => Below w0.heap.size w0 w28 ∧ w24.heap.size ≤ w28.heap.size ∧ Box w28 b1 26 #[(.int .i64 0), (.int .i64 0)] ∧ a.defers = [] ∧ a.tmps.size = 95 ∧ Ok [(0, (.string format_0)), (3, (bp b1)), (4, (.bool r22)), (22, (.bool j27))] a.tmps) ?_ ?_
  ·skip
   refine pN 2 [18, 19] [(19, (.bool r22))] ?_
   refine gv_split (s := 19) (g := r22) kr (fun hc29 => ?_) (fun hc29 => ?_)
   ·skip
    replace h1 := ite_t hc29 h1
    refine pN 3 [20, 21, 22] [(22, (.bool true))] ?_
    refine gv_nil ?_
    have e := sj h1; subst e
    refine gv_goal fun a hd hs hok => ?_
    have hg30 := (grown_trans hg3 hg25)
    have hB31 := bg hB0 hg30 nb
    have hk32 := hb4.grown hg25 nb
    exact ⟨hB31, nrf, hk32, hd, hs, okp [0, 3, 4, 22] hok⟩
   ·skip
    replace h1 := ite_f hc29 h1
    refine pN 1 [20] [(20, (.string format_0))] ?_
    refine bindE h1 ?_; clear h1; intro r33 hr34 h1
    refine gv_call0 kr rfl kr enters54 (strings_HasPrefix_ok fuel format_0 (strOf [60]) w24  r33 hr34) ?_
    rintro v37 w35 ⟨hg36, rfl⟩
    refine pN 1 [22] [(22, (.bool r33))] ?_
    refine gv_nil ?_
    have e := sj h1; subst e
    refine gv_goal fun a hd hs hok => ?_
    have hg38 := (grown_trans (grown_trans hg3 hg25) hg36)
    have hB39 := bg hB0 hg38 nb
    have hz40 := hg36.size
    have hg41 := (grown_trans hg25 hg36)
    have hk42 := hb4.grown hg41 nb
    exact ⟨hB39, hz40, hk42, hd, hs, okp [0, 3, 4, 22] hok⟩
  ·rintro a w28 ⟨hB43, hz44, hb45, hd, hs, hok⟩
   refine gv_in ?_ hd hs hok
   clear hd hs hok
   clear hz44 hg25 hr23 hc7 hz6 hb4 hg3
   refine bindE h0 ?_; clear h0; intro j46 h1 h0
   refine gv_cut_code (J := fun a w47 => Below w0.heap.size w0 w47 ∧ w28.heap.size ≤ w47.heap.size ∧ Box w47 b1 26 #[(.int .i64 0), (.int .i64 0)] ∧ a.defers = [] ∧ a.tmps.size = 95 ∧ Ok [(0, (.string j46)), (3, (bp b1)), (4, (.bool r22))] a.tmps) ?_ ?_
   ·skip
    refine gv_cond (b := j27) kr (fun hc48 => ?_) (fun hc48 => ?_)
    ·replace h1 := ite_t hc48 h1
     refine gv_region <| pN 1 [23] [(23, (.string format_0))] ?_
     refine bindE h1 ?_; clear h1; intro x49 hx50 h1
     refine gv_ssub (t := 9) (s := format_0) (lo := (some (.int .i64 1))) (hi := none) 1 ((ByteArray.size format_0 : Nat) : Int) x49 [] (fun e => by cases e) rfl rfl rfl kr kr Tryz.underlying9 (.inr ⟨_, rfl⟩) (.inl ⟨rfl, rfl⟩) hx50 rfl ?_
     refine pN 1 [0] [(0, (.string x49))] ?_
     refine gv_nil ?_
     have e := sj h1; subst e
     refine gv_goal fun a hd hs hok => ?_
     exact ⟨hB43, nrf, hb45, hd, hs, okp [0, 3, 4] hok⟩
    ·replace h1 := ite_f hc48 h1
     refine gv_skip ?_
     have e := sj h1; subst e
     refine gv_goal fun a hd hs hok => ?_
     exact ⟨hB43, nrf, hb45, hd, hs, okp [0, 3, 4] hok⟩
   ·rintro a w47 ⟨hB51, hz52, hb53, hd, hs, hok⟩
    refine gv_in ?_ hd hs hok
    clear hd hs hok
    refine gv_seq <| gv_region <| pN 1 [5] [(5, (.slice none (length ([] : List (Int × Int × Bool))) 0))] ?_
    refine gv_nil <| gv_seq <| gv_region <| pN 1 [6] [(6, (.bool false))] ?_
    refine gv_nil <| gv_seq <| bindE h0 ?_; clear h0; intro j54 h1 h0
    refine gv_cut_code (J := fun a w56 => ∃ s55 : ((List (Int × Int × Bool)) × Bool × (Int × Int)), j54 = .inl s55 ∧ ∃ (a5_0j : Option Addr) (c5_0j : Nat), Below w0.heap.size w0 w56 ∧ w47.heap.size ≤ w56.heap.size ∧ Gv.Own (prE (iE .u8) (prE (iE .i64) tE)) 49 w56 (fun _ => False) a5_0j c5_0j s55.1 ∧ (∀ g, blk a5_0j = some g → w0.heap.size ≤ g) ∧ (∀ g, blk a5_0j = some g → ¬ (· = b1) g) ∧ ¬ (fun k => blk a5_0j = some k) b1 ∧ Box w56 b1 26 #[(.int .i64 s55.2.2.1), (.int .i64 s55.2.2.2)] ∧ a.defers = [] ∧ a.tmps.size = 95 ∧ Ok [(3, (bp b1)), (5, (.slice a5_0j (length s55.1) c5_0j)), (6, (.bool s55.2.1))] a.tmps) ?_ ?_
    ·skip
     refine gv_block <| gv_loop (A := fun (s57 : (ByteArray × (List (Int × Int × Bool)) × Bool × (Int × Int))) a w58 => ∃ (a5_0j : Option Addr) (c5_0j : Nat), Below w0.heap.size w0 w58 ∧ w47.heap.size ≤ w58.heap.size ∧ Gv.Own (prE (iE .u8) (prE (iE .i64) tE)) 49 w58 (fun _ => False) a5_0j c5_0j s57.2.1 ∧ (∀ g, blk a5_0j = some g → w0.heap.size ≤ g) ∧ (∀ g, blk a5_0j = some g → ¬ (· = b1) g) ∧ ¬ (fun k => blk a5_0j = some k) b1 ∧ Box w58 b1 26 #[(.int .i64 s57.2.2.2.1), (.int .i64 s57.2.2.2.2)] ∧ a.defers = [] ∧ a.tmps.size = 95 ∧ Ok [(0, (.string s57.1)), (3, (bp b1)), (4, (.bool r22)), (5, (.slice a5_0j (length s57.2.1) c5_0j)), (6, (.bool s57.2.2.1))] a.tmps) h1 ?_ ?_
     ·intro a hd hs hok
      exact ⟨none, 0, hB51, nrf, (Gv.Own.nil (prE (iE .u8) (prE (iE .i64) tE)) 49 w47 (fun _ => False)), (fun _ h => by cases h), (fun _ h => by cases h), (fun h => by cases h), hb53, hd, hs, okp [0, 3, 4, 5, 6] hok⟩
     ·rintro s57 r2 h2 hR2 a w58 ⟨a61, c62, hB59, hz60, ho63, hl64, ap65, ap66, hb67, hd, hs, hok⟩
      refine gv_in ?_ hd hs hok
      clear hd hs hok
      clear hb53 hz52 hB51 hb45 hB43
      refine gv_seq <| gv_seq <| gv_region <| pN 2 [25, 26] [(26, (.bool (!(s57.1.toList == (strOf []).toList))))] ?_
      refine gv_nil <| gv_cond (b := (!(s57.1.toList == (strOf []).toList))) kr (fun hc68 => ?_) (fun hc68 => ?_)
      ·replace h2 := ite_t hc68 h2
       refine gv_skip <| gv_block <| gv_seq <| gv_region <| pN 1 [27] [(27, (.string s57.1))] ?_
       refine bindE h2 ?_; clear h2; intro x69 hx70 h2
       refine gv_sindex (t := 9) (s := s57.1) (kk := .i64) (i := 0) x69 [] (fun e => by cases e) rfl rfl rfl kr kr Tryz.underlying9 hx70 rfl ?_
       refine pN 2 [7, 29] [(7, (.bool (x69 == 48)))] ?_
       refine gv_nil <| gv_seq <| gv_region <| pN 1 [31] [(31, (.string s57.1))] ?_
       refine bindE h2 ?_; clear h2; intro r71 hr72 h2
       refine gv_call0 kr rfl kr enters55 (packing_number_ok fuel s57.1 w58 (fun k => X0 k) (fun k hk => (fun k (hk : X0 k) => ltl (hX0 k hk) hB59.size) k hk) ((hG4.below hB59 hX0).wide (fun k hk => hk)) r71 hr72) ?_
       rintro v75 w73 ⟨hg74, rfl⟩
       refine pN 5 [8, 9, 30, 33, 34] [(8, (.int .i64 r71.1)), (9, (.string r71.2))] ?_
       refine gv_nil <| gv_seq <| gv_seq <| gv_region <| bindE h2 ?_; clear h2; intro j76 h3 h2
       refine gv_cut_ops (J := fun a w77 => Below w0.heap.size w0 w77 ∧ w73.heap.size ≤ w77.heap.size ∧ Box w77 b1 26 #[(.int .i64 s57.2.2.2.1), (.int .i64 s57.2.2.2.2)] ∧ Gv.Own (prE (iE .u8) (prE (iE .i64) tE)) 49 w77 (fun _ => False) a61 c62 s57.2.1 ∧ a.defers = [] ∧ a.tmps.size = 95 ∧ Ok [(3, (bp b1)), (4, (.bool r22)), (5, (.slice a61 (length s57.2.1) c62)), (6, (.bool s57.2.2.1)), (8, (.int .i64 r71.1)), (9, (.string r71.2)), (53, (.bool j76))] a.tmps) ?_ ?_
       ·skip
        refine pN 3 [35, 36, 37] [(37, (.bool (r71.2.toList == (strOf []).toList)))] ?_
        refine gv_split (s := 37) (g := (r71.2.toList == (strOf []).toList)) kr (fun hc78 => ?_) (fun hc78 => ?_)
        ·skip
         replace h3 := ite_t hc78 h3
         refine pN 16 [38, 39, 40, 41, 42, 43, 44, 45, 46, 47, 48, 49, 50, 51, 52, 53] [(53, (.bool true))] ?_
         refine gv_nil ?_
         have e := sj h3; subst e
         refine gv_goal fun a hd hs hok => ?_
         have hB79 := bg hB59 hg74 nb
         have hk80 := hb67.grown hg74 nb
         have hk81 := ho63.grown hg74 (fun _ h => h.elim) nb
         exact ⟨hB79, nrf, hk80, hk81, hd, hs, okp [3, 4, 5, 6, 8, 9, 53] hok⟩
        ·skip
         replace h3 := ite_f hc78 h3
         refine pN 1 [38] [(38, (.string r71.2))] ?_
         refine bindE h3 ?_; clear h3; intro x82 hx83 h3
         refine gv_sindex (t := 9) (s := r71.2) (kk := .i64) (i := 0) x82 [] (fun e => by cases e) rfl rfl rfl kr kr Tryz.underlying9 hx83 rfl ?_
         refine bindE h3 ?_; clear h3; intro r84 hr85 h3
         refine gv_call0 kr rfl kr enters38 (strings_IndexByte_ok fuel (strOf [98, 66, 104, 72, 105, 73, 113, 81, 118, 115, 112, 120, 63]) x82 w73  r84 hr85) ?_
         rintro v88 w86 ⟨hg87, rfl⟩
         refine pN 3 [41, 42, 43] [(43, (.bool (decide (r84 < 0))))] ?_
         refine gv_split (s := 43) (g := (decide (r84 < 0))) kr (fun hc89 => ?_) (fun hc89 => ?_)
         ·skip
          replace h3 := ite_t hc89 h3
          refine pN 10 [44, 45, 46, 47, 48, 49, 50, 51, 52, 53] [(53, (.bool true))] ?_
          refine gv_nil ?_
          have e := sj h3; subst e
          refine gv_goal fun a hd hs hok => ?_
          have hg90 := (grown_trans hg74 hg87)
          have hB91 := bg hB59 hg90 nb
          have hz92 := hg87.size
          have hk93 := hb67.grown hg90 nb
          have hk94 := ho63.grown hg90 (fun _ h => h.elim) nb
          exact ⟨hB91, hz92, hk93, hk94, hd, hs, okp [3, 4, 5, 6, 8, 9, 53] hok⟩
         ·skip
          replace h3 := ite_f hc89 h3
          refine pN 2 [44, 45] [(45, (.bool (x69 == 48)))] ?_
          refine gv_split (s := 45) (g := (x69 == 48)) kr (fun hc95 => ?_) (fun hc95 => ?_)
          ·skip
           replace h3 := ite_t hc95 h3
           refine pN 8 [46, 47, 48, 49, 50, 51, 52, 53] [(53, (.bool (((ByteArray.size r71.2 : Nat) : Int) != (IntKind.i64.wrap (((ByteArray.size s57.1 : Nat) : Int) - 1)))))] ?_
           refine gv_sub [3, 4, 5, 6, 8, 9, 53] (σ' := [(3, (bp b1)), (4, (.bool r22)), (5, (.slice a61 (length s57.2.1) c62)), (6, (.bool s57.2.2.1)), (8, (.int .i64 r71.1)), (9, (.string r71.2)), (53, (.bool (((ByteArray.size r71.2 : Nat) : Int) != (IntKind.i64.wrap (((ByteArray.size s57.1 : Nat) : Int) - 1)))))]) kr ?_
           refine gv_nil ?_
           have e := sj h3; subst e
           refine gv_goal fun a hd hs hok => ?_
           have hg96 := (grown_trans hg74 hg87)
           have hB97 := bg hB59 hg96 nb
           have hz98 := hg87.size
           have hk99 := hb67.grown hg96 nb
           have hk100 := ho63.grown hg96 (fun _ h => h.elim) nb
           exact ⟨hB97, hz98, hk99, hk100, hd, hs, okp [3, 4, 5, 6, 8, 9, 53] hok⟩
          ·skip
           replace h3 := ite_f hc95 h3
           refine pN 8 [46, 47, 48, 49, 50, 51, 52, 53] [(53, (.bool false))] ?_
           refine gv_sub [3, 4, 5, 6, 8, 9, 53] (σ' := [(3, (bp b1)), (4, (.bool r22)), (5, (.slice a61 (length s57.2.1) c62)), (6, (.bool s57.2.2.1)), (8, (.int .i64 r71.1)), (9, (.string r71.2)), (53, (.bool false))]) kr ?_
           refine gv_nil ?_
           have e := sj h3; subst e
           refine gv_goal fun a hd hs hok => ?_
           have hg101 := (grown_trans hg74 hg87)
           have hB102 := bg hB59 hg101 nb
           have hz103 := hg87.size
           have hk104 := hb67.grown hg101 nb
           have hk105 := ho63.grown hg101 (fun _ h => h.elim) nb
           exact ⟨hB102, hz103, hk104, hk105, hd, hs, okp [3, 4, 5, 6, 8, 9, 53] hok⟩
       ·rintro a w77 ⟨hB106, hz107, hb108, hk109, hd, hs, hok⟩
        refine gv_in ?_ hd hs hok
        clear hd hs hok
        have hz110 := (nt (nt hz60 hg74.size) hz107)
        clear hz107 hg74 hr72 hx70 hc68 hb67 ho63 hz60 hB59
        refine gv_cond (b := j76) kr (fun hc111 => ?_) (fun hc111 => ?_)
        ·replace h2 := ite_t hc111 h2
         refine gv_seq <| gv_region <| bindE h2 ?_; clear h2; intro r112 hr113 h2
         refine gv_call0 kr rfl kr enters16 (packing_at_ok fuel 1 (-1) w77  r112 hr113) ?_
         rintro v116 w114 ⟨hg115, rfl⟩
         have hz117 := (nt hz110 hg115.size)
         clear hr113 hc111 hz110 hk109 ap66 ap65 hl64
         refine pN 1 [2] [(2, (.slice none (length ([] : List (Int × Int × Bool))) 0))] ?_
         have hk122 := hb108.grown hg115 nb
         refine gv_store0 26 0 (.agg #[(.int .i64 r112.1), (.int .i64 r112.2)]) #[(.int .i64 r112.1), (.int .i64 r112.2)] hk122 kr kr kr ?_
         intro w118 hg119 hb120 hz121
         refine gv_nil <| gv_cret ?_
         have e := sj h2; subst e
         replace h1 := congrArg some (hR2 _ rfl)
         have e := sj h1; subst e
         replace h0 := cont_inr h0
         have e := sj h0; subst e
         refine gv_ret (gv_done [(.slice none (length ([] : List (Int × Int × Bool))) 0), (.agg #[(.int .i64 r112.1), (.int .i64 r112.2)])] rfl ⟨kr, ⟨⟨b1, 0, none⟩, kr, run_loadVar_row w118 b1 _ 26 _ _ _ hb120 Tryz.underlying26 rfl kr⟩, trivial⟩ ?_)
         have hB123 := bg hB106 hg115 nb
         have hlo124 : w0.heap.size ≤ b1 := lob hbe5 hB0.size
         have hB125 := bg hB123 hg119 (rowlo hlo124)
         exact ⟨grown_of_below hB125, none, 0, rfl, (Gv.Own.nil (prE (iE .u8) (prE (iE .i64) tE)) 49 w118 (fun _ => False)), (fun _ h => by cases h)⟩
        ·replace h2 := ite_f hc111 h2
         refine gv_skip <| gv_seq <| gv_region <| pN 1 [55] [(55, (.string r71.2))] ?_
         refine bindE h2 ?_; clear h2; intro x126 hx127 h2
         refine gv_sindex (t := 9) (s := r71.2) (kk := .i64) (i := 0) x126 [] (fun e => by cases e) rfl rfl rfl kr kr Tryz.underlying9 hx127 rfl ?_
         refine pN 1 [10] [(10, (.int .u8 x126))] ?_
         refine gv_nil <| gv_seq <| gv_region <| pN 1 [57] [(57, (.string r71.2))] ?_
         refine bindE h2 ?_; clear h2; intro x128 hx129 h2
         refine gv_ssub (t := 9) (s := r71.2) (lo := (some (.int .i64 1))) (hi := none) 1 ((ByteArray.size r71.2 : Nat) : Int) x128 [] (fun e => by cases e) rfl rfl rfl kr kr Tryz.underlying9 (.inr ⟨_, rfl⟩) (.inl ⟨rfl, rfl⟩) hx129 rfl ?_
         refine pN 1 [0] [(0, (.string x128))] ?_
         refine gv_nil <| gv_seq <| gv_region <| gv_cut_ops (J := fun a w130 => w77 = w130 ∧ a.defers = [] ∧ a.tmps.size = 95 ∧ Ok [(0, (.string x128)), (3, (bp b1)), (4, (.bool r22)), (5, (.slice a61 (length s57.2.1) c62)), (6, (.bool (s57.2.2.1 || (decide (r71.1 > 100))))), (8, (.int .i64 r71.1)), (10, (.int .u8 x126))] a.tmps) ?_ ?_
         ·skip
          refine pN 2 [59, 60] [(60, (.bool s57.2.2.1))] ?_
          refine gv_split (s := 60) (g := s57.2.2.1) kr (fun hc131 => ?_) (fun hc131 => ?_)
          ·skip
           refine pN 4 [6, 61, 62, 63] [(6, (.bool true))] ?_
           refine gv_nil <| gv_sub [0, 3, 4, 5, 6, 8, 10] (σ' := [(0, (.string x128)), (3, (bp b1)), (4, (.bool r22)), (5, (.slice a61 (length s57.2.1) c62)), (6, (.bool true)), (8, (.int .i64 r71.1)), (10, (.int .u8 x126))]) kr ?_
           refine gv_goal fun a hd hs hok => ⟨rfl, hd, hs, ?_⟩
           obtain ⟨q0, q3, q4, q5, q6, q8, q10, _⟩ := hok
           exact ⟨q0, q3, q4, q5, (by rw [hc131]; exact q6), q8, q10, trivial⟩
          ·skip
           refine pN 4 [6, 61, 62, 63] [(6, (.bool (decide (r71.1 > 100))))] ?_
           refine gv_nil <| gv_sub [0, 3, 4, 5, 6, 8, 10] (σ' := [(0, (.string x128)), (3, (bp b1)), (4, (.bool r22)), (5, (.slice a61 (length s57.2.1) c62)), (6, (.bool (decide (r71.1 > 100)))), (8, (.int .i64 r71.1)), (10, (.int .u8 x126))]) kr ?_
           refine gv_goal fun a hd hs hok => ⟨rfl, hd, hs, ?_⟩
           obtain ⟨q0, q3, q4, q5, q6, q8, q10, _⟩ := hok
           exact ⟨q0, q3, q4, q5, (by rw [hc131]; exact q6), q8, q10, trivial⟩
         ·rintro a w130 ⟨e, hd, hs, hok⟩; subst e
          refine gv_in ?_ hd hs hok
          clear hd hs hok
          refine gv_seq <| gv_region <| pN 3 [64, 65, 66] [(66, (.agg #[(.int .u8 x126), (.int .i64 1), (.bool r22)]))] ?_
          refine gv_new0 (fun b => .pointer (some ⟨b, 0, none⟩)) #[(.int .u8 0), (.int .i64 0), (.bool false)] 49 kr kr ?_
          intro b132 w133 hg134 hb135 hbe136 hz137
          refine gv_store0 49 0 (.agg #[(.int .u8 x126), (.int .i64 1), (.bool r22)]) #[(.int .u8 x126), (.int .i64 1), (.bool r22)] hb135 kr kr kr ?_
          intro w138 hg139 hb140 hz141
          refine gv_nil <| gv_seq <| gv_seq <| gv_region <| pN 2 [67, 68] [(68, (.bool (decide (r71.1 < 0))))] ?_
          refine gv_nil <| bindE h2 ?_; clear h2; intro j142 h3 h2
          refine gv_cut_code (J := fun a w143 => Below w0.heap.size w0 w143 ∧ w138.heap.size ≤ w143.heap.size ∧ Box w143 b1 26 #[(.int .i64 s57.2.2.2.1), (.int .i64 s57.2.2.2.2)] ∧ Box w143 b132 49 #[(.int .u8 x126), (.int .i64 1), (.bool r22)] ∧ Gv.Own (prE (iE .u8) (prE (iE .i64) tE)) 49 w143 (fun _ => False) a61 c62 s57.2.1 ∧ a.defers = [] ∧ a.tmps.size = 95 ∧ Ok [(0, (.string x128)), (3, (bp b1)), (4, (.bool r22)), (5, (.slice a61 (length s57.2.1) c62)), (6, (.bool (s57.2.2.1 || (decide (r71.1 > 100))))), (8, (.int .i64 j142)), (10, (.int .u8 x126)), (11, (bp b132))] a.tmps) ?_ ?_
          ·skip
           refine gv_cond (b := (decide (r71.1 < 0))) kr (fun hc144 => ?_) (fun hc144 => ?_)
           ·replace h3 := ite_t hc144 h3
            refine gv_region <| pN 1 [8] [(8, (.int .i64 1))] ?_
            refine gv_nil ?_
            have e := sj h3; subst e
            refine gv_goal fun a hd hs hok => ?_
            have hB145 := bg hB106 hg134 nb
            have hlo146 : w0.heap.size ≤ b132 := lob hbe136 hB106.size
            have hB147 := bg hB145 hg139 (rowlo hlo146)
            have lt148 := ltl ((ltb hb108) _ rfl) ((lowb hbe136) _ rfl)
            have hk149 := (hb108.grown hg134 nb).grown hg139 (rowne (ng lt148))
            have ap150 : ¬ (fun k => blk a61 = some k) b132 := fun hx => nl ((lowb hbe136) _ rfl) ((fun k (hk : blk a61 = some k) => hk109.lt k hk) _ hx)
            have hk151 := (hk109.grown hg134 (fun _ h => h.elim) nb).grown hg139 (fun _ h => h.elim) (rdnn (rowne ap150))
            exact ⟨hB147, nrf, hk149, hb140, hk151, hd, hs, okp [0, 3, 4, 5, 6, 8, 10, 11] hok⟩
           ·replace h3 := ite_f hc144 h3
            refine gv_skip ?_
            have e := sj h3; subst e
            refine gv_goal fun a hd hs hok => ?_
            have hB152 := bg hB106 hg134 nb
            have hlo153 : w0.heap.size ≤ b132 := lob hbe136 hB106.size
            have hB154 := bg hB152 hg139 (rowlo hlo153)
            have lt155 := ltl ((ltb hb108) _ rfl) ((lowb hbe136) _ rfl)
            have hk156 := (hb108.grown hg134 nb).grown hg139 (rowne (ng lt155))
            have ap157 : ¬ (fun k => blk a61 = some k) b132 := fun hx => nl ((lowb hbe136) _ rfl) ((fun k (hk : blk a61 = some k) => hk109.lt k hk) _ hx)
            have hk158 := (hk109.grown hg134 (fun _ h => h.elim) nb).grown hg139 (fun _ h => h.elim) (rdnn (rowne ap157))
            exact ⟨hB154, nrf, hk156, hb140, hk158, hd, hs, okp [0, 3, 4, 5, 6, 8, 10, 11] hok⟩
          ·rintro a w143 ⟨hB159, hz160, hb161, hb162, hk163, hd, hs, hok⟩
           refine gv_in ?_ hd hs hok
           clear hd hs hok
           have hz164 := (nt (nt (nt hz110 hg134.size) hg139.size) hz160)
           clear hz160 hz141 hb140 hg139 hz137 hb135 hg134 hx129 hx127 hc111 hz110
           refine gv_seq <| gv_seq <| gv_region <| pN 1 [69] [(69, (.int .u8 x126))] ?_
           refine bindE h2 ?_; clear h2; intro r165 hr166 h2
           refine gv_call0 kr rfl kr enters39 (packing_counted_ok fuel x126 w143  r165 hr166) ?_
           rintro v169 w167 ⟨hg168, rfl⟩
           refine gv_nil <| bindE h2 ?_; clear h2; intro j170 h3 h2
           refine gv_cut_code (J := fun a w171 => Below w0.heap.size w0 w171 ∧ w167.heap.size ≤ w171.heap.size ∧ Box w171 b1 26 #[(.int .i64 s57.2.2.2.1), (.int .i64 s57.2.2.2.2)] ∧ Box w171 b132 49 #[(.int .u8 j170.2.1), (.int .i64 j170.2.2.1), (.bool j170.2.2.2)] ∧ Gv.Own (prE (iE .u8) (prE (iE .i64) tE)) 49 w171 (fun _ => False) a61 c62 s57.2.1 ∧ a.defers = [] ∧ a.tmps.size = 95 ∧ Ok [(0, (.string x128)), (3, (bp b1)), (4, (.bool r22)), (5, (.slice a61 (length s57.2.1) c62)), (6, (.bool (s57.2.2.1 || (decide (r71.1 > 100))))), (8, (.int .i64 j170.1)), (11, (bp b132))] a.tmps) ?_ ?_
           ·skip
            refine gv_cond (b := r165) kr (fun hc172 => ?_) (fun hc172 => ?_)
            ·replace h3 := ite_t hc172 h3
             refine gv_region <| pN 2 [71, 72] [(71, (.int .i64 j142)), (72, (.pointer (some ⟨b132, 1, none⟩)))] ?_
             have hk177 := hb162.grown hg168 nb
             refine gv_store0 3 1 (.int .i64 j142) #[(.int .u8 x126), (.int .i64 j142), (.bool r22)] hk177 kr kr kr ?_
             intro w173 hg174 hb175 hz176
             refine pN 1 [8] [(8, (.int .i64 1))] ?_
             refine gv_nil ?_
             have e := sj h3; subst e
             refine gv_goal fun a hd hs hok => ?_
             have hB178 := bg hB159 hg168 nb
             have hlo179 : w0.heap.size ≤ b132 := lob hbe136 hB106.size
             have hB180 := bg hB178 hg174 (rowlo hlo179)
             have hz181 := hg174.size
             have lt182 := ltl ((ltb hb108) _ rfl) ((lowb hbe136) _ rfl)
             have hk183 := (hb161.grown hg168 nb).grown hg174 (rowne (ng lt182))
             have ap184 : ¬ (fun k => blk a61 = some k) b132 := fun hx => nl ((lowb hbe136) _ rfl) ((fun k (hk : blk a61 = some k) => hk109.lt k hk) _ hx)
             have hk185 := (hk163.grown hg168 (fun _ h => h.elim) nb).grown hg174 (fun _ h => h.elim) (rdnn (rowne ap184))
             exact ⟨hB180, hz181, hk183, hb175, hk185, hd, hs, okp [0, 3, 4, 5, 6, 8, 11] hok⟩
            ·replace h3 := ite_f hc172 h3
             refine gv_skip ?_
             have e := sj h3; subst e
             refine gv_goal fun a hd hs hok => ?_
             have hB186 := bg hB159 hg168 nb
             have hk187 := hb161.grown hg168 nb
             have hk188 := hb162.grown hg168 nb
             have hk189 := hk163.grown hg168 (fun _ h => h.elim) nb
             exact ⟨hB186, nrf, hk187, hk188, hk189, hd, hs, okp [0, 3, 4, 5, 6, 8, 11] hok⟩
           ·rintro a w171 ⟨hB190, hz191, hb192, hb193, hk194, hd, hs, hok⟩
            refine gv_in ?_ hd hs hok
            clear hd hs hok
            have hz195 := (nt (nt hz164 hg168.size) hz191)
            clear hz191 hg168 hr166 hz164 hk163 hb162 hb161 hB159
            refine gv_seq <| gv_region <| pN 3 [73, 74, 75] [(74, (.int .i64 (if 101 < j170.1 then 101 else j170.1))), (75, (.int .i64 0))] ?_
            refine gv_nil <| bindE h2 ?_; clear h2; intro j196 h3 h2
            refine gv_cut_code (J := fun a w197 => ∃ (a5_0j : Option Addr) (c5_0j : Nat), Below w0.heap.size w0 w197 ∧ w171.heap.size ≤ w197.heap.size ∧ Gv.Own (prE (iE .u8) (prE (iE .i64) tE)) 49 w197 (fun _ => False) a5_0j c5_0j j196 ∧ (∀ g, blk a5_0j = some g → w0.heap.size ≤ g) ∧ (∀ g, blk a5_0j = some g → ¬ (· = b1) g) ∧ ¬ (fun k => blk a5_0j = some k) b1 ∧ Box w197 b1 26 #[(.int .i64 s57.2.2.2.1), (.int .i64 s57.2.2.2.2)] ∧ a.defers = [] ∧ a.tmps.size = 95 ∧ Ok [(0, (.string x128)), (3, (bp b1)), (4, (.bool r22)), (5, (.slice a5_0j (length j196) c5_0j)), (6, (.bool (s57.2.2.1 || (decide (r71.1 > 100)))))] a.tmps) ?_ ?_
            ·skip
             refine gv_block <| gv_loop (A := fun (s198 : ((List (Int × Int × Bool)) × Int)) a w199 => ∃ (a5_0j : Option Addr) (c5_0j : Nat), Below w0.heap.size w0 w199 ∧ w171.heap.size ≤ w199.heap.size ∧ Gv.Own (prE (iE .u8) (prE (iE .i64) tE)) 49 w199 (fun _ => False) a5_0j c5_0j s198.1 ∧ (∀ g, blk a5_0j = some g → w0.heap.size ≤ g) ∧ (∀ g, blk a5_0j = some g → ¬ (· = b1) g) ∧ (∀ g, blk a5_0j = some g → ¬ (· = b132) g) ∧ ¬ (fun k => blk a5_0j = some k) b1 ∧ ¬ (fun k => blk a5_0j = some k) b132 ∧ Box w199 b1 26 #[(.int .i64 s57.2.2.2.1), (.int .i64 s57.2.2.2.2)] ∧ Box w199 b132 49 #[(.int .u8 j170.2.1), (.int .i64 j170.2.2.1), (.bool j170.2.2.2)] ∧ a.defers = [] ∧ a.tmps.size = 95 ∧ Ok [(0, (.string x128)), (3, (bp b1)), (4, (.bool r22)), (5, (.slice a5_0j (length s198.1) c5_0j)), (6, (.bool (s57.2.2.1 || (decide (r71.1 > 100))))), (11, (bp b132)), (74, (.int .i64 (if 101 < j170.1 then 101 else j170.1))), (75, (.int .i64 s198.2))] a.tmps) h3 ?_ ?_
             ·intro a hd hs hok
              have ap200 : ∀ g, blk a61 = some g → ¬ (· = b132) g := fun g e hx => nl ((lowb hbe136) _ hx) ((fun k (hk : blk a61 = some k) => hk109.lt k hk) g e)
              have ap201 : ¬ (fun k => blk a61 = some k) b132 := fun hx => nl ((lowb hbe136) _ rfl) ((fun k (hk : blk a61 = some k) => hk109.lt k hk) _ hx)
              exact ⟨a61, c62, hB190, nrf, hk194, hl64, ap65, ap200, ap66, ap201, hb192, hb193, hd, hs, okp [0, 3, 4, 5, 6, 11, 74, 75] hok⟩
             ·rintro s198 r4 h4 hR4 a w199 ⟨a204, c205, hB202, hz203, ho206, hl207, ap208, ap209, ap210, ap211, hb212, hb213, hd, hs, hok⟩
              refine gv_in ?_ hd hs hok
              clear hd hs hok
              clear hk194 hb193 hb192 hB190 hk109 ap66 ap65 hl64
              refine gv_seq <| gv_region <| pN 1 [76] [(76, (.bool (decide (s198.2 < (if 101 < j170.1 then 101 else j170.1)))))] ?_
              refine gv_nil <| gv_seq <| gv_cond (b := (decide (s198.2 < (if 101 < j170.1 then 101 else j170.1)))) kr (fun hc214 => ?_) (fun hc214 => ?_)
              ·replace h4 := ite_t hc214 h4
               refine gv_skip <| gv_seq <| gv_block <| gv_seq <| gv_region <| pN 3 [77, 78, 79] [(79, (.bool (decide (((length s198.1 : Nat) : Int) ≤ 100))))] ?_
               refine gv_nil <| bindE h4 ?_; clear h4; intro j215 h5 h4
               refine gv_cut_code (J := fun a w216 => ∃ (a5_0j : Option Addr) (c5_0j : Nat), Below w0.heap.size w0 w216 ∧ w199.heap.size ≤ w216.heap.size ∧ Gv.Own (prE (iE .u8) (prE (iE .i64) tE)) 49 w216 (fun _ => False) a5_0j c5_0j j215 ∧ (∀ g, blk a5_0j = some g → w0.heap.size ≤ g) ∧ (∀ g, blk a5_0j = some g → ¬ (· = b1) g) ∧ (∀ g, blk a5_0j = some g → ¬ (· = b132) g) ∧ ¬ (fun k => blk a5_0j = some k) b1 ∧ ¬ (fun k => blk a5_0j = some k) b132 ∧ Box w216 b1 26 #[(.int .i64 s57.2.2.2.1), (.int .i64 s57.2.2.2.2)] ∧ Box w216 b132 49 #[(.int .u8 j170.2.1), (.int .i64 j170.2.2.1), (.bool j170.2.2.2)] ∧ a.defers = [] ∧ a.tmps.size = 95 ∧ Ok [(0, (.string x128)), (3, (bp b1)), (4, (.bool r22)), (5, (.slice a5_0j (length j215) c5_0j)), (6, (.bool (s57.2.2.1 || (decide (r71.1 > 100))))), (11, (bp b132)), (74, (.int .i64 (if 101 < j170.1 then 101 else j170.1))), (75, (.int .i64 s198.2))] a.tmps) ?_ ?_
               ·skip
                refine gv_cond (b := (decide (((length s198.1 : Nat) : Int) ≤ 100))) kr (fun hc217 => ?_) (fun hc217 => ?_)
                ·replace h5 := ite_t hc217 h5
                 refine gv_region <| pN 1 [80] [(80, (.slice a204 (length s198.1) c205))] ?_
                 refine gv_loadBox (t := 49) (b := b132) (t' := 49) (fr := (0, 0)) #[(.int .u8 j170.2.1), (.int .i64 j170.2.2.1), (.bool j170.2.2.2)] [] (fun e => by cases e) rfl rfl rfl kr kr kr kr (inw0 hb213) rfl ?_
                 refine gv_new0 (fun b => .slice (some ⟨b, 0, none⟩) 1 1) #[(.int .u8 j170.2.1), (.int .i64 j170.2.2.1), (.bool j170.2.2.2)] 49 kr kr ?_
                 intro b218 w219 hg220 hb221 hbe222 hz223
                 have ho224 : Gv.Own (prE (iE .u8) (prE (iE .i64) tE)) 49 w219 (fun _ => False) (some ⟨b218, 0, none⟩) 1 ([(j170.2.1, j170.2.2.1, j170.2.2.2)] : List (Int × Int × Bool)) := Box.ownE hb221 ⟨[(.int .u8 j170.2.1), (.int .i64 j170.2.2.1), (.bool j170.2.2.2)], [], rfl, ⟨[(.int .u8 j170.2.1)], [(.int .i64 j170.2.2.1), (.bool j170.2.2.2)], rfl, rfl, ⟨[(.int .i64 j170.2.2.1)], [(.bool j170.2.2.2)], rfl, rfl, rfl⟩⟩, rfl⟩ (show 1 ≤ maxLen by decide) (fun h => h)
                 have hl225 : ∀ g, blk (some ⟨b218, 0, none⟩) = some g → w0.heap.size ≤ g := loo hbe222 hB202.size
                 refine bindE h5 ?_; clear h5; intro l229 hx230 h5
                 have hk237 := ho206.grown hg220 (fun _ h => h.elim) nb
                 refine gv_append (prE (iE .u8) (prE (iE .i64) tE)) (t := 22) (ty := 22) (e := 49) (a := a204) (ax := (some ⟨b218, 0, none⟩)) (cap := c205) (cx := 1) (xs := s198.1) (ys := ([(j170.2.1, j170.2.2.1, j170.2.2.2)] : List (Int × Int × Bool))) l229 (X := (fun _ => False)) (Y := (fun k => blk (some ⟨b218, 0, none⟩) = some k)) (by decide) rfl rfl kr kr Tryz.underlying22 info49 hk237 (ho224.rd (Y := fun k => blk (some ⟨b218, 0, none⟩) = some k) (fun _ h => h.elim) (fun g e => e)) hx230 (.inr (rf_pr rf_flat (rf_pr rf_flat rf_flat))) (fun _ h => h.elim) ?_
                 intro a231 c232 w233 hg234 ho235 hk236
                 refine ⟨(fun e => by cases e), ?_⟩
                 have hB239 := bg hB202 hg220 nb
                 have hl238 : ∀ g, blk a231 = some g → w0.heap.size ≤ g := blk_step hk236 hl207 hB239.size
                 have hk241 := hb212.grown hg220 nb
                 have ap240 : ∀ g, blk a231 = some g → ¬ (· = b1) g := blk_neX hk236 ap208 (ltb hk241)
                 have ap242 : ¬ (fun k => blk a231 = some k) b1 := fun h => blk_rev hk236 (fun h => (ap210) h) (hk241.lt) h
                 have hk244 := hb213.grown hg220 nb
                 have ap243 : ∀ g, blk a231 = some g → ¬ (· = b132) g := blk_neX hk236 ap209 (ltb hk244)
                 have ap245 : ¬ (fun k => blk a231 = some k) b132 := fun h => blk_rev hk236 (fun h => (ap211) h) (hk244.lt) h
                 have ap247 : ∀ g, blk a204 = some g → ¬ (fun k => blk (some ⟨b218, 0, none⟩) = some k) g := fun g e hx => nl ((lowo hbe222) _ hx) ((fun k (hk : blk a204 = some k) => ho206.lt k hk) g e)
                 have ap246 : ∀ g, blk a231 = some g → ¬ (fun k => blk (some ⟨b218, 0, none⟩) = some k) g := blk_neX hk236 ap247 (fun k (hk : blk (some ⟨b218, 0, none⟩) = some k) => ho224.lt k hk)
                 have ap249 : ∀ g, blk (some ⟨b218, 0, none⟩) = some g → ¬ (fun k => blk a204 = some k) g := fun g e hx => nl ((lowo hbe222) g e) ((fun k (hk : blk a204 = some k) => ho206.lt k hk) _ hx)
                 have ap248 : ∀ g, blk (some ⟨b218, 0, none⟩) = some g → ¬ (fun k => blk a231 = some k) g := fun g e h => blk_rev hk236 (fun h => ((ap249) g e) h) (ho224.lt g e) h
                 refine pN 1 [5] [(5, (.slice a231 (length l229) c232))] ?_
                 refine gv_nil ?_
                 have e := sj h5; subst e
                 refine gv_goal fun a hd hs hok => ?_
                 have hB250 := bg hB239 hg234 hl207
                 have hz251 := (nt hg220.size hg234.size)
                 have hk252 := hk241.grown hg234 ap208
                 have hk253 := hk244.grown hg234 ap209
                 exact ⟨a231, c232, hB250, hz251, ho235, hl238, ap240, ap243, ap242, ap245, hk252, hk253, hd, hs, okp [0, 3, 4, 5, 6, 11, 74, 75] hok⟩
                ·replace h5 := ite_f hc217 h5
                 refine gv_skip ?_
                 have e := sj h5; subst e
                 refine gv_goal fun a hd hs hok => ?_
                 exact ⟨a204, c205, hB202, nrf, ho206, hl207, ap208, ap209, ap210, ap211, hb212, hb213, hd, hs, okp [0, 3, 4, 5, 6, 11, 74, 75] hok⟩
               ·rintro a w216 ⟨a256, c257, hB254, hz255, ho258, hl259, ap260, ap261, ap262, ap263, hb264, hb265, hd, hs, hok⟩
                refine gv_in ?_ hd hs hok
                clear hd hs hok
                have hz266 := (nt hz203 hz255)
                clear hz255 hc214 hb213 hb212 ap211 ap210 ap209 ap208 hl207 ho206 hz203 hB202
                refine gv_blk <| gv_region <| pN 2 [75, 84] [(75, (.int .i64 (IntKind.i64.wrap (s198.2 + 1))))] ?_
                refine gv_nil ?_
                have e := sj h4; subst e
                refine gv_goal fun a hd hs hok => ?_
                have hz267 := hz266
                exact ⟨(j215, (IntKind.i64.wrap (s198.2 + 1))), rfl, a256, c257, hB254, hz267, ho258, hl259, ap260, ap261, ap262, ap263, hb264, hb265, hd, hs, okp [0, 3, 4, 5, 6, 11, 74, 75] hok⟩
              ·replace h4 := ite_f hc214 h4
               refine gv_cexit <| gv_exit rfl ?_
               have e := sj h4; subst e
               replace h3 := congrArg some (hR4 _ rfl)
               have e := sj h3; subst e
               refine gv_goal fun a hd hs hok => ?_
               have hz268 := hz203
               exact ⟨a204, c205, hB202, hz268, ho206, hl207, ap208, ap210, hb212, hd, hs, okp [0, 3, 4, 5, 6] hok⟩
            ·rintro a w197 ⟨a271, c272, hB269, hz270, ho273, hl274, ap275, ap276, hb277, hd, hs, hok⟩
             refine gv_in ?_ hd hs hok
             clear hd hs hok
             have hz278 := (nt hz195 hz270)
             clear hz270 hz195 hk194 hb193 hb192 hB190 hbe136 hk109 hb108 hB106 ap66 ap65 hl64
             refine gv_blk ?_
             have e := sj h2; subst e
             refine gv_goal fun a hd hs hok => ?_
             have hz279 := hz278
             exact ⟨(x128, j196, (s57.2.2.1 || (decide (r71.1 > 100))), (s57.2.2.2.1, s57.2.2.2.2)), rfl, a271, c272, hB269, hz279, ho273, hl274, ap275, ap276, hb277, hd, hs, okp [0, 3, 4, 5, 6] hok⟩
      ·replace h2 := ite_f hc68 h2
       refine gv_cexit <| gv_exit rfl ?_
       have e := sj h2; subst e
       replace h1 := congrArg some (hR2 _ rfl)
       have e := sj h1; subst e
       refine gv_goal fun a hd hs hok => ?_
       have hz280 := hz60
       exact ⟨(s57.2.1, s57.2.2.1, (s57.2.2.2.1, s57.2.2.2.2)), rfl, a61, c62, hB59, hz280, ho63, hl64, ap65, ap66, hb67, hd, hs, okp [3, 5, 6] hok⟩
    ·rintro a w56 ⟨s55, e, a283, c284, hB281, hz282, ho285, hl286, ap287, ap288, hb289, hd, hs, hok⟩
     subst e
     refine gv_in ?_ hd hs hok
     clear hd hs hok
     replace h0 := cont_inl h0
     clear hz282 hb53 hz52 hB51 hb45 hB43
     refine gv_seq <| gv_block <| gv_seq <| gv_region <| pN 2 [85, 86] [(85, (.bool s55.2.1))] ?_
     refine gv_nil <| gv_cond (b := s55.2.1) kr (fun hc290 => ?_) (fun hc290 => ?_)
     ·replace h0 := ite_t hc290 h0
      refine gv_seq <| gv_region <| bindE h0 ?_; clear h0; intro r291 hr292 h0
      refine gv_call0 kr rfl kr enters16 (packing_at_ok fuel 4 (-1) w56  r291 hr292) ?_
      rintro v295 w293 ⟨hg294, rfl⟩
      clear hr292 hc290 ap288 ap287 hl286 ho285
      refine pN 1 [2] [(2, (.slice none (length ([] : List (Int × Int × Bool))) 0))] ?_
      have hk300 := hb289.grown hg294 nb
      refine gv_store0 26 0 (.agg #[(.int .i64 r291.1), (.int .i64 r291.2)]) #[(.int .i64 r291.1), (.int .i64 r291.2)] hk300 kr kr kr ?_
      intro w296 hg297 hb298 hz299
      refine gv_nil <| gv_cret ?_
      have e := sj h0; subst e
      refine gv_ret (gv_done [(.slice none (length ([] : List (Int × Int × Bool))) 0), (.agg #[(.int .i64 r291.1), (.int .i64 r291.2)])] rfl ⟨kr, ⟨⟨b1, 0, none⟩, kr, run_loadVar_row w296 b1 _ 26 _ _ _ hb298 Tryz.underlying26 rfl kr⟩, trivial⟩ ?_)
      have hB301 := bg hB281 hg294 nb
      have hlo302 : w0.heap.size ≤ b1 := lob hbe5 hB0.size
      have hB303 := bg hB301 hg297 (rowlo hlo302)
      exact ⟨grown_of_below hB303, none, 0, rfl, (Gv.Own.nil (prE (iE .u8) (prE (iE .i64) tE)) 49 w296 (fun _ => False)), (fun _ h => by cases h)⟩
     ·replace h0 := ite_f hc290 h0
      refine gv_seq <| gv_region <| pN 4 [88, 89, 90, 91] [(88, (.bool (decide (((length s55.1 : Nat) : Int) > 100))))] ?_
      refine bindE h0 ?_; clear h0; intro n304 hn305 h0
      refine gv_name (s := 88) (v := (.bool (decide (((length s55.1 : Nat) : Int) > 100)))) (v' := (.bool n304)) kr (congrArg (Value.bool) (sj hn305)) ?_
      refine gv_nil <| gv_cond (b := n304) kr (fun hc306 => ?_) (fun hc306 => ?_)
      ·replace h0 := ite_t hc306 h0
       refine gv_seq <| gv_region <| bindE h0 ?_; clear h0; intro r307 hr308 h0
       refine gv_call0 kr rfl kr enters16 (packing_at_ok fuel 2 (-1) w56  r307 hr308) ?_
       rintro v311 w309 ⟨hg310, rfl⟩
       refine pN 1 [2] [(2, (.slice none (length ([] : List (Int × Int × Bool))) 0))] ?_
       have hk316 := hb289.grown hg310 nb
       refine gv_store0 26 0 (.agg #[(.int .i64 r307.1), (.int .i64 r307.2)]) #[(.int .i64 r307.1), (.int .i64 r307.2)] hk316 kr kr kr ?_
       intro w312 hg313 hb314 hz315
       refine gv_nil <| gv_cret ?_
       have e := sj h0; subst e
       refine gv_ret (gv_done [(.slice none (length ([] : List (Int × Int × Bool))) 0), (.agg #[(.int .i64 r307.1), (.int .i64 r307.2)])] rfl ⟨kr, ⟨⟨b1, 0, none⟩, kr, run_loadVar_row w312 b1 _ 26 _ _ _ hb314 Tryz.underlying26 rfl kr⟩, trivial⟩ ?_)
       have hB317 := bg hB281 hg310 nb
       have hlo318 : w0.heap.size ≤ b1 := lob hbe5 hB0.size
       have hB319 := bg hB317 hg313 (rowlo hlo318)
       exact ⟨grown_of_below hB319, none, 0, rfl, (Gv.Own.nil (prE (iE .u8) (prE (iE .i64) tE)) 49 w312 (fun _ => False)), (fun _ h => by cases h)⟩
      ·replace h0 := ite_f hc306 h0
       refine gv_skip <| gv_blk <| gv_seq <| gv_region <| pN 3 [2, 93, 94] [(2, (.slice a283 (length s55.1) c284)), (94, (.agg #[(.int .i64 0), (.int .i64 0)]))] ?_
       refine gv_store0 26 0 (.agg #[(.int .i64 0), (.int .i64 0)]) #[(.int .i64 0), (.int .i64 0)] hb289 kr kr kr ?_
       intro w320 hg321 hb322 hz323
       refine gv_nil <| gv_cret ?_
       have e := sj h0; subst e
       refine gv_ret (gv_done [(.slice a283 (length s55.1) c284), (.agg #[(.int .i64 0), (.int .i64 0)])] rfl ⟨kr, ⟨⟨b1, 0, none⟩, kr, run_loadVar_row w320 b1 _ 26 _ _ _ hb322 Tryz.underlying26 rfl kr⟩, trivial⟩ ?_)
       have hlo324 : w0.heap.size ≤ b1 := lob hbe5 hB0.size
       have hB325 := bg hB281 hg321 (rowlo hlo324)
       have hk326 := ho285.grown hg321 (fun _ h => h.elim) (rdnn (rowne ap288))
       exact ⟨grown_of_below hB325, a283, c284, rfl, hk326, hl286⟩

theorem law4_whole_ok (fuel : Nat) (n_0 : Int) (w0 : World)  (r0 : (Int × (Bool × (List Int)) × (Bool × (List Int)) × ByteArray × Int)) (h0 : law4_whole fuel n_0 = some r0) :
    Calls Tryz.prog 30 ([(.int .i64 n_0)] : List Value).toArray w0 (Ret fun v w' => w0.grownBy w' none ∧ ∃ (a0_0r : Option Addr) (c0_0r : Nat), ∃ (a0_1r : Option Addr) (c0_1r : Nat), v = tup [(.agg #[(.int .i64 r0.1), (.bool r0.2.1.1), (.slice a0_0r (length r0.2.1.2) c0_0r), (.bool r0.2.2.1.1), (.slice a0_1r (length r0.2.2.1.2) c0_1r), (.string r0.2.2.2.1), (.int .i64 r0.2.2.2.2)])] ∧ Gv.Own (iE .u32) 107 w' (fun _ => False) a0_0r c0_0r r0.2.1.2 ∧ (∀ g, blk a0_0r = some g → w0.heap.size ≤ g) ∧ Gv.Own (iE .u32) 107 w' (fun _ => False) a0_1r c0_1r r0.2.2.1.2 ∧ (∀ g, blk a0_1r = some g → w0.heap.size ≤ g) ∧ (∀ g, blk a0_0r = some g → blk a0_1r ≠ some g)) := by
 have hB0 : Below w0.heap.size w0 w0 := Below.refl _ _
 unfold law4_whole at h0
 refine calls_run Tryz.func30 rfl Tryz.ntmps30 kr ?_
 refine gv_sub [0] (σ' := [(0, (.int .i64 n_0))]) kr ?_
 refine gv_seq <| gv_region <| gv_new0 (fun b => .pointer (some ⟨b, 0, none⟩)) #[(.int .i64 0), (.bool false), (.slice none (length ([] : List Int)) 0), (.bool false), (.slice none (length ([] : List Int)) 0), (.string (strOf [])), (.int .i64 0)] 41 kr kr ?_
 intro b1 w2 hg3 hb4 hbe5 hz6
 refine gv_nil <| gv_seq <| gv_region <| pN 1 [3] [(3, (.int .i64 n_0))] ?_
 refine bindE h0 ?_; clear h0; intro r7 hr8 h0
 refine gv_call0 kr rfl kr enters56 (integer_Of_ok fuel n_0 w2  r7 hr8) ?_
 rintro v11 w9 ⟨hg10, a12, c13, rfl, ho14, hl15⟩
 have hB17 := bg hB0 hg3 nb
 have hl16 : ∀ g, blk a12 = some g → w0.heap.size ≤ g := fun g e => Nat.le_trans hB17.size (hl15 g e)
 refine pN 1 [5] [(5, (.agg #[(.int .i64 2), (.bool r7.1), (.slice a12 (length r7.2) c13), (.bool false), (.slice none (length ([] : List Int)) 0), (.string (strOf [])), (.int .i64 0)]))] ?_
 have hk22 := hb4.grown hg10 nb
 refine gv_store0 41 0 (.agg #[(.int .i64 2), (.bool r7.1), (.slice a12 (length r7.2) c13), (.bool false), (.slice none (length ([] : List Int)) 0), (.string (strOf [])), (.int .i64 0)]) #[(.int .i64 2), (.bool r7.1), (.slice a12 (length r7.2) c13), (.bool false), (.slice none (length ([] : List Int)) 0), (.string (strOf [])), (.int .i64 0)] hk22 kr kr kr ?_
 intro w18 hg19 hb20 hz21
 refine gv_nil <| gv_cret ?_
 have e := sj h0; subst e
 refine gv_ret (gv_done [(.agg #[(.int .i64 2), (.bool r7.1), (.slice a12 (length r7.2) c13), (.bool false), (.slice none (length ([] : List Int)) 0), (.string (strOf [])), (.int .i64 0)])] rfl ⟨⟨⟨b1, 0, none⟩, kr, run_loadVar_row w18 b1 _ 41 _ _ _ hb20 Tryz.underlying41 rfl kr⟩, trivial⟩ ?_)
 have hB23 := bg hB17 hg10 nb
 have hlo24 : w0.heap.size ≤ b1 := lob hbe5 hB0.size
 have hB25 := bg hB23 hg19 (rowlo hlo24)
 have ap26 : ¬ (fun k => blk a12 = some k) b1 := fun hx => nl ((show ∀ k, blk a12 = some k → w2.heap.size ≤ k from hl15) _ hx) ((ltb hb4) _ rfl)
 have hk27 := ho14.grown hg19 (fun _ h => h.elim) (rdnn (rowne ap26))
 exact ⟨grown_of_below hB25, a12, c13, none, 0, rfl, hk27, hl16, (Gv.Own.nil (iE .u32) 107 w18 (fun _ => False)), (fun _ h => by cases h), (fun _ _ h => by cases h)⟩

theorem packing_values_ok (fuel : Nat) (pa0_0 : Option Addr) (pc0_0 : Nat) (l_0 : (List (Int × Int × Bool))) (w0 : World) (X0 : Nat → Prop) (hX0 : ∀ k, X0 k → k < w0.heap.size) (hpa0_0 : Rd (prE (iE .u8) (prE (iE .i64) tE)) w0 X0 pa0_0 pc0_0 l_0) (r0 : Int) (h0 : packing_values fuel l_0 = some r0) :
    Calls Tryz.prog 32 ([(.slice pa0_0 (length l_0) pc0_0)] : List Value).toArray w0 (Ret fun v w' => w0.grownBy w' none ∧ v = tup [(.int .i64 r0)]) := by
 have hB0 : Below w0.heap.size w0 w0 := Below.refl _ _
 unfold packing_values at h0
 refine calls_run Tryz.func32 rfl Tryz.ntmps32 kr ?_
 refine gv_sub [0] (σ' := [(0, (.slice pa0_0 (length l_0) pc0_0))]) kr ?_
 refine gv_seq <| gv_region <| pN 1 [2] [] ?_
 refine gv_nil <| gv_seq <| gv_region <| pN 1 [3] [(3, (.int .i64 0))] ?_
 refine gv_nil <| gv_seq <| gv_seq <| gv_region <| pN 3 [6, 7, 8] [(6, (.slice pa0_0 (length l_0) pc0_0)), (7, (.int .i64 ((length l_0 : Nat) : Int))), (8, (.int .i64 0))] ?_
 refine gv_nil <| bindE h0 ?_; clear h0; intro j1 h1 h0
 refine gv_cut_code (J := fun a w2 => Below w0.heap.size w0 w2 ∧ w0.heap.size ≤ w2.heap.size ∧ a.defers = [] ∧ a.tmps.size = 19 ∧ Ok [(3, (.int .i64 j1))] a.tmps) ?_ ?_
 ·skip
  refine gv_block <| gv_loop (A := fun (s3 : (Int × Int)) a w4 => Below w0.heap.size w0 w4 ∧ w0.heap.size ≤ w4.heap.size ∧ a.defers = [] ∧ a.tmps.size = 19 ∧ Ok [(3, (.int .i64 s3.1)), (6, (.slice pa0_0 (length l_0) pc0_0)), (7, (.int .i64 ((length l_0 : Nat) : Int))), (8, (.int .i64 s3.2))] a.tmps) h1 ?_ ?_
  ·intro a hd hs hok
   exact ⟨hB0, nrf, hd, hs, okp [3, 6, 7, 8] hok⟩
  ·rintro s3 r2 h2 hR2 a w4 ⟨hB5, hz6, hd, hs, hok⟩
   refine gv_in ?_ hd hs hok
   clear hd hs hok
   refine gv_seq <| gv_region <| pN 1 [9] [(9, (.bool (decide (s3.2 < ((length l_0 : Nat) : Int)))))] ?_
   refine gv_nil <| gv_seq <| gv_cond (b := (decide (s3.2 < ((length l_0 : Nat) : Int)))) kr (fun hc7 => ?_) (fun hc7 => ?_)
   ·replace h2 := ite_t hc7 h2
    refine gv_skip <| gv_seq <| gv_block <| gv_seq <| gv_region <| bindE h2 ?_; clear h2; intro x8 hx9 h2
    refine gv_idxaddr (t := 22) (e := 49) (a := pa0_0) (len := length l_0) (cap := pc0_0) (kk := .i64) (i := s3.2) (sz := 3) [] (fun e => by cases e) rfl rfl rfl kr kr Tryz.underlying22 kr ((hpa0_0.below hB5 hX0).has hx9) (idx_spec hx9).1 (idx_spec hx9).2.1 rfl ?_
    obtain ⟨_, ⟨_, _, rfl, rfl, ⟨_, _, rfl, rfl, rfl⟩⟩, hc10⟩ := hpa0_0.cellsK hx9
    refine gv_loadAgg (t := 49) (A := (elemAddr pa0_0 ((s3.2 : Int).toNat * 3))) #[(.int .u8 x8.1), (.int .i64 x8.2.1), (.bool x8.2.2)] [] (fun e => by cases e) rfl rfl rfl kr kr kr kr (inw0 (hc10 w4 (fun k hk => hB5.block k (hX0 k hk)))) rfl ?_
    refine gv_new0 (fun b => .pointer (some ⟨b, 0, none⟩)) #[(.int .u8 0), (.int .i64 0), (.bool false)] 49 kr kr ?_
    intro b11 w12 hg13 hb14 hbe15 hz16
    refine gv_store0 49 0 (.agg #[(.int .u8 x8.1), (.int .i64 x8.2.1), (.bool x8.2.2)]) #[(.int .u8 x8.1), (.int .i64 x8.2.1), (.bool x8.2.2)] hb14 kr kr kr ?_
    intro w17 hg18 hb19 hz20
    refine gv_nil <| gv_seq <| gv_region <| pN 1 [12] [(12, (bp b11))] ?_
    refine gv_load (t := 5) (A := ⟨b11, 0, none⟩) (.int .u8 x8.1) [] (fun e => by cases e) rfl rfl rfl kr kr kr (inw0 (hb19.cell 0 rfl)) rfl ?_
    refine pN 1 [14] [(14, (.bool (x8.1 != 120)))] ?_
    refine gv_nil <| bindE h2 ?_; clear h2; intro j21 h3 h2
    refine gv_cut_code (J := fun a w22 => Below w0.heap.size w0 w22 ∧ w17.heap.size ≤ w22.heap.size ∧ a.defers = [] ∧ a.tmps.size = 19 ∧ Ok [(3, (.int .i64 j21)), (6, (.slice pa0_0 (length l_0) pc0_0)), (7, (.int .i64 ((length l_0 : Nat) : Int))), (8, (.int .i64 s3.2))] a.tmps) ?_ ?_
    ·skip
     refine gv_cond (b := (x8.1 != 120)) kr (fun hc23 => ?_) (fun hc23 => ?_)
     ·replace h3 := ite_t hc23 h3
      refine gv_region <| pN 3 [3, 15, 16] [(3, (.int .i64 (IntKind.i64.wrap (s3.1 + 1))))] ?_
      refine gv_nil ?_
      have e := sj h3; subst e
      refine gv_goal fun a hd hs hok => ?_
      have hB24 := bg hB5 hg13 nb
      have hlo25 : w0.heap.size ≤ b11 := lob hbe15 hB5.size
      have hB26 := bg hB24 hg18 (rowlo hlo25)
      exact ⟨hB26, nrf, hd, hs, okp [3, 6, 7, 8] hok⟩
     ·replace h3 := ite_f hc23 h3
      refine gv_skip ?_
      have e := sj h3; subst e
      refine gv_goal fun a hd hs hok => ?_
      have hB27 := bg hB5 hg13 nb
      have hlo28 : w0.heap.size ≤ b11 := lob hbe15 hB5.size
      have hB29 := bg hB27 hg18 (rowlo hlo28)
      exact ⟨hB29, nrf, hd, hs, okp [3, 6, 7, 8] hok⟩
    ·rintro a w22 ⟨hB30, hz31, hd, hs, hok⟩
     refine gv_in ?_ hd hs hok
     clear hd hs hok
     have hz32 := (nt (nt (nt hz6 hg13.size) hg18.size) hz31)
     clear hz31 hz20 hb19 hg18 hz16 hbe15 hb14 hg13 hc10 hx9 hc7 hz6 hB5
     refine gv_blk <| gv_region <| pN 2 [8, 17] [(8, (.int .i64 (IntKind.i64.wrap (s3.2 + 1))))] ?_
     refine gv_nil ?_
     have e := sj h2; subst e
     refine gv_goal fun a hd hs hok => ?_
     have hz33 := hz32
     exact ⟨(j21, (IntKind.i64.wrap (s3.2 + 1))), rfl, hB30, hz33, hd, hs, okp [3, 6, 7, 8] hok⟩
   ·replace h2 := ite_f hc7 h2
    refine gv_cexit <| gv_exit rfl ?_
    have e := sj h2; subst e
    replace h1 := congrArg some (hR2 _ rfl)
    have e := sj h1; subst e
    refine gv_goal fun a hd hs hok => ?_
    have hz34 := hz6
    exact ⟨hB5, hz34, hd, hs, okp [3] hok⟩
 ·rintro a w2 ⟨hB35, hz36, hd, hs, hok⟩
  refine gv_in ?_ hd hs hok
  clear hd hs hok
  refine gv_seq <| gv_region <| pN 2 [2, 18] [(2, (.int .i64 j1))] ?_
  refine gv_nil <| gv_cret ?_
  have e := sj h0; subst e
  refine gv_ret (gv_done [(.int .i64 j1)] rfl ⟨kr, trivial⟩ ?_)
  exact ⟨grown_of_below hB35, rfl⟩

theorem integer_Valid_ok (fuel : Nat) (pa0_0 : Option Addr) (pc0_0 : Nat) (a_0 : (Bool × (List Int))) (w0 : World) (X0 : Nat → Prop) (hX0 : ∀ k, X0 k → k < w0.heap.size) (hpa0_0 : Rd (iE .u32) w0 X0 pa0_0 pc0_0 a_0.2) (r0 : Bool) (h0 : integer_Valid fuel a_0 = some r0) :
    Calls Tryz.prog 57 ([(.agg #[(.bool a_0.1), (.slice pa0_0 (length a_0.2) pc0_0)])] : List Value).toArray w0 (Ret fun v w' => w0.grownBy w' none ∧ v = tup [(.bool r0)]) := by
 have hB0 : Below w0.heap.size w0 w0 := Below.refl _ _
 unfold integer_Valid at h0
 refine calls_run Tryz.func57 rfl Tryz.ntmps57 kr ?_
 refine gv_sub [0] (σ' := [(0, (.agg #[(.bool a_0.1), (.slice pa0_0 (length a_0.2) pc0_0)]))]) kr ?_
 refine gv_seq <| gv_region <| gv_new0 (fun b => .pointer (some ⟨b, 0, none⟩)) #[(.bool a_0.1), (.slice pa0_0 (length a_0.2) pc0_0)] 39 kr kr ?_
 intro b1 w2 hg3 hb4 hbe5 hz6
 refine pN 1 [2] [] ?_
 refine gv_nil <| gv_seq <| gv_region <| pN 1 [4] [(4, (.pointer (some ⟨b1, 1, none⟩)))] ?_
 refine gv_load (t := 37) (A := ⟨b1, 1, none⟩) (.slice pa0_0 (length a_0.2) pc0_0) [] (fun e => by cases e) rfl rfl rfl kr kr kr (inw0 (hb4.cell 1 rfl)) rfl ?_
 refine pN 2 [3, 6] [(3, (.int .i64 ((length a_0.2 : Nat) : Int)))] ?_
 refine gv_nil <| gv_seq <| gv_region <| bindE h0 ?_; clear h0; intro j7 h1 h0
 refine gv_cut_ops (J := fun a w8 => Below w0.heap.size w0 w8 ∧ w2.heap.size ≤ w8.heap.size ∧ a.defers = [] ∧ a.tmps.size = 31 ∧ Ok [(2, (.bool j7))] a.tmps) ?_ ?_
 ·skip
  refine pN 3 [7, 8, 9] [(9, (.bool (decide (((length a_0.2 : Nat) : Int) ≤ 128))))] ?_
  refine gv_split (s := 9) (g := (decide (((length a_0.2 : Nat) : Int) ≤ 128))) kr (fun hc9 => ?_) (fun hc9 => ?_)
  ·skip
   replace h1 := ite_t hc9 h1
   refine pN 3 [10, 11, 12] [(12, (.bool (((length a_0.2 : Nat) : Int) == 0)))] ?_
   refine gv_split (s := 12) (g := (((length a_0.2 : Nat) : Int) == 0)) kr (fun hc10 => ?_) (fun hc10 => ?_)
   ·skip
    replace h1 := ite_t hc10 h1
    refine pN 1 [13] [(13, (bp b1))] ?_
    refine gv_load (t := 4) (A := ⟨b1, 0, none⟩) (.bool a_0.1) [] (fun e => by cases e) rfl rfl rfl kr kr kr (inw0 (hb4.cell 0 rfl)) rfl ?_
    refine pN 3 [15, 16, 17] [(17, (.bool (!a_0.1)))] ?_
    refine gv_split (s := 17) (g := (!a_0.1)) kr (fun hc11 => ?_) (fun hc11 => ?_)
    ·skip
     replace h1 := ite_t hc11 h1
     refine pN 14 [2, 18, 19, 20, 21, 22, 23, 24, 25, 26, 27, 28, 29, 30] [(2, (.bool true))] ?_
     refine gv_nil ?_
     have e := sj h1; subst e
     refine gv_goal fun a hd hs hok => ?_
     have hB12 := bg hB0 hg3 nb
     exact ⟨hB12, nrf, hd, hs, okp [2] hok⟩
    ·skip
     replace h1 := ite_f hc11 h1
     refine pN 3 [18, 19, 20] [(20, (.bool (decide (((length a_0.2 : Nat) : Int) > 0))))] ?_
     refine gv_split (s := 20) (g := (decide (((length a_0.2 : Nat) : Int) > 0))) kr (fun hc13 => ?_) (fun hc13 => ?_)
     ·skip
      replace h1 := ite_t hc13 h1
      refine pN 1 [21] [(21, (.pointer (some ⟨b1, 1, none⟩)))] ?_
      refine gv_load (t := 37) (A := ⟨b1, 1, none⟩) (.slice pa0_0 (length a_0.2) pc0_0) [] (fun e => by cases e) rfl rfl rfl kr kr kr (inw0 (hb4.cell 1 rfl)) rfl ?_
      refine pN 2 [23, 24] [(24, (.int .i64 (IntKind.i64.wrap (((length a_0.2 : Nat) : Int) - 1))))] ?_
      refine gv_sub [9, 17, 20, 22, 24] (σ' := [(9, (.bool true)), (17, (.bool false)), (20, (.bool true)), (22, (.slice pa0_0 (length a_0.2) pc0_0)), (24, (.int .i64 (IntKind.i64.wrap (((length a_0.2 : Nat) : Int) - 1))))]) kr ?_
      refine bindE h1 ?_; clear h1; intro x14 hx15 h1
      have hB16 := bg hB0 hg3 nb
      refine gv_idxaddr (t := 37) (e := 107) (a := pa0_0) (len := length a_0.2) (cap := pc0_0) (kk := .i64) (i := (IntKind.i64.wrap (((length a_0.2 : Nat) : Int) - 1))) (sz := 1) [] (fun e => by cases e) rfl rfl rfl kr kr Tryz.underlying37 kr ((hpa0_0.below hB16 hX0).has hx15) (idx_spec hx15).1 (idx_spec hx15).2.1 rfl ?_
      refine gv_load (t := 107) (A := (elemAddr pa0_0 (((IntKind.i64.wrap (((length a_0.2 : Nat) : Int) - 1)) : Int).toNat * 1))) (.int .u32 x14) [] (fun e => by cases e) rfl rfl rfl kr kr kr (inw0 ((hpa0_0.below hB16 hX0).cell hx15)) rfl ?_
      refine pN 5 [2, 27, 28, 29, 30] [(2, (.bool (x14 != 0)))] ?_
      refine gv_nil ?_
      have e := sj h1; subst e
      refine gv_goal fun a hd hs hok => ?_
      exact ⟨hB16, nrf, hd, hs, okp [2] hok⟩
     ·skip
      replace h1 := ite_f hc13 h1
      refine pN 11 [2, 21, 22, 23, 24, 25, 26, 27, 28, 29, 30] [(2, (.bool false))] ?_
      refine gv_nil ?_
      have e := sj h1; subst e
      refine gv_goal fun a hd hs hok => ?_
      have hB17 := bg hB0 hg3 nb
      exact ⟨hB17, nrf, hd, hs, okp [2] hok⟩
   ·skip
    replace h1 := ite_f hc10 h1
    refine pN 8 [13, 14, 15, 16, 17, 18, 19, 20] [(17, (.bool false)), (20, (.bool (decide (((length a_0.2 : Nat) : Int) > 0))))] ?_
    refine gv_split (s := 20) (g := (decide (((length a_0.2 : Nat) : Int) > 0))) kr (fun hc18 => ?_) (fun hc18 => ?_)
    ·skip
     replace h1 := ite_t hc18 h1
     refine pN 1 [21] [(21, (.pointer (some ⟨b1, 1, none⟩)))] ?_
     refine gv_load (t := 37) (A := ⟨b1, 1, none⟩) (.slice pa0_0 (length a_0.2) pc0_0) [] (fun e => by cases e) rfl rfl rfl kr kr kr (inw0 (hb4.cell 1 rfl)) rfl ?_
     refine pN 2 [23, 24] [(24, (.int .i64 (IntKind.i64.wrap (((length a_0.2 : Nat) : Int) - 1))))] ?_
     refine bindE h1 ?_; clear h1; intro x19 hx20 h1
     have hB21 := bg hB0 hg3 nb
     refine gv_idxaddr (t := 37) (e := 107) (a := pa0_0) (len := length a_0.2) (cap := pc0_0) (kk := .i64) (i := (IntKind.i64.wrap (((length a_0.2 : Nat) : Int) - 1))) (sz := 1) [] (fun e => by cases e) rfl rfl rfl kr kr Tryz.underlying37 kr ((hpa0_0.below hB21 hX0).has hx20) (idx_spec hx20).1 (idx_spec hx20).2.1 rfl ?_
     refine gv_load (t := 107) (A := (elemAddr pa0_0 (((IntKind.i64.wrap (((length a_0.2 : Nat) : Int) - 1)) : Int).toNat * 1))) (.int .u32 x19) [] (fun e => by cases e) rfl rfl rfl kr kr kr (inw0 ((hpa0_0.below hB21 hX0).cell hx20)) rfl ?_
     refine pN 5 [2, 27, 28, 29, 30] [(2, (.bool (x19 != 0)))] ?_
     refine gv_sub [2] (σ' := [(2, (.bool (x19 != 0)))]) kr ?_
     refine gv_nil ?_
     have e := sj h1; subst e
     refine gv_goal fun a hd hs hok => ?_
     exact ⟨hB21, nrf, hd, hs, okp [2] hok⟩
    ·skip
     replace h1 := ite_f hc18 h1
     refine pN 11 [2, 21, 22, 23, 24, 25, 26, 27, 28, 29, 30] [(2, (.bool false))] ?_
     refine gv_nil ?_
     have e := sj h1; subst e
     refine gv_goal fun a hd hs hok => ?_
     have hB22 := bg hB0 hg3 nb
     exact ⟨hB22, nrf, hd, hs, okp [2] hok⟩
  ·skip
   replace h1 := ite_f hc9 h1
   refine pN 22 [2, 10, 11, 12, 13, 14, 15, 16, 17, 18, 19, 20, 21, 22, 23, 24, 25, 26, 27, 28, 29, 30] [(2, (.bool false))] ?_
   refine gv_nil ?_
   have e := sj h1; subst e
   refine gv_goal fun a hd hs hok => ?_
   have hB23 := bg hB0 hg3 nb
   exact ⟨hB23, nrf, hd, hs, okp [2] hok⟩
 ·rintro a w8 ⟨hB24, hz25, hd, hs, hok⟩
  refine gv_in ?_ hd hs hok
  clear hd hs hok
  clear hz25 hz6 hbe5 hb4 hg3
  refine gv_cret ?_
  have e := sj h0; subst e
  refine gv_ret (gv_done [(.bool j7)] rfl ⟨kr, trivial⟩ ?_)
  exact ⟨grown_of_below hB24, rfl⟩

theorem packing_valid_ok (fuel : Nat) (pa0_0 : Option Addr) (pc0_0 : Nat) (pa0_1 : Option Addr) (pc0_1 : Nat) (v_0 : (Int × (Bool × (List Int)) × (Bool × (List Int)) × ByteArray × Int)) (w0 : World) (X0 : Nat → Prop) (hX0 : ∀ k, X0 k → k < w0.heap.size) (hpa0_0 : Rd (iE .u32) w0 X0 pa0_0 pc0_0 v_0.2.1.2) (hpa0_1 : Rd (iE .u32) w0 X0 pa0_1 pc0_1 v_0.2.2.1.2) (r0 : Bool) (h0 : packing_valid fuel v_0 = some r0) :
    Calls Tryz.prog 33 ([(.agg #[(.int .i64 v_0.1), (.bool v_0.2.1.1), (.slice pa0_0 (length v_0.2.1.2) pc0_0), (.bool v_0.2.2.1.1), (.slice pa0_1 (length v_0.2.2.1.2) pc0_1), (.string v_0.2.2.2.1), (.int .i64 v_0.2.2.2.2)])] : List Value).toArray w0 (Ret fun v w' => w0.grownBy w' none ∧ v = tup [(.bool r0)]) := by
 have hB0 : Below w0.heap.size w0 w0 := Below.refl _ _
 unfold packing_valid at h0
 refine calls_run Tryz.func33 rfl Tryz.ntmps33 kr ?_
 refine gv_sub [0] (σ' := [(0, (.agg #[(.int .i64 v_0.1), (.bool v_0.2.1.1), (.slice pa0_0 (length v_0.2.1.2) pc0_0), (.bool v_0.2.2.1.1), (.slice pa0_1 (length v_0.2.2.1.2) pc0_1), (.string v_0.2.2.2.1), (.int .i64 v_0.2.2.2.2)]))]) kr ?_
 refine gv_seq <| gv_region <| gv_new0 (fun b => .pointer (some ⟨b, 0, none⟩)) #[(.int .i64 v_0.1), (.bool v_0.2.1.1), (.slice pa0_0 (length v_0.2.1.2) pc0_0), (.bool v_0.2.2.1.1), (.slice pa0_1 (length v_0.2.2.1.2) pc0_1), (.string v_0.2.2.2.1), (.int .i64 v_0.2.2.2.2)] 41 kr kr ?_
 intro b1 w2 hg3 hb4 hbe5 hz6
 refine pN 1 [2] [] ?_
 refine gv_nil <| gv_seq <| gv_seq <| gv_region <| pN 1 [3] [(3, (bp b1))] ?_
 refine gv_load (t := 3) (A := ⟨b1, 0, none⟩) (.int .i64 v_0.1) [] (fun e => by cases e) rfl rfl rfl kr kr kr (inw0 (hb4.cell 0 rfl)) rfl ?_
 refine gv_nil <| gv_block <| gv_seq <| gv_region <| pN 2 [5, 6] [(5, (.bool (v_0.1 == 2)))] ?_
 refine gv_nil <| gv_cond (b := (v_0.1 == 2)) kr (fun hc7 => ?_) (fun hc7 => ?_)
 ·replace h0 := ite_t hc7 h0
  refine gv_seq <| gv_region <| pN 1 [7] [(7, (.pointer (some ⟨b1, 1, none⟩)))] ?_
  refine gv_loadAgg (t := 39) (A := ⟨b1, 1, none⟩) #[(.bool v_0.2.1.1), (.slice pa0_0 (length v_0.2.1.2) pc0_0)] [] (fun e => by cases e) rfl rfl rfl kr kr kr kr (inw0 (Box.part hb4 1 _ rfl)) rfl ?_
  refine bindE h0 ?_; clear h0; intro r8 hr9 h0
  have hB10 := bg hB0 hg3 nb
  refine gv_call0 kr rfl kr enters57 (integer_Valid_ok fuel pa0_0 pc0_0 (v_0.2.1.1, v_0.2.1.2) w2 (fun k => X0 k) (fun k hk => (fun k (hk : X0 k) => ltl (hX0 k hk) hB10.size) k hk) ((hpa0_0.below hB10 hX0).wide (fun k hk => hk)) r8 hr9) ?_
  rintro v13 w11 ⟨hg12, rfl⟩
  refine pN 1 [2] [(2, (.bool r8))] ?_
  refine gv_nil <| gv_cret ?_
  have e := sj h0; subst e
  refine gv_ret (gv_done [(.bool r8)] rfl ⟨kr, trivial⟩ ?_)
  have hB14 := bg hB10 hg12 nb
  exact ⟨grown_of_below hB14, rfl⟩
 ·replace h0 := ite_f hc7 h0
  refine gv_seq <| gv_region <| pN 2 [10, 11] [(10, (.bool (v_0.1 == 1)))] ?_
  refine gv_nil <| gv_cond (b := (v_0.1 == 1)) kr (fun hc15 => ?_) (fun hc15 => ?_)
  ·replace h0 := ite_t hc15 h0
   refine gv_seq <| gv_region <| bindE h0 ?_; clear h0; intro j16 h1 h0
   refine gv_cut_ops (J := fun a w17 => Below w0.heap.size w0 w17 ∧ w2.heap.size ≤ w17.heap.size ∧ a.defers = [] ∧ a.tmps.size = 20 ∧ Ok [(2, (.bool j16))] a.tmps) ?_ ?_
   ·skip
    refine pN 1 [12] [(12, (.pointer (some ⟨b1, 6, none⟩)))] ?_
    refine gv_load (t := 3) (A := ⟨b1, 6, none⟩) (.int .i64 v_0.2.2.2.2) [] (fun e => by cases e) rfl rfl rfl kr kr kr (inw0 (hb4.cell 6 rfl)) rfl ?_
    refine pN 2 [14, 15] [(15, (.bool (v_0.2.2.2.2 == 0)))] ?_
    refine gv_split (s := 15) (g := (v_0.2.2.2.2 == 0)) kr (fun hc18 => ?_) (fun hc18 => ?_)
    ·skip
     replace h1 := ite_t hc18 h1
     refine pN 5 [2, 16, 17, 18, 19] [(2, (.bool true))] ?_
     refine gv_nil ?_
     have e := sj h1; subst e
     refine gv_goal fun a hd hs hok => ?_
     have hB19 := bg hB0 hg3 nb
     exact ⟨hB19, nrf, hd, hs, okp [2] hok⟩
    ·skip
     replace h1 := ite_f hc18 h1
     refine pN 1 [16] [(16, (.pointer (some ⟨b1, 6, none⟩)))] ?_
     refine gv_load (t := 3) (A := ⟨b1, 6, none⟩) (.int .i64 v_0.2.2.2.2) [] (fun e => by cases e) rfl rfl rfl kr kr kr (inw0 (hb4.cell 6 rfl)) rfl ?_
     refine pN 3 [2, 18, 19] [(2, (.bool (v_0.2.2.2.2 == 1)))] ?_
     refine gv_nil ?_
     have e := sj h1; subst e
     refine gv_goal fun a hd hs hok => ?_
     have hB20 := bg hB0 hg3 nb
     exact ⟨hB20, nrf, hd, hs, okp [2] hok⟩
   ·rintro a w17 ⟨hB21, hz22, hd, hs, hok⟩
    refine gv_in ?_ hd hs hok
    clear hd hs hok
    clear hz22 hc15 hc7 hz6 hbe5 hb4 hg3
    refine gv_cret ?_
    have e := sj h0; subst e
    refine gv_ret (gv_done [(.bool j16)] rfl ⟨kr, trivial⟩ ?_)
    exact ⟨grown_of_below hB21, rfl⟩
  ·replace h0 := ite_f hc15 h0
   refine gv_skip <| gv_blk <| gv_seq <| gv_region <| pN 1 [2] [(2, (.bool true))] ?_
   refine gv_nil <| gv_cret ?_
   have e := sj h0; subst e
   refine gv_ret (gv_done [(.bool true)] rfl ⟨kr, trivial⟩ ?_)
   have hB23 := bg hB0 hg3 nb
   exact ⟨grown_of_below hB23, rfl⟩

theorem packing_word_ok (fuel : Nat) (pa0_0 : Option Addr) (pc0_0 : Nat) (a_0 : (Bool × (List Int))) (n_1 : Int) (signed_2 : Bool) (w0 : World) (X0 : Nat → Prop) (hX0 : ∀ k, X0 k → k < w0.heap.size) (hpa0_0 : Rd (iE .u32) w0 X0 pa0_0 pc0_0 a_0.2) (r0 : (Int × Bool)) (h0 : packing_word fuel a_0 n_1 signed_2 = some r0) :
    Calls Tryz.prog 58 ([(.agg #[(.bool a_0.1), (.slice pa0_0 (length a_0.2) pc0_0)]), (.int .i64 n_1), (.bool signed_2)] : List Value).toArray w0 (Ret fun v w' => w0.grownBy w' none ∧ v = tup [(.int .u64 r0.1), (.bool r0.2)]) := by
 have hB0 : Below w0.heap.size w0 w0 := Below.refl _ _
 unfold packing_word at h0
 refine calls_run Tryz.func58 rfl Tryz.ntmps58 kr ?_
 refine gv_sub [0, 1, 2] (σ' := [(0, (.agg #[(.bool a_0.1), (.slice pa0_0 (length a_0.2) pc0_0)])), (1, (.int .i64 n_1)), (2, (.bool signed_2))]) kr ?_
 refine gv_seq <| gv_region <| gv_new0 (fun b => .pointer (some ⟨b, 0, none⟩)) #[(.bool a_0.1), (.slice pa0_0 (length a_0.2) pc0_0)] 39 kr kr ?_
 intro b1 w2 hg3 hb4 hbe5 hz6
 refine pN 2 [6, 7] [] ?_
 refine gv_nil <| gv_seq <| gv_region <| pN 1 [8] [(8, (.int .u64 0))] ?_
 refine gv_nil <| gv_seq <| gv_seq <| gv_region <| pN 1 [12] [(12, (.pointer (some ⟨b1, 1, none⟩)))] ?_
 refine gv_load (t := 37) (A := ⟨b1, 1, none⟩) (.slice pa0_0 (length a_0.2) pc0_0) [] (fun e => by cases e) rfl rfl rfl kr kr kr (inw0 (hb4.cell 1 rfl)) rfl ?_
 refine pN 2 [14, 15] [(15, (.bool (decide (((length a_0.2 : Nat) : Int) > 2))))] ?_
 refine gv_nil <| gv_cond (b := (decide (((length a_0.2 : Nat) : Int) > 2))) kr (fun hc7 => ?_) (fun hc7 => ?_)
 ·replace h0 := ite_t hc7 h0
  refine gv_seq <| gv_region <| pN 2 [6, 7] [(6, (.int .u64 0)), (7, (.bool false))] ?_
  refine gv_nil <| gv_cret ?_
  have e := sj h0; subst e
  refine gv_ret (gv_done [(.int .u64 0), (.bool false)] rfl ⟨kr, kr, trivial⟩ ?_)
  have hB8 := bg hB0 hg3 nb
  exact ⟨grown_of_below hB8, rfl⟩
 ·replace h0 := ite_f hc7 h0
  refine gv_skip <| gv_seq <| gv_seq <| gv_region <| pN 1 [16] [(16, (.pointer (some ⟨b1, 1, none⟩)))] ?_
  refine gv_load (t := 37) (A := ⟨b1, 1, none⟩) (.slice pa0_0 (length a_0.2) pc0_0) [] (fun e => by cases e) rfl rfl rfl kr kr kr (inw0 (hb4.cell 1 rfl)) rfl ?_
  refine pN 2 [18, 19] [(18, (.int .i64 ((length a_0.2 : Nat) : Int))), (19, (.int .i64 0))] ?_
  refine gv_nil <| bindE h0 ?_; clear h0; intro j9 h1 h0
  refine gv_cut_code (J := fun a w10 => Below w0.heap.size w0 w10 ∧ w2.heap.size ≤ w10.heap.size ∧ Box w10 b1 39 #[(.bool a_0.1), (.slice pa0_0 (length a_0.2) pc0_0)] ∧ a.defers = [] ∧ a.tmps.size = 61 ∧ Ok [(1, (.int .i64 n_1)), (2, (.bool signed_2)), (3, (bp b1)), (8, (.int .u64 j9))] a.tmps) ?_ ?_
  ·skip
   refine gv_block <| gv_loop (A := fun (s11 : (Int × Int)) a w12 => Below w0.heap.size w0 w12 ∧ w2.heap.size ≤ w12.heap.size ∧ Box w12 b1 39 #[(.bool a_0.1), (.slice pa0_0 (length a_0.2) pc0_0)] ∧ a.defers = [] ∧ a.tmps.size = 61 ∧ Ok [(1, (.int .i64 n_1)), (2, (.bool signed_2)), (3, (bp b1)), (8, (.int .u64 s11.1)), (17, (.slice pa0_0 (length a_0.2) pc0_0)), (18, (.int .i64 ((length a_0.2 : Nat) : Int))), (19, (.int .i64 s11.2))] a.tmps) h1 ?_ ?_
   ·intro a hd hs hok
    have hB13 := bg hB0 hg3 nb
    exact ⟨hB13, nrf, hb4, hd, hs, okp [1, 2, 3, 8, 17, 18, 19] hok⟩
   ·rintro s11 r2 h2 hR2 a w12 ⟨hB14, hz15, hb16, hd, hs, hok⟩
    refine gv_in ?_ hd hs hok
    clear hd hs hok
    clear hc7 hz6 hb4 hg3
    refine gv_seq <| gv_region <| pN 1 [20] [(20, (.bool (decide (s11.2 < ((length a_0.2 : Nat) : Int)))))] ?_
    refine gv_nil <| gv_seq <| gv_cond (b := (decide (s11.2 < ((length a_0.2 : Nat) : Int)))) kr (fun hc17 => ?_) (fun hc17 => ?_)
    ·replace h2 := ite_t hc17 h2
     refine gv_skip <| gv_seq <| gv_block <| gv_seq <| gv_region <| pN 1 [21] [(21, (.int .i64 s11.2))] ?_
     refine bindE h2 ?_; clear h2; intro x18 hx19 h2
     refine gv_idxaddr (t := 37) (e := 107) (a := pa0_0) (len := length a_0.2) (cap := pc0_0) (kk := .i64) (i := s11.2) (sz := 1) [] (fun e => by cases e) rfl rfl rfl kr kr Tryz.underlying37 kr ((hpa0_0.below hB14 hX0).has hx19) (idx_spec hx19).1 (idx_spec hx19).2.1 rfl ?_
     refine gv_load (t := 107) (A := (elemAddr pa0_0 ((s11.2 : Int).toNat * 1))) (.int .u32 x18) [] (fun e => by cases e) rfl rfl rfl kr kr kr (inw0 ((hpa0_0.below hB14 hX0).cell hx19)) rfl ?_
     refine pN 2 [9, 10] [(9, (.int .i64 s11.2)), (10, (.int .u32 x18))] ?_
     refine gv_nil <| gv_region <| pN 5 [24, 25, 26, 27, 28] [(24, (.int .u64 s11.1)), (26, (.int .u64 (IntKind.u64.wrap (x18)))), (28, (.int .i64 (IntKind.i64.wrap (32 * s11.2))))] ?_
     refine bindE h2 ?_; clear h2; intro _ hx20 h2
     refine gv_shift .shl (t := 100) (kk := .u64) (ky := .i64) (x := (IntKind.u64.wrap (x18))) (y := (IntKind.i64.wrap (32 * s11.2))) (shlI .u64 (IntKind.u64.wrap (x18)) (IntKind.i64.wrap (32 * s11.2))) [] (fun e => by cases e) rfl rfl rfl kr kr (nn_spec hx20) (.inl ⟨rfl, rfl⟩) rfl ?_
     refine pN 2 [8, 30] [(8, (.int .u64 (bwOr .u64 s11.1 (shlI .u64 (IntKind.u64.wrap (x18)) (IntKind.i64.wrap (32 * s11.2))))))] ?_
     refine bindE h2 ?_; clear h2; intro n21 hn22 h2
     refine gv_name (s := 8) (v := (.int .u64 (bwOr .u64 s11.1 (shlI .u64 (IntKind.u64.wrap (x18)) (IntKind.i64.wrap (32 * s11.2)))))) (v' := (.int .u64 n21)) kr (congrArg (Value.int .u64) (sj hn22)) ?_
     refine gv_nil <| gv_blk <| gv_region <| pN 2 [19, 31] [(19, (.int .i64 (IntKind.i64.wrap (s11.2 + 1))))] ?_
     refine gv_nil ?_
     have e := sj h2; subst e
     refine gv_goal fun a hd hs hok => ?_
     have hz23 := hz15
     exact ⟨(n21, (IntKind.i64.wrap (s11.2 + 1))), rfl, hB14, hz23, hb16, hd, hs, okp [1, 2, 3, 8, 17, 18, 19] hok⟩
    ·replace h2 := ite_f hc17 h2
     refine gv_cexit <| gv_exit rfl ?_
     have e := sj h2; subst e
     replace h1 := congrArg some (hR2 _ rfl)
     have e := sj h1; subst e
     refine gv_goal fun a hd hs hok => ?_
     have hz24 := hz15
     exact ⟨hB14, hz24, hb16, hd, hs, okp [1, 2, 3, 8] hok⟩
  ·rintro a w10 ⟨hB25, hz26, hb27, hd, hs, hok⟩
   refine gv_in ?_ hd hs hok
   clear hd hs hok
   clear hz26 hc7 hz6 hb4 hg3
   refine gv_seq <| gv_region <| pN 3 [32, 33, 34] [(34, (.int .i64 (IntKind.i64.wrap ((IntKind.i64.wrap (8 * n_1)) - 1))))] ?_
   refine bindE h0 ?_; clear h0; intro _ hx28 h0
   refine gv_shift .shl (t := 100) (kk := .u64) (ky := .i64) (x := 1) (y := (IntKind.i64.wrap ((IntKind.i64.wrap (8 * n_1)) - 1))) (shlI .u64 1 (IntKind.i64.wrap ((IntKind.i64.wrap (8 * n_1)) - 1))) [] (fun e => by cases e) rfl rfl rfl kr kr (nn_spec hx28) (.inl ⟨rfl, rfl⟩) rfl ?_
   refine pN 1 [11] [(11, (.int .u64 (shlI .u64 1 (IntKind.i64.wrap ((IntKind.i64.wrap (8 * n_1)) - 1)))))] ?_
   refine bindE h0 ?_; clear h0; intro n29 hn30 h0
   refine gv_name (s := 11) (v := (.int .u64 (shlI .u64 1 (IntKind.i64.wrap ((IntKind.i64.wrap (8 * n_1)) - 1))))) (v' := (.int .u64 n29)) kr (congrArg (Value.int .u64) (sj hn30)) ?_
   refine gv_nil <| gv_seq <| gv_block <| gv_seq <| gv_region <| pN 3 [36, 37, 38] [(36, (.bool (!signed_2)))] ?_
   refine gv_nil <| gv_cond (b := (!signed_2)) kr (fun hc31 => ?_) (fun hc31 => ?_)
   ·replace h0 := ite_t hc31 h0
    refine gv_seq <| gv_region <| bindE h0 ?_; clear h0; intro j32 h1 h0
    refine gv_cut_ops (J := fun a w33 => Below w0.heap.size w0 w33 ∧ w10.heap.size ≤ w33.heap.size ∧ a.defers = [] ∧ a.tmps.size = 61 ∧ Ok [(6, (.int .u64 j32.1)), (7, (.bool j32.2))] a.tmps) ?_ ?_
    ·skip
     refine pN 2 [39, 40] [(39, (.int .u64 j9)), (40, (bp b1))] ?_
     refine gv_load (t := 4) (A := ⟨b1, 0, none⟩) (.bool a_0.1) [] (fun e => by cases e) rfl rfl rfl kr kr kr (inw0 (hb27.cell 0 rfl)) rfl ?_
     refine pN 2 [42, 43] [(43, (.bool (!a_0.1)))] ?_
     refine gv_split (s := 43) (g := (!a_0.1)) kr (fun hc34 => ?_) (fun hc34 => ?_)
     ·skip
      replace h1 := ite_t hc34 h1
      refine pN 7 [6, 7, 44, 45, 46, 47, 48] [(6, (.int .u64 j9)), (7, (.bool (decide (((j9).fdiv (2 ^ 1)) < n29))))] ?_
      refine gv_nil ?_
      have e := sj h1; subst e
      refine gv_goal fun a hd hs hok => ?_
      exact ⟨hB25, nrf, hd, hs, okp [6, 7] hok⟩
     ·skip
      replace h1 := ite_f hc34 h1
      refine pN 7 [6, 7, 44, 45, 46, 47, 48] [(6, (.int .u64 j9)), (7, (.bool false))] ?_
      refine gv_nil ?_
      have e := sj h1; subst e
      refine gv_goal fun a hd hs hok => ?_
      exact ⟨hB25, nrf, hd, hs, okp [6, 7] hok⟩
    ·rintro a w33 ⟨hB35, hz36, hd, hs, hok⟩
     refine gv_in ?_ hd hs hok
     clear hd hs hok
     clear hz36 hc31 hn30 hx28 hb27 hB25 hbe5
     refine gv_cret ?_
     have e := sj h0; subst e
     refine gv_ret (gv_done [(.int .u64 j32.1), (.bool j32.2)] rfl ⟨kr, kr, trivial⟩ ?_)
     exact ⟨grown_of_below hB35, rfl⟩
   ·replace h0 := ite_f hc31 h0
    refine gv_seq <| gv_region <| pN 1 [50] [(50, (bp b1))] ?_
    refine gv_load (t := 4) (A := ⟨b1, 0, none⟩) (.bool a_0.1) [] (fun e => by cases e) rfl rfl rfl kr kr kr (inw0 (hb27.cell 0 rfl)) rfl ?_
    refine pN 1 [49] [(49, (.bool a_0.1))] ?_
    refine gv_nil <| gv_cond (b := a_0.1) kr (fun hc37 => ?_) (fun hc37 => ?_)
    ·replace h0 := ite_t hc37 h0
     refine gv_seq <| gv_region <| pN 7 [6, 7, 52, 53, 54, 55, 56] [(6, (.int .u64 (IntKind.u64.wrap (0 - j9)))), (7, (.bool (decide (j9 ≤ n29))))] ?_
     refine gv_nil <| gv_cret ?_
     have e := sj h0; subst e
     refine gv_ret (gv_done [(.int .u64 (IntKind.u64.wrap (0 - j9))), (.bool (decide (j9 ≤ n29)))] rfl ⟨kr, kr, trivial⟩ ?_)
     exact ⟨grown_of_below hB25, rfl⟩
    ·replace h0 := ite_f hc37 h0
     refine gv_skip <| gv_blk <| gv_seq <| gv_region <| pN 6 [6, 7, 57, 58, 59, 60] [(6, (.int .u64 j9)), (7, (.bool (decide (j9 < n29))))] ?_
     refine gv_nil <| gv_cret ?_
     have e := sj h0; subst e
     refine gv_ret (gv_done [(.int .u64 j9), (.bool (decide (j9 < n29)))] rfl ⟨kr, kr, trivial⟩ ?_)
     exact ⟨grown_of_below hB25, rfl⟩

theorem packing_zigzag_ok (fuel : Nat) (pa0_0 : Option Addr) (pc0_0 : Nat) (out_0 : (List UInt8)) (u_1 : Int) (w0 : World) (hpa0_0 : Gv.Own bE 5 w0 (fun _ => False) pa0_0 pc0_0 out_0) (r0 : (List UInt8)) (h0 : packing_zigzag fuel out_0 u_1 = some r0) :
    Calls Tryz.prog 59 ([(.slice pa0_0 (length out_0) pc0_0), (.int .u64 u_1)] : List Value).toArray w0 (Ret fun v w' => w0.grownBy w' (blk pa0_0) ∧ ∃ (a0_0r : Option Addr) (c0_0r : Nat), v = tup [(.slice a0_0r (length r0) c0_0r)] ∧ Gv.Own bE 5 w' (fun _ => False) a0_0r c0_0r r0 ∧ (∀ g, blk a0_0r = some g → blk pa0_0 = some g ∨ w0.heap.size ≤ g)) := by
 have hB0 : w0.grownBy w0 (blk pa0_0) := grown_refl _ _
 unfold packing_zigzag at h0
 refine calls_run Tryz.func59 rfl Tryz.ntmps59 kr ?_
 refine gv_sub [0, 1] (σ' := [(0, (.slice pa0_0 (length out_0) pc0_0)), (1, (.int .u64 u_1))]) kr ?_
 refine gv_seq <| gv_region <| pN 1 [4] [] ?_
 refine gv_nil <| gv_seq <| gv_region <| pN 7 [1, 5, 6, 7, 8, 9, 10] [(1, (.int .u64 (bwXor .u64 (IntKind.u64.wrap (u_1 * 2 ^ 1)) (IntKind.u64.wrap (0 - ((u_1).fdiv (2 ^ 63)))))))] ?_
 refine bindE h0 ?_; clear h0; intro n1 hn2 h0
 refine gv_name (s := 1) (v := (.int .u64 (bwXor .u64 (IntKind.u64.wrap (u_1 * 2 ^ 1)) (IntKind.u64.wrap (0 - ((u_1).fdiv (2 ^ 63))))))) (v' := (.int .u64 n1)) kr (congrArg (Value.int .u64) (sj hn2)) ?_
 refine gv_nil <| gv_seq <| bindE h0 ?_; clear h0; intro j3 h1 h0
 refine gv_cut_code (J := fun a w4 => ∃ (a0_0j : Option Addr) (c0_0j : Nat), w0.grownBy w4 (blk pa0_0) ∧ w0.heap.size ≤ w4.heap.size ∧ Gv.Own bE 5 w4 (fun _ => False) a0_0j c0_0j j3.1 ∧ (∀ g, blk a0_0j = some g → blk pa0_0 = some g ∨ w0.heap.size ≤ g) ∧ a.defers = [] ∧ a.tmps.size = 26 ∧ Ok [(0, (.slice a0_0j (length j3.1) c0_0j)), (1, (.int .u64 j3.2))] a.tmps) ?_ ?_
 ·skip
  refine gv_block <| gv_loop (A := fun (s5 : ((List UInt8) × Int)) a w6 => ∃ (a0_0j : Option Addr) (c0_0j : Nat), w0.grownBy w6 (blk pa0_0) ∧ w0.heap.size ≤ w6.heap.size ∧ Gv.Own bE 5 w6 (fun _ => False) a0_0j c0_0j s5.1 ∧ (∀ g, blk a0_0j = some g → blk pa0_0 = some g ∨ w0.heap.size ≤ g) ∧ a.defers = [] ∧ a.tmps.size = 26 ∧ Ok [(0, (.slice a0_0j (length s5.1) c0_0j)), (1, (.int .u64 s5.2))] a.tmps) h1 ?_ ?_
  ·intro a hd hs hok
   exact ⟨pa0_0, pc0_0, hB0, nrf, hpa0_0, (fun g e => Or.inl e), hd, hs, okp [0, 1] hok⟩
  ·rintro s5 r2 h2 hR2 a w6 ⟨a9, c10, hB7, hz8, ho11, hl12, hd, hs, hok⟩
   refine gv_in ?_ hd hs hok
   clear hd hs hok
   refine gv_seq <| gv_seq <| gv_region <| pN 2 [11, 12] [(12, (.bool (decide (s5.2 ≥ 128))))] ?_
   refine gv_nil <| gv_cond (b := (decide (s5.2 ≥ 128))) kr (fun hc13 => ?_) (fun hc13 => ?_)
   ·replace h2 := ite_t hc13 h2
    refine gv_skip <| gv_seq <| gv_block <| gv_region <| pN 4 [15, 16, 17, 18] [(15, (.slice a9 (length s5.1) c10)), (18, (.int .u8 (bwOr .u8 (IntKind.u8.wrap (s5.2)) 128)))] ?_
    refine bindE h2 ?_; clear h2; intro b14 hb15 h2
    have hu16 := u8_spec hb15
    refine gv_new0 (fun b => .slice (some ⟨b, 0, none⟩) 1 1) #[(.int .u8 (bwOr .u8 (IntKind.u8.wrap (s5.2)) 128))] 5 kr kr ?_
    intro b17 w18 hg19 hb20 hbe21 hz22
    have ho23 : Gv.Own bE 5 w18 (fun _ => False) (some ⟨b17, 0, none⟩) 1 ([b14] : List UInt8) := Box.ownE hb20 ⟨[(.int .u8 (bwOr .u8 (IntKind.u8.wrap (s5.2)) 128))], [], rfl, (by simp only [bE, flat, hu16]), rfl⟩ (show 1 ≤ maxLen by decide) (fun h => h)
    have hl24 : ∀ g, blk (some ⟨b17, 0, none⟩) = some g → w0.heap.size ≤ g := loo hbe21 hB7.size
    refine bindE h2 ?_; clear h2; intro l28 hx29 h2
    have hk36 := ho11.grown hg19 (fun _ h => h.elim) nb
    refine gv_append bE (t := 23) (ty := 23) (e := 5) (a := a9) (ax := (some ⟨b17, 0, none⟩)) (cap := c10) (cx := 1) (xs := s5.1) (ys := ([b14] : List UInt8)) l28 (X := (fun _ => False)) (Y := (fun k => blk (some ⟨b17, 0, none⟩) = some k)) (by decide) rfl rfl kr kr Tryz.underlying23 info5 hk36 (ho23.rd (Y := fun k => blk (some ⟨b17, 0, none⟩) = some k) (fun _ h => h.elim) (fun g e => e)) hx29 (.inr fun _ _ _ _ _ h => h) (fun _ h => h.elim) ?_
    intro a30 c31 w32 hg33 ho34 hk35
    refine ⟨(fun e => by cases e), ?_⟩
    have hB38 := grown_stepO hB7 hg19 nb
    have hl37 : ∀ g, blk a30 = some g → blk pa0_0 = some g ∨ w0.heap.size ≤ g := blkw_tr (blkw_of hk35) hl12 hB38.size
    have ap40 : ∀ g, blk a9 = some g → ¬ (fun k => blk (some ⟨b17, 0, none⟩) = some k) g := fun g e hx => nl ((lowo hbe21) _ hx) ((fun k (hk : blk a9 = some k) => ho11.lt k hk) g e)
    have ap39 : ∀ g, blk a30 = some g → ¬ (fun k => blk (some ⟨b17, 0, none⟩) = some k) g := blk_neX hk35 ap40 (fun k (hk : blk (some ⟨b17, 0, none⟩) = some k) => ho23.lt k hk)
    have ap42 : ∀ g, blk (some ⟨b17, 0, none⟩) = some g → ¬ (fun k => blk a9 = some k) g := fun g e hx => nl ((lowo hbe21) g e) ((fun k (hk : blk a9 = some k) => ho11.lt k hk) _ hx)
    have ap41 : ∀ g, blk (some ⟨b17, 0, none⟩) = some g → ¬ (fun k => blk a30 = some k) g := fun g e h => blk_rev hk35 (fun h => ((ap42) g e) h) (ho23.lt g e) h
    refine pN 1 [0] [(0, (.slice a30 (length l28) c31))] ?_
    refine gv_nil <| gv_blk <| gv_region <| pN 3 [1, 13, 14] [(1, (.int .u64 ((s5.2).fdiv (2 ^ 7))))] ?_
    refine gv_nil ?_
    have e := sj h2; subst e
    refine gv_goal fun a hd hs hok => ?_
    have hB43 := grown_stepO hB38 hg33 hl12
    have hz44 := (nt (nt hz8 hg19.size) hg33.size)
    exact ⟨(l28, ((s5.2).fdiv (2 ^ 7))), rfl, a30, c31, hB43, hz44, ho34, hl37, hd, hs, okp [0, 1] hok⟩
   ·replace h2 := ite_f hc13 h2
    refine gv_cexit <| gv_exit rfl ?_
    have e := sj h2; subst e
    replace h1 := congrArg some (hR2 _ rfl)
    have e := sj h1; subst e
    refine gv_goal fun a hd hs hok => ?_
    have hz45 := hz8
    exact ⟨a9, c10, hB7, hz45, ho11, hl12, hd, hs, okp [0, 1] hok⟩
 ·rintro a w4 ⟨a48, c49, hB46, hz47, ho50, hl51, hd, hs, hok⟩
  refine gv_in ?_ hd hs hok
  clear hd hs hok
  refine gv_seq <| gv_region <| pN 3 [21, 22, 23] [(21, (.slice a48 (length j3.1) c49)), (23, (.int .u8 (IntKind.u8.wrap (j3.2))))] ?_
  refine bindE h0 ?_; clear h0; intro b52 hb53 h0
  have hu54 := u8_spec hb53
  refine gv_new0 (fun b => .slice (some ⟨b, 0, none⟩) 1 1) #[(.int .u8 (IntKind.u8.wrap (j3.2)))] 5 kr kr ?_
  intro b55 w56 hg57 hb58 hbe59 hz60
  have ho61 : Gv.Own bE 5 w56 (fun _ => False) (some ⟨b55, 0, none⟩) 1 ([b52] : List UInt8) := Box.ownE hb58 ⟨[(.int .u8 (IntKind.u8.wrap (j3.2)))], [], rfl, (by simp only [bE, flat, hu54]), rfl⟩ (show 1 ≤ maxLen by decide) (fun h => h)
  have hl62 : ∀ g, blk (some ⟨b55, 0, none⟩) = some g → w0.heap.size ≤ g := loo hbe59 hB46.size
  refine bindE h0 ?_; clear h0; intro l66 hx67 h0
  have hk74 := ho50.grown hg57 (fun _ h => h.elim) nb
  refine gv_append bE (t := 23) (ty := 23) (e := 5) (a := a48) (ax := (some ⟨b55, 0, none⟩)) (cap := c49) (cx := 1) (xs := j3.1) (ys := ([b52] : List UInt8)) l66 (X := (fun _ => False)) (Y := (fun k => blk (some ⟨b55, 0, none⟩) = some k)) (by decide) rfl rfl kr kr Tryz.underlying23 info5 hk74 (ho61.rd (Y := fun k => blk (some ⟨b55, 0, none⟩) = some k) (fun _ h => h.elim) (fun g e => e)) hx67 (.inr fun _ _ _ _ _ h => h) (fun _ h => h.elim) ?_
  intro a68 c69 w70 hg71 ho72 hk73
  refine ⟨(fun e => by cases e), ?_⟩
  have hB76 := grown_stepO hB46 hg57 nb
  have hl75 : ∀ g, blk a68 = some g → blk pa0_0 = some g ∨ w0.heap.size ≤ g := blkw_tr (blkw_of hk73) hl51 hB76.size
  have ap78 : ∀ g, blk a48 = some g → ¬ (fun k => blk (some ⟨b55, 0, none⟩) = some k) g := fun g e hx => nl ((lowo hbe59) _ hx) ((fun k (hk : blk a48 = some k) => ho50.lt k hk) g e)
  have ap77 : ∀ g, blk a68 = some g → ¬ (fun k => blk (some ⟨b55, 0, none⟩) = some k) g := blk_neX hk73 ap78 (fun k (hk : blk (some ⟨b55, 0, none⟩) = some k) => ho61.lt k hk)
  have ap80 : ∀ g, blk (some ⟨b55, 0, none⟩) = some g → ¬ (fun k => blk a48 = some k) g := fun g e hx => nl ((lowo hbe59) g e) ((fun k (hk : blk a48 = some k) => ho50.lt k hk) _ hx)
  have ap79 : ∀ g, blk (some ⟨b55, 0, none⟩) = some g → ¬ (fun k => blk a68 = some k) g := fun g e h => blk_rev hk73 (fun h => ((ap80) g e) h) (ho61.lt g e) h
  refine pN 1 [4] [(4, (.slice a68 (length l66) c69))] ?_
  refine gv_nil <| gv_cret ?_
  have e := sj h0; subst e
  refine gv_ret (gv_done [(.slice a68 (length l66) c69)] rfl ⟨kr, trivial⟩ ?_)
  have hB81 := grown_stepO hB76 hg71 hl51
  exact ⟨hB81, a68, c69, rfl, ho72, hl75⟩

theorem packing_order_ok (fuel : Nat) (pa0_0 : Option Addr) (pc0_0 : Nat) (out_0 : (List UInt8)) (u_1 : Int) (n_2 : Int) (big_3 : Bool) (w0 : World) (hpa0_0 : Gv.Own bE 5 w0 (fun _ => False) pa0_0 pc0_0 out_0) (r0 : (List UInt8)) (h0 : packing_order fuel out_0 u_1 n_2 big_3 = some r0) :
    Calls Tryz.prog 60 ([(.slice pa0_0 (length out_0) pc0_0), (.int .u64 u_1), (.int .i64 n_2), (.bool big_3)] : List Value).toArray w0 (Ret fun v w' => w0.grownBy w' (blk pa0_0) ∧ ∃ (a0_0r : Option Addr) (c0_0r : Nat), v = tup [(.slice a0_0r (length r0) c0_0r)] ∧ Gv.Own bE 5 w' (fun _ => False) a0_0r c0_0r r0 ∧ (∀ g, blk a0_0r = some g → blk pa0_0 = some g ∨ w0.heap.size ≤ g)) := by
 have hB0 : w0.grownBy w0 (blk pa0_0) := grown_refl _ _
 unfold packing_order at h0
 refine calls_run Tryz.func60 rfl Tryz.ntmps60 kr ?_
 refine gv_sub [0, 1, 2, 3] (σ' := [(0, (.slice pa0_0 (length out_0) pc0_0)), (1, (.int .u64 u_1)), (2, (.int .i64 n_2)), (3, (.bool big_3))]) kr ?_
 refine gv_seq <| gv_region <| pN 1 [8] [] ?_
 refine gv_nil <| gv_seq <| gv_seq <| gv_region <| pN 2 [11, 12] [(11, (.int .i64 n_2)), (12, (.int .i64 0))] ?_
 refine gv_nil <| bindE h0 ?_; clear h0; intro j1 h1 h0
 refine gv_cut_code (J := fun a w2 => ∃ (a0_0j : Option Addr) (c0_0j : Nat), w0.grownBy w2 (blk pa0_0) ∧ w0.heap.size ≤ w2.heap.size ∧ Gv.Own bE 5 w2 (fun _ => False) a0_0j c0_0j j1 ∧ (∀ g, blk a0_0j = some g → blk pa0_0 = some g ∨ w0.heap.size ≤ g) ∧ a.defers = [] ∧ a.tmps.size = 31 ∧ Ok [(0, (.slice a0_0j (length j1) c0_0j))] a.tmps) ?_ ?_
 ·skip
  refine gv_block <| gv_loop (A := fun (s3 : ((List UInt8) × Int)) a w4 => ∃ (a0_0j : Option Addr) (c0_0j : Nat), w0.grownBy w4 (blk pa0_0) ∧ w0.heap.size ≤ w4.heap.size ∧ Gv.Own bE 5 w4 (fun _ => False) a0_0j c0_0j s3.1 ∧ (∀ g, blk a0_0j = some g → blk pa0_0 = some g ∨ w0.heap.size ≤ g) ∧ a.defers = [] ∧ a.tmps.size = 31 ∧ Ok [(0, (.slice a0_0j (length s3.1) c0_0j)), (1, (.int .u64 u_1)), (2, (.int .i64 n_2)), (3, (.bool big_3)), (11, (.int .i64 n_2)), (12, (.int .i64 s3.2))] a.tmps) h1 ?_ ?_
  ·intro a hd hs hok
   exact ⟨pa0_0, pc0_0, hB0, nrf, hpa0_0, (fun g e => Or.inl e), hd, hs, okp [0, 1, 2, 3, 11, 12] hok⟩
  ·rintro s3 r2 h2 hR2 a w4 ⟨a7, c8, hB5, hz6, ho9, hl10, hd, hs, hok⟩
   refine gv_in ?_ hd hs hok
   clear hd hs hok
   refine gv_seq <| gv_region <| pN 1 [13] [(13, (.bool (decide (s3.2 < n_2))))] ?_
   refine gv_nil <| gv_seq <| gv_cond (b := (decide (s3.2 < n_2))) kr (fun hc11 => ?_) (fun hc11 => ?_)
   ·replace h2 := ite_t hc11 h2
    refine gv_skip <| gv_seq <| gv_block <| gv_seq <| gv_region <| pN 2 [9, 14] [(9, (.int .i64 s3.2))] ?_
    refine gv_nil <| gv_seq <| gv_region <| pN 2 [10, 15] [(10, (.int .i64 s3.2))] ?_
    refine gv_nil <| gv_seq <| gv_seq <| gv_region <| pN 1 [16] [(16, (.bool big_3))] ?_
    refine gv_nil <| bindE h2 ?_; clear h2; intro j12 h3 h2
    refine gv_cut_code (J := fun a w13 => w0.grownBy w13 (blk pa0_0) ∧ w4.heap.size ≤ w13.heap.size ∧ Gv.Own bE 5 w13 (fun _ => False) a7 c8 s3.1 ∧ a.defers = [] ∧ a.tmps.size = 31 ∧ Ok [(0, (.slice a7 (length s3.1) c8)), (1, (.int .u64 u_1)), (2, (.int .i64 n_2)), (3, (.bool big_3)), (10, (.int .i64 j12)), (11, (.int .i64 n_2)), (12, (.int .i64 s3.2))] a.tmps) ?_ ?_
    ·skip
     refine gv_cond (b := big_3) kr (fun hc14 => ?_) (fun hc14 => ?_)
     ·replace h3 := ite_t hc14 h3
      refine gv_region <| pN 5 [10, 17, 18, 19, 20] [(10, (.int .i64 (IntKind.i64.wrap ((IntKind.i64.wrap (n_2 - 1)) - s3.2))))] ?_
      refine bindE h3 ?_; clear h3; intro n15 hn16 h3
      refine gv_name (s := 10) (v := (.int .i64 (IntKind.i64.wrap ((IntKind.i64.wrap (n_2 - 1)) - s3.2)))) (v' := (.int .i64 n15)) kr (congrArg (Value.int .i64) (sj hn16)) ?_
      refine gv_nil ?_
      have e := sj h3; subst e
      refine gv_goal fun a hd hs hok => ?_
      exact ⟨hB5, nrf, ho9, hd, hs, okp [0, 1, 2, 3, 10, 11, 12] hok⟩
     ·replace h3 := ite_f hc14 h3
      refine gv_skip ?_
      have e := sj h3; subst e
      refine gv_goal fun a hd hs hok => ?_
      exact ⟨hB5, nrf, ho9, hd, hs, okp [0, 1, 2, 3, 10, 11, 12] hok⟩
    ·rintro a w13 ⟨hB17, hz18, hk19, hd, hs, hok⟩
     refine gv_in ?_ hd hs hok
     clear hd hs hok
     have hz20 := (nt hz6 hz18)
     clear hz18 hc11 ho9 hz6 hB5
     refine gv_region <| pN 4 [21, 22, 23, 24] [(21, (.slice a7 (length s3.1) c8)), (22, (.int .u64 u_1)), (24, (.int .i64 (IntKind.i64.wrap (8 * j12))))] ?_
     refine bindE h2 ?_; clear h2; intro _ hx21 h2
     refine gv_shift .shr (t := 100) (kk := .u64) (ky := .i64) (x := u_1) (y := (IntKind.i64.wrap (8 * j12))) (shrI .u64 u_1 (IntKind.i64.wrap (8 * j12))) [] (fun e => by cases e) rfl rfl rfl kr kr (nn_spec hx21) (.inr ⟨rfl, rfl⟩) rfl ?_
     refine pN 1 [26] [(26, (.int .u8 (IntKind.u8.wrap ((shrI .u64 u_1 (IntKind.i64.wrap (8 * j12)))))))] ?_
     refine bindE h2 ?_; clear h2; intro b22 hb23 h2
     have hu24 := u8_spec hb23
     refine gv_new0 (fun b => .slice (some ⟨b, 0, none⟩) 1 1) #[(.int .u8 (IntKind.u8.wrap ((shrI .u64 u_1 (IntKind.i64.wrap (8 * j12))))))] 5 kr kr ?_
     intro b25 w26 hg27 hb28 hbe29 hz30
     have ho31 : Gv.Own bE 5 w26 (fun _ => False) (some ⟨b25, 0, none⟩) 1 ([b22] : List UInt8) := Box.ownE hb28 ⟨[(.int .u8 (IntKind.u8.wrap ((shrI .u64 u_1 (IntKind.i64.wrap (8 * j12))))))], [], rfl, (by simp only [bE, flat, hu24]), rfl⟩ (show 1 ≤ maxLen by decide) (fun h => h)
     have hl32 : ∀ g, blk (some ⟨b25, 0, none⟩) = some g → w0.heap.size ≤ g := loo hbe29 hB17.size
     refine bindE h2 ?_; clear h2; intro l36 hx37 h2
     have hk44 := hk19.grown hg27 (fun _ h => h.elim) nb
     refine gv_append bE (t := 23) (ty := 23) (e := 5) (a := a7) (ax := (some ⟨b25, 0, none⟩)) (cap := c8) (cx := 1) (xs := s3.1) (ys := ([b22] : List UInt8)) l36 (X := (fun _ => False)) (Y := (fun k => blk (some ⟨b25, 0, none⟩) = some k)) (by decide) rfl rfl kr kr Tryz.underlying23 info5 hk44 (ho31.rd (Y := fun k => blk (some ⟨b25, 0, none⟩) = some k) (fun _ h => h.elim) (fun g e => e)) hx37 (.inr fun _ _ _ _ _ h => h) (fun _ h => h.elim) ?_
     intro a38 c39 w40 hg41 ho42 hk43
     refine ⟨(fun e => by cases e), ?_⟩
     have hB46 := grown_stepO hB17 hg27 nb
     have hl45 : ∀ g, blk a38 = some g → blk pa0_0 = some g ∨ w0.heap.size ≤ g := blkw_tr (blkw_of hk43) hl10 hB46.size
     have ap48 : ∀ g, blk a7 = some g → ¬ (fun k => blk (some ⟨b25, 0, none⟩) = some k) g := fun g e hx => nl ((lowo hbe29) _ hx) ((fun k (hk : blk a7 = some k) => hk19.lt k hk) g e)
     have ap47 : ∀ g, blk a38 = some g → ¬ (fun k => blk (some ⟨b25, 0, none⟩) = some k) g := blk_neX hk43 ap48 (fun k (hk : blk (some ⟨b25, 0, none⟩) = some k) => ho31.lt k hk)
     have ap50 : ∀ g, blk (some ⟨b25, 0, none⟩) = some g → ¬ (fun k => blk a7 = some k) g := fun g e hx => nl ((lowo hbe29) g e) ((fun k (hk : blk a7 = some k) => hk19.lt k hk) _ hx)
     have ap49 : ∀ g, blk (some ⟨b25, 0, none⟩) = some g → ¬ (fun k => blk a38 = some k) g := fun g e h => blk_rev hk43 (fun h => ((ap50) g e) h) (ho31.lt g e) h
     refine pN 1 [0] [(0, (.slice a38 (length l36) c39))] ?_
     refine gv_nil <| gv_blk <| gv_region <| pN 2 [12, 29] [(12, (.int .i64 (IntKind.i64.wrap (s3.2 + 1))))] ?_
     refine gv_nil ?_
     have e := sj h2; subst e
     refine gv_goal fun a hd hs hok => ?_
     have hB51 := grown_stepO hB46 hg41 hl10
     have hz52 := (nt (nt hz20 hg27.size) hg41.size)
     exact ⟨(l36, (IntKind.i64.wrap (s3.2 + 1))), rfl, a38, c39, hB51, hz52, ho42, hl45, hd, hs, okp [0, 1, 2, 3, 11, 12] hok⟩
   ·replace h2 := ite_f hc11 h2
    refine gv_cexit <| gv_exit rfl ?_
    have e := sj h2; subst e
    replace h1 := congrArg some (hR2 _ rfl)
    have e := sj h1; subst e
    refine gv_goal fun a hd hs hok => ?_
    have hz53 := hz6
    exact ⟨a7, c8, hB5, hz53, ho9, hl10, hd, hs, okp [0] hok⟩
 ·rintro a w2 ⟨a56, c57, hB54, hz55, ho58, hl59, hd, hs, hok⟩
  refine gv_in ?_ hd hs hok
  clear hd hs hok
  refine gv_seq <| gv_region <| pN 2 [8, 30] [(8, (.slice a56 (length j1) c57))] ?_
  refine gv_nil <| gv_cret ?_
  have e := sj h0; subst e
  refine gv_ret (gv_done [(.slice a56 (length j1) c57)] rfl ⟨kr, trivial⟩ ?_)
  exact ⟨hB54, a56, c57, rfl, ho58, hl59⟩

theorem packing_pack_ok (fuel : Nat) (pa0_0 : Option Addr) (pc0_0 : Nat) (out_0 : (List UInt8)) (f_1 : (Int × Int × Bool)) (pa2_0 : Option Addr) (pc2_0 : Nat) (pa2_1 : Option Addr) (pc2_1 : Nat) (v_2 : (Int × (Bool × (List Int)) × (Bool × (List Int)) × ByteArray × Int)) (w0 : World) (X0 : Nat → Prop) (hX0 : ∀ k, X0 k → k < w0.heap.size ∧ blk pa0_0 ≠ some k) (hpa0_0 : Gv.Own bE 5 w0 (fun _ => False) pa0_0 pc0_0 out_0) (hpa2_0 : Rd (iE .u32) w0 X0 pa2_0 pc2_0 v_2.2.1.2) (hpa2_1 : Rd (iE .u32) w0 X0 pa2_1 pc2_1 v_2.2.2.1.2) (r0 : ((List UInt8) × Int)) (h0 : packing_pack fuel out_0 f_1 v_2 = some r0) :
    Calls Tryz.prog 34 ([(.slice pa0_0 (length out_0) pc0_0), (.agg #[(.int .u8 f_1.1), (.int .i64 f_1.2.1), (.bool f_1.2.2)]), (.agg #[(.int .i64 v_2.1), (.bool v_2.2.1.1), (.slice pa2_0 (length v_2.2.1.2) pc2_0), (.bool v_2.2.2.1.1), (.slice pa2_1 (length v_2.2.2.1.2) pc2_1), (.string v_2.2.2.2.1), (.int .i64 v_2.2.2.2.2)])] : List Value).toArray w0 (Ret fun v w' => w0.grownBy w' (blk pa0_0) ∧ ∃ (a0_0r : Option Addr) (c0_0r : Nat), v = tup [(.slice a0_0r (length r0.1) c0_0r), (.int .i64 r0.2)] ∧ Gv.Own bE 5 w' (fun _ => False) a0_0r c0_0r r0.1 ∧ (∀ g, blk a0_0r = some g → blk pa0_0 = some g ∨ w0.heap.size ≤ g)) := by
 have hB0 : w0.grownBy w0 (blk pa0_0) := grown_refl _ _
 unfold packing_pack at h0
 refine calls_run Tryz.func34 rfl Tryz.ntmps34 kr ?_
 refine gv_sub [0, 1, 2] (σ' := [(0, (.slice pa0_0 (length out_0) pc0_0)), (1, (.agg #[(.int .u8 f_1.1), (.int .i64 f_1.2.1), (.bool f_1.2.2)])), (2, (.agg #[(.int .i64 v_2.1), (.bool v_2.2.1.1), (.slice pa2_0 (length v_2.2.1.2) pc2_0), (.bool v_2.2.2.1.1), (.slice pa2_1 (length v_2.2.2.1.2) pc2_1), (.string v_2.2.2.2.1), (.int .i64 v_2.2.2.2.2)]))]) kr ?_
 refine gv_seq <| gv_region <| gv_new0 (fun b => .pointer (some ⟨b, 0, none⟩)) #[(.int .u8 f_1.1), (.int .i64 f_1.2.1), (.bool f_1.2.2)] 49 kr kr ?_
 intro b1 w2 hg3 hb4 hbe5 hz6
 refine gv_new0 (fun b => .pointer (some ⟨b, 0, none⟩)) #[(.int .i64 v_2.1), (.bool v_2.2.1.1), (.slice pa2_0 (length v_2.2.1.2) pc2_0), (.bool v_2.2.2.1.1), (.slice pa2_1 (length v_2.2.2.1.2) pc2_1), (.string v_2.2.2.2.1), (.int .i64 v_2.2.2.2.2)] 41 kr kr ?_
 intro b7 w8 hg9 hb10 hbe11 hz12
 refine pN 2 [6, 7] [] ?_
 refine gv_nil <| gv_seq <| gv_region <| pN 1 [8] [(8, (.int .i64 2))] ?_
 refine gv_nil <| gv_seq <| gv_seq <| gv_region <| pN 1 [13] [(13, (bp b1))] ?_
 have hk13 := hb4.grown hg9 nb
 refine gv_load (t := 5) (A := ⟨b1, 0, none⟩) (.int .u8 f_1.1) [] (fun e => by cases e) rfl rfl rfl kr kr kr (inw0 (hk13.cell 0 rfl)) rfl ?_
 refine gv_nil <| gv_block <| gv_seq <| gv_seq <| gv_region <| pN 2 [15, 16] [(15, (.bool (f_1.1 == 115)))] ?_
 refine gv_nil <| bindE h0 ?_; clear h0; intro j14 h1 h0
 refine gv_cut_code (J := fun a w15 => w0.grownBy w15 (blk pa0_0) ∧ w8.heap.size ≤ w15.heap.size ∧ Box w15 b1 49 #[(.int .u8 f_1.1), (.int .i64 f_1.2.1), (.bool f_1.2.2)] ∧ Box w15 b7 41 #[(.int .i64 v_2.1), (.bool v_2.2.1.1), (.slice pa2_0 (length v_2.2.1.2) pc2_0), (.bool v_2.2.2.1.1), (.slice pa2_1 (length v_2.2.2.1.2) pc2_1), (.string v_2.2.2.2.1), (.int .i64 v_2.2.2.2.2)] ∧ Gv.Own bE 5 w15 (fun _ => False) pa0_0 pc0_0 out_0 ∧ a.defers = [] ∧ a.tmps.size = 95 ∧ Ok [(0, (.slice pa0_0 (length out_0) pc0_0)), (4, (bp b1)), (5, (bp b7)), (8, (.int .i64 2)), (14, (.int .u8 f_1.1)), (15, (.bool j14))] a.tmps) ?_ ?_
 ·skip
  refine gv_cond (b := (f_1.1 == 115)) kr (fun hc16 => ?_) (fun hc16 => ?_)
  ·replace h1 := ite_t hc16 h1
   refine gv_skip ?_
   have e := sj h1; subst e
   refine gv_goal fun a hd hs hok => ?_
   have hg17 := (grown_trans hg3 hg9)
   have hB18 := grown_stepO hB0 hg17 nb
   have hk19 := hpa0_0.grown hg17 (fun _ h => h.elim) nb
   exact ⟨hB18, nrf, hk13, hb10, hk19, hd, hs, okp [0, 4, 5, 8, 14, 15] hok⟩
  ·replace h1 := ite_f hc16 h1
   refine gv_region <| pN 2 [15, 17] [(15, (.bool (f_1.1 == 112)))] ?_
   refine gv_nil ?_
   have e := sj h1; subst e
   refine gv_goal fun a hd hs hok => ?_
   have hg20 := (grown_trans hg3 hg9)
   have hB21 := grown_stepO hB0 hg20 nb
   have hk22 := hpa0_0.grown hg20 (fun _ h => h.elim) nb
   exact ⟨hB21, nrf, hk13, hb10, hk22, hd, hs, okp [0, 4, 5, 8, 14, 15] hok⟩
 ·rintro a w15 ⟨hB23, hz24, hb25, hb26, hk27, hd, hs, hok⟩
  refine gv_in ?_ hd hs hok
  clear hd hs hok
  clear hz24 hk13 hz12 hb10 hg9 hz6
  refine bindE h0 ?_; clear h0; intro j28 h1 h0
  refine gv_cut_code (J := fun a w29 => w0.grownBy w29 (blk pa0_0) ∧ w15.heap.size ≤ w29.heap.size ∧ Box w29 b1 49 #[(.int .u8 f_1.1), (.int .i64 f_1.2.1), (.bool f_1.2.2)] ∧ Box w29 b7 41 #[(.int .i64 v_2.1), (.bool v_2.2.1.1), (.slice pa2_0 (length v_2.2.1.2) pc2_0), (.bool v_2.2.2.1.1), (.slice pa2_1 (length v_2.2.2.1.2) pc2_1), (.string v_2.2.2.2.1), (.int .i64 v_2.2.2.2.2)] ∧ Gv.Own bE 5 w29 (fun _ => False) pa0_0 pc0_0 out_0 ∧ a.defers = [] ∧ a.tmps.size = 95 ∧ Ok [(0, (.slice pa0_0 (length out_0) pc0_0)), (4, (bp b1)), (5, (bp b7)), (8, (.int .i64 j28))] a.tmps) ?_ ?_
  ·skip
   refine gv_cond (b := j14) kr (fun hc30 => ?_) (fun hc30 => ?_)
   ·replace h1 := ite_t hc30 h1
    refine gv_region <| pN 1 [8] [(8, (.int .i64 5))] ?_
    refine gv_nil ?_
    have e := sj h1; subst e
    refine gv_goal fun a hd hs hok => ?_
    exact ⟨hB23, nrf, hb25, hb26, hk27, hd, hs, okp [0, 4, 5, 8] hok⟩
   ·replace h1 := ite_f hc30 h1
    refine gv_seq <| gv_region <| pN 2 [18, 19] [(18, (.bool (f_1.1 == 63)))] ?_
    refine gv_nil <| gv_cond (b := (f_1.1 == 63)) kr (fun hc31 => ?_) (fun hc31 => ?_)
    ·replace h1 := ite_t hc31 h1
     refine gv_region <| pN 1 [8] [(8, (.int .i64 1))] ?_
     refine gv_nil ?_
     have e := sj h1; subst e
     refine gv_goal fun a hd hs hok => ?_
     exact ⟨hB23, nrf, hb25, hb26, hk27, hd, hs, okp [0, 4, 5, 8] hok⟩
    ·replace h1 := ite_f hc31 h1
     refine gv_skip ?_
     have e := sj h1; subst e
     refine gv_goal fun a hd hs hok => ?_
     exact ⟨hB23, nrf, hb25, hb26, hk27, hd, hs, okp [0, 4, 5, 8] hok⟩
  ·rintro a w29 ⟨hB32, hz33, hb34, hb35, hk36, hd, hs, hok⟩
   refine gv_in ?_ hd hs hok
   clear hd hs hok
   clear hz33 hk27 hb26 hb25 hB23
   refine gv_blk <| gv_seq <| gv_seq <| gv_region <| pN 1 [20] [(20, (bp b7))] ?_
   refine gv_load (t := 3) (A := ⟨b7, 0, none⟩) (.int .i64 v_2.1) [] (fun e => by cases e) rfl rfl rfl kr kr kr (inw0 (hb35.cell 0 rfl)) rfl ?_
   refine pN 2 [22, 23] [(23, (.bool (v_2.1 != j28)))] ?_
   refine gv_nil <| gv_cond (b := (v_2.1 != j28)) kr (fun hc37 => ?_) (fun hc37 => ?_)
   ·replace h0 := ite_t hc37 h0
    refine gv_seq <| gv_region <| pN 2 [6, 7] [(6, (.slice none (length ([] : List UInt8)) 0)), (7, (.int .i64 13))] ?_
    refine gv_nil <| gv_cret ?_
    have e := sj h0; subst e
    refine gv_ret (gv_done [(.slice none (length ([] : List UInt8)) 0), (.int .i64 13)] rfl ⟨kr, kr, trivial⟩ ?_)
    exact ⟨hB32, none, 0, rfl, (Gv.Own.nil bE 5 w29 (fun _ => False)), (fun g e => .inr ((fun _ h => by cases h) g e))⟩
   ·replace h0 := ite_f hc37 h0
    refine gv_skip <| gv_seq <| gv_seq <| gv_region <| pN 1 [24] [(24, (bp b1))] ?_
    refine gv_load (t := 5) (A := ⟨b1, 0, none⟩) (.int .u8 f_1.1) [] (fun e => by cases e) rfl rfl rfl kr kr kr (inw0 (hb34.cell 0 rfl)) rfl ?_
    refine gv_nil <| gv_block <| gv_seq <| gv_region <| pN 2 [26, 27] [(26, (.bool (f_1.1 == 115)))] ?_
    refine gv_nil <| gv_cond (b := (f_1.1 == 115)) kr (fun hc38 => ?_) (fun hc38 => ?_)
    ·replace h0 := ite_t hc38 h0
     refine gv_seq <| gv_seq <| gv_region <| pN 1 [28] [(28, (.pointer (some ⟨b7, 5, none⟩)))] ?_
     refine gv_load (t := 9) (A := ⟨b7, 5, none⟩) (.string v_2.2.2.2.1) [] (fun e => by cases e) rfl rfl rfl kr kr kr (inw0 (hb35.cell 5 rfl)) rfl ?_
     refine pN 2 [30, 31] [(30, (.int .i64 ((ByteArray.size v_2.2.2.2.1 : Nat) : Int))), (31, (.pointer (some ⟨b1, 1, none⟩)))] ?_
     refine gv_load (t := 3) (A := ⟨b1, 1, none⟩) (.int .i64 f_1.2.1) [] (fun e => by cases e) rfl rfl rfl kr kr kr (inw0 (hb34.cell 1 rfl)) rfl ?_
     refine pN 1 [33] [(33, (.bool (((ByteArray.size v_2.2.2.2.1 : Nat) : Int) != f_1.2.1)))] ?_
     refine gv_nil <| gv_cond (b := (((ByteArray.size v_2.2.2.2.1 : Nat) : Int) != f_1.2.1)) kr (fun hc39 => ?_) (fun hc39 => ?_)
     ·replace h0 := ite_t hc39 h0
      refine gv_seq <| gv_region <| pN 2 [6, 7] [(6, (.slice none (length ([] : List UInt8)) 0)), (7, (.int .i64 9))] ?_
      refine gv_nil <| gv_cret ?_
      have e := sj h0; subst e
      refine gv_ret (gv_done [(.slice none (length ([] : List UInt8)) 0), (.int .i64 9)] rfl ⟨kr, kr, trivial⟩ ?_)
      exact ⟨hB32, none, 0, rfl, (Gv.Own.nil bE 5 w29 (fun _ => False)), (fun g e => .inr ((fun _ h => by cases h) g e))⟩
     ·replace h0 := ite_f hc39 h0
      refine gv_skip <| gv_seq <| gv_region <| pN 2 [34, 35] [(34, (.slice pa0_0 (length out_0) pc0_0)), (35, (.pointer (some ⟨b7, 5, none⟩)))] ?_
      refine gv_load (t := 9) (A := ⟨b7, 5, none⟩) (.string v_2.2.2.2.1) [] (fun e => by cases e) rfl rfl rfl kr kr kr (inw0 (hb35.cell 5 rfl)) rfl ?_
      refine bindE h0 ?_; clear h0; intro l40 hx41 h0
      refine gv_appendA (t := 23) (tx := 9) (ty := 23) (e := 5) (z := .int .u8 0) (x := (.string v_2.2.2.2.1)) (a := pa0_0) (cap := pc0_0) (xs := out_0) (bytesOf v_2.2.2.2.1) l40 (by decide) rfl rfl kr kr (asrc_strB w29 Tryz.underlying23 Tryz.underlying9 kr v_2.2.2.2.1) rfl hk36 hx41 ?_
      intro a42 c43 w44 hg45 ho46 hk47
      refine ⟨(fun e => by cases e), ?_⟩
      have hl48 : ∀ g, blk a42 = some g → blk pa0_0 = some g ∨ w0.heap.size ≤ g := blkw_tr (blkw_of hk47) (fun g e => Or.inl e) hB32.size
      have ap50 : ∀ g, blk pa0_0 = some g → ¬ (· = b1) g := fun g e hx => nl ((lowb hbe5) _ hx) ((fun k (hk : blk pa0_0 = some k) => hpa0_0.lt k hk) g e)
      have ap49 : ∀ g, blk a42 = some g → ¬ (· = b1) g := blk_neX hk47 ap50 (ltb hb34)
      have ap52 : ¬ (fun k => blk pa0_0 = some k) b1 := fun hx => nl ((lowb hbe5) _ rfl) ((fun k (hk : blk pa0_0 = some k) => hpa0_0.lt k hk) _ hx)
      have ap51 : ¬ (fun k => blk a42 = some k) b1 := fun h => blk_rev hk47 (fun h => (ap52) h) (hb34.lt) h
      have hk54 := hpa0_0.grown hg3 (fun _ h => h.elim) nb
      have ap55 : ∀ g, blk pa0_0 = some g → ¬ (· = b7) g := fun g e hx => nl ((lowb hbe11) _ hx) ((fun k (hk : blk pa0_0 = some k) => hk54.lt k hk) g e)
      have ap53 : ∀ g, blk a42 = some g → ¬ (· = b7) g := blk_neX hk47 ap55 (ltb hb35)
      have ap57 : ¬ (fun k => blk pa0_0 = some k) b7 := fun hx => nl ((lowb hbe11) _ rfl) ((fun k (hk : blk pa0_0 = some k) => hk54.lt k hk) _ hx)
      have ap56 : ¬ (fun k => blk a42 = some k) b7 := fun h => blk_rev hk47 (fun h => (ap57) h) (hb35.lt) h
      refine pN 2 [6, 7] [(6, (.slice a42 (length l40) c43)), (7, (.int .i64 0))] ?_
      refine gv_sub [6, 7] (σ' := [(6, (.slice a42 (length l40) c43)), (7, (.int .i64 0))]) kr ?_
      refine gv_nil <| gv_cret ?_
      have e := sj h0; subst e
      refine gv_ret (gv_done [(.slice a42 (length l40) c43), (.int .i64 0)] rfl ⟨kr, kr, trivial⟩ ?_)
      have hB58 := grown_stepO hB32 hg45 (fun g e => Or.inl e)
      exact ⟨hB58, a42, c43, rfl, ho46, hl48⟩
    ·replace h0 := ite_f hc38 h0
     refine gv_seq <| gv_region <| pN 2 [38, 39] [(38, (.bool (f_1.1 == 112)))] ?_
     refine gv_nil <| gv_cond (b := (f_1.1 == 112)) kr (fun hc59 => ?_) (fun hc59 => ?_)
     ·replace h0 := ite_t hc59 h0
      refine gv_seq <| gv_seq <| gv_region <| pN 1 [40] [(40, (.pointer (some ⟨b7, 5, none⟩)))] ?_
      refine gv_load (t := 9) (A := ⟨b7, 5, none⟩) (.string v_2.2.2.2.1) [] (fun e => by cases e) rfl rfl rfl kr kr kr (inw0 (hb35.cell 5 rfl)) rfl ?_
      refine pN 2 [42, 43] [(43, (.bool (decide (((ByteArray.size v_2.2.2.2.1 : Nat) : Int) > 255))))] ?_
      refine gv_nil <| gv_cond (b := (decide (((ByteArray.size v_2.2.2.2.1 : Nat) : Int) > 255))) kr (fun hc60 => ?_) (fun hc60 => ?_)
      ·replace h0 := ite_t hc60 h0
       refine gv_seq <| gv_region <| pN 2 [6, 7] [(6, (.slice none (length ([] : List UInt8)) 0)), (7, (.int .i64 9))] ?_
       refine gv_nil <| gv_cret ?_
       have e := sj h0; subst e
       refine gv_ret (gv_done [(.slice none (length ([] : List UInt8)) 0), (.int .i64 9)] rfl ⟨kr, kr, trivial⟩ ?_)
       exact ⟨hB32, none, 0, rfl, (Gv.Own.nil bE 5 w29 (fun _ => False)), (fun g e => .inr ((fun _ h => by cases h) g e))⟩
      ·replace h0 := ite_f hc60 h0
       refine gv_skip <| gv_seq <| gv_drawA kr ?_
       intro w61 hg62
       refine gv_pre [0, 1, 7] (bA 12 [0, 1, 7]) 9 kr kr ?_
       refine pN 3 [44, 45, 51] [(44, (.slice pa0_0 (length out_0) pc0_0)), (45, (.pointer (some ⟨b7, 5, none⟩))), (51, (.pointer (some ⟨b7, 5, none⟩)))] ?_
       refine gv_nil <| gv_goA ?_
       refine gv_stage (Cls w61 (ownL pa0_0 [])) [2, 3, 4, 5, 6, 8] [(2, some true), (3, some true), (4, some true), (8, some true), (5, some false), (6, some false)] (bA 12 [0, 1, 2, 3, 4, 5, 6, 7, 8]) 3 kr kr (Cls.refl _ _) ?_
       have hC63 := Cls.refl w61 (ownL pa0_0 [])
       have hk64 := hb35.grown hg62 nb
       have hk65 := hpa0_0.grown hg3 (fun _ h => h.elim) nb
       have ap66 : ∀ g, blk pa0_0 = some g → ¬ (· = b7) g := fun g e hx => nl ((lowb hbe11) _ hx) ((fun k (hk : blk pa0_0 = some k) => hk65.lt k hk) g e)
       refine gv_load (t := 9) (A := ⟨b7, 5, none⟩) (.string v_2.2.2.2.1) [] (fun e => by cases e) rfl rfl rfl kr kr kr (inw1 fun w' hC' => ((hC'.box hk64 (nm_own ap66 nm_nil)).cell 5 rfl)) rfl ?_
       refine pN 2 [47, 48] [(48, (.int .u8 (IntKind.u8.wrap (((ByteArray.size v_2.2.2.2.1 : Nat) : Int)))))] ?_
       refine gv_load (t := 9) (A := ⟨b7, 5, none⟩) (.string v_2.2.2.2.1) [] (fun e => by cases e) rfl rfl rfl kr kr kr (inw1 fun w' hC' => ((hC'.box hk64 (nm_own ap66 nm_nil)).cell 5 rfl)) rfl ?_
       refine gv_sub [44, 48, 52] (σ' := [(44, (.slice pa0_0 (length out_0) pc0_0)), (48, (.int .u8 (IntKind.u8.wrap (((ByteArray.size v_2.2.2.2.1 : Nat) : Int))))), (52, (.string v_2.2.2.2.1))]) kr ?_
       refine bindE h0 ?_; clear h0; intro b67 hb68 h0
       have hu69 := u8_spec hb68
       refine gv_new (fun b => .slice (some ⟨b, 0, none⟩) 1 1) #[(.int .u8 (IntKind.u8.wrap (((ByteArray.size v_2.2.2.2.1 : Nat) : Int))))] 5 (by decide) rfl rfl kr kr ?_
       intro b70 w71 hg72 hb73 hbe74 hz75
       refine ⟨(fun _ => hC63.grown hg72 nb), ?_⟩
       have ho76 : Gv.Own bE 5 w71 (fun _ => False) (some ⟨b70, 0, none⟩) 1 ([b67] : List UInt8) := Box.ownE hb73 ⟨[(.int .u8 (IntKind.u8.wrap (((ByteArray.size v_2.2.2.2.1 : Nat) : Int))))], [], rfl, (by simp only [bE, flat, hu69]), rfl⟩ (show 1 ≤ maxLen by decide) (fun h => h)
       have hB81 := grown_stepO hB32 hg62 nb
       have hl77 : ∀ g, blk (some ⟨b70, 0, none⟩) = some g → w0.heap.size ≤ g := loo hbe74 hB81.size
       refine bindE h0 ?_; clear h0; intro l82 hx83 h0
       have hg90 := (grown_trans hg62 hg72)
       have hk91 := hk36.grown hg90 (fun _ h => h.elim) nb
       refine gv_append bE (t := 23) (ty := 23) (e := 5) (a := pa0_0) (ax := (some ⟨b70, 0, none⟩)) (cap := pc0_0) (cx := 1) (xs := out_0) (ys := ([b67] : List UInt8)) l82 (X := (fun _ => False)) (Y := (fun k => blk (some ⟨b70, 0, none⟩) = some k)) (by decide) rfl rfl kr kr Tryz.underlying23 info5 hk91 (ho76.rd (Y := fun k => blk (some ⟨b70, 0, none⟩) = some k) (fun _ h => h.elim) (fun g e => e)) hx83 (.inr fun _ _ _ _ _ h => h) (fun _ h => h.elim) ?_
       intro a84 c85 w86 hg87 ho88 hk89
       have hC92 := hC63.grown hg72 nb
       refine ⟨(fun _ => hC92.grown hg87 fo_own), ?_⟩
       have hB94 := grown_stepO hB81 hg72 nb
       have hl93 : ∀ g, blk a84 = some g → blk pa0_0 = some g ∨ w0.heap.size ≤ g := blkw_tr (blkw_of hk89) (fun g e => Or.inl e) hB94.size
       have ap96 : ∀ g, blk pa0_0 = some g → ¬ (· = b1) g := fun g e hx => nl ((lowb hbe5) _ hx) ((fun k (hk : blk pa0_0 = some k) => hpa0_0.lt k hk) g e)
       have hk97 := hb34.grown hg90 nb
       have ap95 : ∀ g, blk a84 = some g → ¬ (· = b1) g := blk_neX hk89 ap96 (ltb hk97)
       have ap99 : ¬ (fun k => blk pa0_0 = some k) b1 := fun hx => nl ((lowb hbe5) _ rfl) ((fun k (hk : blk pa0_0 = some k) => hpa0_0.lt k hk) _ hx)
       have ap98 : ¬ (fun k => blk a84 = some k) b1 := fun h => blk_rev hk89 (fun h => (ap99) h) (hk97.lt) h
       have hk101 := hk64.grown hg72 nb
       have ap100 : ∀ g, blk a84 = some g → ¬ (· = b7) g := blk_neX hk89 ap66 (ltb hk101)
       have ap103 : ¬ (fun k => blk pa0_0 = some k) b7 := fun hx => nl ((lowb hbe11) _ rfl) ((fun k (hk : blk pa0_0 = some k) => hk65.lt k hk) _ hx)
       have ap102 : ¬ (fun k => blk a84 = some k) b7 := fun h => blk_rev hk89 (fun h => (ap103) h) (hk101.lt) h
       have hk105 := hk36.grown hg62 (fun _ h => h.elim) nb
       have ap106 : ∀ g, blk pa0_0 = some g → ¬ (fun k => blk (some ⟨b70, 0, none⟩) = some k) g := fun g e hx => nl ((lowo hbe74) _ hx) ((fun k (hk : blk pa0_0 = some k) => hk105.lt k hk) g e)
       have ap104 : ∀ g, blk a84 = some g → ¬ (fun k => blk (some ⟨b70, 0, none⟩) = some k) g := blk_neX hk89 ap106 (fun k (hk : blk (some ⟨b70, 0, none⟩) = some k) => ho76.lt k hk)
       have ap108 : ∀ g, blk (some ⟨b70, 0, none⟩) = some g → ¬ (fun k => blk pa0_0 = some k) g := fun g e hx => nl ((lowo hbe74) g e) ((fun k (hk : blk pa0_0 = some k) => hk105.lt k hk) _ hx)
       have ap107 : ∀ g, blk (some ⟨b70, 0, none⟩) = some g → ¬ (fun k => blk a84 = some k) g := fun g e h => blk_rev hk89 (fun h => ((ap108) g e) h) (ho76.lt g e) h
       refine gv_nil <| gv_goA ?_
       refine gv_stage (fun _ => True) [9] [(9, some false)] (bA 12 [0, 1, 2, 3, 4, 5, 6, 7, 8, 9]) 2 kr kr trivial ?_
       refine bindE h0 ?_; clear h0; intro l109 hx110 h0
       refine gv_appendA (t := 23) (tx := 9) (ty := 23) (e := 5) (z := .int .u8 0) (x := (.string v_2.2.2.2.1)) (a := a84) (cap := c85) (xs := l82) (bytesOf v_2.2.2.2.1) l109 (by decide) rfl rfl kr kr (asrc_strB w86 Tryz.underlying23 Tryz.underlying9 kr v_2.2.2.2.1) rfl ho88 hx110 ?_
       intro a111 c112 w113 hg114 ho115 hk116
       refine ⟨(fun _ => trivial), ?_⟩
       have hB118 := grown_stepO hB94 hg87 (fun g e => Or.inl e)
       have hl117 : ∀ g, blk a111 = some g → blk pa0_0 = some g ∨ w0.heap.size ≤ g := blkw_tr (blkw_of hk116) hl93 hB118.size
       have hk120 := hk97.grown hg87 ap96
       have ap119 : ∀ g, blk a111 = some g → ¬ (· = b1) g := blk_neX hk116 ap95 (ltb hk120)
       have ap121 : ¬ (fun k => blk a111 = some k) b1 := fun h => blk_rev hk116 (fun h => (ap98) h) (hk120.lt) h
       have hk123 := hk101.grown hg87 ap66
       have ap122 : ∀ g, blk a111 = some g → ¬ (· = b7) g := blk_neX hk116 ap100 (ltb hk123)
       have ap124 : ¬ (fun k => blk a111 = some k) b7 := fun h => blk_rev hk116 (fun h => (ap102) h) (hk123.lt) h
       have hk126 := ho76.grown hg87 (fun _ h => h.elim) (rdnn ap106)
       have ap125 : ∀ g, blk a111 = some g → ¬ (fun k => blk (some ⟨b70, 0, none⟩) = some k) g := blk_neX hk116 ap104 (fun k (hk : blk (some ⟨b70, 0, none⟩) = some k) => hk126.lt k hk)
       have ap127 : ∀ g, blk (some ⟨b70, 0, none⟩) = some g → ¬ (fun k => blk a111 = some k) g := fun g e h => blk_rev hk116 (fun h => ((ap107) g e) h) (hk126.lt g e) h
       refine gv_nil <| gv_goA ?_
       refine gv_pre [10, 11] (bA 12 [0, 1, 2, 3, 4, 5, 6, 7, 8, 9, 10, 11]) 0 kr kr ?_
       refine pN 2 [6, 7] [(6, (.slice a111 (length l109) c112)), (7, (.int .i64 0))] ?_
       refine gv_nil <| gv_goA ?_
       refine gv_stageE kr ?_
       refine gv_cret ?_
       have e := sj h0; subst e
       refine gv_ret (gv_done [(.slice a111 (length l109) c112), (.int .i64 0)] rfl ⟨kr, kr, trivial⟩ ?_)
       have hB128 := grown_stepO hB118 hg114 hl93
       exact ⟨hB128, a111, c112, rfl, ho115, hl117⟩
     ·replace h0 := ite_f hc59 h0
      refine gv_seq <| gv_region <| pN 2 [54, 55] [(54, (.bool (f_1.1 == 63)))] ?_
      refine gv_nil <| gv_cond (b := (f_1.1 == 63)) kr (fun hc129 => ?_) (fun hc129 => ?_)
      ·replace h0 := ite_t hc129 h0
       refine gv_seq <| gv_region <| pN 2 [56, 57] [(56, (.slice pa0_0 (length out_0) pc0_0)), (57, (.pointer (some ⟨b7, 6, none⟩)))] ?_
       refine gv_load (t := 3) (A := ⟨b7, 6, none⟩) (.int .i64 v_2.2.2.2.2) [] (fun e => by cases e) rfl rfl rfl kr kr kr (inw0 (hb35.cell 6 rfl)) rfl ?_
       refine pN 1 [59] [(59, (.int .u8 (IntKind.u8.wrap (v_2.2.2.2.2))))] ?_
       refine bindE h0 ?_; clear h0; intro b130 hb131 h0
       have hu132 := u8_spec hb131
       refine gv_new0 (fun b => .slice (some ⟨b, 0, none⟩) 1 1) #[(.int .u8 (IntKind.u8.wrap (v_2.2.2.2.2)))] 5 kr kr ?_
       intro b133 w134 hg135 hb136 hbe137 hz138
       have ho139 : Gv.Own bE 5 w134 (fun _ => False) (some ⟨b133, 0, none⟩) 1 ([b130] : List UInt8) := Box.ownE hb136 ⟨[(.int .u8 (IntKind.u8.wrap (v_2.2.2.2.2)))], [], rfl, (by simp only [bE, flat, hu132]), rfl⟩ (show 1 ≤ maxLen by decide) (fun h => h)
       have hl140 : ∀ g, blk (some ⟨b133, 0, none⟩) = some g → w0.heap.size ≤ g := loo hbe137 hB32.size
       clear hz138 hb136 hu132 hb131 hc129 hc59 hc38 hc37 hb35 hb34 hbe11 hbe5 hb4 hg3
       refine bindE h0 ?_; clear h0; intro l144 hx145 h0
       have hk152 := hk36.grown hg135 (fun _ h => h.elim) nb
       refine gv_append bE (t := 23) (ty := 23) (e := 5) (a := pa0_0) (ax := (some ⟨b133, 0, none⟩)) (cap := pc0_0) (cx := 1) (xs := out_0) (ys := ([b130] : List UInt8)) l144 (X := (fun _ => False)) (Y := (fun k => blk (some ⟨b133, 0, none⟩) = some k)) (by decide) rfl rfl kr kr Tryz.underlying23 info5 hk152 (ho139.rd (Y := fun k => blk (some ⟨b133, 0, none⟩) = some k) (fun _ h => h.elim) (fun g e => e)) hx145 (.inr fun _ _ _ _ _ h => h) (fun _ h => h.elim) ?_
       intro a146 c147 w148 hg149 ho150 hk151
       refine ⟨(fun e => by cases e), ?_⟩
       have hB154 := grown_stepO hB32 hg135 nb
       have hl153 : ∀ g, blk a146 = some g → blk pa0_0 = some g ∨ w0.heap.size ≤ g := blkw_tr (blkw_of hk151) (fun g e => Or.inl e) hB154.size
       have ap156 : ∀ g, blk pa0_0 = some g → ¬ (fun k => blk (some ⟨b133, 0, none⟩) = some k) g := fun g e hx => nl ((lowo hbe137) _ hx) ((fun k (hk : blk pa0_0 = some k) => hk36.lt k hk) g e)
       have ap155 : ∀ g, blk a146 = some g → ¬ (fun k => blk (some ⟨b133, 0, none⟩) = some k) g := blk_neX hk151 ap156 (fun k (hk : blk (some ⟨b133, 0, none⟩) = some k) => ho139.lt k hk)
       have ap158 : ∀ g, blk (some ⟨b133, 0, none⟩) = some g → ¬ (fun k => blk pa0_0 = some k) g := fun g e hx => nl ((lowo hbe137) g e) ((fun k (hk : blk pa0_0 = some k) => hk36.lt k hk) _ hx)
       have ap157 : ∀ g, blk (some ⟨b133, 0, none⟩) = some g → ¬ (fun k => blk a146 = some k) g := fun g e h => blk_rev hk151 (fun h => ((ap158) g e) h) (ho139.lt g e) h
       refine pN 2 [6, 7] [(6, (.slice a146 (length l144) c147)), (7, (.int .i64 0))] ?_
       refine gv_sub [6, 7] (σ' := [(6, (.slice a146 (length l144) c147)), (7, (.int .i64 0))]) kr ?_
       refine gv_nil <| gv_cret ?_
       have e := sj h0; subst e
       refine gv_ret (gv_done [(.slice a146 (length l144) c147), (.int .i64 0)] rfl ⟨kr, kr, trivial⟩ ?_)
       have hB159 := grown_stepO hB154 hg149 (fun g e => Or.inl e)
       exact ⟨hB159, a146, c147, rfl, ho150, hl153⟩
      ·replace h0 := ite_f hc129 h0
       refine gv_skip <| gv_blk <| gv_seq <| gv_region <| pN 1 [63] [(63, (bp b1))] ?_
       refine gv_load (t := 5) (A := ⟨b1, 0, none⟩) (.int .u8 f_1.1) [] (fun e => by cases e) rfl rfl rfl kr kr kr (inw0 (hb34.cell 0 rfl)) rfl ?_
       refine bindE h0 ?_; clear h0; intro r160 hr161 h0
       refine gv_call0 kr rfl kr enters36 (packing_width_ok fuel f_1.1 w29  r160 hr161) ?_
       rintro v164 w162 ⟨hg163, rfl⟩
       refine pN 5 [9, 10, 62, 66, 67] [(9, (.int .i64 r160.1)), (10, (.bool r160.2))] ?_
       refine gv_nil <| gv_seq <| gv_seq <| gv_region <| pN 1 [68] [(68, (bp b1))] ?_
       have hk165 := hb34.grown hg163 nb
       refine gv_load (t := 5) (A := ⟨b1, 0, none⟩) (.int .u8 f_1.1) [] (fun e => by cases e) rfl rfl rfl kr kr kr (inw0 (hk165.cell 0 rfl)) rfl ?_
       refine pN 1 [70] [(70, (.bool (f_1.1 == 118)))] ?_
       refine gv_sub [0, 4, 5, 9, 10, 70] (σ' := [(0, (.slice pa0_0 (length out_0) pc0_0)), (4, (bp b1)), (5, (bp b7)), (9, (.int .i64 r160.1)), (10, (.bool r160.2)), (70, (.bool (f_1.1 == 118)))]) kr ?_
       refine gv_nil <| bindE h0 ?_; clear h0; intro j166 h1 h0
       refine gv_cut_code (J := fun a w167 => w0.grownBy w167 (blk pa0_0) ∧ w162.heap.size ≤ w167.heap.size ∧ Box w167 b1 49 #[(.int .u8 f_1.1), (.int .i64 f_1.2.1), (.bool f_1.2.2)] ∧ Box w167 b7 41 #[(.int .i64 v_2.1), (.bool v_2.2.1.1), (.slice pa2_0 (length v_2.2.1.2) pc2_0), (.bool v_2.2.2.1.1), (.slice pa2_1 (length v_2.2.2.1.2) pc2_1), (.string v_2.2.2.2.1), (.int .i64 v_2.2.2.2.2)] ∧ Gv.Own bE 5 w167 (fun _ => False) pa0_0 pc0_0 out_0 ∧ a.defers = [] ∧ a.tmps.size = 95 ∧ Ok [(0, (.slice pa0_0 (length out_0) pc0_0)), (4, (bp b1)), (5, (bp b7)), (9, (.int .i64 j166)), (10, (.bool r160.2))] a.tmps) ?_ ?_
       ·skip
        refine gv_cond (b := (f_1.1 == 118)) kr (fun hc168 => ?_) (fun hc168 => ?_)
        ·replace h1 := ite_t hc168 h1
         refine gv_region <| pN 1 [9] [(9, (.int .i64 8))] ?_
         refine gv_nil ?_
         have e := sj h1; subst e
         refine gv_goal fun a hd hs hok => ?_
         have hB169 := grown_stepO hB32 hg163 nb
         have hk170 := hb35.grown hg163 nb
         have hk171 := hk36.grown hg163 (fun _ h => h.elim) nb
         exact ⟨hB169, nrf, hk165, hk170, hk171, hd, hs, okp [0, 4, 5, 9, 10] hok⟩
        ·replace h1 := ite_f hc168 h1
         refine gv_skip ?_
         have e := sj h1; subst e
         refine gv_goal fun a hd hs hok => ?_
         have hB172 := grown_stepO hB32 hg163 nb
         have hk173 := hb35.grown hg163 nb
         have hk174 := hk36.grown hg163 (fun _ h => h.elim) nb
         exact ⟨hB172, nrf, hk165, hk173, hk174, hd, hs, okp [0, 4, 5, 9, 10] hok⟩
       ·rintro a w167 ⟨hB175, hz176, hb177, hb178, hk179, hd, hs, hok⟩
        refine gv_in ?_ hd hs hok
        clear hd hs hok
        clear hz176 hk165 hg163 hr161 hc129 hc59 hc38 hc37 hk36 hb35 hb34 hB32
        refine gv_seq <| gv_region <| pN 1 [72] [(72, (.pointer (some ⟨b7, 1, none⟩)))] ?_
        refine gv_loadAgg (t := 39) (A := ⟨b7, 1, none⟩) #[(.bool v_2.2.1.1), (.slice pa2_0 (length v_2.2.1.2) pc2_0)] [] (fun e => by cases e) rfl rfl rfl kr kr kr kr (inw0 (Box.part hb178 1 _ rfl)) rfl ?_
        refine pN 2 [74, 75] [(74, (.int .i64 j166)), (75, (.bool r160.2))] ?_
        refine bindE h0 ?_; clear h0; intro r180 hr181 h0
        refine gv_call0 kr rfl kr enters58 (packing_word_ok fuel pa2_0 pc2_0 (v_2.2.1.1, v_2.2.1.2) j166 r160.2 w167 (fun k => X0 k) (fun k hk => (fun k (hk : X0 k) => ltl (hX0 k hk).1 hB175.size) k hk) ((hpa2_0.grown hB175 (fun k hk => (hX0 k hk).1) (fun g e hk => (hX0 g hk).2 e)).wide (fun k hk => hk)) r180 hr181) ?_
        rintro v184 w182 ⟨hg183, rfl⟩
        refine pN 5 [11, 12, 71, 77, 78] [(11, (.int .u64 r180.1)), (12, (.bool r180.2))] ?_
        refine gv_nil <| gv_seq <| gv_block <| gv_seq <| gv_region <| pN 3 [79, 80, 81] [(79, (.bool (!r180.2)))] ?_
        refine gv_nil <| gv_cond (b := (!r180.2)) kr (fun hc185 => ?_) (fun hc185 => ?_)
        ·replace h0 := ite_t hc185 h0
         refine gv_seq <| gv_region <| pN 2 [6, 7] [(6, (.slice none (length ([] : List UInt8)) 0)), (7, (.int .i64 4))] ?_
         refine gv_nil <| gv_cret ?_
         have e := sj h0; subst e
         refine gv_ret (gv_done [(.slice none (length ([] : List UInt8)) 0), (.int .i64 4)] rfl ⟨kr, kr, trivial⟩ ?_)
         have hB186 := grown_stepO hB175 hg183 nb
         exact ⟨hB186, none, 0, rfl, (Gv.Own.nil bE 5 w182 (fun _ => False)), (fun g e => .inr ((fun _ h => by cases h) g e))⟩
        ·replace h0 := ite_f hc185 h0
         refine gv_seq <| gv_region <| pN 1 [83] [(83, (bp b1))] ?_
         have hk187 := hb177.grown hg183 nb
         refine gv_load (t := 5) (A := ⟨b1, 0, none⟩) (.int .u8 f_1.1) [] (fun e => by cases e) rfl rfl rfl kr kr kr (inw0 (hk187.cell 0 rfl)) rfl ?_
         refine pN 2 [82, 85] [(82, (.bool (f_1.1 == 118)))] ?_
         refine gv_nil <| gv_cond (b := (f_1.1 == 118)) kr (fun hc188 => ?_) (fun hc188 => ?_)
         ·replace h0 := ite_t hc188 h0
          refine gv_seq <| gv_region <| pN 2 [86, 87] [(86, (.slice pa0_0 (length out_0) pc0_0)), (87, (.int .u64 r180.1))] ?_
          refine bindE h0 ?_; clear h0; intro r189 hr190 h0
          have hk191 := hk179.grown hg183 (fun _ h => h.elim) nb
          refine gv_call0 kr rfl kr enters59 (packing_zigzag_ok fuel pa0_0 pc0_0 out_0 r180.1 w182 hk191 r189 hr190) ?_
          rintro v194 w192 ⟨hg193, a195, c196, rfl, ho197, hk198⟩
          have hB200 := grown_stepO hB175 hg183 nb
          have hl199 : ∀ g, blk a195 = some g → blk pa0_0 = some g ∨ w0.heap.size ≤ g := blkw_tr hk198 (fun g e => Or.inl e) hB200.size
          refine pN 2 [6, 7] [(6, (.slice a195 (length r189) c196)), (7, (.int .i64 0))] ?_
          refine gv_nil <| gv_cret ?_
          have e := sj h0; subst e
          refine gv_ret (gv_done [(.slice a195 (length r189) c196), (.int .i64 0)] rfl ⟨kr, kr, trivial⟩ ?_)
          have hB201 := grown_stepO hB200 hg193 (fun g e => Or.inl e)
          exact ⟨hB201, a195, c196, rfl, ho197, hl199⟩
         ·replace h0 := ite_f hc188 h0
          refine gv_skip <| gv_blk <| gv_seq <| gv_region <| pN 4 [89, 90, 91, 92] [(89, (.slice pa0_0 (length out_0) pc0_0)), (90, (.int .u64 r180.1)), (91, (.int .i64 j166)), (92, (.pointer (some ⟨b1, 2, none⟩)))] ?_
          refine gv_load (t := 4) (A := ⟨b1, 2, none⟩) (.bool f_1.2.2) [] (fun e => by cases e) rfl rfl rfl kr kr kr (inw0 (hk187.cell 2 rfl)) rfl ?_
          refine bindE h0 ?_; clear h0; intro r202 hr203 h0
          have hk204 := hk179.grown hg183 (fun _ h => h.elim) nb
          refine gv_call0 kr rfl kr enters60 (packing_order_ok fuel pa0_0 pc0_0 out_0 r180.1 j166 f_1.2.2 w182 hk204 r202 hr203) ?_
          rintro v207 w205 ⟨hg206, a208, c209, rfl, ho210, hk211⟩
          have hB213 := grown_stepO hB175 hg183 nb
          have hl212 : ∀ g, blk a208 = some g → blk pa0_0 = some g ∨ w0.heap.size ≤ g := blkw_tr hk211 (fun g e => Or.inl e) hB213.size
          refine pN 2 [6, 7] [(6, (.slice a208 (length r202) c209)), (7, (.int .i64 0))] ?_
          refine gv_nil <| gv_cret ?_
          have e := sj h0; subst e
          refine gv_ret (gv_done [(.slice a208 (length r202) c209), (.int .i64 0)] rfl ⟨kr, kr, trivial⟩ ?_)
          have hB214 := grown_stepO hB213 hg206 (fun g e => Or.inl e)
          exact ⟨hB214, a208, c209, rfl, ho210, hl212⟩

end Go.Proofs.YtdpmkphjcjacfaaGreatDoor
