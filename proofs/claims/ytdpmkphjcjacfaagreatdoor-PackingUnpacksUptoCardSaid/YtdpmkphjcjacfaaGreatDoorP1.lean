import Derived.Test.YtdpmkphjcjacfaaGreatDoorP0
set_option linter.all false
set_option maxHeartbeats 4000000
set_option maxRecDepth 100000
/- Own work, printed by a program of mine: the walk of each function: a call returns what the plain function says. -/
namespace Go.Proofs.YtdpmkphjcjacfaaGreatDoor
open Go.Gv Go.Gv.D Go.RowKit
open List (length)
theorem ref3_Number_ok (fuel : Nat) (n_0 : Int) (w0 : World)  (r0 : (Bool × (List Int))) (h0 : ref3_Number fuel n_0 = some r0) :
    Calls Tryz.prog 20 ([(.int .i64 n_0)] : List Value).toArray w0 (Ret fun v w' => w0.grownBy w' none ∧ ∃ (a0_0r : Option Addr) (c0_0r : Nat), ∃ (X0_0r : Nat → Prop), v = tup [(.agg #[(.bool r0.1), (.slice a0_0r (length r0.2) c0_0r)])] ∧ Rd (iE .i64) w' X0_0r a0_0r c0_0r r0.2 ∧ (∀ k, X0_0r k → k < w'.heap.size ∧ ((fun _ => False) k ∨ w0.heap.size ≤ k))) := by
 have hB0 : Below w0.heap.size w0 w0 := Below.refl _ _
 unfold ref3_Number at h0
 refine calls_run Tryz.func20 rfl Tryz.ntmps20 (by kernel_rfl) ?_
 refine gv_sub [0] (σ' := [(0, (.int .i64 n_0))]) (by kernel_rfl) ?_
 refine gv_seq <| gv_region <| gv_new0 (fun b => .pointer (some ⟨b, 0, none⟩)) #[(.bool false), (.slice none (length ([] : List Int)) 0)] 57 (by kernel_rfl) (by kernel_rfl) ?_
 intro b1 w2 hg3 hb4 hbe5 hz6
 refine gv_nil <| gv_seq <| gv_region <| pN 1 [3] [(3, (.slice none (length ([] : List Bool)) 0))] ?_
 refine gv_nil <| gv_seq <| gv_region <| pN 3 [4, 5, 6] [(4, (.bool (decide (n_0 < 0))))] ?_
 refine gv_nil <| gv_seq <| bindE h0 ?_; clear h0; intro j7 h1 h0
 refine gv_cut_code (J := fun a w8 => ∃ (a3_0j : Option Addr) (c3_0j : Nat), Below w0.heap.size w0 w8 ∧ w2.heap.size ≤ w8.heap.size ∧ Gv.Own tE 4 w8 (fun _ => False) a3_0j c3_0j j7 ∧ (∀ g, blk a3_0j = some g → w0.heap.size ≤ g) ∧ (∀ g, blk a3_0j = some g → ¬ (· = b1) g) ∧ ¬ (fun k => blk a3_0j = some k) b1 ∧ Box w8 b1 57 #[(.bool false), (.slice none (length ([] : List Int)) 0)] ∧ a.defers = [] ∧ a.tmps.size = 21 ∧ Ok [(2, (bp b1)), (3, (.slice a3_0j (length j7) c3_0j)), (4, (.bool (decide (n_0 < 0))))] a.tmps) ?_ ?_
 ·skip
  refine gv_block <| gv_loop (A := fun (s9 : (Int × (List Bool))) a w10 => ∃ (a3_0j : Option Addr) (c3_0j : Nat), Below w0.heap.size w0 w10 ∧ w2.heap.size ≤ w10.heap.size ∧ Gv.Own tE 4 w10 (fun _ => False) a3_0j c3_0j s9.2 ∧ (∀ g, blk a3_0j = some g → w0.heap.size ≤ g) ∧ (∀ g, blk a3_0j = some g → ¬ (· = b1) g) ∧ ¬ (fun k => blk a3_0j = some k) b1 ∧ Box w10 b1 57 #[(.bool false), (.slice none (length ([] : List Int)) 0)] ∧ a.defers = [] ∧ a.tmps.size = 21 ∧ Ok [(0, (.int .i64 s9.1)), (2, (bp b1)), (3, (.slice a3_0j (length s9.2) c3_0j)), (4, (.bool (decide (n_0 < 0))))] a.tmps) h1 ?_ ?_
  ·intro a hd hs hok
   have hB11 := bg hB0 hg3 nb
   exact ⟨none, 0, hB11, nrf, (Gv.Own.nil tE 4 w2 (fun _ => False)), (fun _ h => by cases h), (fun _ h => by cases h), (fun h => by cases h), hb4, hd, hs, okp [0, 2, 3, 4] hok⟩
  ·rintro s9 r2 h2 hR2 a w10 ⟨a14, c15, hB12, hz13, ho16, hl17, ap18, ap19, hb20, hd, hs, hok⟩
   refine gv_in ?_ hd hs hok
   clear hd hs hok
   refine gv_seq <| gv_seq <| gv_region <| pN 2 [7, 8] [(8, (.bool (s9.1 != 0)))] ?_
   refine gv_nil <| gv_cond (b := (s9.1 != 0)) (by kernel_rfl) (fun hc21 => ?_) (fun hc21 => ?_)
   ·replace h2 := ite_t hc21 h2
    refine gv_skip <| gv_block <| gv_seq <| gv_region <| pN 4 [9, 10, 11, 12] [(9, (.slice a14 (length s9.2) c15)), (12, (.bool (((s9.1).tmod 2) != 0)))] ?_
    refine gv_new0 (fun b => .slice (some ⟨b, 0, none⟩) 1 1) #[(.bool (((s9.1).tmod 2) != 0))] 4 (by kernel_rfl) (by kernel_rfl) ?_
    intro b22 w23 hg24 hb25 hbe26 hz27
    have ho28 : Gv.Own tE 4 w23 (fun _ => False) (some ⟨b22, 0, none⟩) 1 ([(((s9.1).tmod 2) != 0)] : List Bool) := Box.ownE hb25 ⟨[(.bool (((s9.1).tmod 2) != 0))], [], rfl, rfl, rfl⟩ (show 1 ≤ maxLen by decide) (fun h => h)
    have hl29 : ∀ g, blk (some ⟨b22, 0, none⟩) = some g → w0.heap.size ≤ g := loo hbe26 hB12.size
    refine bindE h2 ?_; clear h2; intro l33 hx34 h2
    have hk41 := ho16.grown hg24 (fun _ h => h.elim) nb
    refine gv_append tE (t := 87) (ty := 87) (e := 4) (a := a14) (ax := (some ⟨b22, 0, none⟩)) (cap := c15) (cx := 1) (xs := s9.2) (ys := ([(((s9.1).tmod 2) != 0)] : List Bool)) l33 (X := (fun _ => False)) (Y := (fun k => blk (some ⟨b22, 0, none⟩) = some k)) (by decide) rfl rfl (by kernel_rfl) (by kernel_rfl) Tryz.underlying87 info4 hk41 (ho28.rd (Y := fun k => blk (some ⟨b22, 0, none⟩) = some k) (fun _ h => h.elim) (fun g e => e)) hx34 (.inr fun _ _ _ _ _ h => h) (fun _ h => h.elim) ?_
    intro a35 c36 w37 hg38 ho39 hk40
    refine ⟨(fun e => by cases e), ?_⟩
    have hB43 := bg hB12 hg24 nb
    have hl42 : ∀ g, blk a35 = some g → w0.heap.size ≤ g := blk_step hk40 hl17 hB43.size
    have hk45 := hb20.grown hg24 nb
    have ap44 : ∀ g, blk a35 = some g → ¬ (· = b1) g := blk_neX hk40 ap18 (ltb hk45)
    have ap46 : ¬ (fun k => blk a35 = some k) b1 := fun h => blk_rev hk40 (fun h => (ap19) h) (hk45.lt) h
    have ap48 : ∀ g, blk a14 = some g → ¬ (fun k => blk (some ⟨b22, 0, none⟩) = some k) g := fun g e hx => nl ((lowo hbe26) _ hx) ((fun k (hk : blk a14 = some k) => ho16.lt k hk) g e)
    have ap47 : ∀ g, blk a35 = some g → ¬ (fun k => blk (some ⟨b22, 0, none⟩) = some k) g := blk_neX hk40 ap48 (fun k (hk : blk (some ⟨b22, 0, none⟩) = some k) => ho28.lt k hk)
    have ap50 : ∀ g, blk (some ⟨b22, 0, none⟩) = some g → ¬ (fun k => blk a14 = some k) g := fun g e hx => nl ((lowo hbe26) g e) ((fun k (hk : blk a14 = some k) => ho16.lt k hk) _ hx)
    have ap49 : ∀ g, blk (some ⟨b22, 0, none⟩) = some g → ¬ (fun k => blk a35 = some k) g := fun g e h => blk_rev hk40 (fun h => ((ap50) g e) h) (ho28.lt g e) h
    refine pN 1 [3] [(3, (.slice a35 (length l33) c36))] ?_
    refine gv_nil <| gv_region <| pN 3 [0, 15, 16] [(0, (.int .i64 (IntKind.i64.wrap ((s9.1).tdiv 2))))] ?_
    refine gv_nil <| gv_blk ?_
    have e := sj h2; subst e
    refine gv_goal fun a hd hs hok => ?_
    have hB51 := bg hB43 hg38 hl17
    have hz52 := (nt (nt hz13 hg24.size) hg38.size)
    have hk53 := hk45.grown hg38 ap18
    exact ⟨((IntKind.i64.wrap ((s9.1).tdiv 2)), l33), rfl, a35, c36, hB51, hz52, ho39, hl42, ap44, ap46, hk53, hd, hs, okp [0, 2, 3, 4] hok⟩
   ·replace h2 := ite_f hc21 h2
    refine gv_cexit <| gv_exit rfl ?_
    have e := sj h2; subst e
    replace h1 := congrArg some (hR2 _ rfl)
    have e := sj h1; subst e
    refine gv_goal fun a hd hs hok => ?_
    have hz54 := hz13
    exact ⟨a14, c15, hB12, hz54, ho16, hl17, ap18, ap19, hb20, hd, hs, okp [2, 3, 4] hok⟩
 ·rintro a w8 ⟨a57, c58, hB55, hz56, ho59, hl60, ap61, ap62, hb63, hd, hs, hok⟩
  refine gv_in ?_ hd hs hok
  clear hd hs hok
  clear hz56 hz6 hb4 hg3
  refine gv_seq <| gv_region <| pN 2 [17, 18] [(17, (.bool (decide (n_0 < 0)))), (18, (.slice a57 (length j7) c58))] ?_
  refine bindE h0 ?_; clear h0; intro r64 hr65 h0
  refine gv_call0 (by kernel_rfl) rfl (by kernel_rfl) enters45 (ref3_Binary_ok fuel a57 c58 j7 w8 (fun k => (fun k => blk a57 = some k) k) (fun k hk => (fun k (hk : blk a57 = some k) => ho59.lt k hk) k hk) ((ho59.rd (Y := fun k => blk a57 = some k) (fun _ h => h.elim) (fun g e => e)).wide (fun k hk => hk)) r64 hr65) ?_
  rintro v68 w66 ⟨hg67, a69, c70, X72, rfl, ho71, hx73⟩
  have hx74 : ∀ k, X72 k → k < w66.heap.size := fun k hk => (hx73 k hk).1
  have hx75 : ∀ k, X72 k → (fun _ => False) k ∨ w0.heap.size ≤ k := fun k hk => (hx73 k hk).2.elim (fun h => (fun k (hk : blk a57 = some k) => Or.inr (hl60 k hk)) k h) (fun h => .inr (Nat.le_trans hB55.size h))
  refine pN 1 [20] [(20, (.agg #[(.bool (decide (n_0 < 0))), (.slice a69 (length r64) c70)]))] ?_
  have hk80 := hb63.grown hg67 nb
  refine gv_store0 57 0 (.agg #[(.bool (decide (n_0 < 0))), (.slice a69 (length r64) c70)]) #[(.bool (decide (n_0 < 0))), (.slice a69 (length r64) c70)] hk80 (by kernel_rfl) (by kernel_rfl) (by kernel_rfl) ?_
  intro w76 hg77 hb78 hz79
  refine gv_nil <| gv_cret ?_
  have e := sj h0; subst e
  refine gv_ret (gv_done [(.agg #[(.bool (decide (n_0 < 0))), (.slice a69 (length r64) c70)])] rfl ⟨⟨⟨b1, 0, none⟩, (by kernel_rfl), run_loadVar_row w76 b1 _ 57 _ _ _ hb78 Tryz.underlying57 rfl (by kernel_rfl)⟩, trivial⟩ ?_)
  have hB81 := bg hB55 hg67 nb
  have hlo82 : w0.heap.size ≤ b1 := lob hbe5 hB0.size
  have hB83 := bg hB81 hg77 (rowlo hlo82)
  have ap84 : ¬ X72 b1 := fun h => ((hx73 _ h).2.elim (fun h => (ap62)  h) (fun h => nl h (hb63.lt)))
  have hk85 := ho71.grown hg77 hx74 (rowne ap84)
  have hx86 := ltx hx74 hg77.size
  exact ⟨grown_of_below hB83, a69, c70, X72, rfl, hk85, (fun k hk => ⟨hx86 k hk, hx75 k hk⟩)⟩

theorem ref3_Times_ok (fuel : Nat) (pa0_0 : Option Addr) (pc0_0 : Nat) (a_0 : (List Int)) (pa1_0 : Option Addr) (pc1_0 : Nat) (b_1 : (List Int)) (w0 : World) (X0 : Nat → Prop) (hX0 : ∀ k, X0 k → k < w0.heap.size) (hpa0_0 : Rd (iE .i64) w0 X0 pa0_0 pc0_0 a_0) (hpa1_0 : Rd (iE .i64) w0 X0 pa1_0 pc1_0 b_1) (r0 : (List Int)) (h0 : ref3_Times fuel a_0 b_1 = some r0) :
    Calls Tryz.prog 49 ([(.slice pa0_0 (length a_0) pc0_0), (.slice pa1_0 (length b_1) pc1_0)] : List Value).toArray w0 (Ret fun v w' => w0.grownBy w' none ∧ ∃ (a0_0r : Option Addr) (c0_0r : Nat), ∃ (X0_0r : Nat → Prop), v = tup [(.slice a0_0r (length r0) c0_0r)] ∧ Rd (iE .i64) w' X0_0r a0_0r c0_0r r0 ∧ (∀ k, X0_0r k → k < w'.heap.size ∧ (X0 k ∨ w0.heap.size ≤ k))) := by
 have hB0 : Below w0.heap.size w0 w0 := Below.refl _ _
 unfold ref3_Times at h0
 refine calls_run Tryz.func49 rfl Tryz.ntmps49 (by kernel_rfl) ?_
 refine gv_sub [0, 1] (σ' := [(0, (.slice pa0_0 (length a_0) pc0_0)), (1, (.slice pa1_0 (length b_1) pc1_0))]) (by kernel_rfl) ?_
 refine gv_seq <| gv_region <| pN 1 [4] [] ?_
 refine gv_nil <| gv_seq <| gv_region <| pN 6 [10, 11, 12, 13, 14, 15] [(15, (.int .i64 (IntKind.i64.wrap ((IntKind.i64.wrap (((length a_0 : Nat) : Int) + ((length b_1 : Nat) : Int))) + 1))))] ?_
 refine bindE h0 ?_; clear h0; intro l1 hx2 h0
 refine gv_makeC (f := (fun n : Int => Value.int .i64 n)) (hf := fun _ => rfl) (t := 55) (e := 3) (kl := .i64) (kc := .i64) (l := (IntKind.i64.wrap ((IntKind.i64.wrap (((length a_0 : Nat) : Int) + ((length b_1 : Nat) : Int))) + 1))) (c := (IntKind.i64.wrap ((IntKind.i64.wrap (((length a_0 : Nat) : Int) + ((length b_1 : Nat) : Int))) + 1))) (bytes := 8) 0 l1 (by decide) rfl rfl (by kernel_rfl) (by kernel_rfl) Tryz.underlying55 (by kernel_rfl) (by decide) hx2 ?_
 intro b3 w4 hg5 ho6 hbe7 hz8
 refine ⟨(fun e => by cases e), ?_⟩
 have hl9 : ∀ g, blk (some ⟨b3, 0, none⟩) = some g → w0.heap.size ≤ g := loo hbe7 hB0.size
 refine pN 1 [5] [(5, (.slice (some ⟨b3, 0, none⟩) (length l1) ((IntKind.i64.wrap ((IntKind.i64.wrap (((length a_0 : Nat) : Int) + ((length b_1 : Nat) : Int))) + 1))).toNat))] ?_
 refine gv_nil <| gv_seq <| gv_seq <| gv_region <| pN 1 [6] [(6, (.int .i64 0))] ?_
 refine gv_nil <| bindE h0 ?_; clear h0; intro j10 h1 h0
 refine gv_cut_code (J := fun a w11 => ∃ (a5_0j : Option Addr) (c5_0j : Nat), Below w0.heap.size w0 w11 ∧ w4.heap.size ≤ w11.heap.size ∧ Gv.Own (iE .i64) 3 w11 (fun _ => False) a5_0j c5_0j j10 ∧ (∀ g, blk a5_0j = some g → w0.heap.size ≤ g) ∧ a.defers = [] ∧ a.tmps.size = 67 ∧ Ok [(5, (.slice a5_0j (length j10) c5_0j))] a.tmps) ?_ ?_
 ·skip
  refine gv_block <| gv_loop (A := fun (s12 : ((List Int) × Int)) a w13 => ∃ (a5_0j : Option Addr) (c5_0j : Nat), Below w0.heap.size w0 w13 ∧ w4.heap.size ≤ w13.heap.size ∧ Gv.Own (iE .i64) 3 w13 (fun _ => False) a5_0j c5_0j s12.1 ∧ (∀ g, blk a5_0j = some g → w0.heap.size ≤ g) ∧ a.defers = [] ∧ a.tmps.size = 67 ∧ Ok [(0, (.slice pa0_0 (length a_0) pc0_0)), (1, (.slice pa1_0 (length b_1) pc1_0)), (5, (.slice a5_0j (length s12.1) c5_0j)), (6, (.int .i64 s12.2))] a.tmps) h1 ?_ ?_
  ·intro a hd hs hok
   have hB14 := bg hB0 hg5 nb
   exact ⟨(some ⟨b3, 0, none⟩), ((IntKind.i64.wrap ((IntKind.i64.wrap (((length a_0 : Nat) : Int) + ((length b_1 : Nat) : Int))) + 1))).toNat, hB14, nrf, ho6, hl9, hd, hs, okp [0, 1, 5, 6] hok⟩
  ·rintro s12 r2 h2 hR2 a w13 ⟨a17, c18, hB15, hz16, ho19, hl20, hd, hs, hok⟩
   refine gv_in ?_ hd hs hok
   clear hd hs hok
   clear hl9 hz8 hbe7 ho6 hg5 hx2
   refine gv_seq <| gv_seq <| gv_region <| pN 4 [17, 18, 19, 20] [(20, (.bool (decide (s12.2 < ((length a_0 : Nat) : Int)))))] ?_
   refine gv_nil <| gv_cond (b := (decide (s12.2 < ((length a_0 : Nat) : Int)))) (by kernel_rfl) (fun hc21 => ?_) (fun hc21 => ?_)
   ·replace h2 := ite_t hc21 h2
    refine gv_skip <| gv_seq <| gv_block <| gv_seq <| gv_region <| pN 1 [7] [(7, (.int .i64 0))] ?_
    refine gv_nil <| gv_seq <| gv_region <| pN 1 [8] [(8, (.int .i64 0))] ?_
    refine gv_nil <| bindE h2 ?_; clear h2; intro j22 h3 h2
    refine gv_cut_code (J := fun a w23 => ∃ (a5_0j : Option Addr) (c5_0j : Nat), Below w0.heap.size w0 w23 ∧ w13.heap.size ≤ w23.heap.size ∧ Gv.Own (iE .i64) 3 w23 (fun _ => False) a5_0j c5_0j j22 ∧ (∀ g, blk a5_0j = some g → w0.heap.size ≤ g) ∧ a.defers = [] ∧ a.tmps.size = 67 ∧ Ok [(0, (.slice pa0_0 (length a_0) pc0_0)), (1, (.slice pa1_0 (length b_1) pc1_0)), (5, (.slice a5_0j (length j22) c5_0j)), (6, (.int .i64 s12.2))] a.tmps) ?_ ?_
    ·skip
     refine gv_block <| gv_loop (A := fun (s24 : ((List Int) × Int × Int)) a w25 => ∃ (a5_0j : Option Addr) (c5_0j : Nat), Below w0.heap.size w0 w25 ∧ w13.heap.size ≤ w25.heap.size ∧ Gv.Own (iE .i64) 3 w25 (fun _ => False) a5_0j c5_0j s24.1 ∧ (∀ g, blk a5_0j = some g → w0.heap.size ≤ g) ∧ a.defers = [] ∧ a.tmps.size = 67 ∧ Ok [(0, (.slice pa0_0 (length a_0) pc0_0)), (1, (.slice pa1_0 (length b_1) pc1_0)), (5, (.slice a5_0j (length s24.1) c5_0j)), (6, (.int .i64 s12.2)), (7, (.int .i64 s24.2.1)), (8, (.int .i64 s24.2.2))] a.tmps) h3 ?_ ?_
     ·intro a hd hs hok
      exact ⟨a17, c18, hB15, nrf, ho19, hl20, hd, hs, okp [0, 1, 5, 6, 7, 8] hok⟩
     ·rintro s24 r4 h4 hR4 a w25 ⟨a28, c29, hB26, hz27, ho30, hl31, hd, hs, hok⟩
      refine gv_in ?_ hd hs hok
      clear hd hs hok
      clear hc21 hl20 ho19 hB15
      refine gv_seq <| gv_seq <| gv_region <| gv_cut_ops (J := fun a w32 => w25 = w32 ∧ a.defers = [] ∧ a.tmps.size = 67 ∧ Ok [(0, (.slice pa0_0 (length a_0) pc0_0)), (1, (.slice pa1_0 (length b_1) pc1_0)), (5, (.slice a28 (length s24.1) c29)), (6, (.int .i64 s12.2)), (7, (.int .i64 s24.2.1)), (8, (.int .i64 s24.2.2)), (30, (.bool ((decide (s24.2.2 < ((length b_1 : Nat) : Int))) || (decide (s24.2.1 > 0)))))] a.tmps) ?_ ?_
      ·skip
       refine pN 5 [23, 24, 25, 26, 27] [(27, (.bool (decide (s24.2.2 < ((length b_1 : Nat) : Int)))))] ?_
       refine gv_split (s := 27) (g := (decide (s24.2.2 < ((length b_1 : Nat) : Int)))) (by kernel_rfl) (fun hc33 => ?_) (fun hc33 => ?_)
       ·skip
        refine pN 3 [28, 29, 30] [(30, (.bool true))] ?_
        refine gv_nil <| gv_sub [0, 1, 5, 6, 7, 8, 30] (σ' := [(0, (.slice pa0_0 (length a_0) pc0_0)), (1, (.slice pa1_0 (length b_1) pc1_0)), (5, (.slice a28 (length s24.1) c29)), (6, (.int .i64 s12.2)), (7, (.int .i64 s24.2.1)), (8, (.int .i64 s24.2.2)), (30, (.bool true))]) (by kernel_rfl) ?_
        refine gv_goal fun a hd hs hok => ⟨rfl, hd, hs, ?_⟩
        obtain ⟨q0, q1, q5, q6, q7, q8, q30, _⟩ := hok
        exact ⟨q0, q1, q5, q6, q7, q8, (by rw [hc33]; exact q30), trivial⟩
       ·skip
        refine pN 3 [28, 29, 30] [(30, (.bool (decide (s24.2.1 > 0))))] ?_
        refine gv_nil <| gv_sub [0, 1, 5, 6, 7, 8, 30] (σ' := [(0, (.slice pa0_0 (length a_0) pc0_0)), (1, (.slice pa1_0 (length b_1) pc1_0)), (5, (.slice a28 (length s24.1) c29)), (6, (.int .i64 s12.2)), (7, (.int .i64 s24.2.1)), (8, (.int .i64 s24.2.2)), (30, (.bool (decide (s24.2.1 > 0))))]) (by kernel_rfl) ?_
        refine gv_goal fun a hd hs hok => ⟨rfl, hd, hs, ?_⟩
        obtain ⟨q0, q1, q5, q6, q7, q8, q30, _⟩ := hok
        exact ⟨q0, q1, q5, q6, q7, q8, (by rw [hc33]; exact q30), trivial⟩
      ·rintro a w32 ⟨e, hd, hs, hok⟩; subst e
       refine gv_in ?_ hd hs hok
       clear hd hs hok
       refine gv_cond (b := ((decide (s24.2.2 < ((length b_1 : Nat) : Int))) || (decide (s24.2.1 > 0)))) (by kernel_rfl) (fun hc34 => ?_) (fun hc34 => ?_)
       ·replace h4 := ite_t hc34 h4
        refine gv_skip <| gv_seq <| gv_block <| gv_seq <| gv_region <| pN 4 [33, 34, 35, 36] [(33, (.slice a28 (length s24.1) c29)), (36, (.int .i64 (IntKind.i64.wrap (s12.2 + s24.2.2))))] ?_
        refine bindE h4 ?_; clear h4; intro x35 hx36 h4
        refine gv_idxaddr (t := 55) (e := 3) (a := a28) (len := length s24.1) (cap := c29) (kk := .i64) (i := (IntKind.i64.wrap (s12.2 + s24.2.2))) (sz := 1) [] (fun e => by cases e) rfl rfl rfl (by kernel_rfl) (by kernel_rfl) Tryz.underlying55 (by kernel_rfl) ((ho30.rd (Y := fun k => blk a28 = some k) (fun _ h => h.elim) (fun g e => e)).has hx36) (idx_spec hx36).1 (idx_spec hx36).2.1 rfl ?_
        refine gv_load (t := 3) (A := (elemAddr a28 (((IntKind.i64.wrap (s12.2 + s24.2.2)) : Int).toNat * 1))) (.int .i64 x35) [] (fun e => by cases e) rfl rfl rfl (by kernel_rfl) (by kernel_rfl) (by kernel_rfl) (inw0 ((ho30.rd (Y := fun k => blk a28 = some k) (fun _ h => h.elim) (fun g e => e)).cell hx36)) rfl ?_
        refine pN 3 [9, 39, 40] [(9, (.int .i64 (IntKind.i64.wrap (x35 + s24.2.1))))] ?_
        refine gv_nil <| gv_seq <| gv_seq <| gv_region <| pN 4 [41, 42, 43, 44] [(44, (.bool (decide (s24.2.2 < ((length b_1 : Nat) : Int)))))] ?_
        refine gv_nil <| bindE h4 ?_; clear h4; intro j37 h5 h4
        refine gv_cut_code (J := fun a w38 => Below w0.heap.size w0 w38 ∧ w25.heap.size ≤ w38.heap.size ∧ Gv.Own (iE .i64) 3 w38 (fun _ => False) a28 c29 s24.1 ∧ a.defers = [] ∧ a.tmps.size = 67 ∧ Ok [(0, (.slice pa0_0 (length a_0) pc0_0)), (1, (.slice pa1_0 (length b_1) pc1_0)), (5, (.slice a28 (length s24.1) c29)), (6, (.int .i64 s12.2)), (8, (.int .i64 s24.2.2)), (9, (.int .i64 j37))] a.tmps) ?_ ?_
        ·skip
         refine gv_cond (b := (decide (s24.2.2 < ((length b_1 : Nat) : Int)))) (by kernel_rfl) (fun hc39 => ?_) (fun hc39 => ?_)
         ·replace h5 := ite_t hc39 h5
          refine gv_drawA (by kernel_rfl) ?_
          intro w40 hg41
          refine gv_pre [0, 1, 2, 3, 5, 6, 7] (bA 12 [0, 1, 2, 3, 5, 6, 7]) 5 (by kernel_rfl) (by kernel_rfl) ?_
          refine pN 3 [45, 46, 47] [(45, (.int .i64 (IntKind.i64.wrap (x35 + s24.2.1)))), (46, (.slice pa0_0 (length a_0) pc0_0)), (47, (.int .i64 s12.2))] ?_
          refine bindE h5 ?_; clear h5; intro x42 hx43 h5
          have hB44 := bg hB26 hg41 nb
          refine gv_idxaddr (t := 55) (e := 3) (a := pa0_0) (len := length a_0) (cap := pc0_0) (kk := .i64) (i := s12.2) (sz := 1) [] (fun e => by cases e) rfl rfl rfl (by kernel_rfl) (by kernel_rfl) Tryz.underlying55 (by kernel_rfl) ((hpa0_0.below hB44 hX0).has hx43) (idx_spec hx43).1 (idx_spec hx43).2.1 rfl ?_
          refine pN 2 [50, 51] [(50, (.slice pa1_0 (length b_1) pc1_0)), (51, (.int .i64 s24.2.2))] ?_
          refine bindE h5 ?_; clear h5; intro x45 hx46 h5
          refine gv_idxaddr (t := 55) (e := 3) (a := pa1_0) (len := length b_1) (cap := pc1_0) (kk := .i64) (i := s24.2.2) (sz := 1) [] (fun e => by cases e) rfl rfl rfl (by kernel_rfl) (by kernel_rfl) Tryz.underlying55 (by kernel_rfl) ((hpa1_0.below hB44 hX0).has hx46) (idx_spec hx46).1 (idx_spec hx46).2.1 rfl ?_
          refine gv_nil <| gv_goA ?_
          refine gv_stage (Cls w40 []) [0, 1, 2, 3, 4, 5, 6, 7, 8] [(4, some true), (8, some true)] (bA 12 [0, 1, 2, 3, 4, 5, 6, 7, 8]) 3 (by kernel_rfl) (by kernel_rfl) (Cls.refl _ _) ?_
          have hC47 := Cls.refl w40 []
          refine gv_load (t := 3) (A := (elemAddr pa0_0 ((s12.2 : Int).toNat * 1))) (.int .i64 x42) [] (fun e => by cases e) rfl rfl rfl (by kernel_rfl) (by kernel_rfl) (by kernel_rfl) (inw1 fun w' hC' => ((hC'.rd (hpa0_0.below hB44 hX0) (fun k (hk : X0 k) => ltl (hX0 k hk) hB44.size) nmx_nil).cell hx43)) rfl ?_
          refine gv_load (t := 3) (A := (elemAddr pa1_0 ((s24.2.2 : Int).toNat * 1))) (.int .i64 x45) [] (fun e => by cases e) rfl rfl rfl (by kernel_rfl) (by kernel_rfl) (by kernel_rfl) (inw1 fun w' hC' => ((hC'.rd (hpa1_0.below hB44 hX0) (fun k (hk : X0 k) => ltl (hX0 k hk) hB44.size) nmx_nil).cell hx46)) rfl ?_
          refine gv_nil <| gv_goA ?_
          refine gv_pre [9, 10, 11] (bA 12 [0, 1, 2, 3, 4, 5, 6, 7, 8, 9, 10, 11]) 0 (by kernel_rfl) (by kernel_rfl) ?_
          refine pN 3 [9, 54, 55] [(9, (.int .i64 (IntKind.i64.wrap ((IntKind.i64.wrap (x35 + s24.2.1)) + (IntKind.i64.wrap (x42 * x45))))))] ?_
          refine bindE h5 ?_; clear h5; intro n48 hn49 h5
          refine gv_name (s := 9) (v := (.int .i64 (IntKind.i64.wrap ((IntKind.i64.wrap (x35 + s24.2.1)) + (IntKind.i64.wrap (x42 * x45)))))) (v' := (.int .i64 n48)) (by kernel_rfl) (congrArg (Value.int .i64) (sj hn49)) ?_
          refine gv_nil <| gv_goA ?_
          refine gv_stageE (by kernel_rfl) ?_
          have e := sj h5; subst e
          refine gv_goal fun a hd hs hok => ?_
          have hz50 := hg41.size
          have hk51 := ho30.grown hg41 (fun _ h => h.elim) nb
          exact ⟨hB44, hz50, hk51, hd, hs, okp [0, 1, 5, 6, 8, 9] hok⟩
         ·replace h5 := ite_f hc39 h5
          refine gv_skip ?_
          have e := sj h5; subst e
          refine gv_goal fun a hd hs hok => ?_
          exact ⟨hB26, nrf, ho30, hd, hs, okp [0, 1, 5, 6, 8, 9] hok⟩
        ·rintro a w38 ⟨hB52, hz53, hk54, hd, hs, hok⟩
         refine gv_in ?_ hd hs hok
         clear hd hs hok
         have hz55 := (nt hz27 hz53)
         clear hz53 hx36 hc34 ho30 hz27 hB26
         refine gv_seq <| gv_region <| pN 6 [56, 57, 58, 59, 60, 61] [(56, (.slice a28 (length s24.1) c29)), (59, (.int .i64 (IntKind.i64.wrap (s12.2 + s24.2.2)))), (61, (.int .i64 ((j37).tmod 65536)))] ?_
         refine bindE h4 ?_; clear h4; intro x56 hx57 h4
         refine gv_idxaddr (t := 55) (e := 3) (a := a28) (len := length s24.1) (cap := c29) (kk := .i64) (i := (IntKind.i64.wrap (s12.2 + s24.2.2))) (sz := 1) [] (fun e => by cases e) rfl rfl rfl (by kernel_rfl) (by kernel_rfl) Tryz.underlying55 (by kernel_rfl) ((hk54.rd (Y := fun k => blk a28 = some k) (fun _ h => h.elim) (fun g e => e)).has hx57) (idx_spec hx57).1 (idx_spec hx57).2.1 rfl ?_
         refine bindE h4 ?_; clear h4; intro l58 hx59 h4
         refine gv_upd (f := (fun n : Int => Value.int .i64 n)) (hf := fun _ => rfl) (t := 3) (e := 3) (a := a28) (cap := c29) (xs := s24.1) (i := (IntKind.i64.wrap (s12.2 + s24.2.2))) ((j37).tmod 65536) l58 (by decide) rfl rfl (by kernel_rfl) rfl (by kernel_rfl) (by kernel_rfl) hk54 hx59 ?_
         intro w60 hg61 ho62 hz63
         refine ⟨(fun e => by cases e), ?_⟩
         have hln64 : length s24.1 = length l58 := by obtain ⟨_, _, e⟩ := upd_spec hx59; rw [e, List.length_set]
         refine gv_name (s := 5) (v := (.slice a28 (length s24.1) c29)) (v' := (.slice a28 (length l58) c29)) (by kernel_rfl) (by rw [hln64]) ?_
         refine gv_nil <| gv_region <| pN 3 [7, 63, 64] [(7, (.int .i64 (IntKind.i64.wrap ((j37).tdiv 65536))))] ?_
         refine gv_nil <| gv_blk <| gv_region <| pN 3 [8, 31, 32] [(8, (.int .i64 (IntKind.i64.wrap (s24.2.2 + 1))))] ?_
         refine gv_nil ?_
         have e := sj h4; subst e
         refine gv_goal fun a hd hs hok => ?_
         have hB65 := bg hB52 hg61 hl31
         have hz66 := (nt hz55 hg61.size)
         exact ⟨(l58, (IntKind.i64.wrap ((j37).tdiv 65536)), (IntKind.i64.wrap (s24.2.2 + 1))), rfl, a28, c29, hB65, hz66, ho62, hl31, hd, hs, okp [0, 1, 5, 6, 7, 8] hok⟩
       ·replace h4 := ite_f hc34 h4
        refine gv_cexit <| gv_exit rfl ?_
        have e := sj h4; subst e
        replace h3 := congrArg some (hR4 _ rfl)
        have e := sj h3; subst e
        refine gv_goal fun a hd hs hok => ?_
        have hz67 := hz27
        exact ⟨a28, c29, hB26, hz67, ho30, hl31, hd, hs, okp [0, 1, 5, 6] hok⟩
    ·rintro a w23 ⟨a70, c71, hB68, hz69, ho72, hl73, hd, hs, hok⟩
     refine gv_in ?_ hd hs hok
     clear hd hs hok
     have hz74 := (nt hz16 hz69)
     clear hz69 hc21 hl20 ho19 hz16 hB15
     refine gv_blk <| gv_region <| pN 3 [6, 21, 22] [(6, (.int .i64 (IntKind.i64.wrap (s12.2 + 1))))] ?_
     refine gv_nil ?_
     have e := sj h2; subst e
     refine gv_goal fun a hd hs hok => ?_
     have hz75 := hz74
     exact ⟨(j22, (IntKind.i64.wrap (s12.2 + 1))), rfl, a70, c71, hB68, hz75, ho72, hl73, hd, hs, okp [0, 1, 5, 6] hok⟩
   ·replace h2 := ite_f hc21 h2
    refine gv_cexit <| gv_exit rfl ?_
    have e := sj h2; subst e
    replace h1 := congrArg some (hR2 _ rfl)
    have e := sj h1; subst e
    refine gv_goal fun a hd hs hok => ?_
    have hz76 := hz16
    exact ⟨a17, c18, hB15, hz76, ho19, hl20, hd, hs, okp [5] hok⟩
 ·rintro a w11 ⟨a79, c80, hB77, hz78, ho81, hl82, hd, hs, hok⟩
  refine gv_in ?_ hd hs hok
  clear hd hs hok
  clear hz78 hl9 hz8 hbe7 ho6 hg5 hx2
  refine gv_seq <| gv_region <| pN 1 [65] [(65, (.slice a79 (length j10) c80))] ?_
  refine bindE h0 ?_; clear h0; intro r83 hr84 h0
  refine gv_call0 (by kernel_rfl) rfl (by kernel_rfl) enters50 (ref3_trim_ok fuel a79 c80 j10 w11 (fun k => (fun k => blk a79 = some k) k) (fun k hk => (fun k (hk : blk a79 = some k) => ho81.lt k hk) k hk) ((ho81.rd (Y := fun k => blk a79 = some k) (fun _ h => h.elim) (fun g e => e)).wide (fun k hk => hk)) r83 hr84) ?_
  rintro v87 w85 ⟨hg86, a88, c89, X91, rfl, ho90, hx92⟩
  have hx93 : ∀ k, X91 k → k < w85.heap.size := fun k hk => (hx92 k hk).1
  have hx94 : ∀ k, X91 k → X0 k ∨ w0.heap.size ≤ k := fun k hk => (hx92 k hk).2.elim (fun h => (fun k (hk : blk a79 = some k) => Or.inr (hl82 k hk)) k h) (fun h => .inr (Nat.le_trans hB77.size h))
  refine pN 1 [4] [(4, (.slice a88 (length r83) c89))] ?_
  refine gv_nil <| gv_cret ?_
  have e := sj h0; subst e
  refine gv_ret (gv_done [(.slice a88 (length r83) c89)] rfl ⟨(by kernel_rfl), trivial⟩ ?_)
  have hB95 := bg hB77 hg86 nb
  exact ⟨grown_of_below hB95, a88, c89, X91, rfl, ho90, (fun k hk => ⟨hx93 k hk, hx94 k hk⟩)⟩

theorem ref3_Int_Times_ok (fuel : Nat) (pa0_0 : Option Addr) (pc0_0 : Nat) (a_0 : (Bool × (List Int))) (pa1_0 : Option Addr) (pc1_0 : Nat) (b_1 : (Bool × (List Int))) (w0 : World) (X0 : Nat → Prop) (hX0 : ∀ k, X0 k → k < w0.heap.size) (hpa0_0 : Rd (iE .i64) w0 X0 pa0_0 pc0_0 a_0.2) (hpa1_0 : Rd (iE .i64) w0 X0 pa1_0 pc1_0 b_1.2) (r0 : (Bool × (List Int))) (h0 : ref3_Int_Times fuel a_0 b_1 = some r0) :
    Calls Tryz.prog 22 ([(.agg #[(.bool a_0.1), (.slice pa0_0 (length a_0.2) pc0_0)]), (.agg #[(.bool b_1.1), (.slice pa1_0 (length b_1.2) pc1_0)])] : List Value).toArray w0 (Ret fun v w' => w0.grownBy w' none ∧ ∃ (a0_0r : Option Addr) (c0_0r : Nat), ∃ (X0_0r : Nat → Prop), v = tup [(.agg #[(.bool r0.1), (.slice a0_0r (length r0.2) c0_0r)])] ∧ Rd (iE .i64) w' X0_0r a0_0r c0_0r r0.2 ∧ (∀ k, X0_0r k → k < w'.heap.size ∧ (X0 k ∨ w0.heap.size ≤ k))) := by
 have hB0 : Below w0.heap.size w0 w0 := Below.refl _ _
 unfold ref3_Int_Times at h0
 refine calls_run Tryz.func22 rfl Tryz.ntmps22 (by kernel_rfl) ?_
 refine gv_sub [0, 1] (σ' := [(0, (.agg #[(.bool a_0.1), (.slice pa0_0 (length a_0.2) pc0_0)])), (1, (.agg #[(.bool b_1.1), (.slice pa1_0 (length b_1.2) pc1_0)]))]) (by kernel_rfl) ?_
 refine gv_seq <| gv_region <| gv_new0 (fun b => .pointer (some ⟨b, 0, none⟩)) #[(.bool a_0.1), (.slice pa0_0 (length a_0.2) pc0_0)] 57 (by kernel_rfl) (by kernel_rfl) ?_
 intro b1 w2 hg3 hb4 hbe5 hz6
 refine gv_new0 (fun b => .pointer (some ⟨b, 0, none⟩)) #[(.bool b_1.1), (.slice pa1_0 (length b_1.2) pc1_0)] 57 (by kernel_rfl) (by kernel_rfl) ?_
 intro b7 w8 hg9 hb10 hbe11 hz12
 refine gv_new0 (fun b => .pointer (some ⟨b, 0, none⟩)) #[(.bool false), (.slice none (length ([] : List Int)) 0)] 57 (by kernel_rfl) (by kernel_rfl) ?_
 intro b13 w14 hg15 hb16 hbe17 hz18
 refine gv_nil <| gv_seq <| gv_region <| pN 1 [6] [(6, (.pointer (some ⟨b1, 1, none⟩)))] ?_
 have hg19 := (grown_trans hg9 hg15)
 have hk20 := hb4.grown hg19 nb
 refine gv_load (t := 55) (A := ⟨b1, 1, none⟩) (.slice pa0_0 (length a_0.2) pc0_0) [] (fun e => by cases e) rfl rfl rfl (by kernel_rfl) (by kernel_rfl) (by kernel_rfl) (inw0 (hk20.cell 1 rfl)) rfl ?_
 refine pN 1 [8] [(8, (.pointer (some ⟨b7, 1, none⟩)))] ?_
 have hk21 := hb10.grown hg15 nb
 refine gv_load (t := 55) (A := ⟨b7, 1, none⟩) (.slice pa1_0 (length b_1.2) pc1_0) [] (fun e => by cases e) rfl rfl rfl (by kernel_rfl) (by kernel_rfl) (by kernel_rfl) (inw0 (hk21.cell 1 rfl)) rfl ?_
 refine bindE h0 ?_; clear h0; intro r22 hr23 h0
 have hg24 := (grown_trans hg3 hg19)
 have hB25 := bg hB0 hg24 nb
 refine gv_call0 (by kernel_rfl) rfl (by kernel_rfl) enters49 (ref3_Times_ok fuel pa0_0 pc0_0 a_0.2 pa1_0 pc1_0 b_1.2 w14 (fun k => X0 k ∨ X0 k) (fun k hk => (hk).elim (fun h => (fun k (hk : X0 k) => ltl (hX0 k hk) hB25.size) k h) (fun h => (fun k (hk : X0 k) => ltl (hX0 k hk) hB25.size) k h)) ((hpa0_0.below hB25 hX0).wide (fun k hk => (.inl hk))) ((hpa1_0.below hB25 hX0).wide (fun k hk => (.inr hk))) r22 hr23) ?_
 rintro v28 w26 ⟨hg27, a29, c30, X32, rfl, ho31, hx33⟩
 have hx34 : ∀ k, X32 k → k < w26.heap.size := fun k hk => (hx33 k hk).1
 have hx35 : ∀ k, X32 k → X0 k ∨ w0.heap.size ≤ k := fun k hk => (hx33 k hk).2.elim (fun h => (h).elim (fun h => (fun k (hk : X0 k) => Or.inl hk) k h) (fun h => (fun k (hk : X0 k) => Or.inl hk) k h)) (fun h => .inr (Nat.le_trans hB25.size h))
 refine pN 1 [5] [(5, (.slice a29 (length r22) c30))] ?_
 refine gv_nil <| gv_seq <| gv_region <| bindE h0 ?_; clear h0; intro j36 h1 h0
 refine gv_cut_ops (J := fun a w37 => ∃ (abb13_0j : Option Addr) (cbb13_0j : Nat), ∃ (Xbb13_0j : Nat → Prop), Below w0.heap.size w0 w37 ∧ w26.heap.size ≤ w37.heap.size ∧ Rd (iE .i64) w37 Xbb13_0j abb13_0j cbb13_0j j36.2 ∧ (∀ k, Xbb13_0j k → k < w37.heap.size) ∧ (∀ k, Xbb13_0j k → X0 k ∨ w0.heap.size ≤ k) ∧ ¬ Xbb13_0j b13 ∧ Box w37 b13 57 #[(.bool j36.1), (.slice abb13_0j (length j36.2) cbb13_0j)] ∧ a.defers = [] ∧ a.tmps.size = 23 ∧ Ok [(4, (bp b13))] a.tmps) ?_ ?_
 ·skip
  refine pN 1 [11] [(11, (bp b1))] ?_
  have hk38 := hk20.grown hg27 nb
  refine gv_load (t := 4) (A := ⟨b1, 0, none⟩) (.bool a_0.1) [] (fun e => by cases e) rfl rfl rfl (by kernel_rfl) (by kernel_rfl) (by kernel_rfl) (inw0 (hk38.cell 0 rfl)) rfl ?_
  refine pN 1 [13] [(13, (bp b7))] ?_
  have hk39 := hk21.grown hg27 nb
  refine gv_load (t := 4) (A := ⟨b7, 0, none⟩) (.bool b_1.1) [] (fun e => by cases e) rfl rfl rfl (by kernel_rfl) (by kernel_rfl) (by kernel_rfl) (inw0 (hk39.cell 0 rfl)) rfl ?_
  refine pN 2 [15, 16] [(16, (.bool (!(a_0.1 == b_1.1))))] ?_
  refine gv_sub [4, 5, 16] (σ' := [(4, (bp b13)), (5, (.slice a29 (length r22) c30)), (16, (.bool (!(a_0.1 == b_1.1))))]) (by kernel_rfl) ?_
  refine gv_split (s := 16) (g := (!(a_0.1 == b_1.1))) (by kernel_rfl) (fun hc40 => ?_) (fun hc40 => ?_)
  ·skip
   replace h1 := ite_t hc40 h1
   refine pN 6 [17, 18, 19, 20, 21, 22] [(22, (.agg #[(.bool (decide (((length r22 : Nat) : Int) > 0))), (.slice a29 (length r22) c30)]))] ?_
   have hk45 := hb16.grown hg27 nb
   refine gv_store0 57 0 (.agg #[(.bool (decide (((length r22 : Nat) : Int) > 0))), (.slice a29 (length r22) c30)]) #[(.bool (decide (((length r22 : Nat) : Int) > 0))), (.slice a29 (length r22) c30)] hk45 (by kernel_rfl) (by kernel_rfl) (by kernel_rfl) ?_
   intro w41 hg42 hb43 hz44
   refine gv_nil ?_
   have e := sj h1; subst e
   refine gv_goal fun a hd hs hok => ?_
   have hB46 := bg hB25 hg27 nb
   have hg47 := (grown_trans hg3 hg9)
   have hB48 := bg hB0 hg47 nb
   have hlo49 : w0.heap.size ≤ b13 := lob hbe17 hB48.size
   have hB50 := bg hB46 hg42 (rowlo hlo49)
   have hz51 := hg42.size
   have ap52 : ¬ X32 b13 := fun h => ((hx33 _ h).2.elim (fun h => (h).elim (fun h => ((fun (hx : X0 b13) => nl hlo49 (hX0 _ hx)))  h) (fun h => ((fun (hx : X0 b13) => nl hlo49 (hX0 _ hx)))  h)) (fun h => nl h (hb16.lt)))
   have hk53 := ho31.grown hg42 hx34 (rowne ap52)
   have hx54 := ltx hx34 hg42.size
   exact ⟨a29, c30, X32, hB50, hz51, hk53, hx54, hx35, ap52, hb43, hd, hs, okp [4] hok⟩
  ·skip
   replace h1 := ite_f hc40 h1
   refine pN 6 [17, 18, 19, 20, 21, 22] [(22, (.agg #[(.bool false), (.slice a29 (length r22) c30)]))] ?_
   have hk59 := hb16.grown hg27 nb
   refine gv_store0 57 0 (.agg #[(.bool false), (.slice a29 (length r22) c30)]) #[(.bool false), (.slice a29 (length r22) c30)] hk59 (by kernel_rfl) (by kernel_rfl) (by kernel_rfl) ?_
   intro w55 hg56 hb57 hz58
   refine gv_nil ?_
   have e := sj h1; subst e
   refine gv_goal fun a hd hs hok => ?_
   have hB60 := bg hB25 hg27 nb
   have hg61 := (grown_trans hg3 hg9)
   have hB62 := bg hB0 hg61 nb
   have hlo63 : w0.heap.size ≤ b13 := lob hbe17 hB62.size
   have hB64 := bg hB60 hg56 (rowlo hlo63)
   have hz65 := hg56.size
   have ap66 : ¬ X32 b13 := fun h => ((hx33 _ h).2.elim (fun h => (h).elim (fun h => ((fun (hx : X0 b13) => nl hlo63 (hX0 _ hx)))  h) (fun h => ((fun (hx : X0 b13) => nl hlo63 (hX0 _ hx)))  h)) (fun h => nl h (hb16.lt)))
   have hk67 := ho31.grown hg56 hx34 (rowne ap66)
   have hx68 := ltx hx34 hg56.size
   exact ⟨a29, c30, X32, hB64, hz65, hk67, hx68, hx35, ap66, hb57, hd, hs, okp [4] hok⟩
 ·rintro a w37 ⟨a71, c72, X71, hB69, hz70, hr73, hx74, hx75, ap76, hb77, hd, hs, hok⟩
  refine gv_in ?_ hd hs hok
  clear hd hs hok
  clear hz70 hx35 hx34 hx33 ho31 hg27 hB25 hg24 hr23 hk21 hk20 hg19 hz18 hb16 hg15 hz12 hbe11 hb10 hz6 hbe5 hb4
  refine gv_cret ?_
  have e := sj h0; subst e
  refine gv_ret (gv_done [(.agg #[(.bool j36.1), (.slice a71 (length j36.2) c72)])] rfl ⟨⟨⟨b13, 0, none⟩, (by kernel_rfl), run_loadVar_row w37 b13 _ 57 _ _ _ hb77 Tryz.underlying57 rfl (by kernel_rfl)⟩, trivial⟩ ?_)
  exact ⟨grown_of_below hB69, a71, c72, X71, rfl, hr73, (fun k hk => ⟨hx74 k hk, hx75 k hk⟩)⟩

theorem ref3_Plus_ok (fuel : Nat) (pa0_0 : Option Addr) (pc0_0 : Nat) (a_0 : (List Int)) (pa1_0 : Option Addr) (pc1_0 : Nat) (b_1 : (List Int)) (w0 : World) (X0 : Nat → Prop) (hX0 : ∀ k, X0 k → k < w0.heap.size) (hpa0_0 : Rd (iE .i64) w0 X0 pa0_0 pc0_0 a_0) (hpa1_0 : Rd (iE .i64) w0 X0 pa1_0 pc1_0 b_1) (r0 : (List Int)) (h0 : ref3_Plus fuel a_0 b_1 = some r0) :
    Calls Tryz.prog 46 ([(.slice pa0_0 (length a_0) pc0_0), (.slice pa1_0 (length b_1) pc1_0)] : List Value).toArray w0 (Ret fun v w' => w0.grownBy w' none ∧ ∃ (a0_0r : Option Addr) (c0_0r : Nat), ∃ (X0_0r : Nat → Prop), v = tup [(.slice a0_0r (length r0) c0_0r)] ∧ Rd (iE .i64) w' X0_0r a0_0r c0_0r r0 ∧ (∀ k, X0_0r k → k < w'.heap.size ∧ (X0 k ∨ w0.heap.size ≤ k))) := by
 have hB0 : Below w0.heap.size w0 w0 := Below.refl _ _
 unfold ref3_Plus at h0
 refine calls_run Tryz.func46 rfl Tryz.ntmps46 (by kernel_rfl) ?_
 refine gv_sub [0, 1] (σ' := [(0, (.slice pa0_0 (length a_0) pc0_0)), (1, (.slice pa1_0 (length b_1) pc1_0))]) (by kernel_rfl) ?_
 refine gv_seq <| gv_region <| pN 1 [4] [] ?_
 refine gv_nil <| gv_seq <| gv_region <| pN 1 [5] [(5, (.slice none (length ([] : List Int)) 0))] ?_
 refine gv_nil <| gv_seq <| gv_region <| pN 1 [6] [(6, (.int .i64 0))] ?_
 refine gv_nil <| gv_seq <| gv_seq <| gv_region <| pN 1 [7] [(7, (.int .i64 0))] ?_
 refine gv_nil <| bindE h0 ?_; clear h0; intro j1 h1 h0
 refine gv_cut_code (J := fun a w2 => ∃ (a5_0j : Option Addr) (c5_0j : Nat), Below w0.heap.size w0 w2 ∧ w0.heap.size ≤ w2.heap.size ∧ Gv.Own (iE .i64) 3 w2 (fun _ => False) a5_0j c5_0j j1 ∧ (∀ g, blk a5_0j = some g → w0.heap.size ≤ g) ∧ a.defers = [] ∧ a.tmps.size = 53 ∧ Ok [(5, (.slice a5_0j (length j1) c5_0j))] a.tmps) ?_ ?_
 ·skip
  refine gv_block <| gv_loop (A := fun (s3 : ((List Int) × Int × Int)) a w4 => ∃ (a5_0j : Option Addr) (c5_0j : Nat), Below w0.heap.size w0 w4 ∧ w0.heap.size ≤ w4.heap.size ∧ Gv.Own (iE .i64) 3 w4 (fun _ => False) a5_0j c5_0j s3.1 ∧ (∀ g, blk a5_0j = some g → w0.heap.size ≤ g) ∧ a.defers = [] ∧ a.tmps.size = 53 ∧ Ok [(0, (.slice pa0_0 (length a_0) pc0_0)), (1, (.slice pa1_0 (length b_1) pc1_0)), (5, (.slice a5_0j (length s3.1) c5_0j)), (6, (.int .i64 s3.2.1)), (7, (.int .i64 s3.2.2))] a.tmps) h1 ?_ ?_
  ·intro a hd hs hok
   exact ⟨none, 0, hB0, nrf, (Gv.Own.nil (iE .i64) 3 w0 (fun _ => False)), (fun _ h => by cases h), hd, hs, okp [0, 1, 5, 6, 7] hok⟩
  ·rintro s3 r2 h2 hR2 a w4 ⟨a7, c8, hB5, hz6, ho9, hl10, hd, hs, hok⟩
   refine gv_in ?_ hd hs hok
   clear hd hs hok
   refine gv_seq <| gv_seq <| gv_region <| gv_cut_ops (J := fun a w11 => w4 = w11 ∧ a.defers = [] ∧ a.tmps.size = 53 ∧ Ok [(0, (.slice pa0_0 (length a_0) pc0_0)), (1, (.slice pa1_0 (length b_1) pc1_0)), (5, (.slice a7 (length s3.1) c8)), (6, (.int .i64 s3.2.1)), (7, (.int .i64 s3.2.2)), (21, (.bool ((decide (s3.2.2 < ((length a_0 : Nat) : Int))) || ((decide (s3.2.2 < ((length b_1 : Nat) : Int))) || (decide (s3.2.1 > 0))))))] a.tmps) ?_ ?_
   ·skip
    refine pN 5 [8, 9, 10, 11, 12] [(12, (.bool (decide (s3.2.2 < ((length a_0 : Nat) : Int)))))] ?_
    refine gv_split (s := 12) (g := (decide (s3.2.2 < ((length a_0 : Nat) : Int)))) (by kernel_rfl) (fun hc12 => ?_) (fun hc12 => ?_)
    ·skip
     refine pN 9 [13, 14, 15, 16, 17, 18, 19, 20, 21] [(21, (.bool true))] ?_
     refine gv_nil <| gv_sub [0, 1, 5, 6, 7, 21] (σ' := [(0, (.slice pa0_0 (length a_0) pc0_0)), (1, (.slice pa1_0 (length b_1) pc1_0)), (5, (.slice a7 (length s3.1) c8)), (6, (.int .i64 s3.2.1)), (7, (.int .i64 s3.2.2)), (21, (.bool true))]) (by kernel_rfl) ?_
     refine gv_goal fun a hd hs hok => ⟨rfl, hd, hs, ?_⟩
     obtain ⟨q0, q1, q5, q6, q7, q21, _⟩ := hok
     exact ⟨q0, q1, q5, q6, q7, (by rw [hc12]; exact q21), trivial⟩
    ·skip
     refine pN 6 [13, 14, 15, 16, 17, 18] [(18, (.bool (decide (s3.2.2 < ((length b_1 : Nat) : Int)))))] ?_
     refine gv_split (s := 18) (g := (decide (s3.2.2 < ((length b_1 : Nat) : Int)))) (by kernel_rfl) (fun hc13 => ?_) (fun hc13 => ?_)
     ·skip
      refine pN 3 [19, 20, 21] [(21, (.bool true))] ?_
      refine gv_nil <| gv_sub [0, 1, 5, 6, 7, 21] (σ' := [(0, (.slice pa0_0 (length a_0) pc0_0)), (1, (.slice pa1_0 (length b_1) pc1_0)), (5, (.slice a7 (length s3.1) c8)), (6, (.int .i64 s3.2.1)), (7, (.int .i64 s3.2.2)), (21, (.bool true))]) (by kernel_rfl) ?_
      refine gv_goal fun a hd hs hok => ⟨rfl, hd, hs, ?_⟩
      obtain ⟨q0, q1, q5, q6, q7, q21, _⟩ := hok
      exact ⟨q0, q1, q5, q6, q7, (by rw [hc12, hc13]; exact q21), trivial⟩
     ·skip
      refine pN 3 [19, 20, 21] [(21, (.bool (decide (s3.2.1 > 0))))] ?_
      refine gv_nil <| gv_sub [0, 1, 5, 6, 7, 21] (σ' := [(0, (.slice pa0_0 (length a_0) pc0_0)), (1, (.slice pa1_0 (length b_1) pc1_0)), (5, (.slice a7 (length s3.1) c8)), (6, (.int .i64 s3.2.1)), (7, (.int .i64 s3.2.2)), (21, (.bool (decide (s3.2.1 > 0))))]) (by kernel_rfl) ?_
      refine gv_goal fun a hd hs hok => ⟨rfl, hd, hs, ?_⟩
      obtain ⟨q0, q1, q5, q6, q7, q21, _⟩ := hok
      exact ⟨q0, q1, q5, q6, q7, (by rw [hc12, hc13]; exact q21), trivial⟩
   ·rintro a w11 ⟨e, hd, hs, hok⟩; subst e
    refine gv_in ?_ hd hs hok
    clear hd hs hok
    refine gv_cond (b := ((decide (s3.2.2 < ((length a_0 : Nat) : Int))) || ((decide (s3.2.2 < ((length b_1 : Nat) : Int))) || (decide (s3.2.1 > 0))))) (by kernel_rfl) (fun hc14 => ?_) (fun hc14 => ?_)
    ·replace h2 := ite_t hc14 h2
     refine gv_skip <| gv_seq <| gv_block <| gv_seq <| gv_seq <| gv_region <| pN 4 [24, 25, 26, 27] [(27, (.bool (decide (s3.2.2 < ((length a_0 : Nat) : Int)))))] ?_
     refine gv_nil <| bindE h2 ?_; clear h2; intro j15 h3 h2
     refine gv_cut_code (J := fun a w16 => Below w0.heap.size w0 w16 ∧ w4.heap.size ≤ w16.heap.size ∧ Gv.Own (iE .i64) 3 w16 (fun _ => False) a7 c8 s3.1 ∧ a.defers = [] ∧ a.tmps.size = 53 ∧ Ok [(0, (.slice pa0_0 (length a_0) pc0_0)), (1, (.slice pa1_0 (length b_1) pc1_0)), (5, (.slice a7 (length s3.1) c8)), (6, (.int .i64 j15)), (7, (.int .i64 s3.2.2))] a.tmps) ?_ ?_
     ·skip
      refine gv_cond (b := (decide (s3.2.2 < ((length a_0 : Nat) : Int)))) (by kernel_rfl) (fun hc17 => ?_) (fun hc17 => ?_)
      ·replace h3 := ite_t hc17 h3
       refine gv_region <| pN 3 [28, 29, 30] [(28, (.int .i64 s3.2.1)), (29, (.slice pa0_0 (length a_0) pc0_0)), (30, (.int .i64 s3.2.2))] ?_
       refine bindE h3 ?_; clear h3; intro x18 hx19 h3
       refine gv_idxaddr (t := 55) (e := 3) (a := pa0_0) (len := length a_0) (cap := pc0_0) (kk := .i64) (i := s3.2.2) (sz := 1) [] (fun e => by cases e) rfl rfl rfl (by kernel_rfl) (by kernel_rfl) Tryz.underlying55 (by kernel_rfl) ((hpa0_0.below hB5 hX0).has hx19) (idx_spec hx19).1 (idx_spec hx19).2.1 rfl ?_
       refine gv_load (t := 3) (A := (elemAddr pa0_0 ((s3.2.2 : Int).toNat * 1))) (.int .i64 x18) [] (fun e => by cases e) rfl rfl rfl (by kernel_rfl) (by kernel_rfl) (by kernel_rfl) (inw0 ((hpa0_0.below hB5 hX0).cell hx19)) rfl ?_
       refine pN 2 [6, 33] [(6, (.int .i64 (IntKind.i64.wrap (s3.2.1 + x18))))] ?_
       refine gv_nil ?_
       have e := sj h3; subst e
       refine gv_goal fun a hd hs hok => ?_
       exact ⟨hB5, nrf, ho9, hd, hs, okp [0, 1, 5, 6, 7] hok⟩
      ·replace h3 := ite_f hc17 h3
       refine gv_skip ?_
       have e := sj h3; subst e
       refine gv_goal fun a hd hs hok => ?_
       exact ⟨hB5, nrf, ho9, hd, hs, okp [0, 1, 5, 6, 7] hok⟩
     ·rintro a w16 ⟨hB20, hz21, hk22, hd, hs, hok⟩
      refine gv_in ?_ hd hs hok
      clear hd hs hok
      have hz23 := (nt hz6 hz21)
      clear hz21 hc14 ho9 hz6 hB5
      refine gv_seq <| gv_seq <| gv_region <| pN 4 [34, 35, 36, 37] [(37, (.bool (decide (s3.2.2 < ((length b_1 : Nat) : Int)))))] ?_
      refine gv_nil <| bindE h2 ?_; clear h2; intro j24 h3 h2
      refine gv_cut_code (J := fun a w25 => Below w0.heap.size w0 w25 ∧ w16.heap.size ≤ w25.heap.size ∧ Gv.Own (iE .i64) 3 w25 (fun _ => False) a7 c8 s3.1 ∧ a.defers = [] ∧ a.tmps.size = 53 ∧ Ok [(0, (.slice pa0_0 (length a_0) pc0_0)), (1, (.slice pa1_0 (length b_1) pc1_0)), (5, (.slice a7 (length s3.1) c8)), (6, (.int .i64 j24)), (7, (.int .i64 s3.2.2))] a.tmps) ?_ ?_
      ·skip
       refine gv_cond (b := (decide (s3.2.2 < ((length b_1 : Nat) : Int)))) (by kernel_rfl) (fun hc26 => ?_) (fun hc26 => ?_)
       ·replace h3 := ite_t hc26 h3
        refine gv_region <| pN 3 [38, 39, 40] [(38, (.int .i64 j15)), (39, (.slice pa1_0 (length b_1) pc1_0)), (40, (.int .i64 s3.2.2))] ?_
        refine bindE h3 ?_; clear h3; intro x27 hx28 h3
        refine gv_idxaddr (t := 55) (e := 3) (a := pa1_0) (len := length b_1) (cap := pc1_0) (kk := .i64) (i := s3.2.2) (sz := 1) [] (fun e => by cases e) rfl rfl rfl (by kernel_rfl) (by kernel_rfl) Tryz.underlying55 (by kernel_rfl) ((hpa1_0.below hB20 hX0).has hx28) (idx_spec hx28).1 (idx_spec hx28).2.1 rfl ?_
        refine gv_load (t := 3) (A := (elemAddr pa1_0 ((s3.2.2 : Int).toNat * 1))) (.int .i64 x27) [] (fun e => by cases e) rfl rfl rfl (by kernel_rfl) (by kernel_rfl) (by kernel_rfl) (inw0 ((hpa1_0.below hB20 hX0).cell hx28)) rfl ?_
        refine pN 2 [6, 43] [(6, (.int .i64 (IntKind.i64.wrap (j15 + x27))))] ?_
        refine gv_nil ?_
        have e := sj h3; subst e
        refine gv_goal fun a hd hs hok => ?_
        exact ⟨hB20, nrf, hk22, hd, hs, okp [0, 1, 5, 6, 7] hok⟩
       ·replace h3 := ite_f hc26 h3
        refine gv_skip ?_
        have e := sj h3; subst e
        refine gv_goal fun a hd hs hok => ?_
        exact ⟨hB20, nrf, hk22, hd, hs, okp [0, 1, 5, 6, 7] hok⟩
      ·rintro a w25 ⟨hB29, hz30, hk31, hd, hs, hok⟩
       refine gv_in ?_ hd hs hok
       clear hd hs hok
       have hz32 := (nt hz23 hz30)
       clear hz30 hz23 hk22 hB20
       refine gv_seq <| gv_region <| pN 3 [44, 45, 46] [(44, (.slice a7 (length s3.1) c8)), (46, (.int .i64 ((j24).tmod 65536)))] ?_
       refine gv_new0 (fun b => .slice (some ⟨b, 0, none⟩) 1 1) #[(.int .i64 ((j24).tmod 65536))] 3 (by kernel_rfl) (by kernel_rfl) ?_
       intro b33 w34 hg35 hb36 hbe37 hz38
       have ho39 : Gv.Own (iE .i64) 3 w34 (fun _ => False) (some ⟨b33, 0, none⟩) 1 ([((j24).tmod 65536)] : List Int) := Box.ownE hb36 ⟨[(.int .i64 ((j24).tmod 65536))], [], rfl, rfl, rfl⟩ (show 1 ≤ maxLen by decide) (fun h => h)
       have hl40 : ∀ g, blk (some ⟨b33, 0, none⟩) = some g → w0.heap.size ≤ g := loo hbe37 hB29.size
       refine bindE h2 ?_; clear h2; intro l44 hx45 h2
       have hk52 := hk31.grown hg35 (fun _ h => h.elim) nb
       refine gv_append (iE .i64) (t := 55) (ty := 55) (e := 3) (a := a7) (ax := (some ⟨b33, 0, none⟩)) (cap := c8) (cx := 1) (xs := s3.1) (ys := ([((j24).tmod 65536)] : List Int)) l44 (X := (fun _ => False)) (Y := (fun k => blk (some ⟨b33, 0, none⟩) = some k)) (by decide) rfl rfl (by kernel_rfl) (by kernel_rfl) Tryz.underlying55 info3 hk52 (ho39.rd (Y := fun k => blk (some ⟨b33, 0, none⟩) = some k) (fun _ h => h.elim) (fun g e => e)) hx45 (.inr fun _ _ _ _ _ h => h) (fun _ h => h.elim) ?_
       intro a46 c47 w48 hg49 ho50 hk51
       refine ⟨(fun e => by cases e), ?_⟩
       have hB54 := bg hB29 hg35 nb
       have hl53 : ∀ g, blk a46 = some g → w0.heap.size ≤ g := blk_step hk51 hl10 hB54.size
       have ap56 : ∀ g, blk a7 = some g → ¬ (fun k => blk (some ⟨b33, 0, none⟩) = some k) g := fun g e hx => nl ((lowo hbe37) _ hx) ((fun k (hk : blk a7 = some k) => hk31.lt k hk) g e)
       have ap55 : ∀ g, blk a46 = some g → ¬ (fun k => blk (some ⟨b33, 0, none⟩) = some k) g := blk_neX hk51 ap56 (fun k (hk : blk (some ⟨b33, 0, none⟩) = some k) => ho39.lt k hk)
       have ap58 : ∀ g, blk (some ⟨b33, 0, none⟩) = some g → ¬ (fun k => blk a7 = some k) g := fun g e hx => nl ((lowo hbe37) g e) ((fun k (hk : blk a7 = some k) => hk31.lt k hk) _ hx)
       have ap57 : ∀ g, blk (some ⟨b33, 0, none⟩) = some g → ¬ (fun k => blk a46 = some k) g := fun g e h => blk_rev hk51 (fun h => ((ap58) g e) h) (ho39.lt g e) h
       refine pN 1 [5] [(5, (.slice a46 (length l44) c47))] ?_
       refine gv_nil <| gv_region <| pN 3 [6, 49, 50] [(6, (.int .i64 (IntKind.i64.wrap ((j24).tdiv 65536))))] ?_
       refine gv_nil <| gv_blk <| gv_region <| pN 3 [7, 22, 23] [(7, (.int .i64 (IntKind.i64.wrap (s3.2.2 + 1))))] ?_
       refine gv_nil ?_
       have e := sj h2; subst e
       refine gv_goal fun a hd hs hok => ?_
       have hB59 := bg hB54 hg49 hl10
       have hz60 := (nt (nt hz32 hg35.size) hg49.size)
       exact ⟨(l44, (IntKind.i64.wrap ((j24).tdiv 65536)), (IntKind.i64.wrap (s3.2.2 + 1))), rfl, a46, c47, hB59, hz60, ho50, hl53, hd, hs, okp [0, 1, 5, 6, 7] hok⟩
    ·replace h2 := ite_f hc14 h2
     refine gv_cexit <| gv_exit rfl ?_
     have e := sj h2; subst e
     replace h1 := congrArg some (hR2 _ rfl)
     have e := sj h1; subst e
     refine gv_goal fun a hd hs hok => ?_
     have hz61 := hz6
     exact ⟨a7, c8, hB5, hz61, ho9, hl10, hd, hs, okp [5] hok⟩
 ·rintro a w2 ⟨a64, c65, hB62, hz63, ho66, hl67, hd, hs, hok⟩
  refine gv_in ?_ hd hs hok
  clear hd hs hok
  refine gv_seq <| gv_region <| pN 1 [51] [(51, (.slice a64 (length j1) c65))] ?_
  refine bindE h0 ?_; clear h0; intro r68 hr69 h0
  refine gv_call0 (by kernel_rfl) rfl (by kernel_rfl) enters50 (ref3_trim_ok fuel a64 c65 j1 w2 (fun k => (fun k => blk a64 = some k) k) (fun k hk => (fun k (hk : blk a64 = some k) => ho66.lt k hk) k hk) ((ho66.rd (Y := fun k => blk a64 = some k) (fun _ h => h.elim) (fun g e => e)).wide (fun k hk => hk)) r68 hr69) ?_
  rintro v72 w70 ⟨hg71, a73, c74, X76, rfl, ho75, hx77⟩
  have hx78 : ∀ k, X76 k → k < w70.heap.size := fun k hk => (hx77 k hk).1
  have hx79 : ∀ k, X76 k → X0 k ∨ w0.heap.size ≤ k := fun k hk => (hx77 k hk).2.elim (fun h => (fun k (hk : blk a64 = some k) => Or.inr (hl67 k hk)) k h) (fun h => .inr (Nat.le_trans hB62.size h))
  refine pN 1 [4] [(4, (.slice a73 (length r68) c74))] ?_
  refine gv_nil <| gv_cret ?_
  have e := sj h0; subst e
  refine gv_ret (gv_done [(.slice a73 (length r68) c74)] rfl ⟨(by kernel_rfl), trivial⟩ ?_)
  have hB80 := bg hB62 hg71 nb
  exact ⟨grown_of_below hB80, a73, c74, X76, rfl, ho75, (fun k hk => ⟨hx78 k hk, hx79 k hk⟩)⟩

theorem ref3_Compare_ok (fuel : Nat) (pa0_0 : Option Addr) (pc0_0 : Nat) (a_0 : (List Int)) (pa1_0 : Option Addr) (pc1_0 : Nat) (b_1 : (List Int)) (w0 : World) (X0 : Nat → Prop) (hX0 : ∀ k, X0 k → k < w0.heap.size) (hpa0_0 : Rd (iE .i64) w0 X0 pa0_0 pc0_0 a_0) (hpa1_0 : Rd (iE .i64) w0 X0 pa1_0 pc1_0 b_1) (r0 : Int) (h0 : ref3_Compare fuel a_0 b_1 = some r0) :
    Calls Tryz.prog 47 ([(.slice pa0_0 (length a_0) pc0_0), (.slice pa1_0 (length b_1) pc1_0)] : List Value).toArray w0 (Ret fun v w' => w0.grownBy w' none ∧ v = tup [(.int .i64 r0)]) := by
 have hB0 : Below w0.heap.size w0 w0 := Below.refl _ _
 unfold ref3_Compare at h0
 refine calls_run Tryz.func47 rfl Tryz.ntmps47 (by kernel_rfl) ?_
 refine gv_sub [0, 1] (σ' := [(0, (.slice pa0_0 (length a_0) pc0_0)), (1, (.slice pa1_0 (length b_1) pc1_0))]) (by kernel_rfl) ?_
 refine gv_seq <| gv_region <| pN 1 [4] [] ?_
 refine gv_nil <| gv_seq <| gv_seq <| gv_region <| pN 5 [6, 7, 8, 9, 10] [(10, (.bool (((length a_0 : Nat) : Int) != ((length b_1 : Nat) : Int))))] ?_
 refine gv_nil <| gv_cond (b := (((length a_0 : Nat) : Int) != ((length b_1 : Nat) : Int))) (by kernel_rfl) (fun hc1 => ?_) (fun hc1 => ?_)
 ·replace h0 := ite_t hc1 h0
  refine gv_seq <| gv_seq <| gv_region <| pN 5 [11, 12, 13, 14, 15] [(15, (.bool (decide (((length a_0 : Nat) : Int) < ((length b_1 : Nat) : Int)))))] ?_
  refine gv_nil <| gv_cond (b := (decide (((length a_0 : Nat) : Int) < ((length b_1 : Nat) : Int)))) (by kernel_rfl) (fun hc2 => ?_) (fun hc2 => ?_)
  ·replace h0 := ite_t hc2 h0
   refine gv_seq <| gv_region <| pN 1 [4] [(4, (.int .i64 (-1)))] ?_
   refine gv_nil <| gv_cret ?_
   have e := sj h0; subst e
   refine gv_ret (gv_done [(.int .i64 (-1))] rfl ⟨(by kernel_rfl), trivial⟩ ?_)
   exact ⟨grown_of_below hB0, rfl⟩
  ·replace h0 := ite_f hc2 h0
   refine gv_skip <| gv_seq <| gv_region <| pN 1 [4] [(4, (.int .i64 1))] ?_
   refine gv_nil <| gv_cret ?_
   have e := sj h0; subst e
   refine gv_ret (gv_done [(.int .i64 1)] rfl ⟨(by kernel_rfl), trivial⟩ ?_)
   exact ⟨grown_of_below hB0, rfl⟩
 ·replace h0 := ite_f hc1 h0
  refine gv_skip <| gv_seq <| gv_seq <| gv_region <| pN 4 [5, 16, 17, 18] [(5, (.int .i64 (IntKind.i64.wrap (((length a_0 : Nat) : Int) - 1))))] ?_
  refine bindE h0 ?_; clear h0; intro n3 hn4 h0
  refine gv_name (s := 5) (v := (.int .i64 (IntKind.i64.wrap (((length a_0 : Nat) : Int) - 1)))) (v' := (.int .i64 n3)) (by kernel_rfl) (congrArg (Value.int .i64) (sj hn4)) ?_
  refine gv_nil <| bindE h0 ?_; clear h0; intro j5 h1 h0
  refine gv_cut_code (J := fun a w7 => ∃ s6 : Unit, j5 = .inl s6 ∧ Below w0.heap.size w0 w7 ∧ w0.heap.size ≤ w7.heap.size ∧ a.defers = [] ∧ a.tmps.size = 41 ∧ Ok [] a.tmps) ?_ ?_
  ·skip
   refine gv_block <| gv_loop (A := fun (s8 : Int) a w9 => Below w0.heap.size w0 w9 ∧ w0.heap.size ≤ w9.heap.size ∧ a.defers = [] ∧ a.tmps.size = 41 ∧ Ok [(0, (.slice pa0_0 (length a_0) pc0_0)), (1, (.slice pa1_0 (length b_1) pc1_0)), (5, (.int .i64 s8))] a.tmps) h1 ?_ ?_
   ·intro a hd hs hok
    exact ⟨hB0, nrf, hd, hs, okp [0, 1, 5] hok⟩
   ·rintro s8 r2 h2 hR2 a w9 ⟨hB10, hz11, hd, hs, hok⟩
    refine gv_in ?_ hd hs hok
    clear hd hs hok
    refine gv_seq <| gv_seq <| gv_region <| pN 2 [19, 20] [(20, (.bool (decide (s8 ≥ 0))))] ?_
    refine gv_nil <| gv_cond (b := (decide (s8 ≥ 0))) (by kernel_rfl) (fun hc12 => ?_) (fun hc12 => ?_)
    ·replace h2 := ite_t hc12 h2
     refine gv_skip <| gv_seq <| gv_block <| gv_seq <| gv_seq <| gv_drawA (by kernel_rfl) ?_
     intro w13 hg14
     refine gv_pre [0, 1, 2, 4, 5, 6] (bA 9 [0, 1, 2, 4, 5, 6]) 3 (by kernel_rfl) (by kernel_rfl) ?_
     refine pN 2 [23, 24] [(23, (.slice pa0_0 (length a_0) pc0_0)), (24, (.int .i64 s8))] ?_
     refine bindE h2 ?_; clear h2; intro x15 hx16 h2
     have hB17 := bg hB10 hg14 nb
     refine gv_idxaddr (t := 55) (e := 3) (a := pa0_0) (len := length a_0) (cap := pc0_0) (kk := .i64) (i := s8) (sz := 1) [] (fun e => by cases e) rfl rfl rfl (by kernel_rfl) (by kernel_rfl) Tryz.underlying55 (by kernel_rfl) ((hpa0_0.below hB17 hX0).has hx16) (idx_spec hx16).1 (idx_spec hx16).2.1 rfl ?_
     refine pN 2 [27, 28] [(27, (.slice pa1_0 (length b_1) pc1_0)), (28, (.int .i64 s8))] ?_
     refine bindE h2 ?_; clear h2; intro x18 hx19 h2
     refine gv_idxaddr (t := 55) (e := 3) (a := pa1_0) (len := length b_1) (cap := pc1_0) (kk := .i64) (i := s8) (sz := 1) [] (fun e => by cases e) rfl rfl rfl (by kernel_rfl) (by kernel_rfl) Tryz.underlying55 (by kernel_rfl) ((hpa1_0.below hB17 hX0).has hx19) (idx_spec hx19).1 (idx_spec hx19).2.1 rfl ?_
     refine gv_nil <| gv_goA ?_
     refine gv_stage (Cls w13 []) [0, 1, 2, 3, 4, 5, 6, 7] [(3, some true), (7, some true)] (bA 9 [0, 1, 2, 3, 4, 5, 6, 7]) 1 (by kernel_rfl) (by kernel_rfl) (Cls.refl _ _) ?_
     have hC20 := Cls.refl w13 []
     refine gv_load (t := 3) (A := (elemAddr pa0_0 ((s8 : Int).toNat * 1))) (.int .i64 x15) [] (fun e => by cases e) rfl rfl rfl (by kernel_rfl) (by kernel_rfl) (by kernel_rfl) (inw1 fun w' hC' => ((hC'.rd (hpa0_0.below hB17 hX0) (fun k (hk : X0 k) => ltl (hX0 k hk) hB17.size) nmx_nil).cell hx16)) rfl ?_
     refine gv_load (t := 3) (A := (elemAddr pa1_0 ((s8 : Int).toNat * 1))) (.int .i64 x18) [] (fun e => by cases e) rfl rfl rfl (by kernel_rfl) (by kernel_rfl) (by kernel_rfl) (inw1 fun w' hC' => ((hC'.rd (hpa1_0.below hB17 hX0) (fun k (hk : X0 k) => ltl (hX0 k hk) hB17.size) nmx_nil).cell hx19)) rfl ?_
     refine gv_nil <| gv_goA ?_
     refine gv_pre [8] (bA 9 [0, 1, 2, 3, 4, 5, 6, 7, 8]) 0 (by kernel_rfl) (by kernel_rfl) ?_
     refine pN 1 [31] [(31, (.bool (decide (x15 < x18))))] ?_
     refine gv_nil <| gv_goA ?_
     refine gv_stageE (by kernel_rfl) ?_
     refine gv_cond (b := (decide (x15 < x18))) (by kernel_rfl) (fun hc21 => ?_) (fun hc21 => ?_)
     ·replace h2 := ite_t hc21 h2
      refine gv_seq <| gv_region <| pN 1 [4] [(4, (.int .i64 (-1)))] ?_
      refine gv_nil <| gv_cret ?_
      have e := sj h2; subst e
      replace h1 := congrArg some (hR2 _ rfl)
      have e := sj h1; subst e
      replace h0 := cont_inr h0
      have e := sj h0; subst e
      refine gv_ret (gv_done [(.int .i64 (-1))] rfl ⟨(by kernel_rfl), trivial⟩ ?_)
      exact ⟨grown_of_below hB17, rfl⟩
     ·replace h2 := ite_f hc21 h2
      refine gv_skip <| gv_seq <| gv_drawA (by kernel_rfl) ?_
      intro w22 hg23
      refine gv_pre [0, 1, 2, 4, 5, 6] (bA 9 [0, 1, 2, 4, 5, 6]) 3 (by kernel_rfl) (by kernel_rfl) ?_
      refine pN 2 [32, 33] [(32, (.slice pa0_0 (length a_0) pc0_0)), (33, (.int .i64 s8))] ?_
      refine bindE h2 ?_; clear h2; intro x24 hx25 h2
      have hB26 := bg hB17 hg23 nb
      refine gv_idxaddr (t := 55) (e := 3) (a := pa0_0) (len := length a_0) (cap := pc0_0) (kk := .i64) (i := s8) (sz := 1) [] (fun e => by cases e) rfl rfl rfl (by kernel_rfl) (by kernel_rfl) Tryz.underlying55 (by kernel_rfl) ((hpa0_0.below hB26 hX0).has hx25) (idx_spec hx25).1 (idx_spec hx25).2.1 rfl ?_
      refine pN 2 [36, 37] [(36, (.slice pa1_0 (length b_1) pc1_0)), (37, (.int .i64 s8))] ?_
      refine bindE h2 ?_; clear h2; intro x27 hx28 h2
      refine gv_idxaddr (t := 55) (e := 3) (a := pa1_0) (len := length b_1) (cap := pc1_0) (kk := .i64) (i := s8) (sz := 1) [] (fun e => by cases e) rfl rfl rfl (by kernel_rfl) (by kernel_rfl) Tryz.underlying55 (by kernel_rfl) ((hpa1_0.below hB26 hX0).has hx28) (idx_spec hx28).1 (idx_spec hx28).2.1 rfl ?_
      refine gv_nil <| gv_goA ?_
      refine gv_stage (Cls w22 []) [0, 1, 2, 3, 4, 5, 6, 7] [(3, some true), (7, some true)] (bA 9 [0, 1, 2, 3, 4, 5, 6, 7]) 1 (by kernel_rfl) (by kernel_rfl) (Cls.refl _ _) ?_
      have hC29 := Cls.refl w22 []
      refine gv_load (t := 3) (A := (elemAddr pa0_0 ((s8 : Int).toNat * 1))) (.int .i64 x24) [] (fun e => by cases e) rfl rfl rfl (by kernel_rfl) (by kernel_rfl) (by kernel_rfl) (inw1 fun w' hC' => ((hC'.rd (hpa0_0.below hB26 hX0) (fun k (hk : X0 k) => ltl (hX0 k hk) hB26.size) nmx_nil).cell hx25)) rfl ?_
      refine gv_load (t := 3) (A := (elemAddr pa1_0 ((s8 : Int).toNat * 1))) (.int .i64 x27) [] (fun e => by cases e) rfl rfl rfl (by kernel_rfl) (by kernel_rfl) (by kernel_rfl) (inw1 fun w' hC' => ((hC'.rd (hpa1_0.below hB26 hX0) (fun k (hk : X0 k) => ltl (hX0 k hk) hB26.size) nmx_nil).cell hx28)) rfl ?_
      refine gv_nil <| gv_goA ?_
      refine gv_pre [8] (bA 9 [0, 1, 2, 3, 4, 5, 6, 7, 8]) 0 (by kernel_rfl) (by kernel_rfl) ?_
      refine pN 1 [40] [(40, (.bool (decide (x24 > x27))))] ?_
      refine gv_sub [0, 1, 5, 40] (σ' := [(0, (.slice pa0_0 (length a_0) pc0_0)), (1, (.slice pa1_0 (length b_1) pc1_0)), (5, (.int .i64 s8)), (40, (.bool (decide (x24 > x27))))]) (by kernel_rfl) ?_
      refine gv_nil <| gv_goA ?_
      refine gv_stageE (by kernel_rfl) ?_
      refine gv_cond (b := (decide (x24 > x27))) (by kernel_rfl) (fun hc30 => ?_) (fun hc30 => ?_)
      ·replace h2 := ite_t hc30 h2
       refine gv_seq <| gv_region <| pN 1 [4] [(4, (.int .i64 1))] ?_
       refine gv_nil <| gv_cret ?_
       have e := sj h2; subst e
       replace h1 := congrArg some (hR2 _ rfl)
       have e := sj h1; subst e
       replace h0 := cont_inr h0
       have e := sj h0; subst e
       refine gv_ret (gv_done [(.int .i64 1)] rfl ⟨(by kernel_rfl), trivial⟩ ?_)
       exact ⟨grown_of_below hB26, rfl⟩
      ·replace h2 := ite_f hc30 h2
       refine gv_skip <| gv_blk <| gv_region <| pN 3 [5, 21, 22] [(5, (.int .i64 (IntKind.i64.wrap (s8 - 1))))] ?_
       refine gv_nil ?_
       have e := sj h2; subst e
       refine gv_goal fun a hd hs hok => ?_
       have hz31 := (nt (nt hz11 hg14.size) hg23.size)
       exact ⟨(IntKind.i64.wrap (s8 - 1)), rfl, hB26, hz31, hd, hs, okp [0, 1, 5] hok⟩
    ·replace h2 := ite_f hc12 h2
     refine gv_cexit <| gv_exit rfl ?_
     have e := sj h2; subst e
     replace h1 := congrArg some (hR2 _ rfl)
     have e := sj h1; subst e
     refine gv_goal fun a hd hs hok => ?_
     have hz32 := hz11
     exact ⟨(), rfl, hB10, hz32, hd, hs, okp [] hok⟩
  ·rintro a w7 ⟨s6, e, hB33, hz34, hd, hs, hok⟩
   subst e
   refine gv_in ?_ hd hs hok
   clear hd hs hok
   replace h0 := cont_inl h0
   refine gv_seq <| gv_region <| pN 1 [4] [(4, (.int .i64 0))] ?_
   refine gv_nil <| gv_cret ?_
   have e := sj h0; subst e
   refine gv_ret (gv_done [(.int .i64 0)] rfl ⟨(by kernel_rfl), trivial⟩ ?_)
   exact ⟨grown_of_below hB33, rfl⟩

theorem ref3_Minus_ok (fuel : Nat) (pa0_0 : Option Addr) (pc0_0 : Nat) (a_0 : (List Int)) (pa1_0 : Option Addr) (pc1_0 : Nat) (b_1 : (List Int)) (w0 : World) (X0 : Nat → Prop) (hX0 : ∀ k, X0 k → k < w0.heap.size) (hpa0_0 : Rd (iE .i64) w0 X0 pa0_0 pc0_0 a_0) (hpa1_0 : Rd (iE .i64) w0 X0 pa1_0 pc1_0 b_1) (r0 : (List Int)) (h0 : ref3_Minus fuel a_0 b_1 = some r0) :
    Calls Tryz.prog 48 ([(.slice pa0_0 (length a_0) pc0_0), (.slice pa1_0 (length b_1) pc1_0)] : List Value).toArray w0 (Ret fun v w' => w0.grownBy w' none ∧ ∃ (a0_0r : Option Addr) (c0_0r : Nat), ∃ (X0_0r : Nat → Prop), v = tup [(.slice a0_0r (length r0) c0_0r)] ∧ Rd (iE .i64) w' X0_0r a0_0r c0_0r r0 ∧ (∀ k, X0_0r k → k < w'.heap.size ∧ (X0 k ∨ w0.heap.size ≤ k))) := by
 have hB0 : Below w0.heap.size w0 w0 := Below.refl _ _
 unfold ref3_Minus at h0
 refine calls_run Tryz.func48 rfl Tryz.ntmps48 (by kernel_rfl) ?_
 refine gv_sub [0, 1] (σ' := [(0, (.slice pa0_0 (length a_0) pc0_0)), (1, (.slice pa1_0 (length b_1) pc1_0))]) (by kernel_rfl) ?_
 refine gv_seq <| gv_region <| pN 1 [4] [] ?_
 refine gv_nil <| gv_seq <| gv_region <| pN 1 [5] [(5, (.slice none (length ([] : List Int)) 0))] ?_
 refine gv_nil <| gv_seq <| gv_region <| pN 1 [6] [(6, (.int .i64 0))] ?_
 refine gv_nil <| gv_seq <| gv_seq <| gv_region <| pN 1 [7] [(7, (.int .i64 0))] ?_
 refine gv_nil <| bindE h0 ?_; clear h0; intro j1 h1 h0
 refine gv_cut_code (J := fun a w2 => ∃ (a5_0j : Option Addr) (c5_0j : Nat), Below w0.heap.size w0 w2 ∧ w0.heap.size ≤ w2.heap.size ∧ Gv.Own (iE .i64) 3 w2 (fun _ => False) a5_0j c5_0j j1 ∧ (∀ g, blk a5_0j = some g → w0.heap.size ≤ g) ∧ a.defers = [] ∧ a.tmps.size = 41 ∧ Ok [(5, (.slice a5_0j (length j1) c5_0j))] a.tmps) ?_ ?_
 ·skip
  refine gv_block <| gv_loop (A := fun (s3 : ((List Int) × Int × Int)) a w4 => ∃ (a5_0j : Option Addr) (c5_0j : Nat), Below w0.heap.size w0 w4 ∧ w0.heap.size ≤ w4.heap.size ∧ Gv.Own (iE .i64) 3 w4 (fun _ => False) a5_0j c5_0j s3.1 ∧ (∀ g, blk a5_0j = some g → w0.heap.size ≤ g) ∧ a.defers = [] ∧ a.tmps.size = 41 ∧ Ok [(0, (.slice pa0_0 (length a_0) pc0_0)), (1, (.slice pa1_0 (length b_1) pc1_0)), (5, (.slice a5_0j (length s3.1) c5_0j)), (6, (.int .i64 s3.2.1)), (7, (.int .i64 s3.2.2))] a.tmps) h1 ?_ ?_
  ·intro a hd hs hok
   exact ⟨none, 0, hB0, nrf, (Gv.Own.nil (iE .i64) 3 w0 (fun _ => False)), (fun _ h => by cases h), hd, hs, okp [0, 1, 5, 6, 7] hok⟩
  ·rintro s3 r2 h2 hR2 a w4 ⟨a7, c8, hB5, hz6, ho9, hl10, hd, hs, hok⟩
   refine gv_in ?_ hd hs hok
   clear hd hs hok
   refine gv_seq <| gv_seq <| gv_region <| pN 4 [9, 10, 11, 12] [(12, (.bool (decide (s3.2.2 < ((length a_0 : Nat) : Int)))))] ?_
   refine gv_nil <| gv_cond (b := (decide (s3.2.2 < ((length a_0 : Nat) : Int)))) (by kernel_rfl) (fun hc11 => ?_) (fun hc11 => ?_)
   ·replace h2 := ite_t hc11 h2
    refine gv_skip <| gv_seq <| gv_block <| gv_seq <| gv_region <| pN 2 [15, 16] [(15, (.slice pa0_0 (length a_0) pc0_0)), (16, (.int .i64 s3.2.2))] ?_
    refine bindE h2 ?_; clear h2; intro x12 hx13 h2
    refine gv_idxaddr (t := 55) (e := 3) (a := pa0_0) (len := length a_0) (cap := pc0_0) (kk := .i64) (i := s3.2.2) (sz := 1) [] (fun e => by cases e) rfl rfl rfl (by kernel_rfl) (by kernel_rfl) Tryz.underlying55 (by kernel_rfl) ((hpa0_0.below hB5 hX0).has hx13) (idx_spec hx13).1 (idx_spec hx13).2.1 rfl ?_
    refine gv_load (t := 3) (A := (elemAddr pa0_0 ((s3.2.2 : Int).toNat * 1))) (.int .i64 x12) [] (fun e => by cases e) rfl rfl rfl (by kernel_rfl) (by kernel_rfl) (by kernel_rfl) (inw0 ((hpa0_0.below hB5 hX0).cell hx13)) rfl ?_
    refine pN 3 [8, 19, 20] [(8, (.int .i64 (IntKind.i64.wrap (x12 - s3.2.1))))] ?_
    refine gv_nil <| gv_seq <| gv_seq <| gv_region <| pN 4 [21, 22, 23, 24] [(24, (.bool (decide (s3.2.2 < ((length b_1 : Nat) : Int)))))] ?_
    refine gv_nil <| bindE h2 ?_; clear h2; intro j14 h3 h2
    refine gv_cut_code (J := fun a w15 => Below w0.heap.size w0 w15 ∧ w4.heap.size ≤ w15.heap.size ∧ Gv.Own (iE .i64) 3 w15 (fun _ => False) a7 c8 s3.1 ∧ a.defers = [] ∧ a.tmps.size = 41 ∧ Ok [(0, (.slice pa0_0 (length a_0) pc0_0)), (1, (.slice pa1_0 (length b_1) pc1_0)), (5, (.slice a7 (length s3.1) c8)), (7, (.int .i64 s3.2.2)), (8, (.int .i64 j14))] a.tmps) ?_ ?_
    ·skip
     refine gv_cond (b := (decide (s3.2.2 < ((length b_1 : Nat) : Int)))) (by kernel_rfl) (fun hc16 => ?_) (fun hc16 => ?_)
     ·replace h3 := ite_t hc16 h3
      refine gv_region <| pN 3 [25, 26, 27] [(25, (.int .i64 (IntKind.i64.wrap (x12 - s3.2.1)))), (26, (.slice pa1_0 (length b_1) pc1_0)), (27, (.int .i64 s3.2.2))] ?_
      refine bindE h3 ?_; clear h3; intro x17 hx18 h3
      refine gv_idxaddr (t := 55) (e := 3) (a := pa1_0) (len := length b_1) (cap := pc1_0) (kk := .i64) (i := s3.2.2) (sz := 1) [] (fun e => by cases e) rfl rfl rfl (by kernel_rfl) (by kernel_rfl) Tryz.underlying55 (by kernel_rfl) ((hpa1_0.below hB5 hX0).has hx18) (idx_spec hx18).1 (idx_spec hx18).2.1 rfl ?_
      refine gv_load (t := 3) (A := (elemAddr pa1_0 ((s3.2.2 : Int).toNat * 1))) (.int .i64 x17) [] (fun e => by cases e) rfl rfl rfl (by kernel_rfl) (by kernel_rfl) (by kernel_rfl) (inw0 ((hpa1_0.below hB5 hX0).cell hx18)) rfl ?_
      refine pN 2 [8, 30] [(8, (.int .i64 (IntKind.i64.wrap ((IntKind.i64.wrap (x12 - s3.2.1)) - x17))))] ?_
      refine bindE h3 ?_; clear h3; intro n19 hn20 h3
      refine gv_name (s := 8) (v := (.int .i64 (IntKind.i64.wrap ((IntKind.i64.wrap (x12 - s3.2.1)) - x17)))) (v' := (.int .i64 n19)) (by kernel_rfl) (congrArg (Value.int .i64) (sj hn20)) ?_
      refine gv_nil ?_
      have e := sj h3; subst e
      refine gv_goal fun a hd hs hok => ?_
      exact ⟨hB5, nrf, ho9, hd, hs, okp [0, 1, 5, 7, 8] hok⟩
     ·replace h3 := ite_f hc16 h3
      refine gv_skip ?_
      have e := sj h3; subst e
      refine gv_goal fun a hd hs hok => ?_
      exact ⟨hB5, nrf, ho9, hd, hs, okp [0, 1, 5, 7, 8] hok⟩
    ·rintro a w15 ⟨hB21, hz22, hk23, hd, hs, hok⟩
     refine gv_in ?_ hd hs hok
     clear hd hs hok
     have hz24 := (nt hz6 hz22)
     clear hz22 hx13 hc11 ho9 hz6 hB5
     refine gv_seq <| gv_region <| pN 1 [6] [(6, (.int .i64 0))] ?_
     refine gv_nil <| gv_seq <| gv_seq <| gv_region <| pN 2 [31, 32] [(32, (.bool (decide (j14 < 0))))] ?_
     refine gv_nil <| bindE h2 ?_; clear h2; intro j25 h3 h2
     refine gv_cut_code (J := fun a w26 => Below w0.heap.size w0 w26 ∧ w15.heap.size ≤ w26.heap.size ∧ Gv.Own (iE .i64) 3 w26 (fun _ => False) a7 c8 s3.1 ∧ a.defers = [] ∧ a.tmps.size = 41 ∧ Ok [(0, (.slice pa0_0 (length a_0) pc0_0)), (1, (.slice pa1_0 (length b_1) pc1_0)), (5, (.slice a7 (length s3.1) c8)), (6, (.int .i64 j25.1)), (7, (.int .i64 s3.2.2)), (8, (.int .i64 j25.2))] a.tmps) ?_ ?_
     ·skip
      refine gv_cond (b := (decide (j14 < 0))) (by kernel_rfl) (fun hc27 => ?_) (fun hc27 => ?_)
      ·replace h3 := ite_t hc27 h3
       refine gv_seq <| gv_region <| pN 3 [8, 33, 34] [(8, (.int .i64 (IntKind.i64.wrap (j14 + 65536))))] ?_
       refine gv_nil <| gv_region <| pN 1 [6] [(6, (.int .i64 1))] ?_
       refine gv_nil ?_
       have e := sj h3; subst e
       refine gv_goal fun a hd hs hok => ?_
       exact ⟨hB21, nrf, hk23, hd, hs, okp [0, 1, 5, 6, 7, 8] hok⟩
      ·replace h3 := ite_f hc27 h3
       refine gv_skip ?_
       have e := sj h3; subst e
       refine gv_goal fun a hd hs hok => ?_
       exact ⟨hB21, nrf, hk23, hd, hs, okp [0, 1, 5, 6, 7, 8] hok⟩
     ·rintro a w26 ⟨hB28, hz29, hk30, hd, hs, hok⟩
      refine gv_in ?_ hd hs hok
      clear hd hs hok
      have hz31 := (nt hz24 hz29)
      clear hz29 hz24 hk23 hB21
      refine gv_region <| pN 2 [35, 36] [(35, (.slice a7 (length s3.1) c8)), (36, (.int .i64 j25.2))] ?_
      refine gv_new0 (fun b => .slice (some ⟨b, 0, none⟩) 1 1) #[(.int .i64 j25.2)] 3 (by kernel_rfl) (by kernel_rfl) ?_
      intro b32 w33 hg34 hb35 hbe36 hz37
      have ho38 : Gv.Own (iE .i64) 3 w33 (fun _ => False) (some ⟨b32, 0, none⟩) 1 ([j25.2] : List Int) := Box.ownE hb35 ⟨[(.int .i64 j25.2)], [], rfl, rfl, rfl⟩ (show 1 ≤ maxLen by decide) (fun h => h)
      have hl39 : ∀ g, blk (some ⟨b32, 0, none⟩) = some g → w0.heap.size ≤ g := loo hbe36 hB28.size
      refine bindE h2 ?_; clear h2; intro l43 hx44 h2
      have hk51 := hk30.grown hg34 (fun _ h => h.elim) nb
      refine gv_append (iE .i64) (t := 55) (ty := 55) (e := 3) (a := a7) (ax := (some ⟨b32, 0, none⟩)) (cap := c8) (cx := 1) (xs := s3.1) (ys := ([j25.2] : List Int)) l43 (X := (fun _ => False)) (Y := (fun k => blk (some ⟨b32, 0, none⟩) = some k)) (by decide) rfl rfl (by kernel_rfl) (by kernel_rfl) Tryz.underlying55 info3 hk51 (ho38.rd (Y := fun k => blk (some ⟨b32, 0, none⟩) = some k) (fun _ h => h.elim) (fun g e => e)) hx44 (.inr fun _ _ _ _ _ h => h) (fun _ h => h.elim) ?_
      intro a45 c46 w47 hg48 ho49 hk50
      refine ⟨(fun e => by cases e), ?_⟩
      have hB53 := bg hB28 hg34 nb
      have hl52 : ∀ g, blk a45 = some g → w0.heap.size ≤ g := blk_step hk50 hl10 hB53.size
      have ap55 : ∀ g, blk a7 = some g → ¬ (fun k => blk (some ⟨b32, 0, none⟩) = some k) g := fun g e hx => nl ((lowo hbe36) _ hx) ((fun k (hk : blk a7 = some k) => hk30.lt k hk) g e)
      have ap54 : ∀ g, blk a45 = some g → ¬ (fun k => blk (some ⟨b32, 0, none⟩) = some k) g := blk_neX hk50 ap55 (fun k (hk : blk (some ⟨b32, 0, none⟩) = some k) => ho38.lt k hk)
      have ap57 : ∀ g, blk (some ⟨b32, 0, none⟩) = some g → ¬ (fun k => blk a7 = some k) g := fun g e hx => nl ((lowo hbe36) g e) ((fun k (hk : blk a7 = some k) => hk30.lt k hk) _ hx)
      have ap56 : ∀ g, blk (some ⟨b32, 0, none⟩) = some g → ¬ (fun k => blk a45 = some k) g := fun g e h => blk_rev hk50 (fun h => ((ap57) g e) h) (ho38.lt g e) h
      refine pN 1 [5] [(5, (.slice a45 (length l43) c46))] ?_
      refine gv_nil <| gv_blk <| gv_region <| pN 3 [7, 13, 14] [(7, (.int .i64 (IntKind.i64.wrap (s3.2.2 + 1))))] ?_
      refine gv_nil ?_
      have e := sj h2; subst e
      refine gv_goal fun a hd hs hok => ?_
      have hB58 := bg hB53 hg48 hl10
      have hz59 := (nt (nt hz31 hg34.size) hg48.size)
      exact ⟨(l43, j25.1, (IntKind.i64.wrap (s3.2.2 + 1))), rfl, a45, c46, hB58, hz59, ho49, hl52, hd, hs, okp [0, 1, 5, 6, 7] hok⟩
   ·replace h2 := ite_f hc11 h2
    refine gv_cexit <| gv_exit rfl ?_
    have e := sj h2; subst e
    replace h1 := congrArg some (hR2 _ rfl)
    have e := sj h1; subst e
    refine gv_goal fun a hd hs hok => ?_
    have hz60 := hz6
    exact ⟨a7, c8, hB5, hz60, ho9, hl10, hd, hs, okp [5] hok⟩
 ·rintro a w2 ⟨a63, c64, hB61, hz62, ho65, hl66, hd, hs, hok⟩
  refine gv_in ?_ hd hs hok
  clear hd hs hok
  refine gv_seq <| gv_region <| pN 1 [39] [(39, (.slice a63 (length j1) c64))] ?_
  refine bindE h0 ?_; clear h0; intro r67 hr68 h0
  refine gv_call0 (by kernel_rfl) rfl (by kernel_rfl) enters50 (ref3_trim_ok fuel a63 c64 j1 w2 (fun k => (fun k => blk a63 = some k) k) (fun k hk => (fun k (hk : blk a63 = some k) => ho65.lt k hk) k hk) ((ho65.rd (Y := fun k => blk a63 = some k) (fun _ h => h.elim) (fun g e => e)).wide (fun k hk => hk)) r67 hr68) ?_
  rintro v71 w69 ⟨hg70, a72, c73, X75, rfl, ho74, hx76⟩
  have hx77 : ∀ k, X75 k → k < w69.heap.size := fun k hk => (hx76 k hk).1
  have hx78 : ∀ k, X75 k → X0 k ∨ w0.heap.size ≤ k := fun k hk => (hx76 k hk).2.elim (fun h => (fun k (hk : blk a63 = some k) => Or.inr (hl66 k hk)) k h) (fun h => .inr (Nat.le_trans hB61.size h))
  refine pN 1 [4] [(4, (.slice a72 (length r67) c73))] ?_
  refine gv_nil <| gv_cret ?_
  have e := sj h0; subst e
  refine gv_ret (gv_done [(.slice a72 (length r67) c73)] rfl ⟨(by kernel_rfl), trivial⟩ ?_)
  have hB79 := bg hB61 hg70 nb
  exact ⟨grown_of_below hB79, a72, c73, X75, rfl, ho74, (fun k hk => ⟨hx77 k hk, hx78 k hk⟩)⟩

theorem ref3_Int_Plus_ok (fuel : Nat) (pa0_0 : Option Addr) (pc0_0 : Nat) (a_0 : (Bool × (List Int))) (pa1_0 : Option Addr) (pc1_0 : Nat) (b_1 : (Bool × (List Int))) (w0 : World) (X0 : Nat → Prop) (hX0 : ∀ k, X0 k → k < w0.heap.size) (hpa0_0 : Rd (iE .i64) w0 X0 pa0_0 pc0_0 a_0.2) (hpa1_0 : Rd (iE .i64) w0 X0 pa1_0 pc1_0 b_1.2) (r0 : (Bool × (List Int))) (h0 : ref3_Int_Plus fuel a_0 b_1 = some r0) :
    Calls Tryz.prog 21 ([(.agg #[(.bool a_0.1), (.slice pa0_0 (length a_0.2) pc0_0)]), (.agg #[(.bool b_1.1), (.slice pa1_0 (length b_1.2) pc1_0)])] : List Value).toArray w0 (Ret fun v w' => w0.grownBy w' none ∧ ∃ (a0_0r : Option Addr) (c0_0r : Nat), ∃ (X0_0r : Nat → Prop), v = tup [(.agg #[(.bool r0.1), (.slice a0_0r (length r0.2) c0_0r)])] ∧ Rd (iE .i64) w' X0_0r a0_0r c0_0r r0.2 ∧ (∀ k, X0_0r k → k < w'.heap.size ∧ (X0 k ∨ w0.heap.size ≤ k))) := by
 have hB0 : Below w0.heap.size w0 w0 := Below.refl _ _
 unfold ref3_Int_Plus at h0
 refine calls_run Tryz.func21 rfl Tryz.ntmps21 (by kernel_rfl) ?_
 refine gv_sub [0, 1] (σ' := [(0, (.agg #[(.bool a_0.1), (.slice pa0_0 (length a_0.2) pc0_0)])), (1, (.agg #[(.bool b_1.1), (.slice pa1_0 (length b_1.2) pc1_0)]))]) (by kernel_rfl) ?_
 refine gv_seq <| gv_region <| gv_new0 (fun b => .pointer (some ⟨b, 0, none⟩)) #[(.bool a_0.1), (.slice pa0_0 (length a_0.2) pc0_0)] 57 (by kernel_rfl) (by kernel_rfl) ?_
 intro b1 w2 hg3 hb4 hbe5 hz6
 refine gv_new0 (fun b => .pointer (some ⟨b, 0, none⟩)) #[(.bool b_1.1), (.slice pa1_0 (length b_1.2) pc1_0)] 57 (by kernel_rfl) (by kernel_rfl) ?_
 intro b7 w8 hg9 hb10 hbe11 hz12
 refine gv_new0 (fun b => .pointer (some ⟨b, 0, none⟩)) #[(.bool false), (.slice none (length ([] : List Int)) 0)] 57 (by kernel_rfl) (by kernel_rfl) ?_
 intro b13 w14 hg15 hb16 hbe17 hz18
 refine gv_nil <| gv_seq <| gv_block <| gv_seq <| gv_region <| pN 1 [6] [(6, (bp b1))] ?_
 have hg19 := (grown_trans hg9 hg15)
 have hk20 := hb4.grown hg19 nb
 refine gv_load (t := 4) (A := ⟨b1, 0, none⟩) (.bool a_0.1) [] (fun e => by cases e) rfl rfl rfl (by kernel_rfl) (by kernel_rfl) (by kernel_rfl) (inw0 (hk20.cell 0 rfl)) rfl ?_
 refine pN 1 [8] [(8, (bp b7))] ?_
 have hk21 := hb10.grown hg15 nb
 refine gv_load (t := 4) (A := ⟨b7, 0, none⟩) (.bool b_1.1) [] (fun e => by cases e) rfl rfl rfl (by kernel_rfl) (by kernel_rfl) (by kernel_rfl) (inw0 (hk21.cell 0 rfl)) rfl ?_
 refine pN 2 [5, 10] [(5, (.bool (a_0.1 == b_1.1)))] ?_
 refine gv_nil <| gv_cond (b := (a_0.1 == b_1.1)) (by kernel_rfl) (fun hc22 => ?_) (fun hc22 => ?_)
 ·replace h0 := ite_t hc22 h0
  refine gv_seq <| gv_drawA (by kernel_rfl) ?_
  intro w23 hg24
  refine gv_pre [0, 2, 4] (bA 9 [0, 2, 4]) 6 (by kernel_rfl) (by kernel_rfl) ?_
  refine pN 3 [11, 13, 15] [(11, (bp b1)), (13, (.pointer (some ⟨b1, 1, none⟩))), (15, (.pointer (some ⟨b7, 1, none⟩)))] ?_
  refine gv_nil <| gv_goA ?_
  refine gv_stage (Cls w23 []) [0, 1, 2, 3, 4, 5, 6] [(1, some true), (3, some true), (5, some true), (6, some false)] (bA 9 [0, 1, 2, 3, 4, 5, 6]) 2 (by kernel_rfl) (by kernel_rfl) (Cls.refl _ _) ?_
  have hC25 := Cls.refl w23 []
  have hk26 := hk20.grown hg24 nb
  refine gv_load (t := 4) (A := ⟨b1, 0, none⟩) (.bool a_0.1) [] (fun e => by cases e) rfl rfl rfl (by kernel_rfl) (by kernel_rfl) (by kernel_rfl) (inw1 fun w' hC' => ((hC'.box hk26 nm_nil).cell 0 rfl)) rfl ?_
  refine gv_load (t := 55) (A := ⟨b1, 1, none⟩) (.slice pa0_0 (length a_0.2) pc0_0) [] (fun e => by cases e) rfl rfl rfl (by kernel_rfl) (by kernel_rfl) (by kernel_rfl) (inw1 fun w' hC' => ((hC'.box hk26 nm_nil).cell 1 rfl)) rfl ?_
  have hk27 := hk21.grown hg24 nb
  refine gv_load (t := 55) (A := ⟨b7, 1, none⟩) (.slice pa1_0 (length b_1.2) pc1_0) [] (fun e => by cases e) rfl rfl rfl (by kernel_rfl) (by kernel_rfl) (by kernel_rfl) (inw1 fun w' hC' => ((hC'.box hk27 nm_nil).cell 1 rfl)) rfl ?_
  refine bindE h0 ?_; clear h0; intro r28 hr29 h0
  have hg30 := (grown_trans (grown_trans hg3 hg19) hg24)
  have hB31 := bg hB0 hg30 nb
  refine gv_call (f := 46) (vs := [(.slice pa0_0 (length a_0.2) pc0_0), (.slice pa1_0 (length b_1.2) pc1_0)]) (cap := []) _ (by decide) rfl rfl rfl (by kernel_rfl) (by kernel_rfl) enters46 (ref3_Plus_ok fuel pa0_0 pc0_0 a_0.2 pa1_0 pc1_0 b_1.2 w23 (fun k => X0 k ∨ X0 k) (fun k hk => (hk).elim (fun h => (fun k (hk : X0 k) => ltl (hX0 k hk) hB31.size) k h) (fun h => (fun k (hk : X0 k) => ltl (hX0 k hk) hB31.size) k h)) ((hpa0_0.below hB31 hX0).wide (fun k hk => (.inl hk))) ((hpa1_0.below hB31 hX0).wide (fun k hk => (.inr hk))) r28 hr29) ?_
  rintro v34 w32 ⟨hg33, a35, c36, X38, rfl, ho37, hx39⟩
  refine ⟨(fun _ => hC25.grown hg33 nb), ?_⟩
  have hx40 : ∀ k, X38 k → k < w32.heap.size := fun k hk => (hx39 k hk).1
  have hx41 : ∀ k, X38 k → X0 k ∨ w0.heap.size ≤ k := fun k hk => (hx39 k hk).2.elim (fun h => (h).elim (fun h => (fun k (hk : X0 k) => Or.inl hk) k h) (fun h => (fun k (hk : X0 k) => Or.inl hk) k h)) (fun h => .inr (Nat.le_trans hB31.size h))
  refine gv_nil <| gv_goA ?_
  refine gv_pre [7] (bA 9 [0, 1, 2, 3, 4, 5, 6, 7]) 1 (by kernel_rfl) (by kernel_rfl) ?_
  refine pN 1 [18] [(18, (.agg #[(.bool a_0.1), (.slice a35 (length r28) c36)]))] ?_
  refine gv_sub [4, 18] (σ' := [(4, (bp b13)), (18, (.agg #[(.bool a_0.1), (.slice a35 (length r28) c36)]))]) (by kernel_rfl) ?_
  refine gv_nil <| gv_goA ?_
  refine gv_stage (fun _ => True) [0, 1, 2, 3, 4, 5, 6, 7, 8] [(8, some false)] (bA 9 [0, 1, 2, 3, 4, 5, 6, 7, 8]) 0 (by kernel_rfl) (by kernel_rfl) trivial ?_
  have hg46 := (grown_trans hg24 hg33)
  have hk47 := hb16.grown hg46 nb
  refine gv_store (t := 57) (b := b13) (off := 0) (v := (.agg #[(.bool a_0.1), (.slice a35 (length r28) c36)])) (t' := 57) (cs := #[(.bool false), (.slice none (length ([] : List Int)) 0)]) #[(.bool a_0.1), (.slice a35 (length r28) c36)] (by decide) rfl rfl (by kernel_rfl) (by kernel_rfl) (by kernel_rfl) (by intro u hu; simp [Value.cells] at hu; rcases hu with rfl | rfl <;> rfl) (show 0 + 2 ≤ 2 by decide) (by rfl) hk47 ?_
  intro w42 hg43 hb44 hz45
  refine ⟨(fun _ => trivial), ?_⟩
  refine gv_nil <| gv_goA ?_
  refine gv_stageE (by kernel_rfl) ?_
  refine gv_cret ?_
  have e := sj h0; subst e
  refine gv_ret (gv_done [(.agg #[(.bool a_0.1), (.slice a35 (length r28) c36)])] rfl ⟨⟨⟨b13, 0, none⟩, (by kernel_rfl), run_loadVar_row w42 b13 _ 57 _ _ _ hb44 Tryz.underlying57 rfl (by kernel_rfl)⟩, trivial⟩ ?_)
  have hB48 := bg hB31 hg33 nb
  have hg49 := (grown_trans hg3 hg9)
  have hB50 := bg hB0 hg49 nb
  have hlo51 : w0.heap.size ≤ b13 := lob hbe17 hB50.size
  have hB52 := bg hB48 hg43 (rowlo hlo51)
  have hk53 := hb16.grown hg24 nb
  have ap54 : ¬ X38 b13 := fun h => ((hx39 _ h).2.elim (fun h => (h).elim (fun h => ((fun (hx : X0 b13) => nl hlo51 (hX0 _ hx)))  h) (fun h => ((fun (hx : X0 b13) => nl hlo51 (hX0 _ hx)))  h)) (fun h => nl h (hk53.lt)))
  have hk55 := ho37.grown hg43 hx40 (rowne ap54)
  have hx56 := ltx hx40 hg43.size
  exact ⟨grown_of_below hB52, a35, c36, X38, rfl, hk55, (fun k hk => ⟨hx56 k hk, hx41 k hk⟩)⟩
 ·replace h0 := ite_f hc22 h0
  refine gv_seq <| gv_region <| pN 1 [20] [(20, (.pointer (some ⟨b1, 1, none⟩)))] ?_
  refine gv_load (t := 55) (A := ⟨b1, 1, none⟩) (.slice pa0_0 (length a_0.2) pc0_0) [] (fun e => by cases e) rfl rfl rfl (by kernel_rfl) (by kernel_rfl) (by kernel_rfl) (inw0 (hk20.cell 1 rfl)) rfl ?_
  refine pN 1 [22] [(22, (.pointer (some ⟨b7, 1, none⟩)))] ?_
  refine gv_load (t := 55) (A := ⟨b7, 1, none⟩) (.slice pa1_0 (length b_1.2) pc1_0) [] (fun e => by cases e) rfl rfl rfl (by kernel_rfl) (by kernel_rfl) (by kernel_rfl) (inw0 (hk21.cell 1 rfl)) rfl ?_
  refine bindE h0 ?_; clear h0; intro r57 hr58 h0
  have hg59 := (grown_trans hg3 hg19)
  have hB60 := bg hB0 hg59 nb
  refine gv_call0 (by kernel_rfl) rfl (by kernel_rfl) enters47 (ref3_Compare_ok fuel pa0_0 pc0_0 a_0.2 pa1_0 pc1_0 b_1.2 w14 (fun k => X0 k ∨ X0 k) (fun k hk => (hk).elim (fun h => (fun k (hk : X0 k) => ltl (hX0 k hk) hB60.size) k h) (fun h => (fun k (hk : X0 k) => ltl (hX0 k hk) hB60.size) k h)) ((hpa0_0.below hB60 hX0).wide (fun k hk => (.inl hk))) ((hpa1_0.below hB60 hX0).wide (fun k hk => (.inr hk))) r57 hr58) ?_
  rintro v63 w61 ⟨hg62, rfl⟩
  refine pN 2 [19, 25] [(19, (.bool (decide (r57 ≥ 0))))] ?_
  refine gv_sub [2, 3, 4, 19] (σ' := [(2, (bp b1)), (3, (bp b7)), (4, (bp b13)), (19, (.bool (decide (r57 ≥ 0))))]) (by kernel_rfl) ?_
  refine gv_nil <| gv_cond (b := (decide (r57 ≥ 0))) (by kernel_rfl) (fun hc64 => ?_) (fun hc64 => ?_)
  ·replace h0 := ite_t hc64 h0
   refine gv_seq <| gv_drawA (by kernel_rfl) ?_
   intro w65 hg66
   refine gv_pre [0, 2, 4] (bA 9 [0, 2, 4]) 6 (by kernel_rfl) (by kernel_rfl) ?_
   clear hc64 hg59 hr58 hc22 hg19 hz18 hg15 hz12 hz6
   refine pN 3 [26, 28, 30] [(26, (bp b1)), (28, (.pointer (some ⟨b1, 1, none⟩))), (30, (.pointer (some ⟨b7, 1, none⟩)))] ?_
   refine gv_nil <| gv_goA ?_
   refine gv_stage (Cls w65 []) [0, 1, 2, 3, 4, 5, 6] [(1, some true), (3, some true), (5, some true), (6, some false)] (bA 9 [0, 1, 2, 3, 4, 5, 6]) 2 (by kernel_rfl) (by kernel_rfl) (Cls.refl _ _) ?_
   have hC67 := Cls.refl w65 []
   have hg68 := (grown_trans hg62 hg66)
   have hk69 := hk20.grown hg68 nb
   refine gv_load (t := 4) (A := ⟨b1, 0, none⟩) (.bool a_0.1) [] (fun e => by cases e) rfl rfl rfl (by kernel_rfl) (by kernel_rfl) (by kernel_rfl) (inw1 fun w' hC' => ((hC'.box hk69 nm_nil).cell 0 rfl)) rfl ?_
   refine gv_load (t := 55) (A := ⟨b1, 1, none⟩) (.slice pa0_0 (length a_0.2) pc0_0) [] (fun e => by cases e) rfl rfl rfl (by kernel_rfl) (by kernel_rfl) (by kernel_rfl) (inw1 fun w' hC' => ((hC'.box hk69 nm_nil).cell 1 rfl)) rfl ?_
   have hk70 := hk21.grown hg68 nb
   refine gv_load (t := 55) (A := ⟨b7, 1, none⟩) (.slice pa1_0 (length b_1.2) pc1_0) [] (fun e => by cases e) rfl rfl rfl (by kernel_rfl) (by kernel_rfl) (by kernel_rfl) (inw1 fun w' hC' => ((hC'.box hk70 nm_nil).cell 1 rfl)) rfl ?_
   refine bindE h0 ?_; clear h0; intro r71 hr72 h0
   have hB73 := bg hB60 hg68 nb
   refine gv_call (f := 48) (vs := [(.slice pa0_0 (length a_0.2) pc0_0), (.slice pa1_0 (length b_1.2) pc1_0)]) (cap := []) _ (by decide) rfl rfl rfl (by kernel_rfl) (by kernel_rfl) enters48 (ref3_Minus_ok fuel pa0_0 pc0_0 a_0.2 pa1_0 pc1_0 b_1.2 w65 (fun k => X0 k ∨ X0 k) (fun k hk => (hk).elim (fun h => (fun k (hk : X0 k) => ltl (hX0 k hk) hB73.size) k h) (fun h => (fun k (hk : X0 k) => ltl (hX0 k hk) hB73.size) k h)) ((hpa0_0.below hB73 hX0).wide (fun k hk => (.inl hk))) ((hpa1_0.below hB73 hX0).wide (fun k hk => (.inr hk))) r71 hr72) ?_
   rintro v76 w74 ⟨hg75, a77, c78, X80, rfl, ho79, hx81⟩
   refine ⟨(fun _ => hC67.grown hg75 nb), ?_⟩
   have hx82 : ∀ k, X80 k → k < w74.heap.size := fun k hk => (hx81 k hk).1
   have hx83 : ∀ k, X80 k → X0 k ∨ w0.heap.size ≤ k := fun k hk => (hx81 k hk).2.elim (fun h => (h).elim (fun h => (fun k (hk : X0 k) => Or.inl hk) k h) (fun h => (fun k (hk : X0 k) => Or.inl hk) k h)) (fun h => .inr (Nat.le_trans hB73.size h))
   refine gv_nil <| gv_goA ?_
   refine gv_pre [7] (bA 9 [0, 1, 2, 3, 4, 5, 6, 7]) 1 (by kernel_rfl) (by kernel_rfl) ?_
   refine pN 1 [33] [(33, (.agg #[(.bool a_0.1), (.slice a77 (length r71) c78)]))] ?_
   refine gv_nil <| gv_goA ?_
   refine gv_stage (fun _ => True) [0, 1, 2, 3, 4, 5, 6, 7, 8] [(8, some false)] (bA 9 [0, 1, 2, 3, 4, 5, 6, 7, 8]) 0 (by kernel_rfl) (by kernel_rfl) trivial ?_
   have hg88 := (grown_trans hg68 hg75)
   have hk89 := hb16.grown hg88 nb
   refine gv_store (t := 57) (b := b13) (off := 0) (v := (.agg #[(.bool a_0.1), (.slice a77 (length r71) c78)])) (t' := 57) (cs := #[(.bool false), (.slice none (length ([] : List Int)) 0)]) #[(.bool a_0.1), (.slice a77 (length r71) c78)] (by decide) rfl rfl (by kernel_rfl) (by kernel_rfl) (by kernel_rfl) (by intro u hu; simp [Value.cells] at hu; rcases hu with rfl | rfl <;> rfl) (show 0 + 2 ≤ 2 by decide) (by rfl) hk89 ?_
   intro w84 hg85 hb86 hz87
   refine ⟨(fun _ => trivial), ?_⟩
   refine gv_nil <| gv_goA ?_
   refine gv_stageE (by kernel_rfl) ?_
   refine gv_cret ?_
   have e := sj h0; subst e
   refine gv_ret (gv_done [(.agg #[(.bool a_0.1), (.slice a77 (length r71) c78)])] rfl ⟨⟨⟨b13, 0, none⟩, (by kernel_rfl), run_loadVar_row w84 b13 _ 57 _ _ _ hb86 Tryz.underlying57 rfl (by kernel_rfl)⟩, trivial⟩ ?_)
   have hB90 := bg hB73 hg75 nb
   have hg91 := (grown_trans hg3 hg9)
   have hB92 := bg hB0 hg91 nb
   have hlo93 : w0.heap.size ≤ b13 := lob hbe17 hB92.size
   have hB94 := bg hB90 hg85 (rowlo hlo93)
   have hk95 := hb16.grown hg68 nb
   have ap96 : ¬ X80 b13 := fun h => ((hx81 _ h).2.elim (fun h => (h).elim (fun h => ((fun (hx : X0 b13) => nl hlo93 (hX0 _ hx)))  h) (fun h => ((fun (hx : X0 b13) => nl hlo93 (hX0 _ hx)))  h)) (fun h => nl h (hk95.lt)))
   have hk97 := ho79.grown hg85 hx82 (rowne ap96)
   have hx98 := ltx hx82 hg85.size
   exact ⟨grown_of_below hB94, a77, c78, X80, rfl, hk97, (fun k hk => ⟨hx98 k hk, hx83 k hk⟩)⟩
  ·replace h0 := ite_f hc64 h0
   refine gv_skip <| gv_blk <| gv_seq <| gv_drawA (by kernel_rfl) ?_
   intro w99 hg100
   refine gv_pre [0, 2, 4] (bA 9 [0, 2, 4]) 6 (by kernel_rfl) (by kernel_rfl) ?_
   refine pN 3 [34, 36, 38] [(34, (bp b7)), (36, (.pointer (some ⟨b7, 1, none⟩))), (38, (.pointer (some ⟨b1, 1, none⟩)))] ?_
   refine gv_nil <| gv_goA ?_
   refine gv_stage (Cls w99 []) [0, 1, 2, 3, 4, 5, 6] [(1, some true), (3, some true), (5, some true), (6, some false)] (bA 9 [0, 1, 2, 3, 4, 5, 6]) 2 (by kernel_rfl) (by kernel_rfl) (Cls.refl _ _) ?_
   have hC101 := Cls.refl w99 []
   have hg102 := (grown_trans hg62 hg100)
   have hk103 := hk21.grown hg102 nb
   refine gv_load (t := 4) (A := ⟨b7, 0, none⟩) (.bool b_1.1) [] (fun e => by cases e) rfl rfl rfl (by kernel_rfl) (by kernel_rfl) (by kernel_rfl) (inw1 fun w' hC' => ((hC'.box hk103 nm_nil).cell 0 rfl)) rfl ?_
   refine gv_load (t := 55) (A := ⟨b7, 1, none⟩) (.slice pa1_0 (length b_1.2) pc1_0) [] (fun e => by cases e) rfl rfl rfl (by kernel_rfl) (by kernel_rfl) (by kernel_rfl) (inw1 fun w' hC' => ((hC'.box hk103 nm_nil).cell 1 rfl)) rfl ?_
   have hk104 := hk20.grown hg102 nb
   refine gv_load (t := 55) (A := ⟨b1, 1, none⟩) (.slice pa0_0 (length a_0.2) pc0_0) [] (fun e => by cases e) rfl rfl rfl (by kernel_rfl) (by kernel_rfl) (by kernel_rfl) (inw1 fun w' hC' => ((hC'.box hk104 nm_nil).cell 1 rfl)) rfl ?_
   refine bindE h0 ?_; clear h0; intro r105 hr106 h0
   have hB107 := bg hB60 hg102 nb
   refine gv_call (f := 48) (vs := [(.slice pa1_0 (length b_1.2) pc1_0), (.slice pa0_0 (length a_0.2) pc0_0)]) (cap := []) _ (by decide) rfl rfl rfl (by kernel_rfl) (by kernel_rfl) enters48 (ref3_Minus_ok fuel pa1_0 pc1_0 b_1.2 pa0_0 pc0_0 a_0.2 w99 (fun k => X0 k ∨ X0 k) (fun k hk => (hk).elim (fun h => (fun k (hk : X0 k) => ltl (hX0 k hk) hB107.size) k h) (fun h => (fun k (hk : X0 k) => ltl (hX0 k hk) hB107.size) k h)) ((hpa1_0.below hB107 hX0).wide (fun k hk => (.inl hk))) ((hpa0_0.below hB107 hX0).wide (fun k hk => (.inr hk))) r105 hr106) ?_
   rintro v110 w108 ⟨hg109, a111, c112, X114, rfl, ho113, hx115⟩
   refine ⟨(fun _ => hC101.grown hg109 nb), ?_⟩
   have hx116 : ∀ k, X114 k → k < w108.heap.size := fun k hk => (hx115 k hk).1
   have hx117 : ∀ k, X114 k → X0 k ∨ w0.heap.size ≤ k := fun k hk => (hx115 k hk).2.elim (fun h => (h).elim (fun h => (fun k (hk : X0 k) => Or.inl hk) k h) (fun h => (fun k (hk : X0 k) => Or.inl hk) k h)) (fun h => .inr (Nat.le_trans hB107.size h))
   refine gv_nil <| gv_goA ?_
   refine gv_pre [7] (bA 9 [0, 1, 2, 3, 4, 5, 6, 7]) 1 (by kernel_rfl) (by kernel_rfl) ?_
   refine pN 1 [41] [(41, (.agg #[(.bool b_1.1), (.slice a111 (length r105) c112)]))] ?_
   refine gv_nil <| gv_goA ?_
   refine gv_stage (fun _ => True) [0, 1, 2, 3, 4, 5, 6, 7, 8] [(8, some false)] (bA 9 [0, 1, 2, 3, 4, 5, 6, 7, 8]) 0 (by kernel_rfl) (by kernel_rfl) trivial ?_
   have hg122 := (grown_trans hg102 hg109)
   have hk123 := hb16.grown hg122 nb
   refine gv_store (t := 57) (b := b13) (off := 0) (v := (.agg #[(.bool b_1.1), (.slice a111 (length r105) c112)])) (t' := 57) (cs := #[(.bool false), (.slice none (length ([] : List Int)) 0)]) #[(.bool b_1.1), (.slice a111 (length r105) c112)] (by decide) rfl rfl (by kernel_rfl) (by kernel_rfl) (by kernel_rfl) (by intro u hu; simp [Value.cells] at hu; rcases hu with rfl | rfl <;> rfl) (show 0 + 2 ≤ 2 by decide) (by rfl) hk123 ?_
   intro w118 hg119 hb120 hz121
   refine ⟨(fun _ => trivial), ?_⟩
   refine gv_nil <| gv_goA ?_
   refine gv_stageE (by kernel_rfl) ?_
   refine gv_cret ?_
   have e := sj h0; subst e
   refine gv_ret (gv_done [(.agg #[(.bool b_1.1), (.slice a111 (length r105) c112)])] rfl ⟨⟨⟨b13, 0, none⟩, (by kernel_rfl), run_loadVar_row w118 b13 _ 57 _ _ _ hb120 Tryz.underlying57 rfl (by kernel_rfl)⟩, trivial⟩ ?_)
   have hB124 := bg hB107 hg109 nb
   have hg125 := (grown_trans hg3 hg9)
   have hB126 := bg hB0 hg125 nb
   have hlo127 : w0.heap.size ≤ b13 := lob hbe17 hB126.size
   have hB128 := bg hB124 hg119 (rowlo hlo127)
   have hk129 := hb16.grown hg102 nb
   have ap130 : ¬ X114 b13 := fun h => ((hx115 _ h).2.elim (fun h => (h).elim (fun h => ((fun (hx : X0 b13) => nl hlo127 (hX0 _ hx)))  h) (fun h => ((fun (hx : X0 b13) => nl hlo127 (hX0 _ hx)))  h)) (fun h => nl h (hk129.lt)))
   have hk131 := ho113.grown hg119 hx116 (rowne ap130)
   have hx132 := ltx hx116 hg119.size
   exact ⟨grown_of_below hB128, a111, c112, X114, rfl, hk131, (fun k hk => ⟨hx132 k hk, hx117 k hk⟩)⟩

theorem ref3_Halve_ok (fuel : Nat) (pa0_0 : Option Addr) (pc0_0 : Nat) (a_0 : (List Int)) (d_1 : Int) (w0 : World) (X0 : Nat → Prop) (hX0 : ∀ k, X0 k → k < w0.heap.size) (hpa0_0 : Rd (iE .i64) w0 X0 pa0_0 pc0_0 a_0) (r0 : ((List Int) × Int)) (h0 : ref3_Halve fuel a_0 d_1 = some r0) :
    Calls Tryz.prog 23 ([(.slice pa0_0 (length a_0) pc0_0), (.int .i64 d_1)] : List Value).toArray w0 (Ret fun v w' => w0.grownBy w' none ∧ ∃ (a0_0r : Option Addr) (c0_0r : Nat), ∃ (X0_0r : Nat → Prop), v = tup [(.slice a0_0r (length r0.1) c0_0r), (.int .i64 r0.2)] ∧ Rd (iE .i64) w' X0_0r a0_0r c0_0r r0.1 ∧ (∀ k, X0_0r k → k < w'.heap.size ∧ (X0 k ∨ w0.heap.size ≤ k))) := by
 have hB0 : Below w0.heap.size w0 w0 := Below.refl _ _
 unfold ref3_Halve at h0
 refine calls_run Tryz.func23 rfl Tryz.ntmps23 (by kernel_rfl) ?_
 refine gv_sub [0, 1] (σ' := [(0, (.slice pa0_0 (length a_0) pc0_0)), (1, (.int .i64 d_1))]) (by kernel_rfl) ?_
 refine gv_seq <| gv_region <| pN 2 [4, 5] [] ?_
 refine gv_nil <| gv_seq <| gv_region <| pN 2 [9, 10] [(10, (.int .i64 ((length a_0 : Nat) : Int)))] ?_
 refine bindE h0 ?_; clear h0; intro l1 hx2 h0
 refine gv_makeC (f := (fun n : Int => Value.int .i64 n)) (hf := fun _ => rfl) (t := 55) (e := 3) (kl := .i64) (kc := .i64) (l := ((length a_0 : Nat) : Int)) (c := ((length a_0 : Nat) : Int)) (bytes := 8) 0 l1 (by decide) rfl rfl (by kernel_rfl) (by kernel_rfl) Tryz.underlying55 (by kernel_rfl) (by decide) hx2 ?_
 intro b3 w4 hg5 ho6 hbe7 hz8
 refine ⟨(fun e => by cases e), ?_⟩
 have hl9 : ∀ g, blk (some ⟨b3, 0, none⟩) = some g → w0.heap.size ≤ g := loo hbe7 hB0.size
 refine pN 1 [6] [(6, (.slice (some ⟨b3, 0, none⟩) (length l1) (((length a_0 : Nat) : Int)).toNat))] ?_
 refine gv_nil <| gv_seq <| gv_region <| pN 1 [7] [(7, (.int .i64 0))] ?_
 refine gv_nil <| gv_seq <| gv_seq <| gv_region <| pN 4 [8, 12, 13, 14] [(8, (.int .i64 (IntKind.i64.wrap (((length a_0 : Nat) : Int) - 1))))] ?_
 refine bindE h0 ?_; clear h0; intro n10 hn11 h0
 refine gv_name (s := 8) (v := (.int .i64 (IntKind.i64.wrap (((length a_0 : Nat) : Int) - 1)))) (v' := (.int .i64 n10)) (by kernel_rfl) (congrArg (Value.int .i64) (sj hn11)) ?_
 refine gv_nil <| bindE h0 ?_; clear h0; intro j12 h1 h0
 refine gv_cut_code (J := fun a w13 => ∃ (a6_0j : Option Addr) (c6_0j : Nat), Below w0.heap.size w0 w13 ∧ w4.heap.size ≤ w13.heap.size ∧ Gv.Own (iE .i64) 3 w13 (fun _ => False) a6_0j c6_0j j12.1 ∧ (∀ g, blk a6_0j = some g → w0.heap.size ≤ g) ∧ a.defers = [] ∧ a.tmps.size = 38 ∧ Ok [(6, (.slice a6_0j (length j12.1) c6_0j)), (7, (.int .i64 j12.2))] a.tmps) ?_ ?_
 ·skip
  refine gv_block <| gv_loop (A := fun (s14 : ((List Int) × Int × Int)) a w15 => ∃ (a6_0j : Option Addr) (c6_0j : Nat), Below w0.heap.size w0 w15 ∧ w4.heap.size ≤ w15.heap.size ∧ Gv.Own (iE .i64) 3 w15 (fun _ => False) a6_0j c6_0j s14.1 ∧ (∀ g, blk a6_0j = some g → w0.heap.size ≤ g) ∧ a.defers = [] ∧ a.tmps.size = 38 ∧ Ok [(0, (.slice pa0_0 (length a_0) pc0_0)), (1, (.int .i64 d_1)), (6, (.slice a6_0j (length s14.1) c6_0j)), (7, (.int .i64 s14.2.1)), (8, (.int .i64 s14.2.2))] a.tmps) h1 ?_ ?_
  ·intro a hd hs hok
   have hB16 := bg hB0 hg5 nb
   exact ⟨(some ⟨b3, 0, none⟩), (((length a_0 : Nat) : Int)).toNat, hB16, nrf, ho6, hl9, hd, hs, okp [0, 1, 6, 7, 8] hok⟩
  ·rintro s14 r2 h2 hR2 a w15 ⟨a19, c20, hB17, hz18, ho21, hl22, hd, hs, hok⟩
   refine gv_in ?_ hd hs hok
   clear hd hs hok
   clear hn11 hl9 hz8 hbe7 ho6 hg5 hx2
   refine gv_seq <| gv_seq <| gv_region <| pN 2 [15, 16] [(16, (.bool (decide (s14.2.2 ≥ 0))))] ?_
   refine gv_nil <| gv_cond (b := (decide (s14.2.2 ≥ 0))) (by kernel_rfl) (fun hc23 => ?_) (fun hc23 => ?_)
   ·replace h2 := ite_t hc23 h2
    refine gv_skip <| gv_seq <| gv_block <| gv_seq <| gv_region <| pN 4 [19, 20, 21, 22] [(20, (.int .i64 (IntKind.i64.wrap (s14.2.1 * 65536)))), (21, (.slice pa0_0 (length a_0) pc0_0)), (22, (.int .i64 s14.2.2))] ?_
    refine bindE h2 ?_; clear h2; intro x24 hx25 h2
    refine gv_idxaddr (t := 55) (e := 3) (a := pa0_0) (len := length a_0) (cap := pc0_0) (kk := .i64) (i := s14.2.2) (sz := 1) [] (fun e => by cases e) rfl rfl rfl (by kernel_rfl) (by kernel_rfl) Tryz.underlying55 (by kernel_rfl) ((hpa0_0.below hB17 hX0).has hx25) (idx_spec hx25).1 (idx_spec hx25).2.1 rfl ?_
    refine gv_load (t := 3) (A := (elemAddr pa0_0 ((s14.2.2 : Int).toNat * 1))) (.int .i64 x24) [] (fun e => by cases e) rfl rfl rfl (by kernel_rfl) (by kernel_rfl) (by kernel_rfl) (inw0 ((hpa0_0.below hB17 hX0).cell hx25)) rfl ?_
    refine pN 2 [7, 25] [(7, (.int .i64 (IntKind.i64.wrap ((IntKind.i64.wrap (s14.2.1 * 65536)) + x24))))] ?_
    refine bindE h2 ?_; clear h2; intro n26 hn27 h2
    refine gv_name (s := 7) (v := (.int .i64 (IntKind.i64.wrap ((IntKind.i64.wrap (s14.2.1 * 65536)) + x24)))) (v' := (.int .i64 n26)) (by kernel_rfl) (congrArg (Value.int .i64) (sj hn27)) ?_
    refine gv_nil <| gv_seq <| gv_region <| pN 4 [26, 27, 28, 29] [(26, (.slice a19 (length s14.1) c20)), (27, (.int .i64 s14.2.2)), (28, (.int .i64 n26)), (29, (.int .i64 d_1))] ?_
    refine bindE h2 ?_; clear h2; intro _ hx28 h2
    refine gv_quo (t := 3) (kk := .i64) (x := n26) (y := d_1) [] (fun e => by cases e) rfl rfl rfl (by kernel_rfl) (by kernel_rfl) (nz_spec hx28) rfl ?_
    refine bindE h2 ?_; clear h2; intro x29 hx30 h2
    refine gv_idxaddr (t := 55) (e := 3) (a := a19) (len := length s14.1) (cap := c20) (kk := .i64) (i := s14.2.2) (sz := 1) [] (fun e => by cases e) rfl rfl rfl (by kernel_rfl) (by kernel_rfl) Tryz.underlying55 (by kernel_rfl) ((ho21.rd (Y := fun k => blk a19 = some k) (fun _ h => h.elim) (fun g e => e)).has hx30) (idx_spec hx30).1 (idx_spec hx30).2.1 rfl ?_
    refine bindE h2 ?_; clear h2; intro l31 hx32 h2
    refine gv_upd (f := (fun n : Int => Value.int .i64 n)) (hf := fun _ => rfl) (t := 3) (e := 3) (a := a19) (cap := c20) (xs := s14.1) (i := s14.2.2) (IntKind.i64.wrap ((n26).tdiv d_1)) l31 (by decide) rfl rfl (by kernel_rfl) rfl (by kernel_rfl) (by kernel_rfl) ho21 hx32 ?_
    intro w33 hg34 ho35 hz36
    refine ⟨(fun e => by cases e), ?_⟩
    have hln37 : length s14.1 = length l31 := by obtain ⟨_, _, e⟩ := upd_spec hx32; rw [e, List.length_set]
    refine gv_name (s := 6) (v := (.slice a19 (length s14.1) c20)) (v' := (.slice a19 (length l31) c20)) (by kernel_rfl) (by rw [hln37]) ?_
    refine gv_nil <| gv_region <| pN 2 [32, 33] [(32, (.int .i64 n26)), (33, (.int .i64 d_1))] ?_
    refine bindE h2 ?_; clear h2; intro _ hx38 h2
    refine gv_rem (t := 3) (kk := .i64) (x := n26) (y := d_1) [] (fun e => by cases e) rfl rfl rfl (by kernel_rfl) (by kernel_rfl) (nz_spec hx38) rfl ?_
    refine pN 1 [7] [(7, (.int .i64 ((n26).tmod d_1)))] ?_
    refine gv_nil <| gv_blk <| gv_region <| pN 3 [8, 17, 18] [(8, (.int .i64 (IntKind.i64.wrap (s14.2.2 - 1))))] ?_
    refine gv_nil ?_
    have e := sj h2; subst e
    refine gv_goal fun a hd hs hok => ?_
    have hB39 := bg hB17 hg34 hl22
    have hz40 := (nt hz18 hg34.size)
    exact ⟨(l31, ((n26).tmod d_1), (IntKind.i64.wrap (s14.2.2 - 1))), rfl, a19, c20, hB39, hz40, ho35, hl22, hd, hs, okp [0, 1, 6, 7, 8] hok⟩
   ·replace h2 := ite_f hc23 h2
    refine gv_cexit <| gv_exit rfl ?_
    have e := sj h2; subst e
    replace h1 := congrArg some (hR2 _ rfl)
    have e := sj h1; subst e
    refine gv_goal fun a hd hs hok => ?_
    have hz41 := hz18
    exact ⟨a19, c20, hB17, hz41, ho21, hl22, hd, hs, okp [6, 7] hok⟩
 ·rintro a w13 ⟨a44, c45, hB42, hz43, ho46, hl47, hd, hs, hok⟩
  refine gv_in ?_ hd hs hok
  clear hd hs hok
  clear hz43 hn11 hl9 hz8 hbe7 ho6 hg5 hx2
  refine gv_seq <| gv_region <| pN 1 [35] [(35, (.slice a44 (length j12.1) c45))] ?_
  refine bindE h0 ?_; clear h0; intro r48 hr49 h0
  refine gv_call0 (by kernel_rfl) rfl (by kernel_rfl) enters50 (ref3_trim_ok fuel a44 c45 j12.1 w13 (fun k => (fun k => blk a44 = some k) k) (fun k hk => (fun k (hk : blk a44 = some k) => ho46.lt k hk) k hk) ((ho46.rd (Y := fun k => blk a44 = some k) (fun _ h => h.elim) (fun g e => e)).wide (fun k hk => hk)) r48 hr49) ?_
  rintro v52 w50 ⟨hg51, a53, c54, X56, rfl, ho55, hx57⟩
  have hx58 : ∀ k, X56 k → k < w50.heap.size := fun k hk => (hx57 k hk).1
  have hx59 : ∀ k, X56 k → X0 k ∨ w0.heap.size ≤ k := fun k hk => (hx57 k hk).2.elim (fun h => (fun k (hk : blk a44 = some k) => Or.inr (hl47 k hk)) k h) (fun h => .inr (Nat.le_trans hB42.size h))
  refine pN 3 [4, 5, 37] [(4, (.slice a53 (length r48) c54)), (5, (.int .i64 j12.2))] ?_
  refine gv_nil <| gv_cret ?_
  have e := sj h0; subst e
  refine gv_ret (gv_done [(.slice a53 (length r48) c54), (.int .i64 j12.2)] rfl ⟨(by kernel_rfl), (by kernel_rfl), trivial⟩ ?_)
  have hB60 := bg hB42 hg51 nb
  exact ⟨grown_of_below hB60, a53, c54, X56, rfl, ho55, (fun k hk => ⟨hx58 k hk, hx59 k hk⟩)⟩

theorem ref3_Int_Minus_ok (fuel : Nat) (pa0_0 : Option Addr) (pc0_0 : Nat) (a_0 : (Bool × (List Int))) (w0 : World) (X0 : Nat → Prop) (hX0 : ∀ k, X0 k → k < w0.heap.size) (hpa0_0 : Rd (iE .i64) w0 X0 pa0_0 pc0_0 a_0.2) (r0 : (Bool × (List Int))) (h0 : ref3_Int_Minus fuel a_0 = some r0) :
    Calls Tryz.prog 24 ([(.agg #[(.bool a_0.1), (.slice pa0_0 (length a_0.2) pc0_0)])] : List Value).toArray w0 (Ret fun v w' => w0.grownBy w' none ∧ ∃ (a0_0r : Option Addr) (c0_0r : Nat), ∃ (X0_0r : Nat → Prop), v = tup [(.agg #[(.bool r0.1), (.slice a0_0r (length r0.2) c0_0r)])] ∧ Rd (iE .i64) w' X0_0r a0_0r c0_0r r0.2 ∧ (∀ k, X0_0r k → k < w'.heap.size ∧ (X0 k ∨ w0.heap.size ≤ k))) := by
 have hB0 : Below w0.heap.size w0 w0 := Below.refl _ _
 unfold ref3_Int_Minus at h0
 refine calls_run Tryz.func24 rfl Tryz.ntmps24 (by kernel_rfl) ?_
 refine gv_sub [0] (σ' := [(0, (.agg #[(.bool a_0.1), (.slice pa0_0 (length a_0.2) pc0_0)]))]) (by kernel_rfl) ?_
 refine gv_seq <| gv_region <| gv_new0 (fun b => .pointer (some ⟨b, 0, none⟩)) #[(.bool a_0.1), (.slice pa0_0 (length a_0.2) pc0_0)] 57 (by kernel_rfl) (by kernel_rfl) ?_
 intro b1 w2 hg3 hb4 hbe5 hz6
 refine gv_new0 (fun b => .pointer (some ⟨b, 0, none⟩)) #[(.bool false), (.slice none (length ([] : List Int)) 0)] 57 (by kernel_rfl) (by kernel_rfl) ?_
 intro b7 w8 hg9 hb10 hbe11 hz12
 refine gv_nil <| gv_seq <| gv_region <| bindE h0 ?_; clear h0; intro j13 h1 h0
 refine gv_cut_ops (J := fun a w14 => ∃ (abb7_0j : Option Addr) (cbb7_0j : Nat), Below w0.heap.size w0 w14 ∧ w8.heap.size ≤ w14.heap.size ∧ Rd (iE .i64) w0 X0 abb7_0j cbb7_0j j13.2 ∧ Box w14 b7 57 #[(.bool j13.1), (.slice abb7_0j (length j13.2) cbb7_0j)] ∧ a.defers = [] ∧ a.tmps.size = 15 ∧ Ok [(2, (bp b7))] a.tmps) ?_ ?_
 ·skip
  refine pN 1 [3] [(3, (bp b1))] ?_
  have hk15 := hb4.grown hg9 nb
  refine gv_load (t := 4) (A := ⟨b1, 0, none⟩) (.bool a_0.1) [] (fun e => by cases e) rfl rfl rfl (by kernel_rfl) (by kernel_rfl) (by kernel_rfl) (inw0 (hk15.cell 0 rfl)) rfl ?_
  refine pN 2 [5, 6] [(6, (.bool (!a_0.1)))] ?_
  refine gv_split (s := 6) (g := (!a_0.1)) (by kernel_rfl) (fun hc16 => ?_) (fun hc16 => ?_)
  ·skip
   replace h1 := ite_t hc16 h1
   refine pN 1 [7] [(7, (.pointer (some ⟨b1, 1, none⟩)))] ?_
   refine gv_load (t := 55) (A := ⟨b1, 1, none⟩) (.slice pa0_0 (length a_0.2) pc0_0) [] (fun e => by cases e) rfl rfl rfl (by kernel_rfl) (by kernel_rfl) (by kernel_rfl) (inw0 (hk15.cell 1 rfl)) rfl ?_
   refine pN 4 [9, 10, 11, 12] [(11, (.bool (decide (((length a_0.2 : Nat) : Int) > 0)))), (12, (.pointer (some ⟨b1, 1, none⟩)))] ?_
   refine gv_load (t := 55) (A := ⟨b1, 1, none⟩) (.slice pa0_0 (length a_0.2) pc0_0) [] (fun e => by cases e) rfl rfl rfl (by kernel_rfl) (by kernel_rfl) (by kernel_rfl) (inw0 (hk15.cell 1 rfl)) rfl ?_
   refine pN 1 [14] [(14, (.agg #[(.bool (decide (((length a_0.2 : Nat) : Int) > 0))), (.slice pa0_0 (length a_0.2) pc0_0)]))] ?_
   refine gv_store0 57 0 (.agg #[(.bool (decide (((length a_0.2 : Nat) : Int) > 0))), (.slice pa0_0 (length a_0.2) pc0_0)]) #[(.bool (decide (((length a_0.2 : Nat) : Int) > 0))), (.slice pa0_0 (length a_0.2) pc0_0)] hb10 (by kernel_rfl) (by kernel_rfl) (by kernel_rfl) ?_
   intro w17 hg18 hb19 hz20
   refine gv_nil ?_
   have e := sj h1; subst e
   refine gv_goal fun a hd hs hok => ?_
   have hg21 := (grown_trans hg3 hg9)
   have hB22 := bg hB0 hg21 nb
   have hB23 := bg hB0 hg3 nb
   have hlo24 : w0.heap.size ≤ b7 := lob hbe11 hB23.size
   have hB25 := bg hB22 hg18 (rowlo hlo24)
   have hz26 := hg18.size
   exact ⟨pa0_0, pc0_0, hB25, hz26, hpa0_0, hb19, hd, hs, okp [2] hok⟩
  ·skip
   replace h1 := ite_f hc16 h1
   refine pN 6 [7, 8, 9, 10, 11, 12] [(11, (.bool false)), (12, (.pointer (some ⟨b1, 1, none⟩)))] ?_
   refine gv_load (t := 55) (A := ⟨b1, 1, none⟩) (.slice pa0_0 (length a_0.2) pc0_0) [] (fun e => by cases e) rfl rfl rfl (by kernel_rfl) (by kernel_rfl) (by kernel_rfl) (inw0 (hk15.cell 1 rfl)) rfl ?_
   refine pN 1 [14] [(14, (.agg #[(.bool false), (.slice pa0_0 (length a_0.2) pc0_0)]))] ?_
   refine gv_store0 57 0 (.agg #[(.bool false), (.slice pa0_0 (length a_0.2) pc0_0)]) #[(.bool false), (.slice pa0_0 (length a_0.2) pc0_0)] hb10 (by kernel_rfl) (by kernel_rfl) (by kernel_rfl) ?_
   intro w27 hg28 hb29 hz30
   refine gv_nil ?_
   have e := sj h1; subst e
   refine gv_goal fun a hd hs hok => ?_
   have hg31 := (grown_trans hg3 hg9)
   have hB32 := bg hB0 hg31 nb
   have hB33 := bg hB0 hg3 nb
   have hlo34 : w0.heap.size ≤ b7 := lob hbe11 hB33.size
   have hB35 := bg hB32 hg28 (rowlo hlo34)
   have hz36 := hg28.size
   exact ⟨pa0_0, pc0_0, hB35, hz36, hpa0_0, hb29, hd, hs, okp [2] hok⟩
 ·rintro a w14 ⟨a39, c40, hB37, hz38, hp41, hb42, hd, hs, hok⟩
  refine gv_in ?_ hd hs hok
  clear hd hs hok
  clear hz38 hz12 hb10 hg9 hz6 hbe5 hb4
  refine gv_cret ?_
  have e := sj h0; subst e
  refine gv_ret (gv_done [(.agg #[(.bool j13.1), (.slice a39 (length j13.2) c40)])] rfl ⟨⟨⟨b7, 0, none⟩, (by kernel_rfl), run_loadVar_row w14 b7 _ 57 _ _ _ hb42 Tryz.underlying57 rfl (by kernel_rfl)⟩, trivial⟩ ?_)
  exact ⟨grown_of_below hB37, a39, c40, X0, rfl, (hp41.below hB37 hX0), (fun k hk => ⟨(fun k (hk : X0 k) => ltl (hX0 k hk) hB37.size) k hk, (fun k (hk : X0 k) => Or.inl hk) k hk⟩)⟩

theorem ref3_Limbs_ok (fuel : Nat) (pa0_0 : Option Addr) (pc0_0 : Nat) (a_0 : (List Int)) (w0 : World) (X0 : Nat → Prop) (hX0 : ∀ k, X0 k → k < w0.heap.size) (hpa0_0 : Rd (iE .i64) w0 X0 pa0_0 pc0_0 a_0) (r0 : (List Int)) (h0 : ref3_Limbs fuel a_0 = some r0) :
    Calls Tryz.prog 51 ([(.slice pa0_0 (length a_0) pc0_0)] : List Value).toArray w0 (Ret fun v w' => w0.grownBy w' none ∧ ∃ (a0_0r : Option Addr) (c0_0r : Nat), v = tup [(.slice a0_0r (length r0) c0_0r)] ∧ Gv.Own (iE .u32) 107 w' (fun _ => False) a0_0r c0_0r r0 ∧ (∀ g, blk a0_0r = some g → w0.heap.size ≤ g)) := by
 have hB0 : Below w0.heap.size w0 w0 := Below.refl _ _
 unfold ref3_Limbs at h0
 refine calls_run Tryz.func51 rfl Tryz.ntmps51 (by kernel_rfl) ?_
 refine gv_sub [0] (σ' := [(0, (.slice pa0_0 (length a_0) pc0_0))]) (by kernel_rfl) ?_
 refine gv_seq <| gv_region <| pN 1 [2] [] ?_
 refine gv_nil <| gv_seq <| gv_region <| pN 1 [3] [(3, (.slice none (length ([] : List Int)) 0))] ?_
 refine gv_nil <| gv_seq <| gv_seq <| gv_region <| pN 1 [4] [(4, (.int .i64 0))] ?_
 refine gv_nil <| bindE h0 ?_; clear h0; intro j1 h1 h0
 refine gv_cut_code (J := fun a w2 => ∃ (a3_0j : Option Addr) (c3_0j : Nat), Below w0.heap.size w0 w2 ∧ w0.heap.size ≤ w2.heap.size ∧ Gv.Own (iE .u32) 107 w2 (fun _ => False) a3_0j c3_0j j1 ∧ (∀ g, blk a3_0j = some g → w0.heap.size ≤ g) ∧ a.defers = [] ∧ a.tmps.size = 36 ∧ Ok [(3, (.slice a3_0j (length j1) c3_0j))] a.tmps) ?_ ?_
 ·skip
  refine gv_block <| gv_loop (A := fun (s3 : ((List Int) × Int)) a w4 => ∃ (a3_0j : Option Addr) (c3_0j : Nat), Below w0.heap.size w0 w4 ∧ w0.heap.size ≤ w4.heap.size ∧ Gv.Own (iE .u32) 107 w4 (fun _ => False) a3_0j c3_0j s3.1 ∧ (∀ g, blk a3_0j = some g → w0.heap.size ≤ g) ∧ a.defers = [] ∧ a.tmps.size = 36 ∧ Ok [(0, (.slice pa0_0 (length a_0) pc0_0)), (3, (.slice a3_0j (length s3.1) c3_0j)), (4, (.int .i64 s3.2))] a.tmps) h1 ?_ ?_
  ·intro a hd hs hok
   exact ⟨none, 0, hB0, nrf, (Gv.Own.nil (iE .u32) 107 w0 (fun _ => False)), (fun _ h => by cases h), hd, hs, okp [0, 3, 4] hok⟩
  ·rintro s3 r2 h2 hR2 a w4 ⟨a7, c8, hB5, hz6, ho9, hl10, hd, hs, hok⟩
   refine gv_in ?_ hd hs hok
   clear hd hs hok
   refine gv_seq <| gv_seq <| gv_region <| pN 4 [6, 7, 8, 9] [(9, (.bool (decide (s3.2 < ((length a_0 : Nat) : Int)))))] ?_
   refine gv_nil <| gv_cond (b := (decide (s3.2 < ((length a_0 : Nat) : Int)))) (by kernel_rfl) (fun hc11 => ?_) (fun hc11 => ?_)
   ·replace h2 := ite_t hc11 h2
    refine gv_skip <| gv_seq <| gv_block <| gv_seq <| gv_region <| pN 2 [12, 13] [(12, (.slice pa0_0 (length a_0) pc0_0)), (13, (.int .i64 s3.2))] ?_
    refine bindE h2 ?_; clear h2; intro x12 hx13 h2
    refine gv_idxaddr (t := 55) (e := 3) (a := pa0_0) (len := length a_0) (cap := pc0_0) (kk := .i64) (i := s3.2) (sz := 1) [] (fun e => by cases e) rfl rfl rfl (by kernel_rfl) (by kernel_rfl) Tryz.underlying55 (by kernel_rfl) ((hpa0_0.below hB5 hX0).has hx13) (idx_spec hx13).1 (idx_spec hx13).2.1 rfl ?_
    refine gv_load (t := 3) (A := (elemAddr pa0_0 ((s3.2 : Int).toNat * 1))) (.int .i64 x12) [] (fun e => by cases e) rfl rfl rfl (by kernel_rfl) (by kernel_rfl) (by kernel_rfl) (inw0 ((hpa0_0.below hB5 hX0).cell hx13)) rfl ?_
    refine pN 2 [5, 16] [(5, (.int .u32 (IntKind.u32.wrap (x12))))] ?_
    refine gv_nil <| gv_seq <| gv_seq <| gv_region <| pN 5 [17, 18, 19, 20, 21] [(21, (.bool (decide ((IntKind.i64.wrap (s3.2 + 1)) < ((length a_0 : Nat) : Int)))))] ?_
    refine gv_nil <| bindE h2 ?_; clear h2; intro j14 h3 h2
    refine gv_cut_code (J := fun a w15 => Below w0.heap.size w0 w15 ∧ w4.heap.size ≤ w15.heap.size ∧ Gv.Own (iE .u32) 107 w15 (fun _ => False) a7 c8 s3.1 ∧ a.defers = [] ∧ a.tmps.size = 36 ∧ Ok [(0, (.slice pa0_0 (length a_0) pc0_0)), (3, (.slice a7 (length s3.1) c8)), (4, (.int .i64 s3.2)), (5, (.int .u32 j14))] a.tmps) ?_ ?_
    ·skip
     refine gv_cond (b := (decide ((IntKind.i64.wrap (s3.2 + 1)) < ((length a_0 : Nat) : Int)))) (by kernel_rfl) (fun hc16 => ?_) (fun hc16 => ?_)
     ·replace h3 := ite_t hc16 h3
      refine gv_region <| pN 4 [22, 23, 24, 25] [(22, (.int .u32 (IntKind.u32.wrap (x12)))), (23, (.slice pa0_0 (length a_0) pc0_0)), (25, (.int .i64 (IntKind.i64.wrap (s3.2 + 1))))] ?_
      refine bindE h3 ?_; clear h3; intro x17 hx18 h3
      refine gv_idxaddr (t := 55) (e := 3) (a := pa0_0) (len := length a_0) (cap := pc0_0) (kk := .i64) (i := (IntKind.i64.wrap (s3.2 + 1))) (sz := 1) [] (fun e => by cases e) rfl rfl rfl (by kernel_rfl) (by kernel_rfl) Tryz.underlying55 (by kernel_rfl) ((hpa0_0.below hB5 hX0).has hx18) (idx_spec hx18).1 (idx_spec hx18).2.1 rfl ?_
      refine gv_load (t := 3) (A := (elemAddr pa0_0 (((IntKind.i64.wrap (s3.2 + 1)) : Int).toNat * 1))) (.int .i64 x17) [] (fun e => by cases e) rfl rfl rfl (by kernel_rfl) (by kernel_rfl) (by kernel_rfl) (inw0 ((hpa0_0.below hB5 hX0).cell hx18)) rfl ?_
      refine pN 4 [5, 28, 29, 30] [(5, (.int .u32 (IntKind.u32.wrap ((IntKind.u32.wrap (x12)) + (IntKind.u32.wrap ((IntKind.u32.wrap (x17)) * 65536))))))] ?_
      refine bindE h3 ?_; clear h3; intro n19 hn20 h3
      refine gv_name (s := 5) (v := (.int .u32 (IntKind.u32.wrap ((IntKind.u32.wrap (x12)) + (IntKind.u32.wrap ((IntKind.u32.wrap (x17)) * 65536)))))) (v' := (.int .u32 n19)) (by kernel_rfl) (congrArg (Value.int .u32) (sj hn20)) ?_
      refine gv_nil ?_
      have e := sj h3; subst e
      refine gv_goal fun a hd hs hok => ?_
      exact ⟨hB5, nrf, ho9, hd, hs, okp [0, 3, 4, 5] hok⟩
     ·replace h3 := ite_f hc16 h3
      refine gv_skip ?_
      have e := sj h3; subst e
      refine gv_goal fun a hd hs hok => ?_
      exact ⟨hB5, nrf, ho9, hd, hs, okp [0, 3, 4, 5] hok⟩
    ·rintro a w15 ⟨hB21, hz22, hk23, hd, hs, hok⟩
     refine gv_in ?_ hd hs hok
     clear hd hs hok
     have hz24 := (nt hz6 hz22)
     clear hz22 hx13 hc11 ho9 hz6 hB5
     refine gv_region <| pN 2 [31, 32] [(31, (.slice a7 (length s3.1) c8)), (32, (.int .u32 j14))] ?_
     refine gv_new0 (fun b => .slice (some ⟨b, 0, none⟩) 1 1) #[(.int .u32 j14)] 107 (by kernel_rfl) (by kernel_rfl) ?_
     intro b25 w26 hg27 hb28 hbe29 hz30
     have ho31 : Gv.Own (iE .u32) 107 w26 (fun _ => False) (some ⟨b25, 0, none⟩) 1 ([j14] : List Int) := Box.ownE hb28 ⟨[(.int .u32 j14)], [], rfl, rfl, rfl⟩ (show 1 ≤ maxLen by decide) (fun h => h)
     have hl32 : ∀ g, blk (some ⟨b25, 0, none⟩) = some g → w0.heap.size ≤ g := loo hbe29 hB21.size
     refine bindE h2 ?_; clear h2; intro l36 hx37 h2
     have hk44 := hk23.grown hg27 (fun _ h => h.elim) nb
     refine gv_append (iE .u32) (t := 37) (ty := 37) (e := 107) (a := a7) (ax := (some ⟨b25, 0, none⟩)) (cap := c8) (cx := 1) (xs := s3.1) (ys := ([j14] : List Int)) l36 (X := (fun _ => False)) (Y := (fun k => blk (some ⟨b25, 0, none⟩) = some k)) (by decide) rfl rfl (by kernel_rfl) (by kernel_rfl) Tryz.underlying37 info107 hk44 (ho31.rd (Y := fun k => blk (some ⟨b25, 0, none⟩) = some k) (fun _ h => h.elim) (fun g e => e)) hx37 (.inr fun _ _ _ _ _ h => h) (fun _ h => h.elim) ?_
     intro a38 c39 w40 hg41 ho42 hk43
     refine ⟨(fun e => by cases e), ?_⟩
     have hB46 := bg hB21 hg27 nb
     have hl45 : ∀ g, blk a38 = some g → w0.heap.size ≤ g := blk_step hk43 hl10 hB46.size
     have ap48 : ∀ g, blk a7 = some g → ¬ (fun k => blk (some ⟨b25, 0, none⟩) = some k) g := fun g e hx => nl ((lowo hbe29) _ hx) ((fun k (hk : blk a7 = some k) => hk23.lt k hk) g e)
     have ap47 : ∀ g, blk a38 = some g → ¬ (fun k => blk (some ⟨b25, 0, none⟩) = some k) g := blk_neX hk43 ap48 (fun k (hk : blk (some ⟨b25, 0, none⟩) = some k) => ho31.lt k hk)
     have ap50 : ∀ g, blk (some ⟨b25, 0, none⟩) = some g → ¬ (fun k => blk a7 = some k) g := fun g e hx => nl ((lowo hbe29) g e) ((fun k (hk : blk a7 = some k) => hk23.lt k hk) _ hx)
     have ap49 : ∀ g, blk (some ⟨b25, 0, none⟩) = some g → ¬ (fun k => blk a38 = some k) g := fun g e h => blk_rev hk43 (fun h => ((ap50) g e) h) (ho31.lt g e) h
     refine pN 1 [3] [(3, (.slice a38 (length l36) c39))] ?_
     refine gv_nil <| gv_blk <| gv_region <| pN 3 [4, 10, 11] [(4, (.int .i64 (IntKind.i64.wrap (s3.2 + 2))))] ?_
     refine gv_nil ?_
     have e := sj h2; subst e
     refine gv_goal fun a hd hs hok => ?_
     have hB51 := bg hB46 hg41 hl10
     have hz52 := (nt (nt hz24 hg27.size) hg41.size)
     exact ⟨(l36, (IntKind.i64.wrap (s3.2 + 2))), rfl, a38, c39, hB51, hz52, ho42, hl45, hd, hs, okp [0, 3, 4] hok⟩
   ·replace h2 := ite_f hc11 h2
    refine gv_cexit <| gv_exit rfl ?_
    have e := sj h2; subst e
    replace h1 := congrArg some (hR2 _ rfl)
    have e := sj h1; subst e
    refine gv_goal fun a hd hs hok => ?_
    have hz53 := hz6
    exact ⟨a7, c8, hB5, hz53, ho9, hl10, hd, hs, okp [3] hok⟩
 ·rintro a w2 ⟨a56, c57, hB54, hz55, ho58, hl59, hd, hs, hok⟩
  refine gv_in ?_ hd hs hok
  clear hd hs hok
  refine gv_seq <| gv_region <| pN 2 [2, 35] [(2, (.slice a56 (length j1) c57))] ?_
  refine gv_nil <| gv_cret ?_
  have e := sj h0; subst e
  refine gv_ret (gv_done [(.slice a56 (length j1) c57)] rfl ⟨(by kernel_rfl), trivial⟩ ?_)
  exact ⟨grown_of_below hB54, a56, c57, rfl, ho58, hl59⟩

theorem ref4_IntegerOf_ok (fuel : Nat) (pa0_0 : Option Addr) (pc0_0 : Nat) (a_0 : (Bool × (List Int))) (w0 : World) (X0 : Nat → Prop) (hX0 : ∀ k, X0 k → k < w0.heap.size) (hpa0_0 : Rd (iE .i64) w0 X0 pa0_0 pc0_0 a_0.2) (r0 : (Int × (Bool × (List Int)) × (Bool × (List Int)) × ByteArray × Int)) (h0 : ref4_IntegerOf fuel a_0 = some r0) :
    Calls Tryz.prog 25 ([(.agg #[(.bool a_0.1), (.slice pa0_0 (length a_0.2) pc0_0)])] : List Value).toArray w0 (Ret fun v w' => w0.grownBy w' none ∧ ∃ (a0_0r : Option Addr) (c0_0r : Nat), ∃ (a0_1r : Option Addr) (c0_1r : Nat), v = tup [(.agg #[(.int .i64 r0.1), (.bool r0.2.1.1), (.slice a0_0r (length r0.2.1.2) c0_0r), (.bool r0.2.2.1.1), (.slice a0_1r (length r0.2.2.1.2) c0_1r), (.string r0.2.2.2.1), (.int .i64 r0.2.2.2.2)])] ∧ Gv.Own (iE .u32) 107 w' (fun _ => False) a0_0r c0_0r r0.2.1.2 ∧ (∀ g, blk a0_0r = some g → w0.heap.size ≤ g) ∧ Gv.Own (iE .u32) 107 w' (fun _ => False) a0_1r c0_1r r0.2.2.1.2 ∧ (∀ g, blk a0_1r = some g → w0.heap.size ≤ g) ∧ (∀ g, blk a0_0r = some g → blk a0_1r ≠ some g)) := by
 have hB0 : Below w0.heap.size w0 w0 := Below.refl _ _
 unfold ref4_IntegerOf at h0
 refine calls_run Tryz.func25 rfl Tryz.ntmps25 (by kernel_rfl) ?_
 refine gv_sub [0] (σ' := [(0, (.agg #[(.bool a_0.1), (.slice pa0_0 (length a_0.2) pc0_0)]))]) (by kernel_rfl) ?_
 refine gv_seq <| gv_region <| gv_new0 (fun b => .pointer (some ⟨b, 0, none⟩)) #[(.bool a_0.1), (.slice pa0_0 (length a_0.2) pc0_0)] 57 (by kernel_rfl) (by kernel_rfl) ?_
 intro b1 w2 hg3 hb4 hbe5 hz6
 refine gv_new0 (fun b => .pointer (some ⟨b, 0, none⟩)) #[(.int .i64 0), (.bool false), (.slice none (length ([] : List Int)) 0), (.bool false), (.slice none (length ([] : List Int)) 0), (.string (strOf [])), (.int .i64 0)] 41 (by kernel_rfl) (by kernel_rfl) ?_
 intro b7 w8 hg9 hb10 hbe11 hz12
 refine gv_nil <| gv_seq <| bindE h0 ?_; clear h0; intro j13 h1 h0
 refine gv_cut_code (J := fun a w14 => ∃ (abb7_0j : Option Addr) (cbb7_0j : Nat), ∃ (abb7_1j : Option Addr) (cbb7_1j : Nat), Below w0.heap.size w0 w14 ∧ w8.heap.size ≤ w14.heap.size ∧ Gv.Own (iE .u32) 107 w14 (fun _ => False) abb7_0j cbb7_0j j13.2.1.2 ∧ (∀ g, blk abb7_0j = some g → w0.heap.size ≤ g) ∧ Gv.Own (iE .u32) 107 w14 (fun _ => False) abb7_1j cbb7_1j j13.2.2.1.2 ∧ (∀ g, blk abb7_1j = some g → w0.heap.size ≤ g) ∧ (∀ g, blk abb7_0j = some g → ¬ (fun k => blk abb7_1j = some k) g) ∧ (∀ g, blk abb7_0j = some g → ¬ (· = b7) g) ∧ ¬ (fun k => blk abb7_0j = some k) b7 ∧ (∀ g, blk abb7_1j = some g → ¬ (fun k => blk abb7_0j = some k) g) ∧ (∀ g, blk abb7_1j = some g → ¬ (· = b7) g) ∧ ¬ (fun k => blk abb7_1j = some k) b7 ∧ Box w14 b7 41 #[(.int .i64 j13.1), (.bool j13.2.1.1), (.slice abb7_0j (length j13.2.1.2) cbb7_0j), (.bool j13.2.2.1.1), (.slice abb7_1j (length j13.2.2.1.2) cbb7_1j), (.string j13.2.2.2.1), (.int .i64 j13.2.2.2.2)] ∧ a.defers = [] ∧ a.tmps.size = 16 ∧ Ok [(2, (bp b7))] a.tmps) ?_ ?_
 ·skip
  refine gv_drawA (by kernel_rfl) ?_
  intro w15 hg16
  refine gv_pre [0, 8] (bA 14 [0, 8]) 12 (by kernel_rfl) (by kernel_rfl) ?_
  refine pN 2 [3, 11] [(3, (bp b1)), (11, (.pointer (some ⟨b1, 1, none⟩)))] ?_
  refine gv_nil <| gv_goA ?_
  refine gv_stage (Cls w15 []) [0, 1, 2, 3, 4, 5, 6, 7, 8, 9, 10] [(1, some true), (2, some true), (3, some true), (4, some true), (5, some true), (6, some true), (7, some true), (9, some true), (10, some false)] (bA 14 [0, 1, 2, 3, 4, 5, 6, 7, 8, 9, 10]) 3 (by kernel_rfl) (by kernel_rfl) (Cls.refl _ _) ?_
  have hC17 := Cls.refl w15 []
  have hg18 := (grown_trans hg9 hg16)
  have hk19 := hb4.grown hg18 nb
  refine gv_load (t := 4) (A := ⟨b1, 0, none⟩) (.bool a_0.1) [] (fun e => by cases e) rfl rfl rfl (by kernel_rfl) (by kernel_rfl) (by kernel_rfl) (inw1 fun w' hC' => ((hC'.box hk19 nm_nil).cell 0 rfl)) rfl ?_
  refine pN 1 [5] [(5, (.bool a_0.1))] ?_
  refine gv_split (s := 5) (g := a_0.1) (by kernel_rfl) (fun hc20 => ?_) (fun hc20 => ?_)
  ·skip
   replace h1 := ite_t hc20 h1
   refine pN 1 [6] [(6, (.pointer (some ⟨b1, 1, none⟩)))] ?_
   refine gv_load (t := 55) (A := ⟨b1, 1, none⟩) (.slice pa0_0 (length a_0.2) pc0_0) [] (fun e => by cases e) rfl rfl rfl (by kernel_rfl) (by kernel_rfl) (by kernel_rfl) (inw1 fun w' hC' => ((hC'.box hk19 nm_nil).cell 1 rfl)) rfl ?_
   refine pN 3 [8, 9, 10] [(10, (.bool (decide (((length a_0.2 : Nat) : Int) > 0))))] ?_
   refine gv_load (t := 55) (A := ⟨b1, 1, none⟩) (.slice pa0_0 (length a_0.2) pc0_0) [] (fun e => by cases e) rfl rfl rfl (by kernel_rfl) (by kernel_rfl) (by kernel_rfl) (inw1 fun w' hC' => ((hC'.box hk19 nm_nil).cell 1 rfl)) rfl ?_
   refine bindE h1 ?_; clear h1; intro r21 hr22 h1
   have hg23 := (grown_trans hg3 hg18)
   have hB24 := bg hB0 hg23 nb
   refine gv_call (f := 51) (vs := [(.slice pa0_0 (length a_0.2) pc0_0)]) (cap := []) _ (by decide) rfl rfl rfl (by kernel_rfl) (by kernel_rfl) enters51 (ref3_Limbs_ok fuel pa0_0 pc0_0 a_0.2 w15 (fun k => X0 k) (fun k hk => (fun k (hk : X0 k) => ltl (hX0 k hk) hB24.size) k hk) ((hpa0_0.below hB24 hX0).wide (fun k hk => hk)) r21 hr22) ?_
   rintro v27 w25 ⟨hg26, a28, c29, rfl, ho30, hl31⟩
   refine ⟨(fun _ => hC17.grown hg26 nb), ?_⟩
   have hl32 : ∀ g, blk a28 = some g → w0.heap.size ≤ g := fun g e => Nat.le_trans hB24.size (hl31 g e)
   refine gv_nil <| gv_goA ?_
   refine gv_pre [11, 12] (bA 14 [0, 1, 2, 3, 4, 5, 6, 7, 8, 9, 10, 11, 12]) 1 (by kernel_rfl) (by kernel_rfl) ?_
   refine pN 2 [14, 15] [(15, (.agg #[(.int .i64 2), (.bool (decide (((length a_0.2 : Nat) : Int) > 0))), (.slice a28 (length r21) c29), (.bool false), (.slice none (length ([] : List Int)) 0), (.string (strOf [])), (.int .i64 0)]))] ?_
   refine gv_nil <| gv_goA ?_
   refine gv_stage (fun _ => True) [0, 1, 2, 3, 4, 5, 6, 7, 8, 9, 10, 11, 12, 13] [(13, some false)] (bA 14 [0, 1, 2, 3, 4, 5, 6, 7, 8, 9, 10, 11, 12, 13]) 0 (by kernel_rfl) (by kernel_rfl) trivial ?_
   have hg37 := (grown_trans hg16 hg26)
   have hk38 := hb10.grown hg37 nb
   refine gv_store (t := 41) (b := b7) (off := 0) (v := (.agg #[(.int .i64 2), (.bool (decide (((length a_0.2 : Nat) : Int) > 0))), (.slice a28 (length r21) c29), (.bool false), (.slice none (length ([] : List Int)) 0), (.string (strOf [])), (.int .i64 0)])) (t' := 41) (cs := #[(.int .i64 0), (.bool false), (.slice none (length ([] : List Int)) 0), (.bool false), (.slice none (length ([] : List Int)) 0), (.string (strOf [])), (.int .i64 0)]) #[(.int .i64 2), (.bool (decide (((length a_0.2 : Nat) : Int) > 0))), (.slice a28 (length r21) c29), (.bool false), (.slice none (length ([] : List Int)) 0), (.string (strOf [])), (.int .i64 0)] (by decide) rfl rfl (by kernel_rfl) (by kernel_rfl) (by kernel_rfl) (by intro u hu; simp [Value.cells] at hu; rcases hu with rfl | rfl | rfl | rfl | rfl | rfl | rfl <;> rfl) (show 0 + 7 ≤ 7 by decide) (by rfl) hk38 ?_
   intro w33 hg34 hb35 hz36
   refine ⟨(fun _ => trivial), ?_⟩
   refine gv_nil <| gv_goA ?_
   refine gv_stageE (by kernel_rfl) ?_
   have e := sj h1; subst e
   refine gv_goal fun a hd hs hok => ?_
   have hB39 := bg hB24 hg26 nb
   have hB40 := bg hB0 hg3 nb
   have hlo41 : w0.heap.size ≤ b7 := lob hbe11 hB40.size
   have hB42 := bg hB39 hg34 (rowlo hlo41)
   have hz43 := (nt (nt hg16.size hg26.size) hg34.size)
   have hk44 := hb10.grown hg16 nb
   have ap45 : ¬ (fun k => blk a28 = some k) b7 := fun hx => nl ((show ∀ k, blk a28 = some k → w15.heap.size ≤ k from hl31) _ hx) ((ltb hk44) _ rfl)
   have hk46 := ho30.grown hg34 (fun _ h => h.elim) (rdnn (rowne ap45))
   have ap47 : ∀ g, blk a28 = some g → ¬ (· = b7) g := fun g e hx => nl ((show ∀ k, blk a28 = some k → w15.heap.size ≤ k from hl31) g e) ((ltb hk44) _ hx)
   exact ⟨a28, c29, none, 0, hB42, hz43, hk46, hl32, (Gv.Own.nil (iE .u32) 107 w33 (fun _ => False)), (fun _ h => by cases h), (fun _ _ h => by cases h), ap47, ap45, (fun _ h => by cases h), (fun _ h => by cases h), (fun h => by cases h), hb35, hd, hs, okp [2] hok⟩
  ·skip
   replace h1 := ite_f hc20 h1
   refine pN 5 [6, 7, 8, 9, 10] [(10, (.bool false))] ?_
   refine gv_load (t := 55) (A := ⟨b1, 1, none⟩) (.slice pa0_0 (length a_0.2) pc0_0) [] (fun e => by cases e) rfl rfl rfl (by kernel_rfl) (by kernel_rfl) (by kernel_rfl) (inw1 fun w' hC' => ((hC'.box hk19 nm_nil).cell 1 rfl)) rfl ?_
   refine bindE h1 ?_; clear h1; intro r48 hr49 h1
   have hg50 := (grown_trans hg3 hg18)
   have hB51 := bg hB0 hg50 nb
   refine gv_call (f := 51) (vs := [(.slice pa0_0 (length a_0.2) pc0_0)]) (cap := []) _ (by decide) rfl rfl rfl (by kernel_rfl) (by kernel_rfl) enters51 (ref3_Limbs_ok fuel pa0_0 pc0_0 a_0.2 w15 (fun k => X0 k) (fun k hk => (fun k (hk : X0 k) => ltl (hX0 k hk) hB51.size) k hk) ((hpa0_0.below hB51 hX0).wide (fun k hk => hk)) r48 hr49) ?_
   rintro v54 w52 ⟨hg53, a55, c56, rfl, ho57, hl58⟩
   refine ⟨(fun _ => hC17.grown hg53 nb), ?_⟩
   have hl59 : ∀ g, blk a55 = some g → w0.heap.size ≤ g := fun g e => Nat.le_trans hB51.size (hl58 g e)
   refine gv_nil <| gv_goA ?_
   refine gv_pre [11, 12] (bA 14 [0, 1, 2, 3, 4, 5, 6, 7, 8, 9, 10, 11, 12]) 1 (by kernel_rfl) (by kernel_rfl) ?_
   refine pN 2 [14, 15] [(15, (.agg #[(.int .i64 2), (.bool false), (.slice a55 (length r48) c56), (.bool false), (.slice none (length ([] : List Int)) 0), (.string (strOf [])), (.int .i64 0)]))] ?_
   refine gv_nil <| gv_goA ?_
   refine gv_stage (fun _ => True) [0, 1, 2, 3, 4, 5, 6, 7, 8, 9, 10, 11, 12, 13] [(13, some false)] (bA 14 [0, 1, 2, 3, 4, 5, 6, 7, 8, 9, 10, 11, 12, 13]) 0 (by kernel_rfl) (by kernel_rfl) trivial ?_
   have hg64 := (grown_trans hg16 hg53)
   have hk65 := hb10.grown hg64 nb
   refine gv_store (t := 41) (b := b7) (off := 0) (v := (.agg #[(.int .i64 2), (.bool false), (.slice a55 (length r48) c56), (.bool false), (.slice none (length ([] : List Int)) 0), (.string (strOf [])), (.int .i64 0)])) (t' := 41) (cs := #[(.int .i64 0), (.bool false), (.slice none (length ([] : List Int)) 0), (.bool false), (.slice none (length ([] : List Int)) 0), (.string (strOf [])), (.int .i64 0)]) #[(.int .i64 2), (.bool false), (.slice a55 (length r48) c56), (.bool false), (.slice none (length ([] : List Int)) 0), (.string (strOf [])), (.int .i64 0)] (by decide) rfl rfl (by kernel_rfl) (by kernel_rfl) (by kernel_rfl) (by intro u hu; simp [Value.cells] at hu; rcases hu with rfl | rfl | rfl | rfl | rfl | rfl | rfl <;> rfl) (show 0 + 7 ≤ 7 by decide) (by rfl) hk65 ?_
   intro w60 hg61 hb62 hz63
   refine ⟨(fun _ => trivial), ?_⟩
   refine gv_nil <| gv_goA ?_
   refine gv_stageE (by kernel_rfl) ?_
   have e := sj h1; subst e
   refine gv_goal fun a hd hs hok => ?_
   have hB66 := bg hB51 hg53 nb
   have hB67 := bg hB0 hg3 nb
   have hlo68 : w0.heap.size ≤ b7 := lob hbe11 hB67.size
   have hB69 := bg hB66 hg61 (rowlo hlo68)
   have hz70 := (nt (nt hg16.size hg53.size) hg61.size)
   have hk71 := hb10.grown hg16 nb
   have ap72 : ¬ (fun k => blk a55 = some k) b7 := fun hx => nl ((show ∀ k, blk a55 = some k → w15.heap.size ≤ k from hl58) _ hx) ((ltb hk71) _ rfl)
   have hk73 := ho57.grown hg61 (fun _ h => h.elim) (rdnn (rowne ap72))
   have ap74 : ∀ g, blk a55 = some g → ¬ (· = b7) g := fun g e hx => nl ((show ∀ k, blk a55 = some k → w15.heap.size ≤ k from hl58) g e) ((ltb hk71) _ hx)
   exact ⟨a55, c56, none, 0, hB69, hz70, hk73, hl59, (Gv.Own.nil (iE .u32) 107 w60 (fun _ => False)), (fun _ h => by cases h), (fun _ _ h => by cases h), ap74, ap72, (fun _ h => by cases h), (fun _ h => by cases h), (fun h => by cases h), hb62, hd, hs, okp [2] hok⟩
 ·rintro a w14 ⟨a77, c78, a79, c80, hB75, hz76, ho81, hl82, ho83, hl84, ap85, ap86, ap87, ap88, ap89, ap90, hb91, hd, hs, hok⟩
  refine gv_in ?_ hd hs hok
  clear hd hs hok
  clear hz76 hz12 hb10 hg9 hz6 hbe5 hb4
  refine gv_cret ?_
  have e := sj h0; subst e
  refine gv_ret (gv_done [(.agg #[(.int .i64 j13.1), (.bool j13.2.1.1), (.slice a77 (length j13.2.1.2) c78), (.bool j13.2.2.1.1), (.slice a79 (length j13.2.2.1.2) c80), (.string j13.2.2.2.1), (.int .i64 j13.2.2.2.2)])] rfl ⟨⟨⟨b7, 0, none⟩, (by kernel_rfl), run_loadVar_row w14 b7 _ 41 _ _ _ hb91 Tryz.underlying41 rfl (by kernel_rfl)⟩, trivial⟩ ?_)
  exact ⟨grown_of_below hB75, a77, c78, a79, c80, rfl, ho81, hl82, ho83, hl84, ap85⟩

theorem ref3_Ones_ok (fuel : Nat) (pa0_0 : Option Addr) (pc0_0 : Nat) (a_0 : (List Int)) (w0 : World) (X0 : Nat → Prop) (hX0 : ∀ k, X0 k → k < w0.heap.size) (hpa0_0 : Rd (iE .i64) w0 X0 pa0_0 pc0_0 a_0) (r0 : (List Bool)) (h0 : ref3_Ones fuel a_0 = some r0) :
    Calls Tryz.prog 74 ([(.slice pa0_0 (length a_0) pc0_0)] : List Value).toArray w0 (Ret fun v w' => w0.grownBy w' none ∧ ∃ (a0_0r : Option Addr) (c0_0r : Nat), v = tup [(.slice a0_0r (length r0) c0_0r)] ∧ Gv.Own tE 4 w' (fun _ => False) a0_0r c0_0r r0 ∧ (∀ g, blk a0_0r = some g → w0.heap.size ≤ g)) := by
 have hB0 : Below w0.heap.size w0 w0 := Below.refl _ _
 unfold ref3_Ones at h0
 refine calls_run Tryz.func74 rfl Tryz.ntmps74 (by kernel_rfl) ?_
 refine gv_sub [0] (σ' := [(0, (.slice pa0_0 (length a_0) pc0_0))]) (by kernel_rfl) ?_
 refine gv_seq <| gv_region <| pN 1 [2] [] ?_
 refine gv_nil <| gv_seq <| gv_region <| pN 1 [3] [(3, (.slice none (length ([] : List Bool)) 0))] ?_
 refine gv_nil <| gv_seq <| gv_seq <| gv_region <| pN 1 [4] [(4, (.int .i64 0))] ?_
 refine gv_nil <| bindE h0 ?_; clear h0; intro j1 h1 h0
 refine gv_cut_code (J := fun a w2 => ∃ (a3_0j : Option Addr) (c3_0j : Nat), Below w0.heap.size w0 w2 ∧ w0.heap.size ≤ w2.heap.size ∧ Gv.Own tE 4 w2 (fun _ => False) a3_0j c3_0j j1 ∧ (∀ g, blk a3_0j = some g → w0.heap.size ≤ g) ∧ a.defers = [] ∧ a.tmps.size = 47 ∧ Ok [(3, (.slice a3_0j (length j1) c3_0j))] a.tmps) ?_ ?_
 ·skip
  refine gv_block <| gv_loop (A := fun (s3 : ((List Bool) × Int)) a w4 => ∃ (a3_0j : Option Addr) (c3_0j : Nat), Below w0.heap.size w0 w4 ∧ w0.heap.size ≤ w4.heap.size ∧ Gv.Own tE 4 w4 (fun _ => False) a3_0j c3_0j s3.1 ∧ (∀ g, blk a3_0j = some g → w0.heap.size ≤ g) ∧ a.defers = [] ∧ a.tmps.size = 47 ∧ Ok [(0, (.slice pa0_0 (length a_0) pc0_0)), (3, (.slice a3_0j (length s3.1) c3_0j)), (4, (.int .i64 s3.2))] a.tmps) h1 ?_ ?_
  ·intro a hd hs hok
   exact ⟨none, 0, hB0, nrf, (Gv.Own.nil tE 4 w0 (fun _ => False)), (fun _ h => by cases h), hd, hs, okp [0, 3, 4] hok⟩
  ·rintro s3 r2 h2 hR2 a w4 ⟨a7, c8, hB5, hz6, ho9, hl10, hd, hs, hok⟩
   refine gv_in ?_ hd hs hok
   clear hd hs hok
   refine gv_seq <| gv_seq <| gv_region <| pN 4 [7, 8, 9, 10] [(10, (.bool (decide (s3.2 < ((length a_0 : Nat) : Int)))))] ?_
   refine gv_nil <| gv_cond (b := (decide (s3.2 < ((length a_0 : Nat) : Int)))) (by kernel_rfl) (fun hc11 => ?_) (fun hc11 => ?_)
   ·replace h2 := ite_t hc11 h2
    refine gv_skip <| gv_seq <| gv_block <| gv_seq <| gv_region <| pN 2 [13, 14] [(13, (.slice pa0_0 (length a_0) pc0_0)), (14, (.int .i64 s3.2))] ?_
    refine bindE h2 ?_; clear h2; intro x12 hx13 h2
    refine gv_idxaddr (t := 55) (e := 3) (a := pa0_0) (len := length a_0) (cap := pc0_0) (kk := .i64) (i := s3.2) (sz := 1) [] (fun e => by cases e) rfl rfl rfl (by kernel_rfl) (by kernel_rfl) Tryz.underlying55 (by kernel_rfl) ((hpa0_0.below hB5 hX0).has hx13) (idx_spec hx13).1 (idx_spec hx13).2.1 rfl ?_
    refine gv_load (t := 3) (A := (elemAddr pa0_0 ((s3.2 : Int).toNat * 1))) (.int .i64 x12) [] (fun e => by cases e) rfl rfl rfl (by kernel_rfl) (by kernel_rfl) (by kernel_rfl) (inw0 ((hpa0_0.below hB5 hX0).cell hx13)) rfl ?_
    refine pN 1 [5] [(5, (.int .i64 x12))] ?_
    refine gv_nil <| gv_seq <| gv_region <| pN 1 [6] [(6, (.int .i64 0))] ?_
    refine gv_nil <| bindE h2 ?_; clear h2; intro j14 h3 h2
    refine gv_cut_code (J := fun a w15 => ∃ (a3_0j : Option Addr) (c3_0j : Nat), Below w0.heap.size w0 w15 ∧ w4.heap.size ≤ w15.heap.size ∧ Gv.Own tE 4 w15 (fun _ => False) a3_0j c3_0j j14 ∧ (∀ g, blk a3_0j = some g → w0.heap.size ≤ g) ∧ a.defers = [] ∧ a.tmps.size = 47 ∧ Ok [(0, (.slice pa0_0 (length a_0) pc0_0)), (3, (.slice a3_0j (length j14) c3_0j)), (4, (.int .i64 s3.2))] a.tmps) ?_ ?_
    ·skip
     refine gv_block <| gv_loop (A := fun (s16 : ((List Bool) × Int × Int)) a w17 => ∃ (a3_0j : Option Addr) (c3_0j : Nat), Below w0.heap.size w0 w17 ∧ w4.heap.size ≤ w17.heap.size ∧ Gv.Own tE 4 w17 (fun _ => False) a3_0j c3_0j s16.1 ∧ (∀ g, blk a3_0j = some g → w0.heap.size ≤ g) ∧ a.defers = [] ∧ a.tmps.size = 47 ∧ Ok [(0, (.slice pa0_0 (length a_0) pc0_0)), (3, (.slice a3_0j (length s16.1) c3_0j)), (4, (.int .i64 s3.2)), (5, (.int .i64 s16.2.1)), (6, (.int .i64 s16.2.2))] a.tmps) h3 ?_ ?_
     ·intro a hd hs hok
      exact ⟨a7, c8, hB5, nrf, ho9, hl10, hd, hs, okp [0, 3, 4, 5, 6] hok⟩
     ·rintro s16 r4 h4 hR4 a w17 ⟨a20, c21, hB18, hz19, ho22, hl23, hd, hs, hok⟩
      refine gv_in ?_ hd hs hok
      clear hd hs hok
      clear hx13 hc11 hl10 ho9 hB5
      refine gv_seq <| gv_seq <| gv_region <| pN 2 [17, 18] [(18, (.bool (decide (s16.2.2 < 16))))] ?_
      refine gv_nil <| gv_cond (b := (decide (s16.2.2 < 16))) (by kernel_rfl) (fun hc24 => ?_) (fun hc24 => ?_)
      ·replace h4 := ite_t hc24 h4
       refine gv_skip <| gv_seq <| gv_block <| gv_seq <| gv_region <| pN 4 [21, 22, 23, 24] [(21, (.slice a20 (length s16.1) c21)), (24, (.bool (((s16.2.1).tmod 2) == 1)))] ?_
       refine gv_new0 (fun b => .slice (some ⟨b, 0, none⟩) 1 1) #[(.bool (((s16.2.1).tmod 2) == 1))] 4 (by kernel_rfl) (by kernel_rfl) ?_
       intro b25 w26 hg27 hb28 hbe29 hz30
       have ho31 : Gv.Own tE 4 w26 (fun _ => False) (some ⟨b25, 0, none⟩) 1 ([(((s16.2.1).tmod 2) == 1)] : List Bool) := Box.ownE hb28 ⟨[(.bool (((s16.2.1).tmod 2) == 1))], [], rfl, rfl, rfl⟩ (show 1 ≤ maxLen by decide) (fun h => h)
       have hl32 : ∀ g, blk (some ⟨b25, 0, none⟩) = some g → w0.heap.size ≤ g := loo hbe29 hB18.size
       refine bindE h4 ?_; clear h4; intro l36 hx37 h4
       have hk44 := ho22.grown hg27 (fun _ h => h.elim) nb
       refine gv_append tE (t := 87) (ty := 87) (e := 4) (a := a20) (ax := (some ⟨b25, 0, none⟩)) (cap := c21) (cx := 1) (xs := s16.1) (ys := ([(((s16.2.1).tmod 2) == 1)] : List Bool)) l36 (X := (fun _ => False)) (Y := (fun k => blk (some ⟨b25, 0, none⟩) = some k)) (by decide) rfl rfl (by kernel_rfl) (by kernel_rfl) Tryz.underlying87 info4 hk44 (ho31.rd (Y := fun k => blk (some ⟨b25, 0, none⟩) = some k) (fun _ h => h.elim) (fun g e => e)) hx37 (.inr fun _ _ _ _ _ h => h) (fun _ h => h.elim) ?_
       intro a38 c39 w40 hg41 ho42 hk43
       refine ⟨(fun e => by cases e), ?_⟩
       have hB46 := bg hB18 hg27 nb
       have hl45 : ∀ g, blk a38 = some g → w0.heap.size ≤ g := blk_step hk43 hl23 hB46.size
       have ap48 : ∀ g, blk a20 = some g → ¬ (fun k => blk (some ⟨b25, 0, none⟩) = some k) g := fun g e hx => nl ((lowo hbe29) _ hx) ((fun k (hk : blk a20 = some k) => ho22.lt k hk) g e)
       have ap47 : ∀ g, blk a38 = some g → ¬ (fun k => blk (some ⟨b25, 0, none⟩) = some k) g := blk_neX hk43 ap48 (fun k (hk : blk (some ⟨b25, 0, none⟩) = some k) => ho31.lt k hk)
       have ap50 : ∀ g, blk (some ⟨b25, 0, none⟩) = some g → ¬ (fun k => blk a20 = some k) g := fun g e hx => nl ((lowo hbe29) g e) ((fun k (hk : blk a20 = some k) => ho22.lt k hk) _ hx)
       have ap49 : ∀ g, blk (some ⟨b25, 0, none⟩) = some g → ¬ (fun k => blk a38 = some k) g := fun g e h => blk_rev hk43 (fun h => ((ap50) g e) h) (ho31.lt g e) h
       refine pN 1 [3] [(3, (.slice a38 (length l36) c39))] ?_
       refine gv_nil <| gv_region <| pN 3 [5, 27, 28] [(5, (.int .i64 (IntKind.i64.wrap ((s16.2.1).tdiv 2))))] ?_
       refine gv_nil <| gv_blk <| gv_region <| pN 3 [6, 19, 20] [(6, (.int .i64 (IntKind.i64.wrap (s16.2.2 + 1))))] ?_
       refine gv_nil ?_
       have e := sj h4; subst e
       refine gv_goal fun a hd hs hok => ?_
       have hB51 := bg hB46 hg41 hl23
       have hz52 := (nt (nt hz19 hg27.size) hg41.size)
       exact ⟨(l36, (IntKind.i64.wrap ((s16.2.1).tdiv 2)), (IntKind.i64.wrap (s16.2.2 + 1))), rfl, a38, c39, hB51, hz52, ho42, hl45, hd, hs, okp [0, 3, 4, 5, 6] hok⟩
      ·replace h4 := ite_f hc24 h4
       refine gv_cexit <| gv_exit rfl ?_
       have e := sj h4; subst e
       replace h3 := congrArg some (hR4 _ rfl)
       have e := sj h3; subst e
       refine gv_goal fun a hd hs hok => ?_
       have hz53 := hz19
       exact ⟨a20, c21, hB18, hz53, ho22, hl23, hd, hs, okp [0, 3, 4] hok⟩
    ·rintro a w15 ⟨a56, c57, hB54, hz55, ho58, hl59, hd, hs, hok⟩
     refine gv_in ?_ hd hs hok
     clear hd hs hok
     have hz60 := (nt hz6 hz55)
     clear hz55 hx13 hc11 hl10 ho9 hz6 hB5
     refine gv_blk <| gv_region <| pN 3 [4, 11, 12] [(4, (.int .i64 (IntKind.i64.wrap (s3.2 + 1))))] ?_
     refine gv_nil ?_
     have e := sj h2; subst e
     refine gv_goal fun a hd hs hok => ?_
     have hz61 := hz60
     exact ⟨(j14, (IntKind.i64.wrap (s3.2 + 1))), rfl, a56, c57, hB54, hz61, ho58, hl59, hd, hs, okp [0, 3, 4] hok⟩
   ·replace h2 := ite_f hc11 h2
    refine gv_cexit <| gv_exit rfl ?_
    have e := sj h2; subst e
    replace h1 := congrArg some (hR2 _ rfl)
    have e := sj h1; subst e
    refine gv_goal fun a hd hs hok => ?_
    have hz62 := hz6
    exact ⟨a7, c8, hB5, hz62, ho9, hl10, hd, hs, okp [3] hok⟩
 ·rintro a w2 ⟨a65, c66, hB63, hz64, ho67, hl68, hd, hs, hok⟩
  refine gv_in ?_ hd hs hok
  clear hd hs hok
  refine gv_seq <| bindE h0 ?_; clear h0; intro j69 h1 h0
  refine gv_cut_code (J := fun a w70 => ∃ (a3_0j : Option Addr) (c3_0j : Nat), Below w0.heap.size w0 w70 ∧ w2.heap.size ≤ w70.heap.size ∧ Gv.Own tE 4 w70 (fun _ => False) a3_0j c3_0j j69 ∧ (∀ g, blk a3_0j = some g → w0.heap.size ≤ g) ∧ a.defers = [] ∧ a.tmps.size = 47 ∧ Ok [(3, (.slice a3_0j (length j69) c3_0j))] a.tmps) ?_ ?_
  ·skip
   refine gv_block <| gv_loop (A := fun (s71 : (List Bool)) a w72 => ∃ (a3_0j : Option Addr) (c3_0j : Nat), Below w0.heap.size w0 w72 ∧ w2.heap.size ≤ w72.heap.size ∧ Gv.Own tE 4 w72 (fun _ => False) a3_0j c3_0j s71 ∧ (∀ g, blk a3_0j = some g → w0.heap.size ≤ g) ∧ a.defers = [] ∧ a.tmps.size = 47 ∧ Ok [(3, (.slice a3_0j (length s71) c3_0j))] a.tmps) h1 ?_ ?_
   ·intro a hd hs hok
    exact ⟨a65, c66, hB63, nrf, ho67, hl68, hd, hs, okp [3] hok⟩
   ·rintro s71 r2 h2 hR2 a w72 ⟨a75, c76, hB73, hz74, ho77, hl78, hd, hs, hok⟩
    refine gv_in ?_ hd hs hok
    clear hd hs hok
    clear hl68 ho67 hz64 hB63
    refine gv_seq <| gv_seq <| gv_region <| bindE h2 ?_; clear h2; intro j79 h3 h2
    refine gv_cut_ops (J := fun a w80 => Below w0.heap.size w0 w80 ∧ w72.heap.size ≤ w80.heap.size ∧ Gv.Own tE 4 w80 (fun _ => False) a75 c76 s71 ∧ a.defers = [] ∧ a.tmps.size = 47 ∧ Ok [(3, (.slice a75 (length s71) c76)), (40, (.bool j79))] a.tmps) ?_ ?_
    ·skip
     refine pN 4 [29, 30, 31, 32] [(32, (.bool (decide (((length s71 : Nat) : Int) > 0))))] ?_
     refine gv_split (s := 32) (g := (decide (((length s71 : Nat) : Int) > 0))) (by kernel_rfl) (fun hc81 => ?_) (fun hc81 => ?_)
     ·skip
      replace h3 := ite_t hc81 h3
      refine pN 4 [33, 34, 35, 36] [(33, (.slice a75 (length s71) c76)), (36, (.int .i64 (IntKind.i64.wrap (((length s71 : Nat) : Int) - 1))))] ?_
      refine bindE h3 ?_; clear h3; intro x82 hx83 h3
      refine gv_idxaddr (t := 87) (e := 4) (a := a75) (len := length s71) (cap := c76) (kk := .i64) (i := (IntKind.i64.wrap (((length s71 : Nat) : Int) - 1))) (sz := 1) [] (fun e => by cases e) rfl rfl rfl (by kernel_rfl) (by kernel_rfl) Tryz.underlying87 (by kernel_rfl) ((ho77.rd (Y := fun k => blk a75 = some k) (fun _ h => h.elim) (fun g e => e)).has hx83) (idx_spec hx83).1 (idx_spec hx83).2.1 rfl ?_
      refine gv_load (t := 4) (A := (elemAddr a75 (((IntKind.i64.wrap (((length s71 : Nat) : Int) - 1)) : Int).toNat * 1))) (.bool x82) [] (fun e => by cases e) rfl rfl rfl (by kernel_rfl) (by kernel_rfl) (by kernel_rfl) (inw0 ((ho77.rd (Y := fun k => blk a75 = some k) (fun _ h => h.elim) (fun g e => e)).cell hx83)) rfl ?_
      refine pN 2 [39, 40] [(40, (.bool (!x82)))] ?_
      refine gv_nil ?_
      have e := sj h3; subst e
      refine gv_goal fun a hd hs hok => ?_
      exact ⟨hB73, nrf, ho77, hd, hs, okp [3, 40] hok⟩
     ·skip
      replace h3 := ite_f hc81 h3
      refine pN 8 [33, 34, 35, 36, 37, 38, 39, 40] [(40, (.bool false))] ?_
      refine gv_nil ?_
      have e := sj h3; subst e
      refine gv_goal fun a hd hs hok => ?_
      exact ⟨hB73, nrf, ho77, hd, hs, okp [3, 40] hok⟩
    ·rintro a w80 ⟨hB84, hz85, hk86, hd, hs, hok⟩
     refine gv_in ?_ hd hs hok
     clear hd hs hok
     have hz87 := (nt hz74 hz85)
     clear hz85 ho77 hz74 hB73
     refine gv_cond (b := j79) (by kernel_rfl) (fun hc88 => ?_) (fun hc88 => ?_)
     ·replace h2 := ite_t hc88 h2
      refine gv_skip <| gv_block <| gv_region <| pN 4 [41, 42, 43, 44] [(41, (.slice a75 (length s71) c76)), (44, (.int .i64 (IntKind.i64.wrap (((length s71 : Nat) : Int) - 1))))] ?_
      refine bindE h2 ?_; clear h2; intro x89 hx90 h2
      refine gv_pop tE (t := 87) (e := 4) (xs := s71) (a := a75) (cap := c76) (lo := none) (hi := (some (.int .i64 (IntKind.i64.wrap (((length s71 : Nat) : Int) - 1))))) (IntKind.i64.wrap (((length s71 : Nat) : Int) - 1)) x89 (fun e => by cases e) rfl rfl rfl (by kernel_rfl) (by kernel_rfl) Tryz.underlying87 (by kernel_rfl) (.inl ⟨rfl, rfl⟩) (.inr ⟨_, rfl⟩) hx90 (hk86.rd (Y := fun k => blk a75 = some k) (fun _ h => h.elim) (fun g e => e)).1 ?_
      have ho91 := hk86.pop hx90
      refine pN 1 [3] [(3, (.slice a75 (length x89) c76))] ?_
      refine gv_nil <| gv_blk ?_
      have e := sj h2; subst e
      refine gv_goal fun a hd hs hok => ?_
      have hz92 := hz87
      exact ⟨x89, rfl, a75, c76, hB84, hz92, ho91, hl78, hd, hs, okp [3] hok⟩
     ·replace h2 := ite_f hc88 h2
      refine gv_cexit <| gv_exit rfl ?_
      have e := sj h2; subst e
      replace h1 := congrArg some (hR2 _ rfl)
      have e := sj h1; subst e
      refine gv_goal fun a hd hs hok => ?_
      have hz93 := hz87
      exact ⟨a75, c76, hB84, hz93, hk86, hl78, hd, hs, okp [3] hok⟩
  ·rintro a w70 ⟨a96, c97, hB94, hz95, ho98, hl99, hd, hs, hok⟩
   refine gv_in ?_ hd hs hok
   clear hd hs hok
   clear hz95 hl68 ho67 hz64 hB63
   refine gv_seq <| gv_region <| pN 2 [2, 46] [(2, (.slice a96 (length j69) c97))] ?_
   refine gv_nil <| gv_cret ?_
   have e := sj h0; subst e
   refine gv_ret (gv_done [(.slice a96 (length j69) c97)] rfl ⟨(by kernel_rfl), trivial⟩ ?_)
   exact ⟨grown_of_below hB94, a96, c97, rfl, ho98, hl99⟩

theorem ref3_Moved_ok (fuel : Nat) (pa0_0 : Option Addr) (pc0_0 : Nat) (a_0 : (List Int)) (n_1 : Int) (w0 : World) (X0 : Nat → Prop) (hX0 : ∀ k, X0 k → k < w0.heap.size) (hpa0_0 : Rd (iE .i64) w0 X0 pa0_0 pc0_0 a_0) (r0 : (List Int)) (h0 : ref3_Moved fuel a_0 n_1 = some r0) :
    Calls Tryz.prog 52 ([(.slice pa0_0 (length a_0) pc0_0), (.int .i64 n_1)] : List Value).toArray w0 (Ret fun v w' => w0.grownBy w' none ∧ ∃ (a0_0r : Option Addr) (c0_0r : Nat), ∃ (X0_0r : Nat → Prop), v = tup [(.slice a0_0r (length r0) c0_0r)] ∧ Rd (iE .i64) w' X0_0r a0_0r c0_0r r0 ∧ (∀ k, X0_0r k → k < w'.heap.size ∧ (X0 k ∨ w0.heap.size ≤ k))) := by
 have hB0 : Below w0.heap.size w0 w0 := Below.refl _ _
 unfold ref3_Moved at h0
 refine calls_run Tryz.func52 rfl Tryz.ntmps52 (by kernel_rfl) ?_
 refine gv_sub [0, 1] (σ' := [(0, (.slice pa0_0 (length a_0) pc0_0)), (1, (.int .i64 n_1))]) (by kernel_rfl) ?_
 refine gv_seq <| gv_region <| pN 1 [4] [] ?_
 refine gv_nil <| gv_seq <| gv_region <| pN 1 [6] [(6, (.slice pa0_0 (length a_0) pc0_0))] ?_
 refine bindE h0 ?_; clear h0; intro r1 hr2 h0
 refine gv_call0 (by kernel_rfl) rfl (by kernel_rfl) enters74 (ref3_Ones_ok fuel pa0_0 pc0_0 a_0 w0 (fun k => X0 k) (fun k hk => (fun k (hk : X0 k) => ltl (hX0 k hk) hB0.size) k hk) ((hpa0_0.below hB0 hX0).wide (fun k hk => hk)) r1 hr2) ?_
 rintro v5 w3 ⟨hg4, a6, c7, rfl, ho8, hl9⟩
 have hl10 : ∀ g, blk a6 = some g → w0.heap.size ≤ g := fun g e => Nat.le_trans hB0.size (hl9 g e)
 refine pN 1 [5] [(5, (.slice a6 (length r1) c7))] ?_
 refine gv_nil <| gv_seq <| gv_block <| gv_seq <| gv_region <| gv_cut_ops (J := fun a w11 => w3 = w11 ∧ a.defers = [] ∧ a.tmps.size = 32 ∧ Ok [(1, (.int .i64 n_1)), (5, (.slice a6 (length r1) c7)), (8, (.bool ((((length r1 : Nat) : Int) == 0) || (decide (n_1 ≤ (IntKind.i64.wrap (0 - ((length r1 : Nat) : Int))))))))] a.tmps) ?_ ?_
 ·skip
  refine pN 4 [9, 10, 11, 12] [(12, (.bool (((length r1 : Nat) : Int) == 0)))] ?_
  refine gv_split (s := 12) (g := (((length r1 : Nat) : Int) == 0)) (by kernel_rfl) (fun hc12 => ?_) (fun hc12 => ?_)
  ·skip
   refine pN 7 [8, 13, 14, 15, 16, 17, 18] [(8, (.bool true))] ?_
   refine gv_nil <| gv_sub [1, 5, 8] (σ' := [(1, (.int .i64 n_1)), (5, (.slice a6 (length r1) c7)), (8, (.bool true))]) (by kernel_rfl) ?_
   refine gv_goal fun a hd hs hok => ⟨rfl, hd, hs, ?_⟩
   obtain ⟨q1, q5, q8, _⟩ := hok
   exact ⟨q1, q5, (by rw [hc12]; exact q8), trivial⟩
  ·skip
   refine pN 7 [8, 13, 14, 15, 16, 17, 18] [(8, (.bool (decide (n_1 ≤ (IntKind.i64.wrap (0 - ((length r1 : Nat) : Int)))))))] ?_
   refine gv_nil <| gv_sub [1, 5, 8] (σ' := [(1, (.int .i64 n_1)), (5, (.slice a6 (length r1) c7)), (8, (.bool (decide (n_1 ≤ (IntKind.i64.wrap (0 - ((length r1 : Nat) : Int)))))))]) (by kernel_rfl) ?_
   refine gv_goal fun a hd hs hok => ⟨rfl, hd, hs, ?_⟩
   obtain ⟨q1, q5, q8, _⟩ := hok
   exact ⟨q1, q5, (by rw [hc12]; exact q8), trivial⟩
 ·rintro a w11 ⟨e, hd, hs, hok⟩; subst e
  refine gv_in ?_ hd hs hok
  clear hd hs hok
  refine gv_cond (b := ((((length r1 : Nat) : Int) == 0) || (decide (n_1 ≤ (IntKind.i64.wrap (0 - ((length r1 : Nat) : Int))))))) (by kernel_rfl) (fun hc13 => ?_) (fun hc13 => ?_)
  ·replace h0 := ite_t hc13 h0
   refine gv_seq <| gv_region <| pN 1 [4] [(4, (.slice none (length ([] : List Int)) 0))] ?_
   refine gv_nil <| gv_cret ?_
   have e := sj h0; subst e
   refine gv_ret (gv_done [(.slice none (length ([] : List Int)) 0)] rfl ⟨(by kernel_rfl), trivial⟩ ?_)
   have hB14 := bg hB0 hg4 nb
   exact ⟨grown_of_below hB14, none, 0, (fun _ => False), rfl, (Rd.nil (iE .i64) w3 (fun _ => False) none 0), (fun k hk => ⟨(fun _ h => h.elim) k hk, (fun _ h => h.elim) k hk⟩)⟩
  ·replace h0 := ite_f hc13 h0
   refine gv_seq <| gv_region <| pN 3 [19, 20, 21] [(19, (.bool (decide (n_1 < 0))))] ?_
   refine gv_nil <| gv_cond (b := (decide (n_1 < 0))) (by kernel_rfl) (fun hc15 => ?_) (fun hc15 => ?_)
   ·replace h0 := ite_t hc15 h0
    refine gv_seq <| gv_region <| pN 3 [22, 23, 24] [(22, (.slice a6 (length r1) c7)), (24, (.int .i64 (IntKind.i64.wrap (0 - n_1))))] ?_
    refine bindE h0 ?_; clear h0; intro x16 hx17 h0
    refine gv_ssl2 tE (t := 87) (e := 4) (xs := r1) (a := a6) (cap := c7) (lo := (some (.int .i64 (IntKind.i64.wrap (0 - n_1))))) (hi := none) (IntKind.i64.wrap (0 - n_1)) ((length r1 : Nat) : Int) x16 (fun e => by cases e) rfl rfl rfl (by kernel_rfl) (by kernel_rfl) Tryz.underlying87 (by kernel_rfl) (.inr ⟨_, rfl⟩) (.inl ⟨rfl, rfl⟩) hx17 (ho8.rd (Y := fun k => blk a6 = some k) (fun _ h => h.elim) (fun g e => e)).1 ?_
    intro a18 c19 hsub20
    have hr21 := hsub20 _ _ (ho8.rd (Y := fun k => blk a6 = some k) (fun _ h => h.elim) (fun g e => e))
    refine bindE h0 ?_; clear h0; intro r22 hr23 h0
    refine gv_call0 (by kernel_rfl) rfl (by kernel_rfl) enters45 (ref3_Binary_ok fuel a18 c19 x16 w3 (fun k => (fun k => blk a6 = some k) k) (fun k hk => (fun k (hk : blk a6 = some k) => ho8.lt k hk) k hk) (hr21.wide (fun k hk => hk)) r22 hr23) ?_
    rintro v26 w24 ⟨hg25, a27, c28, X30, rfl, ho29, hx31⟩
    have hx32 : ∀ k, X30 k → k < w24.heap.size := fun k hk => (hx31 k hk).1
    have hB34 := bg hB0 hg4 nb
    have hx33 : ∀ k, X30 k → X0 k ∨ w0.heap.size ≤ k := fun k hk => (hx31 k hk).2.elim (fun h => (fun k (hk : blk a6 = some k) => Or.inr (hl10 k hk)) k h) (fun h => .inr (Nat.le_trans hB34.size h))
    refine pN 1 [4] [(4, (.slice a27 (length r22) c28))] ?_
    refine gv_nil <| gv_cret ?_
    have e := sj h0; subst e
    refine gv_ret (gv_done [(.slice a27 (length r22) c28)] rfl ⟨(by kernel_rfl), trivial⟩ ?_)
    have hB35 := bg hB34 hg25 nb
    exact ⟨grown_of_below hB35, a27, c28, X30, rfl, ho29, (fun k hk => ⟨hx32 k hk, hx33 k hk⟩)⟩
   ·replace h0 := ite_f hc15 h0
    refine gv_skip <| gv_blk <| gv_seq <| gv_region <| pN 1 [27] [(27, (.int .i64 n_1))] ?_
    refine bindE h0 ?_; clear h0; intro l36 hx37 h0
    refine gv_makeC (f := Value.bool) (hf := fun _ => rfl) (t := 87) (e := 4) (kl := .i64) (kc := .i64) (l := n_1) (c := n_1) (bytes := 1) false l36 (by decide) rfl rfl (by kernel_rfl) (by kernel_rfl) Tryz.underlying87 (by kernel_rfl) (by decide) hx37 ?_
    intro b38 w39 hg40 ho41 hbe42 hz43
    refine ⟨(fun e => by cases e), ?_⟩
    have hB45 := bg hB0 hg4 nb
    have hl44 : ∀ g, blk (some ⟨b38, 0, none⟩) = some g → w0.heap.size ≤ g := loo hbe42 hB45.size
    refine pN 1 [29] [(29, (.slice a6 (length r1) c7))] ?_
    refine bindE h0 ?_; clear h0; intro l46 hx47 h0
    have hk54 := ho8.grown hg40 (fun _ h => h.elim) nb
    refine gv_append tE (t := 87) (ty := 87) (e := 4) (a := (some ⟨b38, 0, none⟩)) (ax := a6) (cap := (n_1).toNat) (cx := c7) (xs := l36) (ys := r1) l46 (X := (fun _ => False)) (Y := (fun k => blk a6 = some k)) (by decide) rfl rfl (by kernel_rfl) (by kernel_rfl) Tryz.underlying87 info4 ho41 (hk54.rd (Y := fun k => blk a6 = some k) (fun _ h => h.elim) (fun g e => e)) hx47 (.inr fun _ _ _ _ _ h => h) (fun _ h => h.elim) ?_
    intro a48 c49 w50 hg51 ho52 hk53
    refine ⟨(fun e => by cases e), ?_⟩
    have hB56 := bg hB45 hg40 nb
    have hl55 : ∀ g, blk a48 = some g → w0.heap.size ≤ g := blk_step hk53 hl44 hB56.size
    have ap58 : ∀ g, blk (some ⟨b38, 0, none⟩) = some g → ¬ (fun k => blk a6 = some k) g := fun g e hx => nl ((lowo hbe42) g e) ((fun k (hk : blk a6 = some k) => ho8.lt k hk) _ hx)
    have ap57 : ∀ g, blk a48 = some g → ¬ (fun k => blk a6 = some k) g := blk_neX hk53 ap58 (fun k (hk : blk a6 = some k) => hk54.lt k hk)
    have ap60 : ∀ g, blk a6 = some g → ¬ (fun k => blk (some ⟨b38, 0, none⟩) = some k) g := fun g e hx => nl ((lowo hbe42) _ hx) ((fun k (hk : blk a6 = some k) => ho8.lt k hk) g e)
    have ap59 : ∀ g, blk a6 = some g → ¬ (fun k => blk a48 = some k) g := fun g e h => blk_rev hk53 (fun h => ((ap60) g e) h) (hk54.lt g e) h
    refine bindE h0 ?_; clear h0; intro r61 hr62 h0
    refine gv_call0 (by kernel_rfl) rfl (by kernel_rfl) enters45 (ref3_Binary_ok fuel a48 c49 l46 w50 (fun k => (fun k => blk a48 = some k) k) (fun k hk => (fun k (hk : blk a48 = some k) => ho52.lt k hk) k hk) ((ho52.rd (Y := fun k => blk a48 = some k) (fun _ h => h.elim) (fun g e => e)).wide (fun k hk => hk)) r61 hr62) ?_
    rintro v65 w63 ⟨hg64, a66, c67, X69, rfl, ho68, hx70⟩
    have hx71 : ∀ k, X69 k → k < w63.heap.size := fun k hk => (hx70 k hk).1
    have hB73 := bg hB56 hg51 hl44
    have hx72 : ∀ k, X69 k → X0 k ∨ w0.heap.size ≤ k := fun k hk => (hx70 k hk).2.elim (fun h => (fun k (hk : blk a48 = some k) => Or.inr (hl55 k hk)) k h) (fun h => .inr (Nat.le_trans hB73.size h))
    refine pN 1 [4] [(4, (.slice a66 (length r61) c67))] ?_
    refine gv_nil <| gv_cret ?_
    have e := sj h0; subst e
    refine gv_ret (gv_done [(.slice a66 (length r61) c67)] rfl ⟨(by kernel_rfl), trivial⟩ ?_)
    have hB74 := bg hB73 hg64 nb
    exact ⟨grown_of_below hB74, a66, c67, X69, rfl, ho68, (fun k hk => ⟨hx71 k hk, hx72 k hk⟩)⟩

theorem ref3_Small_ok (fuel : Nat) (n_0 : Int) (w0 : World)  (r0 : (List Int)) (h0 : ref3_Small fuel n_0 = some r0) :
    Calls Tryz.prog 53 ([(.int .i64 n_0)] : List Value).toArray w0 (Ret fun v w' => w0.grownBy w' none ∧ ∃ (a0_0r : Option Addr) (c0_0r : Nat), v = tup [(.slice a0_0r (length r0) c0_0r)] ∧ Gv.Own (iE .i64) 3 w' (fun _ => False) a0_0r c0_0r r0 ∧ (∀ g, blk a0_0r = some g → w0.heap.size ≤ g)) := by
 have hB0 : Below w0.heap.size w0 w0 := Below.refl _ _
 unfold ref3_Small at h0
 refine calls_run Tryz.func53 rfl Tryz.ntmps53 (by kernel_rfl) ?_
 refine gv_sub [0] (σ' := [(0, (.int .i64 n_0))]) (by kernel_rfl) ?_
 refine gv_seq <| gv_region <| pN 1 [2] [] ?_
 refine gv_nil <| gv_seq <| gv_region <| pN 1 [3] [(3, (.slice none (length ([] : List Int)) 0))] ?_
 refine gv_nil <| gv_seq <| bindE h0 ?_; clear h0; intro j1 h1 h0
 refine gv_cut_code (J := fun a w2 => ∃ (a3_0j : Option Addr) (c3_0j : Nat), Below w0.heap.size w0 w2 ∧ w0.heap.size ≤ w2.heap.size ∧ Gv.Own (iE .i64) 3 w2 (fun _ => False) a3_0j c3_0j j1 ∧ (∀ g, blk a3_0j = some g → w0.heap.size ≤ g) ∧ a.defers = [] ∧ a.tmps.size = 14 ∧ Ok [(3, (.slice a3_0j (length j1) c3_0j))] a.tmps) ?_ ?_
 ·skip
  refine gv_block <| gv_loop (A := fun (s3 : (Int × (List Int))) a w4 => ∃ (a3_0j : Option Addr) (c3_0j : Nat), Below w0.heap.size w0 w4 ∧ w0.heap.size ≤ w4.heap.size ∧ Gv.Own (iE .i64) 3 w4 (fun _ => False) a3_0j c3_0j s3.2 ∧ (∀ g, blk a3_0j = some g → w0.heap.size ≤ g) ∧ a.defers = [] ∧ a.tmps.size = 14 ∧ Ok [(0, (.int .i64 s3.1)), (3, (.slice a3_0j (length s3.2) c3_0j))] a.tmps) h1 ?_ ?_
  ·intro a hd hs hok
   exact ⟨none, 0, hB0, nrf, (Gv.Own.nil (iE .i64) 3 w0 (fun _ => False)), (fun _ h => by cases h), hd, hs, okp [0, 3] hok⟩
  ·rintro s3 r2 h2 hR2 a w4 ⟨a7, c8, hB5, hz6, ho9, hl10, hd, hs, hok⟩
   refine gv_in ?_ hd hs hok
   clear hd hs hok
   refine gv_seq <| gv_seq <| gv_region <| pN 2 [4, 5] [(5, (.bool (decide (s3.1 > 0))))] ?_
   refine gv_nil <| gv_cond (b := (decide (s3.1 > 0))) (by kernel_rfl) (fun hc11 => ?_) (fun hc11 => ?_)
   ·replace h2 := ite_t hc11 h2
    refine gv_skip <| gv_seq <| gv_block <| gv_region <| pN 3 [8, 9, 10] [(8, (.slice a7 (length s3.2) c8)), (10, (.int .i64 ((s3.1).tmod 65536)))] ?_
    refine gv_new0 (fun b => .slice (some ⟨b, 0, none⟩) 1 1) #[(.int .i64 ((s3.1).tmod 65536))] 3 (by kernel_rfl) (by kernel_rfl) ?_
    intro b12 w13 hg14 hb15 hbe16 hz17
    have ho18 : Gv.Own (iE .i64) 3 w13 (fun _ => False) (some ⟨b12, 0, none⟩) 1 ([((s3.1).tmod 65536)] : List Int) := Box.ownE hb15 ⟨[(.int .i64 ((s3.1).tmod 65536))], [], rfl, rfl, rfl⟩ (show 1 ≤ maxLen by decide) (fun h => h)
    have hl19 : ∀ g, blk (some ⟨b12, 0, none⟩) = some g → w0.heap.size ≤ g := loo hbe16 hB5.size
    refine bindE h2 ?_; clear h2; intro l23 hx24 h2
    have hk31 := ho9.grown hg14 (fun _ h => h.elim) nb
    refine gv_append (iE .i64) (t := 55) (ty := 55) (e := 3) (a := a7) (ax := (some ⟨b12, 0, none⟩)) (cap := c8) (cx := 1) (xs := s3.2) (ys := ([((s3.1).tmod 65536)] : List Int)) l23 (X := (fun _ => False)) (Y := (fun k => blk (some ⟨b12, 0, none⟩) = some k)) (by decide) rfl rfl (by kernel_rfl) (by kernel_rfl) Tryz.underlying55 info3 hk31 (ho18.rd (Y := fun k => blk (some ⟨b12, 0, none⟩) = some k) (fun _ h => h.elim) (fun g e => e)) hx24 (.inr fun _ _ _ _ _ h => h) (fun _ h => h.elim) ?_
    intro a25 c26 w27 hg28 ho29 hk30
    refine ⟨(fun e => by cases e), ?_⟩
    have hB33 := bg hB5 hg14 nb
    have hl32 : ∀ g, blk a25 = some g → w0.heap.size ≤ g := blk_step hk30 hl10 hB33.size
    have ap35 : ∀ g, blk a7 = some g → ¬ (fun k => blk (some ⟨b12, 0, none⟩) = some k) g := fun g e hx => nl ((lowo hbe16) _ hx) ((fun k (hk : blk a7 = some k) => ho9.lt k hk) g e)
    have ap34 : ∀ g, blk a25 = some g → ¬ (fun k => blk (some ⟨b12, 0, none⟩) = some k) g := blk_neX hk30 ap35 (fun k (hk : blk (some ⟨b12, 0, none⟩) = some k) => ho18.lt k hk)
    have ap37 : ∀ g, blk (some ⟨b12, 0, none⟩) = some g → ¬ (fun k => blk a7 = some k) g := fun g e hx => nl ((lowo hbe16) g e) ((fun k (hk : blk a7 = some k) => ho9.lt k hk) _ hx)
    have ap36 : ∀ g, blk (some ⟨b12, 0, none⟩) = some g → ¬ (fun k => blk a25 = some k) g := fun g e h => blk_rev hk30 (fun h => ((ap37) g e) h) (ho18.lt g e) h
    refine pN 1 [3] [(3, (.slice a25 (length l23) c26))] ?_
    refine gv_nil <| gv_blk <| gv_region <| pN 3 [0, 6, 7] [(0, (.int .i64 (IntKind.i64.wrap ((s3.1).tdiv 65536))))] ?_
    refine gv_nil ?_
    have e := sj h2; subst e
    refine gv_goal fun a hd hs hok => ?_
    have hB38 := bg hB33 hg28 hl10
    have hz39 := (nt (nt hz6 hg14.size) hg28.size)
    exact ⟨((IntKind.i64.wrap ((s3.1).tdiv 65536)), l23), rfl, a25, c26, hB38, hz39, ho29, hl32, hd, hs, okp [0, 3] hok⟩
   ·replace h2 := ite_f hc11 h2
    refine gv_cexit <| gv_exit rfl ?_
    have e := sj h2; subst e
    replace h1 := congrArg some (hR2 _ rfl)
    have e := sj h1; subst e
    refine gv_goal fun a hd hs hok => ?_
    have hz40 := hz6
    exact ⟨a7, c8, hB5, hz40, ho9, hl10, hd, hs, okp [3] hok⟩
 ·rintro a w2 ⟨a43, c44, hB41, hz42, ho45, hl46, hd, hs, hok⟩
  refine gv_in ?_ hd hs hok
  clear hd hs hok
  refine gv_seq <| gv_region <| pN 2 [2, 13] [(2, (.slice a43 (length j1) c44))] ?_
  refine gv_nil <| gv_cret ?_
  have e := sj h0; subst e
  refine gv_ret (gv_done [(.slice a43 (length j1) c44)] rfl ⟨(by kernel_rfl), trivial⟩ ?_)
  exact ⟨grown_of_below hB41, a43, c44, rfl, ho45, hl46⟩

theorem ref3_Int_Moved_ok (fuel : Nat) (pa0_0 : Option Addr) (pc0_0 : Nat) (a_0 : (Bool × (List Int))) (n_1 : Int) (w0 : World) (X0 : Nat → Prop) (hX0 : ∀ k, X0 k → k < w0.heap.size) (hpa0_0 : Rd (iE .i64) w0 X0 pa0_0 pc0_0 a_0.2) (r0 : (Bool × (List Int))) (h0 : ref3_Int_Moved fuel a_0 n_1 = some r0) :
    Calls Tryz.prog 28 ([(.agg #[(.bool a_0.1), (.slice pa0_0 (length a_0.2) pc0_0)]), (.int .i64 n_1)] : List Value).toArray w0 (Ret fun v w' => w0.grownBy w' none ∧ ∃ (a0_0r : Option Addr) (c0_0r : Nat), ∃ (X0_0r : Nat → Prop), v = tup [(.agg #[(.bool r0.1), (.slice a0_0r (length r0.2) c0_0r)])] ∧ Rd (iE .i64) w' X0_0r a0_0r c0_0r r0.2 ∧ (∀ k, X0_0r k → k < w'.heap.size ∧ (X0 k ∨ w0.heap.size ≤ k))) := by
 have hB0 : Below w0.heap.size w0 w0 := Below.refl _ _
 unfold ref3_Int_Moved at h0
 refine calls_run Tryz.func28 rfl Tryz.ntmps28 (by kernel_rfl) ?_
 refine gv_sub [0, 1] (σ' := [(0, (.agg #[(.bool a_0.1), (.slice pa0_0 (length a_0.2) pc0_0)])), (1, (.int .i64 n_1))]) (by kernel_rfl) ?_
 refine gv_seq <| gv_region <| gv_new0 (fun b => .pointer (some ⟨b, 0, none⟩)) #[(.bool a_0.1), (.slice pa0_0 (length a_0.2) pc0_0)] 57 (by kernel_rfl) (by kernel_rfl) ?_
 intro b1 w2 hg3 hb4 hbe5 hz6
 refine gv_new0 (fun b => .pointer (some ⟨b, 0, none⟩)) #[(.bool false), (.slice none (length ([] : List Int)) 0)] 57 (by kernel_rfl) (by kernel_rfl) ?_
 intro b7 w8 hg9 hb10 hbe11 hz12
 refine gv_nil <| gv_seq <| gv_seq <| gv_region <| bindE h0 ?_; clear h0; intro j13 h1 h0
 refine gv_cut_ops (J := fun a w14 => Below w0.heap.size w0 w14 ∧ w8.heap.size ≤ w14.heap.size ∧ Box w14 b1 57 #[(.bool a_0.1), (.slice pa0_0 (length a_0.2) pc0_0)] ∧ Box w14 b7 57 #[(.bool false), (.slice none (length ([] : List Int)) 0)] ∧ a.defers = [] ∧ a.tmps.size = 28 ∧ Ok [(1, (.int .i64 n_1)), (2, (bp b1)), (4, (bp b7)), (11, (.bool j13))] a.tmps) ?_ ?_
 ·skip
  refine pN 1 [5] [(5, (bp b1))] ?_
  have hk15 := hb4.grown hg9 nb
  refine gv_load (t := 4) (A := ⟨b1, 0, none⟩) (.bool a_0.1) [] (fun e => by cases e) rfl rfl rfl (by kernel_rfl) (by kernel_rfl) (by kernel_rfl) (inw0 (hk15.cell 0 rfl)) rfl ?_
  refine pN 2 [7, 8] [(8, (.bool (!a_0.1)))] ?_
  refine gv_split (s := 8) (g := (!a_0.1)) (by kernel_rfl) (fun hc16 => ?_) (fun hc16 => ?_)
  ·skip
   replace h1 := ite_t hc16 h1
   refine pN 3 [9, 10, 11] [(11, (.bool true))] ?_
   refine gv_nil ?_
   have e := sj h1; subst e
   refine gv_goal fun a hd hs hok => ?_
   have hg17 := (grown_trans hg3 hg9)
   have hB18 := bg hB0 hg17 nb
   exact ⟨hB18, nrf, hk15, hb10, hd, hs, okp [1, 2, 4, 11] hok⟩
  ·skip
   replace h1 := ite_f hc16 h1
   refine pN 3 [9, 10, 11] [(11, (.bool (decide (n_1 ≥ 0))))] ?_
   refine gv_nil ?_
   have e := sj h1; subst e
   refine gv_goal fun a hd hs hok => ?_
   have hg19 := (grown_trans hg3 hg9)
   have hB20 := bg hB0 hg19 nb
   exact ⟨hB20, nrf, hk15, hb10, hd, hs, okp [1, 2, 4, 11] hok⟩
 ·rintro a w14 ⟨hB21, hz22, hb23, hb24, hd, hs, hok⟩
  refine gv_in ?_ hd hs hok
  clear hd hs hok
  clear hz22 hz12 hb10 hg9 hz6
  refine gv_cond (b := j13) (by kernel_rfl) (fun hc25 => ?_) (fun hc25 => ?_)
  ·replace h0 := ite_t hc25 h0
   refine gv_seq <| gv_drawA (by kernel_rfl) ?_
   intro w26 hg27
   refine gv_pre [0, 2, 4] (bA 8 [0, 2, 4]) 5 (by kernel_rfl) (by kernel_rfl) ?_
   refine pN 3 [12, 14, 16] [(12, (bp b1)), (14, (.pointer (some ⟨b1, 1, none⟩))), (16, (.int .i64 n_1))] ?_
   refine gv_nil <| gv_goA ?_
   refine gv_stage (Cls w26 []) [0, 1, 2, 3, 4, 5] [(1, some true), (3, some true), (5, some false)] (bA 8 [0, 1, 2, 3, 4, 5]) 2 (by kernel_rfl) (by kernel_rfl) (Cls.refl _ _) ?_
   have hC28 := Cls.refl w26 []
   have hk29 := hb23.grown hg27 nb
   refine gv_load (t := 4) (A := ⟨b1, 0, none⟩) (.bool a_0.1) [] (fun e => by cases e) rfl rfl rfl (by kernel_rfl) (by kernel_rfl) (by kernel_rfl) (inw1 fun w' hC' => ((hC'.box hk29 nm_nil).cell 0 rfl)) rfl ?_
   refine gv_load (t := 55) (A := ⟨b1, 1, none⟩) (.slice pa0_0 (length a_0.2) pc0_0) [] (fun e => by cases e) rfl rfl rfl (by kernel_rfl) (by kernel_rfl) (by kernel_rfl) (inw1 fun w' hC' => ((hC'.box hk29 nm_nil).cell 1 rfl)) rfl ?_
   refine bindE h0 ?_; clear h0; intro r30 hr31 h0
   have hB32 := bg hB21 hg27 nb
   refine gv_call (f := 52) (vs := [(.slice pa0_0 (length a_0.2) pc0_0), (.int .i64 n_1)]) (cap := []) _ (by decide) rfl rfl rfl (by kernel_rfl) (by kernel_rfl) enters52 (ref3_Moved_ok fuel pa0_0 pc0_0 a_0.2 n_1 w26 (fun k => X0 k) (fun k hk => (fun k (hk : X0 k) => ltl (hX0 k hk) hB32.size) k hk) ((hpa0_0.below hB32 hX0).wide (fun k hk => hk)) r30 hr31) ?_
   rintro v35 w33 ⟨hg34, a36, c37, X39, rfl, ho38, hx40⟩
   refine ⟨(fun _ => hC28.grown hg34 nb), ?_⟩
   have hx41 : ∀ k, X39 k → k < w33.heap.size := fun k hk => (hx40 k hk).1
   have hx42 : ∀ k, X39 k → X0 k ∨ w0.heap.size ≤ k := fun k hk => (hx40 k hk).2.elim (fun h => (fun k (hk : X0 k) => Or.inl hk) k h) (fun h => .inr (Nat.le_trans hB32.size h))
   refine gv_nil <| gv_goA ?_
   refine gv_pre [6] (bA 8 [0, 1, 2, 3, 4, 5, 6]) 1 (by kernel_rfl) (by kernel_rfl) ?_
   refine pN 1 [18] [(18, (.agg #[(.bool a_0.1), (.slice a36 (length r30) c37)]))] ?_
   refine gv_nil <| gv_goA ?_
   refine gv_stage (fun _ => True) [0, 1, 2, 3, 4, 5, 6, 7] [(7, some false)] (bA 8 [0, 1, 2, 3, 4, 5, 6, 7]) 0 (by kernel_rfl) (by kernel_rfl) trivial ?_
   have hg47 := (grown_trans hg27 hg34)
   have hk48 := hb24.grown hg47 nb
   refine gv_store (t := 57) (b := b7) (off := 0) (v := (.agg #[(.bool a_0.1), (.slice a36 (length r30) c37)])) (t' := 57) (cs := #[(.bool false), (.slice none (length ([] : List Int)) 0)]) #[(.bool a_0.1), (.slice a36 (length r30) c37)] (by decide) rfl rfl (by kernel_rfl) (by kernel_rfl) (by kernel_rfl) (by intro u hu; simp [Value.cells] at hu; rcases hu with rfl | rfl <;> rfl) (show 0 + 2 ≤ 2 by decide) (by rfl) hk48 ?_
   intro w43 hg44 hb45 hz46
   refine ⟨(fun _ => trivial), ?_⟩
   refine gv_nil <| gv_goA ?_
   refine gv_stageE (by kernel_rfl) ?_
   refine gv_cret ?_
   have e := sj h0; subst e
   refine gv_ret (gv_done [(.agg #[(.bool a_0.1), (.slice a36 (length r30) c37)])] rfl ⟨⟨⟨b7, 0, none⟩, (by kernel_rfl), run_loadVar_row w43 b7 _ 57 _ _ _ hb45 Tryz.underlying57 rfl (by kernel_rfl)⟩, trivial⟩ ?_)
   have hB49 := bg hB32 hg34 nb
   have hB50 := bg hB0 hg3 nb
   have hlo51 : w0.heap.size ≤ b7 := lob hbe11 hB50.size
   have hB52 := bg hB49 hg44 (rowlo hlo51)
   have hk53 := hb24.grown hg27 nb
   have ap54 : ¬ X39 b7 := fun h => ((hx40 _ h).2.elim (fun h => ((fun (hx : X0 b7) => nl hlo51 (hX0 _ hx)))  h) (fun h => nl h (hk53.lt)))
   have hk55 := ho38.grown hg44 hx41 (rowne ap54)
   have hx56 := ltx hx41 hg44.size
   exact ⟨grown_of_below hB52, a36, c37, X39, rfl, hk55, (fun k hk => ⟨hx56 k hk, hx42 k hk⟩)⟩
  ·replace h0 := ite_f hc25 h0
   refine gv_skip <| gv_seq <| gv_drawA (by kernel_rfl) ?_
   intro w57 hg58
   refine gv_pre [0, 4] (bA 10 [0, 4]) 8 (by kernel_rfl) (by kernel_rfl) ?_
   refine pN 2 [19, 23] [(19, (.pointer (some ⟨b1, 1, none⟩))), (23, (.int .i64 n_1))] ?_
   refine gv_nil <| gv_goA ?_
   refine gv_stage (Cls w57 []) [0, 1, 2, 4] [(1, some true), (2, some false)] (bA 10 [0, 1, 2, 4]) 6 (by kernel_rfl) (by kernel_rfl) (Cls.refl _ _) ?_
   have hC59 := Cls.refl w57 []
   have hk60 := hb23.grown hg58 nb
   refine gv_load (t := 55) (A := ⟨b1, 1, none⟩) (.slice pa0_0 (length a_0.2) pc0_0) [] (fun e => by cases e) rfl rfl rfl (by kernel_rfl) (by kernel_rfl) (by kernel_rfl) (inw1 fun w' hC' => ((hC'.box hk60 nm_nil).cell 1 rfl)) rfl ?_
   refine bindE h0 ?_; clear h0; intro r61 hr62 h0
   refine gv_call (f := 53) (vs := [(.int .i64 1)]) (cap := []) _ (by decide) rfl rfl rfl (by kernel_rfl) (by kernel_rfl) enters53 (ref3_Small_ok fuel 1 w57  r61 hr62) ?_
   rintro v65 w63 ⟨hg64, a66, c67, rfl, ho68, hl69⟩
   refine ⟨(fun _ => hC59.grown hg64 nb), ?_⟩
   have hB71 := bg hB21 hg58 nb
   have hl70 : ∀ g, blk a66 = some g → w0.heap.size ≤ g := fun g e => Nat.le_trans hB71.size (hl69 g e)
   refine gv_nil <| gv_goA ?_
   refine gv_stage (fun _ => True) [0, 1, 2, 3, 4] [(3, some false)] (bA 10 [0, 1, 2, 3, 4]) 5 (by kernel_rfl) (by kernel_rfl) trivial ?_
   refine bindE h0 ?_; clear h0; intro r72 hr73 h0
   have hB74 := bg hB71 hg64 nb
   refine gv_call (f := 48) (vs := [(.slice pa0_0 (length a_0.2) pc0_0), (.slice a66 (length r61) c67)]) (cap := []) _ (by decide) rfl rfl rfl (by kernel_rfl) (by kernel_rfl) enters48 (ref3_Minus_ok fuel pa0_0 pc0_0 a_0.2 a66 c67 r61 w63 (fun k => X0 k ∨ (fun k => blk a66 = some k) k) (fun k hk => (hk).elim (fun h => (fun k (hk : X0 k) => ltl (hX0 k hk) hB74.size) k h) (fun h => (fun k (hk : blk a66 = some k) => ho68.lt k hk) k h)) ((hpa0_0.below hB74 hX0).wide (fun k hk => (.inl hk))) ((ho68.rd (Y := fun k => blk a66 = some k) (fun _ h => h.elim) (fun g e => e)).wide (fun k hk => (.inr hk))) r72 hr73) ?_
   rintro v77 w75 ⟨hg76, a78, c79, X81, rfl, ho80, hx82⟩
   refine ⟨(fun _ => trivial), ?_⟩
   have hx83 : ∀ k, X81 k → k < w75.heap.size := fun k hk => (hx82 k hk).1
   have hx84 : ∀ k, X81 k → X0 k ∨ w0.heap.size ≤ k := fun k hk => (hx82 k hk).2.elim (fun h => (h).elim (fun h => (fun k (hk : X0 k) => Or.inl hk) k h) (fun h => (fun k (hk : blk a66 = some k) => Or.inr (hl70 k hk)) k h)) (fun h => .inr (Nat.le_trans hB74.size h))
   clear hr73 hB71 hr62 hC59 hc25 hb23 hB21 hb4
   refine gv_nil <| gv_goA ?_
   refine gv_stage (fun _ => True) [0, 1, 2, 3, 4, 5] [(5, some false)] (bA 10 [0, 1, 2, 3, 4, 5]) 4 (by kernel_rfl) (by kernel_rfl) trivial ?_
   refine bindE h0 ?_; clear h0; intro r85 hr86 h0
   refine gv_call (f := 52) (vs := [(.slice a78 (length r72) c79), (.int .i64 n_1)]) (cap := []) _ (by decide) rfl rfl rfl (by kernel_rfl) (by kernel_rfl) enters52 (ref3_Moved_ok fuel a78 c79 r72 n_1 w75 (fun k => X81 k) (fun k hk => hx83 k hk) (ho80.wide (fun k hk => hk)) r85 hr86) ?_
   rintro v89 w87 ⟨hg88, a90, c91, X93, rfl, ho92, hx94⟩
   refine ⟨(fun _ => trivial), ?_⟩
   have hx95 : ∀ k, X93 k → k < w87.heap.size := fun k hk => (hx94 k hk).1
   have hB97 := bg hB74 hg76 nb
   have hx96 : ∀ k, X93 k → X0 k ∨ w0.heap.size ≤ k := fun k hk => (hx94 k hk).2.elim (fun h => hx84 k h) (fun h => .inr (Nat.le_trans hB97.size h))
   refine gv_nil <| gv_goA ?_
   refine gv_stage (fun _ => True) [0, 1, 2, 3, 4, 5, 6] [(6, some false)] (bA 10 [0, 1, 2, 3, 4, 5, 6]) 3 (by kernel_rfl) (by kernel_rfl) trivial ?_
   refine bindE h0 ?_; clear h0; intro r98 hr99 h0
   refine gv_call (f := 53) (vs := [(.int .i64 1)]) (cap := []) _ (by decide) rfl rfl rfl (by kernel_rfl) (by kernel_rfl) enters53 (ref3_Small_ok fuel 1 w87  r98 hr99) ?_
   rintro v102 w100 ⟨hg101, a103, c104, rfl, ho105, hl106⟩
   refine ⟨(fun _ => trivial), ?_⟩
   have hB108 := bg hB97 hg88 nb
   have hl107 : ∀ g, blk a103 = some g → w0.heap.size ≤ g := fun g e => Nat.le_trans hB108.size (hl106 g e)
   refine gv_nil <| gv_goA ?_
   refine gv_stage (fun _ => True) [0, 1, 2, 3, 4, 5, 6, 7] [(7, some false)] (bA 10 [0, 1, 2, 3, 4, 5, 6, 7]) 2 (by kernel_rfl) (by kernel_rfl) trivial ?_
   refine bindE h0 ?_; clear h0; intro r109 hr110 h0
   have hx111 := ltx hx95 hg101.size
   have hk112 := ho92.grown hg101 hx95 nb
   refine gv_call (f := 46) (vs := [(.slice a90 (length r85) c91), (.slice a103 (length r98) c104)]) (cap := []) _ (by decide) rfl rfl rfl (by kernel_rfl) (by kernel_rfl) enters46 (ref3_Plus_ok fuel a90 c91 r85 a103 c104 r98 w100 (fun k => X93 k ∨ (fun k => blk a103 = some k) k) (fun k hk => (hk).elim (fun h => hx111 k h) (fun h => (fun k (hk : blk a103 = some k) => ho105.lt k hk) k h)) (hk112.wide (fun k hk => (.inl hk))) ((ho105.rd (Y := fun k => blk a103 = some k) (fun _ h => h.elim) (fun g e => e)).wide (fun k hk => (.inr hk))) r109 hr110) ?_
   rintro v115 w113 ⟨hg114, a116, c117, X119, rfl, ho118, hx120⟩
   refine ⟨(fun _ => trivial), ?_⟩
   have hx121 : ∀ k, X119 k → k < w113.heap.size := fun k hk => (hx120 k hk).1
   have hB123 := bg hB108 hg101 nb
   have hx122 : ∀ k, X119 k → X0 k ∨ w0.heap.size ≤ k := fun k hk => (hx120 k hk).2.elim (fun h => (h).elim (fun h => hx96 k h) (fun h => (fun k (hk : blk a103 = some k) => Or.inr (hl107 k hk)) k h)) (fun h => .inr (Nat.le_trans hB123.size h))
   refine gv_nil <| gv_goA ?_
   refine gv_pre [8] (bA 10 [0, 1, 2, 3, 4, 5, 6, 7, 8]) 1 (by kernel_rfl) (by kernel_rfl) ?_
   refine pN 1 [27] [(27, (.agg #[(.bool true), (.slice a116 (length r109) c117)]))] ?_
   refine gv_nil <| gv_goA ?_
   refine gv_stage (fun _ => True) [0, 1, 2, 3, 4, 5, 6, 7, 8, 9] [(9, some false)] (bA 10 [0, 1, 2, 3, 4, 5, 6, 7, 8, 9]) 0 (by kernel_rfl) (by kernel_rfl) trivial ?_
   have hg128 := (grown_trans (grown_trans (grown_trans (grown_trans (grown_trans hg58 hg64) hg76) hg88) hg101) hg114)
   have hk129 := hb24.grown hg128 nb
   refine gv_store (t := 57) (b := b7) (off := 0) (v := (.agg #[(.bool true), (.slice a116 (length r109) c117)])) (t' := 57) (cs := #[(.bool false), (.slice none (length ([] : List Int)) 0)]) #[(.bool true), (.slice a116 (length r109) c117)] (by decide) rfl rfl (by kernel_rfl) (by kernel_rfl) (by kernel_rfl) (by intro u hu; simp [Value.cells] at hu; rcases hu with rfl | rfl <;> rfl) (show 0 + 2 ≤ 2 by decide) (by rfl) hk129 ?_
   intro w124 hg125 hb126 hz127
   refine ⟨(fun _ => trivial), ?_⟩
   refine gv_nil <| gv_goA ?_
   refine gv_stageE (by kernel_rfl) ?_
   refine gv_cret ?_
   have e := sj h0; subst e
   refine gv_ret (gv_done [(.agg #[(.bool true), (.slice a116 (length r109) c117)])] rfl ⟨⟨⟨b7, 0, none⟩, (by kernel_rfl), run_loadVar_row w124 b7 _ 57 _ _ _ hb126 Tryz.underlying57 rfl (by kernel_rfl)⟩, trivial⟩ ?_)
   have hB130 := bg hB123 hg114 nb
   have hB131 := bg hB0 hg3 nb
   have hlo132 : w0.heap.size ≤ b7 := lob hbe11 hB131.size
   have hB133 := bg hB130 hg125 (rowlo hlo132)
   have hk134 := hb24.grown hg58 nb
   have ap135 : ¬ (fun k => blk a66 = some k) b7 := fun hx => nl ((show ∀ k, blk a66 = some k → w57.heap.size ≤ k from hl69) _ hx) ((ltb hk134) _ rfl)
   have hk136 := hk134.grown hg64 nb
   have ap137 : ¬ X81 b7 := fun h => ((hx82 _ h).2.elim (fun h => (h).elim (fun h => ((fun (hx : X0 b7) => nl hlo132 (hX0 _ hx)))  h) (fun h => (ap135)  h)) (fun h => nl h (hk136.lt)))
   have hk138 := hk136.grown hg76 nb
   have ap139 : ¬ X93 b7 := fun h => ((hx94 _ h).2.elim (fun h => (ap137)  h) (fun h => nl h (hk138.lt)))
   have hk140 := hk138.grown hg88 nb
   have ap141 : ¬ (fun k => blk a103 = some k) b7 := fun hx => nl ((show ∀ k, blk a103 = some k → w87.heap.size ≤ k from hl106) _ hx) ((ltb hk140) _ rfl)
   have hk142 := hk140.grown hg101 nb
   have ap143 : ¬ X119 b7 := fun h => ((hx120 _ h).2.elim (fun h => (h).elim (fun h => (ap139)  h) (fun h => (ap141)  h)) (fun h => nl h (hk142.lt)))
   have hk144 := ho118.grown hg125 hx121 (rowne ap143)
   have hx145 := ltx hx121 hg125.size
   exact ⟨grown_of_below hB133, a116, c117, X119, rfl, hk144, (fun k hk => ⟨hx145 k hk, hx122 k hk⟩)⟩

theorem ref4_bounds_ok (fuel : Nat) (code_0 : Int) (w0 : World)  (r0 : ((Bool × (List Int)) × (Bool × (List Int)))) (h0 : ref4_bounds fuel code_0 = some r0) :
    Calls Tryz.prog 26 ([(.int .u8 code_0)] : List Value).toArray w0 (Ret fun v w' => w0.grownBy w' none ∧ ∃ (a0_0r : Option Addr) (c0_0r : Nat), ∃ (X0_0r : Nat → Prop), ∃ (a1_0r : Option Addr) (c1_0r : Nat), ∃ (X1_0r : Nat → Prop), v = tup [(.agg #[(.bool r0.1.1), (.slice a0_0r (length r0.1.2) c0_0r)]), (.agg #[(.bool r0.2.1), (.slice a1_0r (length r0.2.2) c1_0r)])] ∧ Rd (iE .i64) w' X0_0r a0_0r c0_0r r0.1.2 ∧ (∀ k, X0_0r k → k < w'.heap.size ∧ ((fun _ => False) k ∨ w0.heap.size ≤ k)) ∧ Rd (iE .i64) w' X1_0r a1_0r c1_0r r0.2.2 ∧ (∀ k, X1_0r k → k < w'.heap.size ∧ ((fun _ => False) k ∨ w0.heap.size ≤ k))) := by
 have hB0 : Below w0.heap.size w0 w0 := Below.refl _ _
 unfold ref4_bounds at h0
 refine calls_run Tryz.func26 rfl Tryz.ntmps26 (by kernel_rfl) ?_
 refine gv_sub [0] (σ' := [(0, (.int .u8 code_0))]) (by kernel_rfl) ?_
 refine gv_seq <| gv_region <| gv_new0 (fun b => .pointer (some ⟨b, 0, none⟩)) #[(.bool false), (.slice none (length ([] : List Int)) 0)] 57 (by kernel_rfl) (by kernel_rfl) ?_
 intro b1 w2 hg3 hb4 hbe5 hz6
 refine gv_new0 (fun b => .pointer (some ⟨b, 0, none⟩)) #[(.bool false), (.slice none (length ([] : List Int)) 0)] 57 (by kernel_rfl) (by kernel_rfl) ?_
 intro b7 w8 hg9 hb10 hbe11 hz12
 refine gv_nil <| gv_seq <| gv_region <| pN 1 [7] [(7, (.int .u8 code_0))] ?_
 refine bindE h0 ?_; clear h0; intro r13 hr14 h0
 refine gv_call0 (by kernel_rfl) rfl (by kernel_rfl) enters18 (ref4_widthOf_ok fuel code_0 w8  r13 hr14) ?_
 rintro v17 w15 ⟨hg16, rfl⟩
 refine pN 2 [4, 9] [(4, (.int .i64 (IntKind.i64.wrap (8 * r13))))] ?_
 refine gv_nil <| gv_seq <| gv_seq <| gv_region <| pN 2 [10, 11] [(11, (.bool (code_0 == 118)))] ?_
 refine gv_nil <| bindE h0 ?_; clear h0; intro j18 h1 h0
 refine gv_cut_code (J := fun a w19 => Below w0.heap.size w0 w19 ∧ w15.heap.size ≤ w19.heap.size ∧ Box w19 b1 57 #[(.bool false), (.slice none (length ([] : List Int)) 0)] ∧ Box w19 b7 57 #[(.bool false), (.slice none (length ([] : List Int)) 0)] ∧ a.defers = [] ∧ a.tmps.size = 30 ∧ Ok [(0, (.int .u8 code_0)), (2, (bp b1)), (3, (bp b7)), (4, (.int .i64 j18))] a.tmps) ?_ ?_
 ·skip
  refine gv_cond (b := (code_0 == 118)) (by kernel_rfl) (fun hc20 => ?_) (fun hc20 => ?_)
  ·replace h1 := ite_t hc20 h1
   refine gv_region <| pN 1 [4] [(4, (.int .i64 64))] ?_
   refine gv_nil ?_
   have e := sj h1; subst e
   refine gv_goal fun a hd hs hok => ?_
   have hg21 := (grown_trans (grown_trans hg3 hg9) hg16)
   have hB22 := bg hB0 hg21 nb
   have hg23 := (grown_trans hg9 hg16)
   have hk24 := hb4.grown hg23 nb
   have hk25 := hb10.grown hg16 nb
   exact ⟨hB22, nrf, hk24, hk25, hd, hs, okp [0, 2, 3, 4] hok⟩
  ·replace h1 := ite_f hc20 h1
   refine gv_skip ?_
   have e := sj h1; subst e
   refine gv_goal fun a hd hs hok => ?_
   have hg26 := (grown_trans (grown_trans hg3 hg9) hg16)
   have hB27 := bg hB0 hg26 nb
   have hg28 := (grown_trans hg9 hg16)
   have hk29 := hb4.grown hg28 nb
   have hk30 := hb10.grown hg16 nb
   exact ⟨hB27, nrf, hk29, hk30, hd, hs, okp [0, 2, 3, 4] hok⟩
 ·rintro a w19 ⟨hB31, hz32, hb33, hb34, hd, hs, hok⟩
  refine gv_in ?_ hd hs hok
  clear hd hs hok
  clear hz32 hg16 hr14 hz12 hb10 hg9 hz6
  refine gv_seq <| gv_region <| bindE h0 ?_; clear h0; intro r35 hr36 h0
  refine gv_call0 (by kernel_rfl) rfl (by kernel_rfl) enters20 (ref3_Number_ok fuel 1 w19  r35 hr36) ?_
  rintro v39 w37 ⟨hg38, a40, c41, X43, rfl, ho42, hx44⟩
  have hx45 : ∀ k, X43 k → k < w37.heap.size := fun k hk => (hx44 k hk).1
  have hx46 : ∀ k, X43 k → (fun _ => False) k ∨ w0.heap.size ≤ k := fun k hk => (hx44 k hk).2.elim (fun h => h.elim) (fun h => .inr (Nat.le_trans hB31.size h))
  refine gv_new0 (fun b => .pointer (some ⟨b, 0, none⟩)) #[(.bool false), (.slice none (length ([] : List Int)) 0)] 57 (by kernel_rfl) (by kernel_rfl) ?_
  intro b47 w48 hg49 hb50 hbe51 hz52
  refine gv_store0 57 0 (.agg #[(.bool r35.1), (.slice a40 (length r35.2) c41)]) #[(.bool r35.1), (.slice a40 (length r35.2) c41)] hb50 (by kernel_rfl) (by kernel_rfl) (by kernel_rfl) ?_
  intro w53 hg54 hb55 hz56
  refine gv_nil <| gv_seq <| gv_seq <| gv_region <| pN 2 [13, 14] [(14, (.bool (decide (code_0 < 97))))] ?_
  refine gv_nil <| gv_cond (b := (decide (code_0 < 97))) (by kernel_rfl) (fun hc57 => ?_) (fun hc57 => ?_)
  ·replace h0 := ite_t hc57 h0
   refine gv_seq <| gv_region <| pN 1 [15] [(15, (.agg #[(.bool false), (.slice none (length ([] : List Int)) 0)]))] ?_
   refine gv_loadBox (t := 57) (b := b47) (t' := 57) (fr := (0, 0)) #[(.bool r35.1), (.slice a40 (length r35.2) c41)] [] (fun e => by cases e) rfl rfl rfl (by kernel_rfl) (by kernel_rfl) (by kernel_rfl) (by kernel_rfl) (inw0 hb55) rfl ?_
   refine pN 1 [17] [(17, (.int .i64 j18))] ?_
   refine bindE h0 ?_; clear h0; intro r58 hr59 h0
   have hx60 := ltx (ltx hx45 hg49.size) hg54.size
   have ap61 : ¬ X43 b47 := fun hx => nl ((lowb hbe51) _ rfl) (hx45 _ hx)
   have hx62 := ltx hx45 hg49.size
   have hk63 := (ho42.grown hg49 hx45 nb).grown hg54 hx62 (rowne ap61)
   refine gv_call0 (by kernel_rfl) rfl (by kernel_rfl) enters28 (ref3_Int_Moved_ok fuel a40 c41 (r35.1, r35.2) j18 w53 (fun k => X43 k) (fun k hk => hx60 k hk) (hk63.wide (fun k hk => hk)) r58 hr59) ?_
   rintro v66 w64 ⟨hg65, a67, c68, X70, rfl, ho69, hx71⟩
   have hx72 : ∀ k, X70 k → k < w64.heap.size := fun k hk => (hx71 k hk).1
   have hg74 := (grown_trans hg38 hg49)
   have hB75 := bg hB31 hg74 nb
   have hB76 := bg hB31 hg38 nb
   have hlo77 : w0.heap.size ≤ b47 := lob hbe51 hB76.size
   have hB78 := bg hB75 hg54 (rowlo hlo77)
   have hx73 : ∀ k, X70 k → (fun _ => False) k ∨ w0.heap.size ≤ k := fun k hk => (hx71 k hk).2.elim (fun h => hx46 k h) (fun h => .inr (Nat.le_trans hB78.size h))
   refine bindE h0 ?_; clear h0; intro r79 hr80 h0
   refine gv_call0 (by kernel_rfl) rfl (by kernel_rfl) enters20 (ref3_Number_ok fuel (-1) w64  r79 hr80) ?_
   rintro v83 w81 ⟨hg82, a84, c85, X87, rfl, ho86, hx88⟩
   have hx89 : ∀ k, X87 k → k < w81.heap.size := fun k hk => (hx88 k hk).1
   have hB91 := bg hB78 hg65 nb
   have hx90 : ∀ k, X87 k → (fun _ => False) k ∨ w0.heap.size ≤ k := fun k hk => (hx88 k hk).2.elim (fun h => h.elim) (fun h => .inr (Nat.le_trans hB91.size h))
   clear hr80 hB78 hlo77 hB76 hB75 hg74 hk63 hx62 ap61 hx60 hr59 hc57 hz56 hb55 hz52 hb50 hx46 hx45 ho42 hr36 hB31
   refine bindE h0 ?_; clear h0; intro r92 hr93 h0
   have hx94 := ltx hx72 hg82.size
   have hk95 := ho69.grown hg82 hx72 nb
   refine gv_call0 (by kernel_rfl) rfl (by kernel_rfl) enters21 (ref3_Int_Plus_ok fuel a67 c68 (r58.1, r58.2) a84 c85 (r79.1, r79.2) w81 (fun k => X70 k ∨ X87 k) (fun k hk => (hk).elim (fun h => hx94 k h) (fun h => hx89 k h)) (hk95.wide (fun k hk => (.inl hk))) (ho86.wide (fun k hk => (.inr hk))) r92 hr93) ?_
   rintro v98 w96 ⟨hg97, a99, c100, X102, rfl, ho101, hx103⟩
   have hx104 : ∀ k, X102 k → k < w96.heap.size := fun k hk => (hx103 k hk).1
   have hB106 := bg hB91 hg82 nb
   have hx105 : ∀ k, X102 k → (fun _ => False) k ∨ w0.heap.size ≤ k := fun k hk => (hx103 k hk).2.elim (fun h => (h).elim (fun h => hx73 k h) (fun h => hx90 k h)) (fun h => .inr (Nat.le_trans hB106.size h))
   have hg111 := (grown_trans hg38 hg49)
   have lt112 := ltl ((ltb hb4) _ rfl) ((lowb hbe11) _ rfl)
   have hk113 := hb34.grown hg38 nb
   have lt114 := ltl ((ltb hk113) _ rfl) ((lowb hbe51) _ rfl)
   have lt115 := ltt lt112 lt114
   have hg116 := (grown_trans (grown_trans hg65 hg82) hg97)
   have hk117 := ((hb33.grown hg111 nb).grown hg54 (rowne (ng lt115))).grown hg116 nb
   refine gv_store0 57 0 (.agg #[(.bool false), (.slice none (length ([] : List Int)) 0)]) #[(.bool false), (.slice none (length ([] : List Int)) 0)] hk117 (by kernel_rfl) (by kernel_rfl) (by kernel_rfl) ?_
   intro w107 hg108 hb109 hz110
   have hk122 := (((hk113.grown hg49 nb).grown hg54 (rowne (ng lt114))).grown hg116 nb).grown hg108 (rowne (Nat.ne_of_lt lt112))
   refine gv_store0 57 0 (.agg #[(.bool r92.1), (.slice a99 (length r92.2) c100)]) #[(.bool r92.1), (.slice a99 (length r92.2) c100)] hk122 (by kernel_rfl) (by kernel_rfl) (by kernel_rfl) ?_
   intro w118 hg119 hb120 hz121
   refine gv_nil <| gv_cret ?_
   have e := sj h0; subst e
   have hk123 := hb109.grown hg119 (rowne (ng lt112))
   refine gv_ret (gv_done [(.agg #[(.bool false), (.slice none (length ([] : List Int)) 0)]), (.agg #[(.bool r92.1), (.slice a99 (length r92.2) c100)])] rfl ⟨⟨⟨b1, 0, none⟩, (by kernel_rfl), run_loadVar_row w118 b1 _ 57 _ _ _ hk123 Tryz.underlying57 rfl (by kernel_rfl)⟩, ⟨⟨b7, 0, none⟩, (by kernel_rfl), run_loadVar_row w118 b7 _ 57 _ _ _ hb120 Tryz.underlying57 rfl (by kernel_rfl)⟩, trivial⟩ ?_)
   have hB124 := bg hB106 hg97 nb
   have hlo125 : w0.heap.size ≤ b1 := lob hbe5 hB0.size
   have hB126 := bg hB124 hg108 (rowlo hlo125)
   have hB127 := bg hB0 hg3 nb
   have hlo128 : w0.heap.size ≤ b7 := lob hbe11 hB127.size
   have hB129 := bg hB126 hg119 (rowlo hlo128)
   have ap130 : ¬ X43 b1 := fun h => ((hx44 _ h).2.elim (fun h => h.elim) (fun h => nl h (hb33.lt)))
   have hk131 := (hb33.grown hg111 nb).grown hg54 (rowne (ng lt115))
   have ap132 : ¬ X70 b1 := fun h => ((hx71 _ h).2.elim (fun h => (ap130)  h) (fun h => nl h (hk131.lt)))
   have hk133 := hk131.grown hg65 nb
   have ap134 : ¬ X87 b1 := fun h => ((hx88 _ h).2.elim (fun h => h.elim) (fun h => nl h (hk133.lt)))
   have hk135 := hk133.grown hg82 nb
   have ap136 : ¬ X102 b1 := fun h => ((hx103 _ h).2.elim (fun h => (h).elim (fun h => (ap132)  h) (fun h => (ap134)  h)) (fun h => nl h (hk135.lt)))
   have ap137 : ¬ X43 b7 := fun h => ((hx44 _ h).2.elim (fun h => h.elim) (fun h => nl h (hb34.lt)))
   have hk138 := (hk113.grown hg49 nb).grown hg54 (rowne (ng lt114))
   have ap139 : ¬ X70 b7 := fun h => ((hx71 _ h).2.elim (fun h => (ap137)  h) (fun h => nl h (hk138.lt)))
   have hk140 := hk138.grown hg65 nb
   have ap141 : ¬ X87 b7 := fun h => ((hx88 _ h).2.elim (fun h => h.elim) (fun h => nl h (hk140.lt)))
   have hk142 := hk140.grown hg82 nb
   have ap143 : ¬ X102 b7 := fun h => ((hx103 _ h).2.elim (fun h => (h).elim (fun h => (ap139)  h) (fun h => (ap141)  h)) (fun h => nl h (hk142.lt)))
   have hx144 := ltx hx104 hg108.size
   have hk145 := (ho101.grown hg108 hx104 (rowne ap136)).grown hg119 hx144 (rowne ap143)
   have hx146 := ltx hx144 hg119.size
   exact ⟨grown_of_below hB129, none, 0, (fun _ => False), a99, c100, X102, rfl, (Rd.nil (iE .i64) w118 (fun _ => False) none 0), (fun k hk => ⟨(fun _ h => h.elim) k hk, (fun _ h => h.elim) k hk⟩), hk145, (fun k hk => ⟨hx146 k hk, hx105 k hk⟩)⟩
  ·replace h0 := ite_f hc57 h0
   refine gv_skip <| gv_seq <| gv_region <| gv_loadBox (t := 57) (b := b47) (t' := 57) (fr := (0, 0)) #[(.bool r35.1), (.slice a40 (length r35.2) c41)] [] (fun e => by cases e) rfl rfl rfl (by kernel_rfl) (by kernel_rfl) (by kernel_rfl) (by kernel_rfl) (inw0 hb55) rfl ?_
   refine pN 2 [22, 23] [(23, (.int .i64 (IntKind.i64.wrap (j18 - 1))))] ?_
   refine bindE h0 ?_; clear h0; intro r147 hr148 h0
   have hx149 := ltx (ltx hx45 hg49.size) hg54.size
   have ap150 : ¬ X43 b47 := fun hx => nl ((lowb hbe51) _ rfl) (hx45 _ hx)
   have hx151 := ltx hx45 hg49.size
   have hk152 := (ho42.grown hg49 hx45 nb).grown hg54 hx151 (rowne ap150)
   refine gv_call0 (by kernel_rfl) rfl (by kernel_rfl) enters28 (ref3_Int_Moved_ok fuel a40 c41 (r35.1, r35.2) (IntKind.i64.wrap (j18 - 1)) w53 (fun k => X43 k) (fun k hk => hx149 k hk) (hk152.wide (fun k hk => hk)) r147 hr148) ?_
   rintro v155 w153 ⟨hg154, a156, c157, X159, rfl, ho158, hx160⟩
   have hx161 : ∀ k, X159 k → k < w153.heap.size := fun k hk => (hx160 k hk).1
   have hg163 := (grown_trans hg38 hg49)
   have hB164 := bg hB31 hg163 nb
   have hB165 := bg hB31 hg38 nb
   have hlo166 : w0.heap.size ≤ b47 := lob hbe51 hB165.size
   have hB167 := bg hB164 hg54 (rowlo hlo166)
   have hx162 : ∀ k, X159 k → (fun _ => False) k ∨ w0.heap.size ≤ k := fun k hk => (hx160 k hk).2.elim (fun h => hx46 k h) (fun h => .inr (Nat.le_trans hB167.size h))
   refine gv_new0 (fun b => .pointer (some ⟨b, 0, none⟩)) #[(.bool false), (.slice none (length ([] : List Int)) 0)] 57 (by kernel_rfl) (by kernel_rfl) ?_
   intro b168 w169 hg170 hb171 hbe172 hz173
   refine gv_store0 57 0 (.agg #[(.bool r147.1), (.slice a156 (length r147.2) c157)]) #[(.bool r147.1), (.slice a156 (length r147.2) c157)] hb171 (by kernel_rfl) (by kernel_rfl) (by kernel_rfl) ?_
   intro w174 hg175 hb176 hz177
   refine gv_nil <| gv_seq <| gv_drawA (by kernel_rfl) ?_
   intro w178 hg179
   refine gv_stage (Cls w178 []) [0, 1, 2, 3] [(0, some true), (2, some true), (1, some false), (3, some false)] (bA 7 [0, 1, 2, 3]) 3 (by kernel_rfl) (by kernel_rfl) (Cls.refl _ _) ?_
   have hC180 := Cls.refl w178 []
   have hk181 := hb176.grown hg179 nb
   refine gv_loadBox (t := 57) (b := b168) (t' := 57) (fr := (0, 0)) #[(.bool r147.1), (.slice a156 (length r147.2) c157)] [] (fun e => by cases e) rfl rfl rfl (by kernel_rfl) (by kernel_rfl) (by kernel_rfl) (by kernel_rfl) (inw1 fun w' hC' => (hC'.box hk181 nm_nil)) rfl ?_
   refine gv_loadBox (t := 57) (b := b168) (t' := 57) (fr := (0, 0)) #[(.bool r147.1), (.slice a156 (length r147.2) c157)] [] (fun e => by cases e) rfl rfl rfl (by kernel_rfl) (by kernel_rfl) (by kernel_rfl) (by kernel_rfl) (inw1 fun w' hC' => (hC'.box hk181 nm_nil)) rfl ?_
   refine bindE h0 ?_; clear h0; intro r182 hr183 h0
   have hx184 := ltx (ltx (ltx hx161 hg170.size) hg175.size) hg179.size
   have ap185 : ¬ X159 b168 := fun hx => nl ((lowb hbe172) _ rfl) (hx161 _ hx)
   have hx186 := ltx hx161 hg170.size
   have hx187 := ltx hx186 hg175.size
   have hk188 := ((ho158.grown hg170 hx161 nb).grown hg175 hx186 (rowne ap185)).grown hg179 hx187 nb
   refine gv_call (f := 24) (vs := [(.agg #[(.bool r147.1), (.slice a156 (length r147.2) c157)])]) (cap := []) _ (by decide) rfl rfl rfl (by kernel_rfl) (by kernel_rfl) enters24 (ref3_Int_Minus_ok fuel a156 c157 (r147.1, r147.2) w178 (fun k => X159 k) (fun k hk => hx184 k hk) (hk188.wide (fun k hk => hk)) r182 hr183) ?_
   rintro v191 w189 ⟨hg190, a192, c193, X195, rfl, ho194, hx196⟩
   refine ⟨(fun _ => hC180.grown hg190 nb), ?_⟩
   have hx197 : ∀ k, X195 k → k < w189.heap.size := fun k hk => (hx196 k hk).1
   have hg199 := (grown_trans hg154 hg170)
   have hB200 := bg hB167 hg199 nb
   have hB201 := bg hB167 hg154 nb
   have hlo202 : w0.heap.size ≤ b168 := lob hbe172 hB201.size
   have hB203 := bg hB200 hg175 (rowlo hlo202)
   have hB204 := bg hB203 hg179 nb
   have hx198 : ∀ k, X195 k → (fun _ => False) k ∨ w0.heap.size ≤ k := fun k hk => (hx196 k hk).2.elim (fun h => hx162 k h) (fun h => .inr (Nat.le_trans hB204.size h))
   clear hB203 hB201 hB200 hg199 hx187 hx186 ap185 hr183 hz177 hb176 hz173 hb171 hB167 hB165 hB164 hg163 hx161 ho158 hx151 ap150 hr148 hc57 hz56 hz52 hb50 hx45 ho42 hr36 hB31
   refine bindE h0 ?_; clear h0; intro r205 hr206 h0
   refine gv_call (f := 20) (vs := [(.int .i64 (-1))]) (cap := []) _ (by decide) rfl rfl rfl (by kernel_rfl) (by kernel_rfl) enters20 (ref3_Number_ok fuel (-1) w189  r205 hr206) ?_
   rintro v209 w207 ⟨hg208, a210, c211, X213, rfl, ho212, hx214⟩
   have hC215 := hC180.grown hg190 nb
   refine ⟨(fun _ => hC215.grown hg208 nb), ?_⟩
   have hx216 : ∀ k, X213 k → k < w207.heap.size := fun k hk => (hx214 k hk).1
   have hB218 := bg hB204 hg190 nb
   have hx217 : ∀ k, X213 k → (fun _ => False) k ∨ w0.heap.size ≤ k := fun k hk => (hx214 k hk).2.elim (fun h => h.elim) (fun h => .inr (Nat.le_trans hB218.size h))
   refine gv_nil <| gv_goA ?_
   refine gv_stage (fun _ => True) [0, 1, 2, 3, 4] [(4, some false)] (bA 7 [0, 1, 2, 3, 4]) 2 (by kernel_rfl) (by kernel_rfl) trivial ?_
   refine bindE h0 ?_; clear h0; intro r219 hr220 h0
   have hg221 := (grown_trans hg190 hg208)
   have hx222 := ltx hx184 hg221.size
   have hk223 := hk188.grown hg221 hx184 nb
   refine gv_call (f := 21) (vs := [(.agg #[(.bool r147.1), (.slice a156 (length r147.2) c157)]), (.agg #[(.bool r205.1), (.slice a210 (length r205.2) c211)])]) (cap := []) _ (by decide) rfl rfl rfl (by kernel_rfl) (by kernel_rfl) enters21 (ref3_Int_Plus_ok fuel a156 c157 (r147.1, r147.2) a210 c211 (r205.1, r205.2) w207 (fun k => X159 k ∨ X213 k) (fun k hk => (hk).elim (fun h => hx222 k h) (fun h => hx216 k h)) (hk223.wide (fun k hk => (.inl hk))) (ho212.wide (fun k hk => (.inr hk))) r219 hr220) ?_
   rintro v226 w224 ⟨hg225, a227, c228, X230, rfl, ho229, hx231⟩
   refine ⟨(fun _ => trivial), ?_⟩
   have hx232 : ∀ k, X230 k → k < w224.heap.size := fun k hk => (hx231 k hk).1
   have hB234 := bg hB218 hg208 nb
   have hx233 : ∀ k, X230 k → (fun _ => False) k ∨ w0.heap.size ≤ k := fun k hk => (hx231 k hk).2.elim (fun h => (h).elim (fun h => hx162 k h) (fun h => hx217 k h)) (fun h => .inr (Nat.le_trans hB234.size h))
   refine gv_nil <| gv_goA ?_
   refine gv_stage (fun _ => True) [0, 1, 2, 3, 4, 5] [(5, some false)] (bA 7 [0, 1, 2, 3, 4, 5]) 1 (by kernel_rfl) (by kernel_rfl) trivial ?_
   refine gv_sub [2, 3, 26, 29] (σ' := [(2, (bp b1)), (3, (bp b7)), (26, (.agg #[(.bool r182.1), (.slice a192 (length r182.2) c193)])), (29, (.agg #[(.bool r219.1), (.slice a227 (length r219.2) c228)]))]) (by kernel_rfl) ?_
   have hg239 := (grown_trans hg38 hg49)
   have lt240 := ltl ((ltb hb4) _ rfl) ((lowb hbe11) _ rfl)
   have hk241 := hb34.grown hg38 nb
   have lt242 := ltl ((ltb hk241) _ rfl) ((lowb hbe51) _ rfl)
   have lt243 := ltt lt240 lt242
   have hg244 := (grown_trans hg154 hg170)
   have hk245 := hb55.grown hg154 nb
   have lt246 := ltl ((ltb hk245) _ rfl) ((lowb hbe172) _ rfl)
   have lt247 := ltt lt243 lt246
   have hg248 := (grown_trans (grown_trans hg179 hg221) hg225)
   have hk249 := ((((hb33.grown hg239 nb).grown hg54 (rowne (ng lt243))).grown hg244 nb).grown hg175 (rowne (ng lt247))).grown hg248 nb
   refine gv_store (t := 57) (b := b1) (off := 0) (v := (.agg #[(.bool r182.1), (.slice a192 (length r182.2) c193)])) (t' := 57) (cs := #[(.bool false), (.slice none (length ([] : List Int)) 0)]) #[(.bool r182.1), (.slice a192 (length r182.2) c193)] (by decide) rfl rfl (by kernel_rfl) (by kernel_rfl) (by kernel_rfl) (by intro u hu; simp [Value.cells] at hu; rcases hu with rfl | rfl <;> rfl) (show 0 + 2 ≤ 2 by decide) (by rfl) hk249 ?_
   intro w235 hg236 hb237 hz238
   refine ⟨(fun _ => trivial), ?_⟩
   refine gv_nil <| gv_goA ?_
   refine gv_stage (fun _ => True) [0, 1, 2, 3, 4, 5, 6] [(6, some false)] (bA 7 [0, 1, 2, 3, 4, 5, 6]) 0 (by kernel_rfl) (by kernel_rfl) trivial ?_
   have lt254 := ltt lt242 lt246
   have hk255 := (((((hk241.grown hg49 nb).grown hg54 (rowne (ng lt242))).grown hg244 nb).grown hg175 (rowne (ng lt254))).grown hg248 nb).grown hg236 (rowne (Nat.ne_of_lt lt240))
   refine gv_store (t := 57) (b := b7) (off := 0) (v := (.agg #[(.bool r219.1), (.slice a227 (length r219.2) c228)])) (t' := 57) (cs := #[(.bool false), (.slice none (length ([] : List Int)) 0)]) #[(.bool r219.1), (.slice a227 (length r219.2) c228)] (by decide) rfl rfl (by kernel_rfl) (by kernel_rfl) (by kernel_rfl) (by intro u hu; simp [Value.cells] at hu; rcases hu with rfl | rfl <;> rfl) (show 0 + 2 ≤ 2 by decide) (by rfl) hk255 ?_
   intro w250 hg251 hb252 hz253
   refine ⟨(fun _ => trivial), ?_⟩
   refine gv_nil <| gv_goA ?_
   refine gv_stageE (by kernel_rfl) ?_
   refine gv_cret ?_
   have e := sj h0; subst e
   have hk256 := hb237.grown hg251 (rowne (ng lt240))
   refine gv_ret (gv_done [(.agg #[(.bool r182.1), (.slice a192 (length r182.2) c193)]), (.agg #[(.bool r219.1), (.slice a227 (length r219.2) c228)])] rfl ⟨⟨⟨b1, 0, none⟩, (by kernel_rfl), run_loadVar_row w250 b1 _ 57 _ _ _ hk256 Tryz.underlying57 rfl (by kernel_rfl)⟩, ⟨⟨b7, 0, none⟩, (by kernel_rfl), run_loadVar_row w250 b7 _ 57 _ _ _ hb252 Tryz.underlying57 rfl (by kernel_rfl)⟩, trivial⟩ ?_)
   have hB257 := bg hB234 hg225 nb
   have hlo258 : w0.heap.size ≤ b1 := lob hbe5 hB0.size
   have hB259 := bg hB257 hg236 (rowlo hlo258)
   have hB260 := bg hB0 hg3 nb
   have hlo261 : w0.heap.size ≤ b7 := lob hbe11 hB260.size
   have hB262 := bg hB259 hg251 (rowlo hlo261)
   have hg263 := (grown_trans hg208 hg225)
   have ap264 : ¬ X43 b1 := fun h => ((hx44 _ h).2.elim (fun h => h.elim) (fun h => nl h (hb33.lt)))
   have hk265 := (hb33.grown hg239 nb).grown hg54 (rowne (ng lt243))
   have ap266 : ¬ X159 b1 := fun h => ((hx160 _ h).2.elim (fun h => (ap264)  h) (fun h => nl h (hk265.lt)))
   have hk267 := ((hk265.grown hg244 nb).grown hg175 (rowne (ng lt247))).grown hg179 nb
   have ap268 : ¬ X195 b1 := fun h => ((hx196 _ h).2.elim (fun h => (ap266)  h) (fun h => nl h (hk267.lt)))
   have hx269 := ltx hx197 hg263.size
   have ap270 : ¬ X43 b7 := fun h => ((hx44 _ h).2.elim (fun h => h.elim) (fun h => nl h (hb34.lt)))
   have hk271 := (hk241.grown hg49 nb).grown hg54 (rowne (ng lt242))
   have ap272 : ¬ X159 b7 := fun h => ((hx160 _ h).2.elim (fun h => (ap270)  h) (fun h => nl h (hk271.lt)))
   have hk273 := ((hk271.grown hg244 nb).grown hg175 (rowne (ng lt254))).grown hg179 nb
   have ap274 : ¬ X195 b7 := fun h => ((hx196 _ h).2.elim (fun h => (ap272)  h) (fun h => nl h (hk273.lt)))
   have hx275 := ltx hx269 hg236.size
   have hk276 := ((ho194.grown hg263 hx197 nb).grown hg236 hx269 (rowne ap268)).grown hg251 hx275 (rowne ap274)
   have hx277 := ltx hx275 hg251.size
   have hk278 := hk267.grown hg190 nb
   have ap279 : ¬ X213 b1 := fun h => ((hx214 _ h).2.elim (fun h => h.elim) (fun h => nl h (hk278.lt)))
   have hk280 := hk278.grown hg208 nb
   have ap281 : ¬ X230 b1 := fun h => ((hx231 _ h).2.elim (fun h => (h).elim (fun h => (ap266)  h) (fun h => (ap279)  h)) (fun h => nl h (hk280.lt)))
   have hk282 := hk273.grown hg190 nb
   have ap283 : ¬ X213 b7 := fun h => ((hx214 _ h).2.elim (fun h => h.elim) (fun h => nl h (hk282.lt)))
   have hk284 := hk282.grown hg208 nb
   have ap285 : ¬ X230 b7 := fun h => ((hx231 _ h).2.elim (fun h => (h).elim (fun h => (ap272)  h) (fun h => (ap283)  h)) (fun h => nl h (hk284.lt)))
   have hx286 := ltx hx232 hg236.size
   have hk287 := (ho229.grown hg236 hx232 (rowne ap281)).grown hg251 hx286 (rowne ap285)
   have hx288 := ltx hx286 hg251.size
   exact ⟨grown_of_below hB262, a192, c193, X195, a227, c228, X230, rfl, hk276, (fun k hk => ⟨hx277 k hk, hx198 k hk⟩), hk287, (fun k hk => ⟨hx288 k hk, hx233 k hk⟩)⟩

theorem ref3_Int_Order_ok (fuel : Nat) (pa0_0 : Option Addr) (pc0_0 : Nat) (a_0 : (Bool × (List Int))) (pa1_0 : Option Addr) (pc1_0 : Nat) (b_1 : (Bool × (List Int))) (w0 : World) (X0 : Nat → Prop) (hX0 : ∀ k, X0 k → k < w0.heap.size) (hpa0_0 : Rd (iE .i64) w0 X0 pa0_0 pc0_0 a_0.2) (hpa1_0 : Rd (iE .i64) w0 X0 pa1_0 pc1_0 b_1.2) (r0 : Int) (h0 : ref3_Int_Order fuel a_0 b_1 = some r0) :
    Calls Tryz.prog 27 ([(.agg #[(.bool a_0.1), (.slice pa0_0 (length a_0.2) pc0_0)]), (.agg #[(.bool b_1.1), (.slice pa1_0 (length b_1.2) pc1_0)])] : List Value).toArray w0 (Ret fun v w' => w0.grownBy w' none ∧ v = tup [(.int .i64 r0)]) := by
 have hB0 : Below w0.heap.size w0 w0 := Below.refl _ _
 unfold ref3_Int_Order at h0
 refine calls_run Tryz.func27 rfl Tryz.ntmps27 (by kernel_rfl) ?_
 refine gv_sub [0, 1] (σ' := [(0, (.agg #[(.bool a_0.1), (.slice pa0_0 (length a_0.2) pc0_0)])), (1, (.agg #[(.bool b_1.1), (.slice pa1_0 (length b_1.2) pc1_0)]))]) (by kernel_rfl) ?_
 refine gv_seq <| gv_region <| gv_new0 (fun b => .pointer (some ⟨b, 0, none⟩)) #[(.bool a_0.1), (.slice pa0_0 (length a_0.2) pc0_0)] 57 (by kernel_rfl) (by kernel_rfl) ?_
 intro b1 w2 hg3 hb4 hbe5 hz6
 refine gv_new0 (fun b => .pointer (some ⟨b, 0, none⟩)) #[(.bool b_1.1), (.slice pa1_0 (length b_1.2) pc1_0)] 57 (by kernel_rfl) (by kernel_rfl) ?_
 intro b7 w8 hg9 hb10 hbe11 hz12
 refine pN 1 [4] [] ?_
 refine gv_nil <| gv_seq <| bindE h0 ?_; clear h0; intro j13 h1 h0
 refine gv_cut_code (J := fun a w14 => Below w0.heap.size w0 w14 ∧ w8.heap.size ≤ w14.heap.size ∧ Box w14 b1 57 #[(.bool a_0.1), (.slice pa0_0 (length a_0.2) pc0_0)] ∧ Box w14 b7 57 #[(.bool b_1.1), (.slice pa1_0 (length b_1.2) pc1_0)] ∧ a.defers = [] ∧ a.tmps.size = 42 ∧ Ok [(2, (bp b1)), (3, (bp b7)), (5, (.bool j13.1)), (6, (.bool j13.2))] a.tmps) ?_ ?_
 ·skip
  refine gv_drawA (by kernel_rfl) ?_
  intro w15 hg16
  refine gv_pre [0, 8] (bA 18 [0, 8]) 16 (by kernel_rfl) (by kernel_rfl) ?_
  refine pN 2 [7, 15] [(7, (bp b1)), (15, (bp b7))] ?_
  refine gv_nil <| gv_goA ?_
  refine gv_stage (Cls w15 []) [0, 1, 2, 3, 4, 5, 6, 7, 8, 9, 10, 11, 12, 13, 14, 15, 16] [(1, some true), (2, some true), (3, some true), (4, some true), (5, some true), (6, some true), (7, some true), (9, some true), (10, some true), (11, some true), (12, some true), (13, some true), (14, some true), (15, some true), (16, some true)] (bA 18 [0, 1, 2, 3, 4, 5, 6, 7, 8, 9, 10, 11, 12, 13, 14, 15, 16]) 1 (by kernel_rfl) (by kernel_rfl) (Cls.refl _ _) ?_
  have hC17 := Cls.refl w15 []
  have hg18 := (grown_trans hg9 hg16)
  have hk19 := hb4.grown hg18 nb
  refine gv_load (t := 4) (A := ⟨b1, 0, none⟩) (.bool a_0.1) [] (fun e => by cases e) rfl rfl rfl (by kernel_rfl) (by kernel_rfl) (by kernel_rfl) (inw1 fun w' hC' => ((hC'.box hk19 nm_nil).cell 0 rfl)) rfl ?_
  refine pN 1 [9] [(9, (.bool a_0.1))] ?_
  refine gv_split (s := 9) (g := a_0.1) (by kernel_rfl) (fun hc20 => ?_) (fun hc20 => ?_)
  ·skip
   replace h1 := ite_t hc20 h1
   refine pN 1 [10] [(10, (.pointer (some ⟨b1, 1, none⟩)))] ?_
   refine gv_load (t := 55) (A := ⟨b1, 1, none⟩) (.slice pa0_0 (length a_0.2) pc0_0) [] (fun e => by cases e) rfl rfl rfl (by kernel_rfl) (by kernel_rfl) (by kernel_rfl) (inw1 fun w' hC' => ((hC'.box hk19 nm_nil).cell 1 rfl)) rfl ?_
   refine pN 3 [12, 13, 14] [(14, (.bool (decide (((length a_0.2 : Nat) : Int) > 0))))] ?_
   have hk21 := hb10.grown hg16 nb
   refine gv_load (t := 4) (A := ⟨b7, 0, none⟩) (.bool b_1.1) [] (fun e => by cases e) rfl rfl rfl (by kernel_rfl) (by kernel_rfl) (by kernel_rfl) (inw1 fun w' hC' => ((hC'.box hk21 nm_nil).cell 0 rfl)) rfl ?_
   refine pN 1 [17] [(17, (.bool b_1.1))] ?_
   refine gv_split (s := 17) (g := b_1.1) (by kernel_rfl) (fun hc22 => ?_) (fun hc22 => ?_)
   ·skip
    replace h1 := ite_t hc22 h1
    refine pN 1 [18] [(18, (.pointer (some ⟨b7, 1, none⟩)))] ?_
    refine gv_load (t := 55) (A := ⟨b7, 1, none⟩) (.slice pa1_0 (length b_1.2) pc1_0) [] (fun e => by cases e) rfl rfl rfl (by kernel_rfl) (by kernel_rfl) (by kernel_rfl) (inw1 fun w' hC' => ((hC'.box hk21 nm_nil).cell 1 rfl)) rfl ?_
    refine pN 4 [5, 20, 21, 22] [(5, (.bool (decide (((length a_0.2 : Nat) : Int) > 0)))), (22, (.bool (decide (((length b_1.2 : Nat) : Int) > 0))))] ?_
    refine gv_sub [2, 3, 5, 22] (σ' := [(2, (bp b1)), (3, (bp b7)), (5, (.bool (decide (((length a_0.2 : Nat) : Int) > 0)))), (22, (.bool (decide (((length b_1.2 : Nat) : Int) > 0))))]) (by kernel_rfl) ?_
    refine bindE h1 ?_; clear h1; intro n23 hn24 h1
    refine gv_name (s := 5) (v := (.bool (decide (((length a_0.2 : Nat) : Int) > 0)))) (v' := (.bool n23)) (by kernel_rfl) (congrArg (Value.bool) (sj hn24)) ?_
    refine gv_nil <| gv_goA ?_
    refine gv_pre [17] (bA 18 [0, 1, 2, 3, 4, 5, 6, 7, 8, 9, 10, 11, 12, 13, 14, 15, 16, 17]) 0 (by kernel_rfl) (by kernel_rfl) ?_
    refine pN 1 [6] [(6, (.bool (decide (((length b_1.2 : Nat) : Int) > 0))))] ?_
    refine bindE h1 ?_; clear h1; intro n25 hn26 h1
    refine gv_name (s := 6) (v := (.bool (decide (((length b_1.2 : Nat) : Int) > 0)))) (v' := (.bool n25)) (by kernel_rfl) (congrArg (Value.bool) (sj hn26)) ?_
    refine gv_nil <| gv_goA ?_
    refine gv_stageE (by kernel_rfl) ?_
    have e := sj h1; subst e
    refine gv_goal fun a hd hs hok => ?_
    have hg27 := (grown_trans hg3 hg18)
    have hB28 := bg hB0 hg27 nb
    have hz29 := hg16.size
    exact ⟨hB28, hz29, hk19, hk21, hd, hs, okp [2, 3, 5, 6] hok⟩
   ·skip
    replace h1 := ite_f hc22 h1
    refine pN 6 [5, 18, 19, 20, 21, 22] [(5, (.bool (decide (((length a_0.2 : Nat) : Int) > 0)))), (22, (.bool false))] ?_
    refine bindE h1 ?_; clear h1; intro n30 hn31 h1
    refine gv_name (s := 5) (v := (.bool (decide (((length a_0.2 : Nat) : Int) > 0)))) (v' := (.bool n30)) (by kernel_rfl) (congrArg (Value.bool) (sj hn31)) ?_
    refine gv_nil <| gv_goA ?_
    refine gv_pre [17] (bA 18 [0, 1, 2, 3, 4, 5, 6, 7, 8, 9, 10, 11, 12, 13, 14, 15, 16, 17]) 0 (by kernel_rfl) (by kernel_rfl) ?_
    refine pN 1 [6] [(6, (.bool false))] ?_
    refine gv_nil <| gv_goA ?_
    refine gv_stageE (by kernel_rfl) ?_
    have e := sj h1; subst e
    refine gv_goal fun a hd hs hok => ?_
    have hg32 := (grown_trans hg3 hg18)
    have hB33 := bg hB0 hg32 nb
    have hz34 := hg16.size
    exact ⟨hB33, hz34, hk19, hk21, hd, hs, okp [2, 3, 5, 6] hok⟩
  ·skip
   replace h1 := ite_f hc20 h1
   refine pN 5 [10, 11, 12, 13, 14] [(14, (.bool false))] ?_
   have hk35 := hb10.grown hg16 nb
   refine gv_load (t := 4) (A := ⟨b7, 0, none⟩) (.bool b_1.1) [] (fun e => by cases e) rfl rfl rfl (by kernel_rfl) (by kernel_rfl) (by kernel_rfl) (inw1 fun w' hC' => ((hC'.box hk35 nm_nil).cell 0 rfl)) rfl ?_
   refine pN 1 [17] [(17, (.bool b_1.1))] ?_
   refine gv_split (s := 17) (g := b_1.1) (by kernel_rfl) (fun hc36 => ?_) (fun hc36 => ?_)
   ·skip
    replace h1 := ite_t hc36 h1
    refine pN 1 [18] [(18, (.pointer (some ⟨b7, 1, none⟩)))] ?_
    refine gv_load (t := 55) (A := ⟨b7, 1, none⟩) (.slice pa1_0 (length b_1.2) pc1_0) [] (fun e => by cases e) rfl rfl rfl (by kernel_rfl) (by kernel_rfl) (by kernel_rfl) (inw1 fun w' hC' => ((hC'.box hk35 nm_nil).cell 1 rfl)) rfl ?_
    refine pN 4 [5, 20, 21, 22] [(5, (.bool false)), (22, (.bool (decide (((length b_1.2 : Nat) : Int) > 0))))] ?_
    refine gv_nil <| gv_goA ?_
    refine gv_pre [17] (bA 18 [0, 1, 2, 3, 4, 5, 6, 7, 8, 9, 10, 11, 12, 13, 14, 15, 16, 17]) 0 (by kernel_rfl) (by kernel_rfl) ?_
    refine pN 1 [6] [(6, (.bool (decide (((length b_1.2 : Nat) : Int) > 0))))] ?_
    refine bindE h1 ?_; clear h1; intro n37 hn38 h1
    refine gv_name (s := 6) (v := (.bool (decide (((length b_1.2 : Nat) : Int) > 0)))) (v' := (.bool n37)) (by kernel_rfl) (congrArg (Value.bool) (sj hn38)) ?_
    refine gv_nil <| gv_goA ?_
    refine gv_stageE (by kernel_rfl) ?_
    have e := sj h1; subst e
    refine gv_goal fun a hd hs hok => ?_
    have hg39 := (grown_trans hg3 hg18)
    have hB40 := bg hB0 hg39 nb
    have hz41 := hg16.size
    exact ⟨hB40, hz41, hk19, hk35, hd, hs, okp [2, 3, 5, 6] hok⟩
   ·skip
    replace h1 := ite_f hc36 h1
    refine pN 6 [5, 18, 19, 20, 21, 22] [(5, (.bool false)), (22, (.bool false))] ?_
    refine gv_nil <| gv_goA ?_
    refine gv_pre [17] (bA 18 [0, 1, 2, 3, 4, 5, 6, 7, 8, 9, 10, 11, 12, 13, 14, 15, 16, 17]) 0 (by kernel_rfl) (by kernel_rfl) ?_
    refine pN 1 [6] [(6, (.bool false))] ?_
    refine gv_nil <| gv_goA ?_
    refine gv_stageE (by kernel_rfl) ?_
    have e := sj h1; subst e
    refine gv_goal fun a hd hs hok => ?_
    have hg42 := (grown_trans hg3 hg18)
    have hB43 := bg hB0 hg42 nb
    have hz44 := hg16.size
    exact ⟨hB43, hz44, hk19, hk35, hd, hs, okp [2, 3, 5, 6] hok⟩
 ·rintro a w14 ⟨hB45, hz46, hb47, hb48, hd, hs, hok⟩
  refine gv_in ?_ hd hs hok
  clear hd hs hok
  clear hz46 hz12 hb10 hg9 hz6
  refine gv_seq <| gv_block <| gv_seq <| gv_region <| gv_cut_ops (J := fun a w49 => w14 = w49 ∧ a.defers = [] ∧ a.tmps.size = 42 ∧ Ok [(2, (bp b1)), (3, (bp b7)), (5, (.bool j13.1)), (6, (.bool j13.2)), (23, (.bool (j13.1 && j13.2)))] a.tmps) ?_ ?_
  ·skip
   refine pN 2 [24, 25] [(25, (.bool j13.1))] ?_
   refine gv_split (s := 25) (g := j13.1) (by kernel_rfl) (fun hc50 => ?_) (fun hc50 => ?_)
   ·skip
    refine pN 3 [23, 26, 27] [(23, (.bool j13.2))] ?_
    refine gv_nil <| gv_sub [2, 3, 5, 6, 23] (σ' := [(2, (bp b1)), (3, (bp b7)), (5, (.bool j13.1)), (6, (.bool j13.2)), (23, (.bool j13.2))]) (by kernel_rfl) ?_
    refine gv_goal fun a hd hs hok => ⟨rfl, hd, hs, ?_⟩
    obtain ⟨q2, q3, q5, q6, q23, _⟩ := hok
    exact ⟨q2, q3, q5, q6, (by rw [hc50]; exact q23), trivial⟩
   ·skip
    refine pN 3 [23, 26, 27] [(23, (.bool false))] ?_
    refine gv_nil <| gv_sub [2, 3, 5, 6, 23] (σ' := [(2, (bp b1)), (3, (bp b7)), (5, (.bool j13.1)), (6, (.bool j13.2)), (23, (.bool false))]) (by kernel_rfl) ?_
    refine gv_goal fun a hd hs hok => ⟨rfl, hd, hs, ?_⟩
    obtain ⟨q2, q3, q5, q6, q23, _⟩ := hok
    exact ⟨q2, q3, q5, q6, (by rw [hc50]; exact q23), trivial⟩
  ·rintro a w49 ⟨e, hd, hs, hok⟩; subst e
   refine gv_in ?_ hd hs hok
   clear hd hs hok
   refine gv_cond (b := (j13.1 && j13.2)) (by kernel_rfl) (fun hc51 => ?_) (fun hc51 => ?_)
   ·replace h0 := ite_t hc51 h0
    refine gv_seq <| gv_region <| pN 1 [28] [(28, (.pointer (some ⟨b7, 1, none⟩)))] ?_
    refine gv_load (t := 55) (A := ⟨b7, 1, none⟩) (.slice pa1_0 (length b_1.2) pc1_0) [] (fun e => by cases e) rfl rfl rfl (by kernel_rfl) (by kernel_rfl) (by kernel_rfl) (inw0 (hb48.cell 1 rfl)) rfl ?_
    refine pN 1 [30] [(30, (.pointer (some ⟨b1, 1, none⟩)))] ?_
    refine gv_load (t := 55) (A := ⟨b1, 1, none⟩) (.slice pa0_0 (length a_0.2) pc0_0) [] (fun e => by cases e) rfl rfl rfl (by kernel_rfl) (by kernel_rfl) (by kernel_rfl) (inw0 (hb47.cell 1 rfl)) rfl ?_
    refine bindE h0 ?_; clear h0; intro r52 hr53 h0
    refine gv_call0 (by kernel_rfl) rfl (by kernel_rfl) enters47 (ref3_Compare_ok fuel pa1_0 pc1_0 b_1.2 pa0_0 pc0_0 a_0.2 w14 (fun k => X0 k ∨ X0 k) (fun k hk => (hk).elim (fun h => (fun k (hk : X0 k) => ltl (hX0 k hk) hB45.size) k h) (fun h => (fun k (hk : X0 k) => ltl (hX0 k hk) hB45.size) k h)) ((hpa1_0.below hB45 hX0).wide (fun k hk => (.inl hk))) ((hpa0_0.below hB45 hX0).wide (fun k hk => (.inr hk))) r52 hr53) ?_
    rintro v56 w54 ⟨hg55, rfl⟩
    refine pN 1 [4] [(4, (.int .i64 r52))] ?_
    refine gv_nil <| gv_cret ?_
    have e := sj h0; subst e
    refine gv_ret (gv_done [(.int .i64 r52)] rfl ⟨(by kernel_rfl), trivial⟩ ?_)
    have hB57 := bg hB45 hg55 nb
    exact ⟨grown_of_below hB57, rfl⟩
   ·replace h0 := ite_f hc51 h0
    refine gv_seq <| gv_region <| pN 2 [33, 34] [(33, (.bool j13.1))] ?_
    refine gv_nil <| gv_cond (b := j13.1) (by kernel_rfl) (fun hc58 => ?_) (fun hc58 => ?_)
    ·replace h0 := ite_t hc58 h0
     refine gv_seq <| gv_region <| pN 1 [4] [(4, (.int .i64 (-1)))] ?_
     refine gv_nil <| gv_cret ?_
     have e := sj h0; subst e
     refine gv_ret (gv_done [(.int .i64 (-1))] rfl ⟨(by kernel_rfl), trivial⟩ ?_)
     exact ⟨grown_of_below hB45, rfl⟩
    ·replace h0 := ite_f hc58 h0
     refine gv_seq <| gv_region <| pN 2 [35, 36] [(35, (.bool j13.2))] ?_
     refine gv_nil <| gv_cond (b := j13.2) (by kernel_rfl) (fun hc59 => ?_) (fun hc59 => ?_)
     ·replace h0 := ite_t hc59 h0
      refine gv_seq <| gv_region <| pN 1 [4] [(4, (.int .i64 1))] ?_
      refine gv_nil <| gv_cret ?_
      have e := sj h0; subst e
      refine gv_ret (gv_done [(.int .i64 1)] rfl ⟨(by kernel_rfl), trivial⟩ ?_)
      exact ⟨grown_of_below hB45, rfl⟩
     ·replace h0 := ite_f hc59 h0
      refine gv_skip <| gv_blk <| gv_seq <| gv_region <| pN 1 [37] [(37, (.pointer (some ⟨b1, 1, none⟩)))] ?_
      refine gv_load (t := 55) (A := ⟨b1, 1, none⟩) (.slice pa0_0 (length a_0.2) pc0_0) [] (fun e => by cases e) rfl rfl rfl (by kernel_rfl) (by kernel_rfl) (by kernel_rfl) (inw0 (hb47.cell 1 rfl)) rfl ?_
      refine pN 1 [39] [(39, (.pointer (some ⟨b7, 1, none⟩)))] ?_
      refine gv_load (t := 55) (A := ⟨b7, 1, none⟩) (.slice pa1_0 (length b_1.2) pc1_0) [] (fun e => by cases e) rfl rfl rfl (by kernel_rfl) (by kernel_rfl) (by kernel_rfl) (inw0 (hb48.cell 1 rfl)) rfl ?_
      refine bindE h0 ?_; clear h0; intro r60 hr61 h0
      refine gv_call0 (by kernel_rfl) rfl (by kernel_rfl) enters47 (ref3_Compare_ok fuel pa0_0 pc0_0 a_0.2 pa1_0 pc1_0 b_1.2 w14 (fun k => X0 k ∨ X0 k) (fun k hk => (hk).elim (fun h => (fun k (hk : X0 k) => ltl (hX0 k hk) hB45.size) k h) (fun h => (fun k (hk : X0 k) => ltl (hX0 k hk) hB45.size) k h)) ((hpa0_0.below hB45 hX0).wide (fun k hk => (.inl hk))) ((hpa1_0.below hB45 hX0).wide (fun k hk => (.inr hk))) r60 hr61) ?_
      rintro v64 w62 ⟨hg63, rfl⟩
      refine pN 1 [4] [(4, (.int .i64 r60))] ?_
      refine gv_nil <| gv_cret ?_
      have e := sj h0; subst e
      refine gv_ret (gv_done [(.int .i64 r60)] rfl ⟨(by kernel_rfl), trivial⟩ ?_)
      have hB65 := bg hB45 hg63 nb
      exact ⟨grown_of_below hB65, rfl⟩

end Go.Proofs.YtdpmkphjcjacfaaGreatDoor
