import Derived.Test.YtdpmkphjcjacfaaDoorP0
set_option linter.all false
set_option maxHeartbeats 4000000
set_option maxRecDepth 100000
/- Own work, printed by a program of mine: the walk of each function: a call returns what the plain function says. -/
namespace Go.Proofs.YtdpmkphjcjacfaaDoor
open Go.Gv Go.Gv.D Go.RowKit
open List (length)
theorem packing_reader_varied_ok (fuel : Nat) (pb0 : Nat) (pa0_0 : Option Addr) (pc0_0 : Nat) (r_0 : ((List UInt8) × Int)) (w0 : World) (X0 : Nat → Prop) (hX0 : ∀ k, X0 k → k < w0.heap.size ∧ k ≠ pb0) (hp0 : Box w0 pb0 72 #[(.slice pa0_0 (length r_0.1) pc0_0), (.int .i64 r_0.2)]) (hpa0_0 : Rd bE w0 X0 pa0_0 pc0_0 r_0.1) (r0 : ((Int × (Bool × (List Int)) × (Bool × (List Int)) × ByteArray × Int) × Int × ((List UInt8) × Int))) (h0 : packing_reader_varied fuel r_0 = some r0) :
    Calls Tryd.prog 45 ([(bp pb0)] : List Value).toArray w0 (Ret fun v w' => w0.grownBy w' (some pb0) ∧ ∃ (a0_0r : Option Addr) (c0_0r : Nat), ∃ (a0_1r : Option Addr) (c0_1r : Nat), v = tup [(.agg #[(.int .i64 r0.1.1), (.bool r0.1.2.1.1), (.slice a0_0r (length r0.1.2.1.2) c0_0r), (.bool r0.1.2.2.1.1), (.slice a0_1r (length r0.1.2.2.1.2) c0_1r), (.string r0.1.2.2.2.1), (.int .i64 r0.1.2.2.2.2)]), (.int .i64 r0.2.1)] ∧ Gv.Own (iE .u32) 87 w' (fun _ => False) a0_0r c0_0r r0.1.2.1.2 ∧ (∀ g, blk a0_0r = some g → w0.heap.size ≤ g) ∧ Gv.Own (iE .u32) 87 w' (fun _ => False) a0_1r c0_1r r0.1.2.2.1.2 ∧ (∀ g, blk a0_1r = some g → w0.heap.size ≤ g) ∧ (∀ g, blk a0_0r = some g → blk a0_1r ≠ some g) ∧ Box w' pb0 72 #[(.slice pa0_0 (length r_0.1) pc0_0), (.int .i64 r0.2.2.2)]) := by
 have hB0 : w0.grownBy w0 (some pb0) := grown_refl _ _
 unfold packing_reader_varied at h0
 refine calls_run Tryd.func45 rfl Tryd.ntmps45 (by kernel_rfl) ?_
 refine gv_sub [0] (σ' := [(0, (bp pb0))]) (by kernel_rfl) ?_
 have hpl0 := hp0.lt
 refine gv_seq <| gv_region <| gv_new0 (fun b => .pointer (some ⟨b, 0, none⟩)) #[(.int .i64 0), (.bool false), (.slice none (length ([] : List Int)) 0), (.bool false), (.slice none (length ([] : List Int)) 0), (.string (strOf [])), (.int .i64 0)] 48 (by kernel_rfl) (by kernel_rfl) ?_
 intro b1 w2 hg3 hb4 hbe5 hz6
 refine pN 1 [3] [] ?_
 refine gv_nil <| gv_seq <| gv_region <| pN 1 [4] [(4, (.int .u64 0))] ?_
 refine gv_nil <| gv_seq <| gv_region <| pN 1 [5] [(5, (.int .i64 0))] ?_
 refine gv_nil <| bindE h0 ?_; clear h0; intro j7 h1 h0
 refine gv_cut_code (J := fun a w9 => ∃ s8 : ((List UInt8) × Int), j7 = .inl s8 ∧ w0.grownBy w9 (some pb0) ∧ w2.heap.size ≤ w9.heap.size ∧ Box w9 pb0 72 #[(.slice pa0_0 (length r_0.1) pc0_0), (.int .i64 s8.2)] ∧ a.defers = [] ∧ a.tmps.size = 59 ∧ Ok [] a.tmps) ?_ ?_
 ·skip
  refine gv_block <| gv_loop (A := fun (s10 : (Int × Int × ((List UInt8) × Int) × (Int × (Bool × (List Int)) × (Bool × (List Int)) × ByteArray × Int))) a w11 => ∃ (abb1_0j : Option Addr) (cbb1_0j : Nat), ∃ (abb1_1j : Option Addr) (cbb1_1j : Nat), w0.grownBy w11 (some pb0) ∧ w2.heap.size ≤ w11.heap.size ∧ Gv.Own (iE .u32) 87 w11 (fun _ => False) abb1_0j cbb1_0j s10.2.2.2.2.1.2 ∧ (∀ g, blk abb1_0j = some g → w0.heap.size ≤ g) ∧ Gv.Own (iE .u32) 87 w11 (fun _ => False) abb1_1j cbb1_1j s10.2.2.2.2.2.1.2 ∧ (∀ g, blk abb1_1j = some g → w0.heap.size ≤ g) ∧ (∀ g, blk abb1_0j = some g → ¬ (fun k => blk abb1_1j = some k) g) ∧ (∀ g, blk abb1_0j = some g → ¬ (· = b1) g) ∧ ¬ (fun k => blk abb1_0j = some k) b1 ∧ (∀ g, blk abb1_1j = some g → ¬ (fun k => blk abb1_0j = some k) g) ∧ (∀ g, blk abb1_1j = some g → ¬ (· = b1) g) ∧ ¬ (fun k => blk abb1_1j = some k) b1 ∧ Box w11 pb0 72 #[(.slice pa0_0 (length r_0.1) pc0_0), (.int .i64 s10.2.2.1.2)] ∧ Box w11 b1 48 #[(.int .i64 s10.2.2.2.1), (.bool s10.2.2.2.2.1.1), (.slice abb1_0j (length s10.2.2.2.2.1.2) cbb1_0j), (.bool s10.2.2.2.2.2.1.1), (.slice abb1_1j (length s10.2.2.2.2.2.1.2) cbb1_1j), (.string s10.2.2.2.2.2.2.1), (.int .i64 s10.2.2.2.2.2.2.2)] ∧ a.defers = [] ∧ a.tmps.size = 59 ∧ Ok [(0, (bp pb0)), (2, (bp b1)), (4, (.int .u64 s10.1)), (5, (.int .i64 s10.2.1))] a.tmps) h1 ?_ ?_
  ·intro a hd hs hok
   have hB12 := grown_step hB0 hg3 nb
   have hk13 := hp0.grown hg3 nb
   exact ⟨none, 0, none, 0, hB12, nrf, (Gv.Own.nil (iE .u32) 87 w2 (fun _ => False)), (fun _ h => by cases h), (Gv.Own.nil (iE .u32) 87 w2 (fun _ => False)), (fun _ h => by cases h), (fun _ h => by cases h), (fun _ h => by cases h), (fun h => by cases h), (fun _ h => by cases h), (fun _ h => by cases h), (fun h => by cases h), hk13, hb4, hd, hs, okp [0, 2, 4, 5] hok⟩
  ·rintro s10 r2 h2 hR2 a w11 ⟨a16, c17, a18, c19, hB14, hz15, ho20, hl21, ho22, hl23, ap24, ap25, ap26, ap27, ap28, ap29, hb30, hb31, hd, hs, hok⟩
   refine gv_in ?_ hd hs hok
   clear hd hs hok
   refine gv_seq <| gv_block <| gv_seq <| gv_region <| pN 1 [11] [(11, (bp pb0))] ?_
   refine bindE h2 ?_; clear h2; intro r32 hr33 h2
   refine gv_call0 (by kernel_rfl) rfl (by kernel_rfl) enters46 (packing_reader_take_ok fuel pb0 pa0_0 pc0_0 (r_0.1, s10.2.2.1.2) 1 w11 (fun k => X0 k) (fun k hk => ⟨(fun k (hk : X0 k) => ltl (hX0 k hk).1 hB14.size) k hk, fun e => (fun (hx : X0 pb0) => (hX0 _ hx).2 rfl) (e ▸ hk)⟩) hb30 ((hpa0_0.grown hB14 (fun k hk => (hX0 k hk).1) (fun g e hk => by cases e; exact (hX0 _ hk).2 rfl)).wide (fun k hk => hk)) r32 hr33) ?_
   rintro v36 w34 ⟨hg35, a37, c38, X40, rfl, ho39, hx41, hb42⟩
   have hx43 : ∀ k, X40 k → k < w34.heap.size := fun k hk => (hx41 k hk).1
   have hx44 : ∀ k, X40 k → X0 k ∨ w0.heap.size ≤ k := fun k hk => (hx41 k hk).2.elim (fun h => (fun k (hk : X0 k) => Or.inl hk) k h) (fun h => .inr (Nat.le_trans hB14.size h))
   refine pN 5 [6, 7, 10, 13, 14] [(6, (.slice a37 (length r32.1) c38)), (7, (.bool r32.2.1))] ?_
   refine gv_nil <| gv_seq <| gv_seq <| gv_region <| pN 2 [15, 16] [(16, (.bool (!r32.2.1)))] ?_
   refine gv_nil <| gv_cond (b := (!r32.2.1)) (by kernel_rfl) (fun hc45 => ?_) (fun hc45 => ?_)
   ·replace h2 := ite_t hc45 h2
    refine gv_seq <| gv_region <| pN 1 [17] [(17, (.agg #[(.int .i64 0), (.bool false), (.slice none (length ([] : List Int)) 0), (.bool false), (.slice none (length ([] : List Int)) 0), (.string (strOf [])), (.int .i64 0)]))] ?_
    have ap50 : ¬ (· = b1) pb0 := fun hx => nl ((lowb hbe5) _ hx) ((ltb hp0) _ rfl)
    have hk51 := hb31.grown hg35 (rowne ap50)
    refine gv_store0 48 0 (.agg #[(.int .i64 0), (.bool false), (.slice none (length ([] : List Int)) 0), (.bool false), (.slice none (length ([] : List Int)) 0), (.string (strOf [])), (.int .i64 0)]) #[(.int .i64 0), (.bool false), (.slice none (length ([] : List Int)) 0), (.bool false), (.slice none (length ([] : List Int)) 0), (.string (strOf [])), (.int .i64 0)] hk51 (by kernel_rfl) (by kernel_rfl) (by kernel_rfl) ?_
    intro w46 hg47 hb48 hz49
    refine pN 1 [3] [(3, (.int .i64 15))] ?_
    refine gv_nil <| gv_cret ?_
    have e := sj h2; subst e
    replace h1 := congrArg some (hR2 _ rfl)
    have e := sj h1; subst e
    replace h0 := cont_inr h0
    have e := sj h0; subst e
    refine gv_ret (gv_done [(.agg #[(.int .i64 0), (.bool false), (.slice none (length ([] : List Int)) 0), (.bool false), (.slice none (length ([] : List Int)) 0), (.string (strOf [])), (.int .i64 0)]), (.int .i64 15)] rfl ⟨⟨⟨b1, 0, none⟩, (by kernel_rfl), run_loadVar_row w46 b1 _ 48 _ _ _ hb48 Tryd.underlying48 rfl (by kernel_rfl)⟩, (by kernel_rfl), trivial⟩ ?_)
    have hB52 := grown_step hB14 hg35 rowpp
    have hlo53 : w0.heap.size ≤ b1 := lob hbe5 hB0.size
    have hB54 := grown_step hB52 hg47 (rowppr hlo53)
    have ap55 : ¬ (· = pb0) b1 := fun hx => nl ((lowb hbe5) _ rfl) ((ltb hp0) _ hx)
    have hk56 := hb42.grown hg47 (rowne ap55)
    exact ⟨hB54, none, 0, none, 0, rfl, (Gv.Own.nil (iE .u32) 87 w46 (fun _ => False)), (fun _ h => by cases h), (Gv.Own.nil (iE .u32) 87 w46 (fun _ => False)), (fun _ h => by cases h), (fun _ h => by cases h), hk56⟩
   ·replace h2 := ite_f hc45 h2
    refine gv_skip <| gv_seq <| gv_seq <| gv_region <| bindE h2 ?_; clear h2; intro j57 h3 h2
    refine gv_cut_ops (J := fun a w58 => w0.grownBy w58 (some pb0) ∧ w34.heap.size ≤ w58.heap.size ∧ Box w58 pb0 72 #[(.slice pa0_0 (length r_0.1) pc0_0), (.int .i64 r32.2.2.2)] ∧ Box w58 b1 48 #[(.int .i64 s10.2.2.2.1), (.bool s10.2.2.2.2.1.1), (.slice a16 (length s10.2.2.2.2.1.2) c17), (.bool s10.2.2.2.2.2.1.1), (.slice a18 (length s10.2.2.2.2.2.1.2) c19), (.string s10.2.2.2.2.2.2.1), (.int .i64 s10.2.2.2.2.2.2.2)] ∧ Rd bE w58 X40 a37 c38 r32.1 ∧ Gv.Own (iE .u32) 87 w58 (fun _ => False) a16 c17 s10.2.2.2.2.1.2 ∧ Gv.Own (iE .u32) 87 w58 (fun _ => False) a18 c19 s10.2.2.2.2.2.1.2 ∧ a.defers = [] ∧ a.tmps.size = 59 ∧ Ok [(0, (bp pb0)), (2, (bp b1)), (4, (.int .u64 s10.1)), (5, (.int .i64 s10.2.1)), (6, (.slice a37 (length r32.1) c38)), (35, (.bool j57))] a.tmps) ?_ ?_
    ·skip
     refine pN 3 [18, 19, 20] [(20, (.bool (s10.2.1 == 9)))] ?_
     refine gv_split (s := 20) (g := (s10.2.1 == 9)) (by kernel_rfl) (fun hc59 => ?_) (fun hc59 => ?_)
     ·skip
      replace h3 := ite_t hc59 h3
      refine pN 1 [21] [(21, (.slice a37 (length r32.1) c38))] ?_
      refine bindE h3 ?_; clear h3; intro x60 hx61 h3
      refine gv_idxaddr (t := 24) (e := 5) (a := a37) (len := length r32.1) (cap := c38) (kk := .i64) (i := 0) (sz := 1) [] (fun e => by cases e) rfl rfl rfl (by kernel_rfl) (by kernel_rfl) Tryd.underlying24 (by kernel_rfl) (ho39.has hx61) (idx_spec hx61).1 (idx_spec hx61).2.1 rfl ?_
      refine gv_load (t := 5) (A := (elemAddr a37 ((0 : Int).toNat * 1))) (.int .u8 ((x60).toNat : Int)) [] (fun e => by cases e) rfl rfl rfl (by kernel_rfl) (by kernel_rfl) (by kernel_rfl) (inw0 (ho39.cell hx61)) rfl ?_
      refine pN 3 [24, 25, 26] [(26, (.bool (decide (((x60).toNat : Int) > 1))))] ?_
      refine gv_split (s := 26) (g := (decide (((x60).toNat : Int) > 1))) (by kernel_rfl) (fun hc62 => ?_) (fun hc62 => ?_)
      ·skip
       replace h3 := ite_t hc62 h3
       refine pN 9 [27, 28, 29, 30, 31, 32, 33, 34, 35] [(35, (.bool true))] ?_
       refine gv_nil ?_
       have e := sj h3; subst e
       refine gv_goal fun a hd hs hok => ?_
       have hB63 := grown_step hB14 hg35 rowpp
       have ap64 : ¬ (· = b1) pb0 := fun hx => nl ((lowb hbe5) _ hx) ((ltb hp0) _ rfl)
       have hk65 := hb31.grown hg35 (rowne ap64)
       have hk66 := ho20.grown hg35 (fun _ h => h.elim) (rdnn (rowne (fun (h : blk a16 = some pb0) => nl (hl21 _ h) hpl0)))
       have hk67 := ho22.grown hg35 (fun _ h => h.elim) (rdnn (rowne (fun (h : blk a18 = some pb0) => nl (hl23 _ h) hpl0)))
       exact ⟨hB63, nrf, hb42, hk65, ho39, hk66, hk67, hd, hs, okp [0, 2, 4, 5, 6, 35] hok⟩
      ·skip
       replace h3 := ite_f hc62 h3
       refine pN 3 [27, 28, 29] [(29, (.bool (decide (s10.2.1 > 0))))] ?_
       refine gv_split (s := 29) (g := (decide (s10.2.1 > 0))) (by kernel_rfl) (fun hc68 => ?_) (fun hc68 => ?_)
       ·skip
        replace h3 := ite_t hc68 h3
        refine pN 1 [30] [(30, (.slice a37 (length r32.1) c38))] ?_
        refine bindE h3 ?_; clear h3; intro x69 hx70 h3
        refine gv_idxaddr (t := 24) (e := 5) (a := a37) (len := length r32.1) (cap := c38) (kk := .i64) (i := 0) (sz := 1) [] (fun e => by cases e) rfl rfl rfl (by kernel_rfl) (by kernel_rfl) Tryd.underlying24 (by kernel_rfl) (ho39.has hx70) (idx_spec hx70).1 (idx_spec hx70).2.1 rfl ?_
        refine gv_load (t := 5) (A := (elemAddr a37 ((0 : Int).toNat * 1))) (.int .u8 ((x69).toNat : Int)) [] (fun e => by cases e) rfl rfl rfl (by kernel_rfl) (by kernel_rfl) (by kernel_rfl) (inw0 (ho39.cell hx70)) rfl ?_
        refine pN 3 [33, 34, 35] [(35, (.bool (((x69).toNat : Int) == 0)))] ?_
        refine gv_sub [0, 2, 4, 5, 6, 35] (σ' := [(0, (bp pb0)), (2, (bp b1)), (4, (.int .u64 s10.1)), (5, (.int .i64 s10.2.1)), (6, (.slice a37 (length r32.1) c38)), (35, (.bool (((x69).toNat : Int) == 0)))]) (by kernel_rfl) ?_
        refine gv_nil ?_
        have e := sj h3; subst e
        refine gv_goal fun a hd hs hok => ?_
        have hB71 := grown_step hB14 hg35 rowpp
        have ap72 : ¬ (· = b1) pb0 := fun hx => nl ((lowb hbe5) _ hx) ((ltb hp0) _ rfl)
        have hk73 := hb31.grown hg35 (rowne ap72)
        have hk74 := ho20.grown hg35 (fun _ h => h.elim) (rdnn (rowne (fun (h : blk a16 = some pb0) => nl (hl21 _ h) hpl0)))
        have hk75 := ho22.grown hg35 (fun _ h => h.elim) (rdnn (rowne (fun (h : blk a18 = some pb0) => nl (hl23 _ h) hpl0)))
        exact ⟨hB71, nrf, hb42, hk73, ho39, hk74, hk75, hd, hs, okp [0, 2, 4, 5, 6, 35] hok⟩
       ·skip
        replace h3 := ite_f hc68 h3
        refine pN 6 [30, 31, 32, 33, 34, 35] [(35, (.bool false))] ?_
        refine gv_nil ?_
        have e := sj h3; subst e
        refine gv_goal fun a hd hs hok => ?_
        have hB76 := grown_step hB14 hg35 rowpp
        have ap77 : ¬ (· = b1) pb0 := fun hx => nl ((lowb hbe5) _ hx) ((ltb hp0) _ rfl)
        have hk78 := hb31.grown hg35 (rowne ap77)
        have hk79 := ho20.grown hg35 (fun _ h => h.elim) (rdnn (rowne (fun (h : blk a16 = some pb0) => nl (hl21 _ h) hpl0)))
        have hk80 := ho22.grown hg35 (fun _ h => h.elim) (rdnn (rowne (fun (h : blk a18 = some pb0) => nl (hl23 _ h) hpl0)))
        exact ⟨hB76, nrf, hb42, hk78, ho39, hk79, hk80, hd, hs, okp [0, 2, 4, 5, 6, 35] hok⟩
     ·skip
      replace h3 := ite_f hc59 h3
      refine pN 9 [21, 22, 23, 24, 25, 26, 27, 28, 29] [(26, (.bool false)), (29, (.bool (decide (s10.2.1 > 0))))] ?_
      refine gv_split (s := 29) (g := (decide (s10.2.1 > 0))) (by kernel_rfl) (fun hc81 => ?_) (fun hc81 => ?_)
      ·skip
       replace h3 := ite_t hc81 h3
       refine pN 1 [30] [(30, (.slice a37 (length r32.1) c38))] ?_
       refine bindE h3 ?_; clear h3; intro x82 hx83 h3
       refine gv_idxaddr (t := 24) (e := 5) (a := a37) (len := length r32.1) (cap := c38) (kk := .i64) (i := 0) (sz := 1) [] (fun e => by cases e) rfl rfl rfl (by kernel_rfl) (by kernel_rfl) Tryd.underlying24 (by kernel_rfl) (ho39.has hx83) (idx_spec hx83).1 (idx_spec hx83).2.1 rfl ?_
       refine gv_load (t := 5) (A := (elemAddr a37 ((0 : Int).toNat * 1))) (.int .u8 ((x82).toNat : Int)) [] (fun e => by cases e) rfl rfl rfl (by kernel_rfl) (by kernel_rfl) (by kernel_rfl) (inw0 (ho39.cell hx83)) rfl ?_
       refine pN 3 [33, 34, 35] [(35, (.bool (((x82).toNat : Int) == 0)))] ?_
       refine gv_nil ?_
       have e := sj h3; subst e
       refine gv_goal fun a hd hs hok => ?_
       have hB84 := grown_step hB14 hg35 rowpp
       have ap85 : ¬ (· = b1) pb0 := fun hx => nl ((lowb hbe5) _ hx) ((ltb hp0) _ rfl)
       have hk86 := hb31.grown hg35 (rowne ap85)
       have hk87 := ho20.grown hg35 (fun _ h => h.elim) (rdnn (rowne (fun (h : blk a16 = some pb0) => nl (hl21 _ h) hpl0)))
       have hk88 := ho22.grown hg35 (fun _ h => h.elim) (rdnn (rowne (fun (h : blk a18 = some pb0) => nl (hl23 _ h) hpl0)))
       exact ⟨hB84, nrf, hb42, hk86, ho39, hk87, hk88, hd, hs, okp [0, 2, 4, 5, 6, 35] hok⟩
      ·skip
       replace h3 := ite_f hc81 h3
       refine pN 6 [30, 31, 32, 33, 34, 35] [(35, (.bool false))] ?_
       refine gv_nil ?_
       have e := sj h3; subst e
       refine gv_goal fun a hd hs hok => ?_
       have hB89 := grown_step hB14 hg35 rowpp
       have ap90 : ¬ (· = b1) pb0 := fun hx => nl ((lowb hbe5) _ hx) ((ltb hp0) _ rfl)
       have hk91 := hb31.grown hg35 (rowne ap90)
       have hk92 := ho20.grown hg35 (fun _ h => h.elim) (rdnn (rowne (fun (h : blk a16 = some pb0) => nl (hl21 _ h) hpl0)))
       have hk93 := ho22.grown hg35 (fun _ h => h.elim) (rdnn (rowne (fun (h : blk a18 = some pb0) => nl (hl23 _ h) hpl0)))
       exact ⟨hB89, nrf, hb42, hk91, ho39, hk92, hk93, hd, hs, okp [0, 2, 4, 5, 6, 35] hok⟩
    ·rintro a w58 ⟨hB94, hz95, hb96, hb97, hk98, hk99, hk100, hd, hs, hok⟩
     refine gv_in ?_ hd hs hok
     clear hd hs hok
     have hz101 := (nt (nt hz15 hg35.size) hz95)
     clear hc45 hb42 ho39 hg35 hr33 hb30 hz15 hB14 hz6 hb4 hg3
     refine gv_cond (b := j57) (by kernel_rfl) (fun hc102 => ?_) (fun hc102 => ?_)
     ·replace h2 := ite_t hc102 h2
      refine gv_seq <| gv_region <| pN 1 [36] [(36, (.agg #[(.int .i64 0), (.bool false), (.slice none (length ([] : List Int)) 0), (.bool false), (.slice none (length ([] : List Int)) 0), (.string (strOf [])), (.int .i64 0)]))] ?_
      refine gv_store0 48 0 (.agg #[(.int .i64 0), (.bool false), (.slice none (length ([] : List Int)) 0), (.bool false), (.slice none (length ([] : List Int)) 0), (.string (strOf [])), (.int .i64 0)]) #[(.int .i64 0), (.bool false), (.slice none (length ([] : List Int)) 0), (.bool false), (.slice none (length ([] : List Int)) 0), (.string (strOf [])), (.int .i64 0)] hb97 (by kernel_rfl) (by kernel_rfl) (by kernel_rfl) ?_
      intro w103 hg104 hb105 hz106
      refine pN 1 [3] [(3, (.int .i64 16))] ?_
      refine gv_nil <| gv_cret ?_
      have e := sj h2; subst e
      replace h1 := congrArg some (hR2 _ rfl)
      have e := sj h1; subst e
      replace h0 := cont_inr h0
      have e := sj h0; subst e
      refine gv_ret (gv_done [(.agg #[(.int .i64 0), (.bool false), (.slice none (length ([] : List Int)) 0), (.bool false), (.slice none (length ([] : List Int)) 0), (.string (strOf [])), (.int .i64 0)]), (.int .i64 16)] rfl ⟨⟨⟨b1, 0, none⟩, (by kernel_rfl), run_loadVar_row w103 b1 _ 48 _ _ _ hb105 Tryd.underlying48 rfl (by kernel_rfl)⟩, (by kernel_rfl), trivial⟩ ?_)
      have hlo107 : w0.heap.size ≤ b1 := lob hbe5 hB0.size
      have hB108 := grown_step hB94 hg104 (rowppr hlo107)
      have ap109 : ¬ (· = pb0) b1 := fun hx => nl ((lowb hbe5) _ rfl) ((ltb hp0) _ hx)
      have hk110 := hb96.grown hg104 (rowne ap109)
      exact ⟨hB108, none, 0, none, 0, rfl, (Gv.Own.nil (iE .u32) 87 w103 (fun _ => False)), (fun _ h => by cases h), (Gv.Own.nil (iE .u32) 87 w103 (fun _ => False)), (fun _ h => by cases h), (fun _ h => by cases h), hk110⟩
     ·replace h2 := ite_f hc102 h2
      refine gv_skip <| gv_seq <| gv_region <| pN 2 [37, 38] [(37, (.int .u64 s10.1)), (38, (.slice a37 (length r32.1) c38))] ?_
      refine bindE h2 ?_; clear h2; intro x111 hx112 h2
      refine gv_idxaddr (t := 24) (e := 5) (a := a37) (len := length r32.1) (cap := c38) (kk := .i64) (i := 0) (sz := 1) [] (fun e => by cases e) rfl rfl rfl (by kernel_rfl) (by kernel_rfl) Tryd.underlying24 (by kernel_rfl) (hk98.has hx112) (idx_spec hx112).1 (idx_spec hx112).2.1 rfl ?_
      refine gv_load (t := 5) (A := (elemAddr a37 ((0 : Int).toNat * 1))) (.int .u8 ((x111).toNat : Int)) [] (fun e => by cases e) rfl rfl rfl (by kernel_rfl) (by kernel_rfl) (by kernel_rfl) (inw0 (hk98.cell hx112)) rfl ?_
      refine pN 4 [41, 42, 43, 44] [(42, (.int .u64 (IntKind.u64.wrap ((bwAnd .u8 ((x111).toNat : Int) 127))))), (44, (.int .i64 (IntKind.i64.wrap (7 * s10.2.1))))] ?_
      refine bindE h2 ?_; clear h2; intro _ hx113 h2
      refine gv_shift .shl (t := 76) (kk := .u64) (ky := .i64) (x := (IntKind.u64.wrap ((bwAnd .u8 ((x111).toNat : Int) 127)))) (y := (IntKind.i64.wrap (7 * s10.2.1))) (shlI .u64 (IntKind.u64.wrap ((bwAnd .u8 ((x111).toNat : Int) 127))) (IntKind.i64.wrap (7 * s10.2.1))) [] (fun e => by cases e) rfl rfl rfl (by kernel_rfl) (by kernel_rfl) (nn_spec hx113) (.inl ⟨rfl, rfl⟩) rfl ?_
      refine pN 2 [4, 46] [(4, (.int .u64 (bwOr .u64 s10.1 (shlI .u64 (IntKind.u64.wrap ((bwAnd .u8 ((x111).toNat : Int) 127))) (IntKind.i64.wrap (7 * s10.2.1))))))] ?_
      refine bindE h2 ?_; clear h2; intro n114 hn115 h2
      refine gv_name (s := 4) (v := (.int .u64 (bwOr .u64 s10.1 (shlI .u64 (IntKind.u64.wrap ((bwAnd .u8 ((x111).toNat : Int) 127))) (IntKind.i64.wrap (7 * s10.2.1)))))) (v' := (.int .u64 n114)) (by kernel_rfl) (congrArg (Value.int .u64) (sj hn115)) ?_
      refine gv_nil <| gv_seq <| gv_region <| pN 1 [47] [(47, (.slice a37 (length r32.1) c38))] ?_
      refine bindE h2 ?_; clear h2; intro x116 hx117 h2
      refine gv_idxaddr (t := 24) (e := 5) (a := a37) (len := length r32.1) (cap := c38) (kk := .i64) (i := 0) (sz := 1) [] (fun e => by cases e) rfl rfl rfl (by kernel_rfl) (by kernel_rfl) Tryd.underlying24 (by kernel_rfl) (hk98.has hx117) (idx_spec hx117).1 (idx_spec hx117).2.1 rfl ?_
      refine gv_load (t := 5) (A := (elemAddr a37 ((0 : Int).toNat * 1))) (.int .u8 ((x116).toNat : Int)) [] (fun e => by cases e) rfl rfl rfl (by kernel_rfl) (by kernel_rfl) (by kernel_rfl) (inw0 (hk98.cell hx117)) rfl ?_
      refine pN 1 [50] [(50, (.bool (decide (((x116).toNat : Int) < 128))))] ?_
      refine gv_nil <| gv_cond (b := (decide (((x116).toNat : Int) < 128))) (by kernel_rfl) (fun hc118 => ?_) (fun hc118 => ?_)
      ·replace h2 := ite_t hc118 h2
       refine gv_seq <| gv_region <| pN 7 [51, 52, 53, 54, 55, 56, 57] [(57, (.int .i64 (IntKind.i64.wrap ((bwXor .u64 ((n114).fdiv (2 ^ 1)) (IntKind.u64.wrap (0 - (bwAnd .u64 n114 1))))))))] ?_
       refine bindE h2 ?_; clear h2; intro r119 hr120 h2
       refine gv_call0 (by kernel_rfl) rfl (by kernel_rfl) enters56 (packing_whole_ok fuel (IntKind.i64.wrap ((bwXor .u64 ((n114).fdiv (2 ^ 1)) (IntKind.u64.wrap (0 - (bwAnd .u64 n114 1)))))) w58  r119 hr120) ?_
       rintro v123 w121 ⟨hg122, a124, c125, a128, c129, rfl, ho126, hl127, ho130, hl131, ap132⟩
       have hl133 : ∀ g, blk a124 = some g → w0.heap.size ≤ g := fun g e => Nat.le_trans hB94.size (hl127 g e)
       have hl134 : ∀ g, blk a128 = some g → w0.heap.size ≤ g := fun g e => Nat.le_trans hB94.size (hl131 g e)
       have hk139 := hb97.grown hg122 nb
       refine gv_store0 48 0 (.agg #[(.int .i64 r119.1), (.bool r119.2.1.1), (.slice a124 (length r119.2.1.2) c125), (.bool r119.2.2.1.1), (.slice a128 (length r119.2.2.1.2) c129), (.string r119.2.2.2.1), (.int .i64 r119.2.2.2.2)]) #[(.int .i64 r119.1), (.bool r119.2.1.1), (.slice a124 (length r119.2.1.2) c125), (.bool r119.2.2.1.1), (.slice a128 (length r119.2.2.1.2) c129), (.string r119.2.2.2.1), (.int .i64 r119.2.2.2.2)] hk139 (by kernel_rfl) (by kernel_rfl) (by kernel_rfl) ?_
       intro w135 hg136 hb137 hz138
       refine pN 1 [3] [(3, (.int .i64 0))] ?_
       refine gv_sub [2, 3] (σ' := [(2, (bp b1)), (3, (.int .i64 0))]) (by kernel_rfl) ?_
       refine gv_nil <| gv_cret ?_
       have e := sj h2; subst e
       replace h1 := congrArg some (hR2 _ rfl)
       have e := sj h1; subst e
       replace h0 := cont_inr h0
       have e := sj h0; subst e
       refine gv_ret (gv_done [(.agg #[(.int .i64 r119.1), (.bool r119.2.1.1), (.slice a124 (length r119.2.1.2) c125), (.bool r119.2.2.1.1), (.slice a128 (length r119.2.2.1.2) c129), (.string r119.2.2.2.1), (.int .i64 r119.2.2.2.2)]), (.int .i64 0)] rfl ⟨⟨⟨b1, 0, none⟩, (by kernel_rfl), run_loadVar_row w135 b1 _ 48 _ _ _ hb137 Tryd.underlying48 rfl (by kernel_rfl)⟩, (by kernel_rfl), trivial⟩ ?_)
       have hB140 := grown_step hB94 hg122 nb
       have hlo141 : w0.heap.size ≤ b1 := lob hbe5 hB0.size
       have hB142 := grown_step hB140 hg136 (rowppr hlo141)
       have ap143 : ¬ (fun k => blk a124 = some k) b1 := fun hx => nl ((show ∀ k, blk a124 = some k → w58.heap.size ≤ k from hl127) _ hx) ((ltb hb97) _ rfl)
       have hk144 := ho126.grown hg136 (fun _ h => h.elim) (rdnn (rowne ap143))
       have ap145 : ¬ (fun k => blk a128 = some k) b1 := fun hx => nl ((show ∀ k, blk a128 = some k → w58.heap.size ≤ k from hl131) _ hx) ((ltb hb97) _ rfl)
       have hk146 := ho130.grown hg136 (fun _ h => h.elim) (rdnn (rowne ap145))
       have ap147 : ¬ (· = pb0) b1 := fun hx => nl ((lowb hbe5) _ rfl) ((ltb hp0) _ hx)
       have hk148 := (hb96.grown hg122 nb).grown hg136 (rowne ap147)
       exact ⟨hB142, a124, c125, a128, c129, rfl, hk144, hl133, hk146, hl134, ap132, hk148⟩
      ·replace h2 := ite_f hc118 h2
       refine gv_skip <| gv_blk <| gv_region <| pN 3 [5, 8, 9] [(5, (.int .i64 (IntKind.i64.wrap (s10.2.1 + 1))))] ?_
       refine gv_nil ?_
       have e := sj h2; subst e
       refine gv_goal fun a hd hs hok => ?_
       have hz149 := hz101
       exact ⟨(n114, (IntKind.i64.wrap (s10.2.1 + 1)), (r_0.1, r32.2.2.2), (s10.2.2.2.1, (s10.2.2.2.2.1.1, s10.2.2.2.2.1.2), (s10.2.2.2.2.2.1.1, s10.2.2.2.2.2.1.2), s10.2.2.2.2.2.2.1, s10.2.2.2.2.2.2.2)), rfl, a16, c17, a18, c19, hB94, hz149, hk99, hl21, hk100, hl23, ap24, ap25, ap26, ap27, ap28, ap29, hb96, hb97, hd, hs, okp [0, 2, 4, 5] hok⟩
 ·rintro a w9 ⟨s8, e, hB150, hz151, hb152, hd, hs, hok⟩
  subst e
  refine gv_in ?_ hd hs hok
  clear hd hs hok
  replace h0 := cont_inl h0
  cases h0

theorem packing_reader_value_ok (fuel : Nat) (pb0 : Nat) (pa0_0 : Option Addr) (pc0_0 : Nat) (r_0 : ((List UInt8) × Int)) (f_1 : (Int × Int × Bool)) (w0 : World) (X0 : Nat → Prop) (hX0 : ∀ k, X0 k → k < w0.heap.size ∧ k ≠ pb0) (hp0 : Box w0 pb0 72 #[(.slice pa0_0 (length r_0.1) pc0_0), (.int .i64 r_0.2)]) (hpa0_0 : Rd bE w0 X0 pa0_0 pc0_0 r_0.1) (r0 : ((Int × (Bool × (List Int)) × (Bool × (List Int)) × ByteArray × Int) × Int × ((List UInt8) × Int))) (h0 : packing_reader_value fuel r_0 f_1 = some r0) :
    Calls Tryd.prog 34 ([(bp pb0), (.agg #[(.int .u8 f_1.1), (.int .i64 f_1.2.1), (.bool f_1.2.2)])] : List Value).toArray w0 (Ret fun v w' => w0.grownBy w' (some pb0) ∧ ∃ (a0_0r : Option Addr) (c0_0r : Nat), ∃ (a0_1r : Option Addr) (c0_1r : Nat), v = tup [(.agg #[(.int .i64 r0.1.1), (.bool r0.1.2.1.1), (.slice a0_0r (length r0.1.2.1.2) c0_0r), (.bool r0.1.2.2.1.1), (.slice a0_1r (length r0.1.2.2.1.2) c0_1r), (.string r0.1.2.2.2.1), (.int .i64 r0.1.2.2.2.2)]), (.int .i64 r0.2.1)] ∧ Gv.Own (iE .u32) 87 w' (fun _ => False) a0_0r c0_0r r0.1.2.1.2 ∧ (∀ g, blk a0_0r = some g → w0.heap.size ≤ g) ∧ Gv.Own (iE .u32) 87 w' (fun _ => False) a0_1r c0_1r r0.1.2.2.1.2 ∧ (∀ g, blk a0_1r = some g → w0.heap.size ≤ g) ∧ (∀ g, blk a0_0r = some g → blk a0_1r ≠ some g) ∧ Box w' pb0 72 #[(.slice pa0_0 (length r_0.1) pc0_0), (.int .i64 r0.2.2.2)]) := by
 have hB0 : w0.grownBy w0 (some pb0) := grown_refl _ _
 unfold packing_reader_value at h0
 refine calls_run Tryd.func34 rfl Tryd.ntmps34 (by kernel_rfl) ?_
 refine gv_sub [0, 1] (σ' := [(0, (bp pb0)), (1, (.agg #[(.int .u8 f_1.1), (.int .i64 f_1.2.1), (.bool f_1.2.2)]))]) (by kernel_rfl) ?_
 have hpl0 := hp0.lt
 refine gv_seq <| gv_region <| gv_new0 (fun b => .pointer (some ⟨b, 0, none⟩)) #[(.int .u8 f_1.1), (.int .i64 f_1.2.1), (.bool f_1.2.2)] 31 (by kernel_rfl) (by kernel_rfl) ?_
 intro b1 w2 hg3 hb4 hbe5 hz6
 refine gv_new0 (fun b => .pointer (some ⟨b, 0, none⟩)) #[(.int .i64 0), (.bool false), (.slice none (length ([] : List Int)) 0), (.bool false), (.slice none (length ([] : List Int)) 0), (.string (strOf [])), (.int .i64 0)] 48 (by kernel_rfl) (by kernel_rfl) ?_
 intro b7 w8 hg9 hb10 hbe11 hz12
 refine pN 1 [5] [] ?_
 refine gv_nil <| gv_seq <| gv_region <| pN 1 [15] [(15, (bp b1))] ?_
 have hk13 := hb4.grown hg9 nb
 refine gv_load (t := 5) (A := ⟨b1, 0, none⟩) (.int .u8 f_1.1) [] (fun e => by cases e) rfl rfl rfl (by kernel_rfl) (by kernel_rfl) (by kernel_rfl) (inw0 (hk13.cell 0 rfl)) rfl ?_
 refine bindE h0 ?_; clear h0; intro r14 hr15 h0
 refine gv_call0 (by kernel_rfl) rfl (by kernel_rfl) enters29 (packing_width_ok fuel f_1.1 w8  r14 hr15) ?_
 rintro v18 w16 ⟨hg17, rfl⟩
 refine pN 5 [6, 7, 14, 18, 19] [(6, (.int .i64 r14.1)), (7, (.bool r14.2))] ?_
 refine gv_nil <| gv_seq <| gv_block <| gv_seq <| gv_region <| pN 3 [20, 21, 22] [(20, (.bool (decide (r14.1 > 0))))] ?_
 refine gv_nil <| gv_cond (b := (decide (r14.1 > 0))) (by kernel_rfl) (fun hc19 => ?_) (fun hc19 => ?_)
 ·replace h0 := ite_t hc19 h0
  refine gv_seq <| gv_region <| pN 1 [23] [(23, (bp pb0))] ?_
  have hk20 := hk13.grown hg17 nb
  refine gv_loadBox (t := 31) (b := b1) (t' := 31) (fr := (0, 0)) #[(.int .u8 f_1.1), (.int .i64 f_1.2.1), (.bool f_1.2.2)] [] (fun e => by cases e) rfl rfl rfl (by kernel_rfl) (by kernel_rfl) (by kernel_rfl) (by kernel_rfl) (inw0 hk20) rfl ?_
  refine pN 2 [25, 26] [(25, (.int .i64 r14.1)), (26, (.bool r14.2))] ?_
  refine bindE h0 ?_; clear h0; intro r21 hr22 h0
  have hg23 := (grown_trans (grown_trans hg3 hg9) hg17)
  have hB24 := grown_step hB0 hg23 nb
  have hk25 := hp0.grown hg23 nb
  refine gv_call0 (by kernel_rfl) rfl (by kernel_rfl) enters44 (packing_reader_fixed_ok fuel pb0 pa0_0 pc0_0 (r_0.1, r_0.2) (f_1.1, f_1.2.1, f_1.2.2) r14.1 r14.2 w16 (fun k => X0 k) (fun k hk => ⟨(fun k (hk : X0 k) => ltl (hX0 k hk).1 hB24.size) k hk, fun e => (fun (hx : X0 pb0) => (hX0 _ hx).2 rfl) (e ▸ hk)⟩) hk25 ((hpa0_0.grown hB24 (fun k hk => (hX0 k hk).1) (fun g e hk => by cases e; exact (hX0 _ hk).2 rfl)).wide (fun k hk => hk)) r21 hr22) ?_
  rintro v28 w26 ⟨hg27, a29, c30, a33, c34, rfl, ho31, hl32, ho35, hl36, ap37, hb38⟩
  have hl39 : ∀ g, blk a29 = some g → w0.heap.size ≤ g := fun g e => Nat.le_trans hB24.size (hl32 g e)
  have hl40 : ∀ g, blk a33 = some g → w0.heap.size ≤ g := fun g e => Nat.le_trans hB24.size (hl36 g e)
  refine pN 2 [28, 29] [(28, (.agg #[(.int .i64 r21.1.1), (.bool r21.1.2.1.1), (.slice a29 (length r21.1.2.1.2) c30), (.bool r21.1.2.2.1.1), (.slice a33 (length r21.1.2.2.1.2) c34), (.string r21.1.2.2.2.1), (.int .i64 r21.1.2.2.2.2)])), (29, (.int .i64 r21.2.1))] ?_
  have hk45 := hp0.grown hg3 nb
  have ap46 : ¬ (· = b7) pb0 := fun hx => nl ((lowb hbe11) _ hx) ((ltb hk45) _ rfl)
  have hk47 := (hb10.grown hg17 nb).grown hg27 (rowne ap46)
  refine gv_store0 48 0 (.agg #[(.int .i64 r21.1.1), (.bool r21.1.2.1.1), (.slice a29 (length r21.1.2.1.2) c30), (.bool r21.1.2.2.1.1), (.slice a33 (length r21.1.2.2.1.2) c34), (.string r21.1.2.2.2.1), (.int .i64 r21.1.2.2.2.2)]) #[(.int .i64 r21.1.1), (.bool r21.1.2.1.1), (.slice a29 (length r21.1.2.1.2) c30), (.bool r21.1.2.2.1.1), (.slice a33 (length r21.1.2.2.1.2) c34), (.string r21.1.2.2.2.1), (.int .i64 r21.1.2.2.2.2)] hk47 (by kernel_rfl) (by kernel_rfl) (by kernel_rfl) ?_
  intro w41 hg42 hb43 hz44
  refine pN 1 [5] [(5, (.int .i64 r21.2.1))] ?_
  refine gv_sub [4, 5] (σ' := [(4, (bp b7)), (5, (.int .i64 r21.2.1))]) (by kernel_rfl) ?_
  refine gv_nil <| gv_cret ?_
  have e := sj h0; subst e
  refine gv_ret (gv_done [(.agg #[(.int .i64 r21.1.1), (.bool r21.1.2.1.1), (.slice a29 (length r21.1.2.1.2) c30), (.bool r21.1.2.2.1.1), (.slice a33 (length r21.1.2.2.1.2) c34), (.string r21.1.2.2.2.1), (.int .i64 r21.1.2.2.2.2)]), (.int .i64 r21.2.1)] rfl ⟨⟨⟨b7, 0, none⟩, (by kernel_rfl), run_loadVar_row w41 b7 _ 48 _ _ _ hb43 Tryd.underlying48 rfl (by kernel_rfl)⟩, (by kernel_rfl), trivial⟩ ?_)
  have hB48 := grown_step hB24 hg27 rowpp
  have hB49 := grown_step hB0 hg3 nb
  have hlo50 : w0.heap.size ≤ b7 := lob hbe11 hB49.size
  have hB51 := grown_step hB48 hg42 (rowppr hlo50)
  have hk52 := hb10.grown hg17 nb
  have ap53 : ¬ (fun k => blk a29 = some k) b7 := fun hx => nl ((show ∀ k, blk a29 = some k → w16.heap.size ≤ k from hl32) _ hx) ((ltb hk52) _ rfl)
  have hk54 := ho31.grown hg42 (fun _ h => h.elim) (rdnn (rowne ap53))
  have ap55 : ¬ (fun k => blk a33 = some k) b7 := fun hx => nl ((show ∀ k, blk a33 = some k → w16.heap.size ≤ k from hl36) _ hx) ((ltb hk52) _ rfl)
  have hk56 := ho35.grown hg42 (fun _ h => h.elim) (rdnn (rowne ap55))
  have ap57 : ¬ (· = pb0) b7 := fun hx => nl ((lowb hbe11) _ rfl) ((ltb hk45) _ hx)
  have hk58 := hb38.grown hg42 (rowne ap57)
  exact ⟨hB51, a29, c30, a33, c34, rfl, hk54, hl39, hk56, hl40, ap37, hk58⟩
 ·replace h0 := ite_f hc19 h0
  refine gv_seq <| gv_region <| pN 1 [31] [(31, (bp b1))] ?_
  have hk59 := hk13.grown hg17 nb
  refine gv_load (t := 5) (A := ⟨b1, 0, none⟩) (.int .u8 f_1.1) [] (fun e => by cases e) rfl rfl rfl (by kernel_rfl) (by kernel_rfl) (by kernel_rfl) (inw0 (hk59.cell 0 rfl)) rfl ?_
  refine pN 2 [30, 33] [(30, (.bool (f_1.1 == 118)))] ?_
  refine gv_nil <| gv_cond (b := (f_1.1 == 118)) (by kernel_rfl) (fun hc60 => ?_) (fun hc60 => ?_)
  ·replace h0 := ite_t hc60 h0
   refine gv_seq <| gv_region <| pN 1 [34] [(34, (bp pb0))] ?_
   refine bindE h0 ?_; clear h0; intro r61 hr62 h0
   have hg63 := (grown_trans (grown_trans hg3 hg9) hg17)
   have hB64 := grown_step hB0 hg63 nb
   have hk65 := hp0.grown hg63 nb
   refine gv_call0 (by kernel_rfl) rfl (by kernel_rfl) enters45 (packing_reader_varied_ok fuel pb0 pa0_0 pc0_0 (r_0.1, r_0.2) w16 (fun k => X0 k) (fun k hk => ⟨(fun k (hk : X0 k) => ltl (hX0 k hk).1 hB64.size) k hk, fun e => (fun (hx : X0 pb0) => (hX0 _ hx).2 rfl) (e ▸ hk)⟩) hk65 ((hpa0_0.grown hB64 (fun k hk => (hX0 k hk).1) (fun g e hk => by cases e; exact (hX0 _ hk).2 rfl)).wide (fun k hk => hk)) r61 hr62) ?_
   rintro v68 w66 ⟨hg67, a69, c70, a73, c74, rfl, ho71, hl72, ho75, hl76, ap77, hb78⟩
   have hl79 : ∀ g, blk a69 = some g → w0.heap.size ≤ g := fun g e => Nat.le_trans hB64.size (hl72 g e)
   have hl80 : ∀ g, blk a73 = some g → w0.heap.size ≤ g := fun g e => Nat.le_trans hB64.size (hl76 g e)
   refine pN 2 [36, 37] [(36, (.agg #[(.int .i64 r61.1.1), (.bool r61.1.2.1.1), (.slice a69 (length r61.1.2.1.2) c70), (.bool r61.1.2.2.1.1), (.slice a73 (length r61.1.2.2.1.2) c74), (.string r61.1.2.2.2.1), (.int .i64 r61.1.2.2.2.2)])), (37, (.int .i64 r61.2.1))] ?_
   refine gv_sub [4, 36, 37] (σ' := [(4, (bp b7)), (36, (.agg #[(.int .i64 r61.1.1), (.bool r61.1.2.1.1), (.slice a69 (length r61.1.2.1.2) c70), (.bool r61.1.2.2.1.1), (.slice a73 (length r61.1.2.2.1.2) c74), (.string r61.1.2.2.2.1), (.int .i64 r61.1.2.2.2.2)])), (37, (.int .i64 r61.2.1))]) (by kernel_rfl) ?_
   have hk85 := hp0.grown hg3 nb
   have ap86 : ¬ (· = b7) pb0 := fun hx => nl ((lowb hbe11) _ hx) ((ltb hk85) _ rfl)
   have hk87 := (hb10.grown hg17 nb).grown hg67 (rowne ap86)
   refine gv_store0 48 0 (.agg #[(.int .i64 r61.1.1), (.bool r61.1.2.1.1), (.slice a69 (length r61.1.2.1.2) c70), (.bool r61.1.2.2.1.1), (.slice a73 (length r61.1.2.2.1.2) c74), (.string r61.1.2.2.2.1), (.int .i64 r61.1.2.2.2.2)]) #[(.int .i64 r61.1.1), (.bool r61.1.2.1.1), (.slice a69 (length r61.1.2.1.2) c70), (.bool r61.1.2.2.1.1), (.slice a73 (length r61.1.2.2.1.2) c74), (.string r61.1.2.2.2.1), (.int .i64 r61.1.2.2.2.2)] hk87 (by kernel_rfl) (by kernel_rfl) (by kernel_rfl) ?_
   intro w81 hg82 hb83 hz84
   refine pN 1 [5] [(5, (.int .i64 r61.2.1))] ?_
   refine gv_nil <| gv_cret ?_
   have e := sj h0; subst e
   refine gv_ret (gv_done [(.agg #[(.int .i64 r61.1.1), (.bool r61.1.2.1.1), (.slice a69 (length r61.1.2.1.2) c70), (.bool r61.1.2.2.1.1), (.slice a73 (length r61.1.2.2.1.2) c74), (.string r61.1.2.2.2.1), (.int .i64 r61.1.2.2.2.2)]), (.int .i64 r61.2.1)] rfl ⟨⟨⟨b7, 0, none⟩, (by kernel_rfl), run_loadVar_row w81 b7 _ 48 _ _ _ hb83 Tryd.underlying48 rfl (by kernel_rfl)⟩, (by kernel_rfl), trivial⟩ ?_)
   have hB88 := grown_step hB64 hg67 rowpp
   have hB89 := grown_step hB0 hg3 nb
   have hlo90 : w0.heap.size ≤ b7 := lob hbe11 hB89.size
   have hB91 := grown_step hB88 hg82 (rowppr hlo90)
   have hk92 := hb10.grown hg17 nb
   have ap93 : ¬ (fun k => blk a69 = some k) b7 := fun hx => nl ((show ∀ k, blk a69 = some k → w16.heap.size ≤ k from hl72) _ hx) ((ltb hk92) _ rfl)
   have hk94 := ho71.grown hg82 (fun _ h => h.elim) (rdnn (rowne ap93))
   have ap95 : ¬ (fun k => blk a73 = some k) b7 := fun hx => nl ((show ∀ k, blk a73 = some k → w16.heap.size ≤ k from hl76) _ hx) ((ltb hk92) _ rfl)
   have hk96 := ho75.grown hg82 (fun _ h => h.elim) (rdnn (rowne ap95))
   have ap97 : ¬ (· = pb0) b7 := fun hx => nl ((lowb hbe11) _ rfl) ((ltb hk85) _ hx)
   have hk98 := hb78.grown hg82 (rowne ap97)
   exact ⟨hB91, a69, c70, a73, c74, rfl, hk94, hl79, hk96, hl80, ap77, hk98⟩
  ·replace h0 := ite_f hc60 h0
   refine gv_seq <| gv_region <| pN 1 [39] [(39, (bp b1))] ?_
   refine gv_load (t := 5) (A := ⟨b1, 0, none⟩) (.int .u8 f_1.1) [] (fun e => by cases e) rfl rfl rfl (by kernel_rfl) (by kernel_rfl) (by kernel_rfl) (inw0 (hk59.cell 0 rfl)) rfl ?_
   refine pN 2 [38, 41] [(38, (.bool (f_1.1 == 63)))] ?_
   refine gv_sub [0, 3, 4, 38] (σ' := [(0, (bp pb0)), (3, (bp b1)), (4, (bp b7)), (38, (.bool (f_1.1 == 63)))]) (by kernel_rfl) ?_
   refine gv_nil <| gv_cond (b := (f_1.1 == 63)) (by kernel_rfl) (fun hc99 => ?_) (fun hc99 => ?_)
   ·replace h0 := ite_t hc99 h0
    refine gv_seq <| gv_region <| pN 1 [43] [(43, (bp pb0))] ?_
    refine bindE h0 ?_; clear h0; intro r100 hr101 h0
    have hg102 := (grown_trans (grown_trans hg3 hg9) hg17)
    have hB103 := grown_step hB0 hg102 nb
    have hk104 := hp0.grown hg102 nb
    refine gv_call0 (by kernel_rfl) rfl (by kernel_rfl) enters46 (packing_reader_take_ok fuel pb0 pa0_0 pc0_0 (r_0.1, r_0.2) 1 w16 (fun k => X0 k) (fun k hk => ⟨(fun k (hk : X0 k) => ltl (hX0 k hk).1 hB103.size) k hk, fun e => (fun (hx : X0 pb0) => (hX0 _ hx).2 rfl) (e ▸ hk)⟩) hk104 ((hpa0_0.grown hB103 (fun k hk => (hX0 k hk).1) (fun g e hk => by cases e; exact (hX0 _ hk).2 rfl)).wide (fun k hk => hk)) r100 hr101) ?_
    rintro v107 w105 ⟨hg106, a108, c109, X111, rfl, ho110, hx112, hb113⟩
    have hx114 : ∀ k, X111 k → k < w105.heap.size := fun k hk => (hx112 k hk).1
    have hx115 : ∀ k, X111 k → X0 k ∨ w0.heap.size ≤ k := fun k hk => (hx112 k hk).2.elim (fun h => (fun k (hk : X0 k) => Or.inl hk) k h) (fun h => .inr (Nat.le_trans hB103.size h))
    clear hk104 hg102 hr101 hc99 hc60 hk59 hc19 hr15 hk13 hz12 hg9 hz6 hbe5 hb4
    refine pN 5 [8, 9, 42, 45, 46] [(8, (.slice a108 (length r100.1) c109)), (9, (.bool r100.2.1))] ?_
    refine gv_nil <| gv_seq <| gv_block <| gv_seq <| gv_region <| pN 3 [47, 48, 49] [(47, (.bool (!r100.2.1)))] ?_
    refine gv_nil <| gv_cond (b := (!r100.2.1)) (by kernel_rfl) (fun hc116 => ?_) (fun hc116 => ?_)
    ·replace h0 := ite_t hc116 h0
     refine gv_seq <| gv_region <| pN 1 [50] [(50, (.agg #[(.int .i64 0), (.bool false), (.slice none (length ([] : List Int)) 0), (.bool false), (.slice none (length ([] : List Int)) 0), (.string (strOf [])), (.int .i64 0)]))] ?_
     have hk121 := hp0.grown hg3 nb
     have ap122 : ¬ (· = b7) pb0 := fun hx => nl ((lowb hbe11) _ hx) ((ltb hk121) _ rfl)
     have hk123 := (hb10.grown hg17 nb).grown hg106 (rowne ap122)
     refine gv_store0 48 0 (.agg #[(.int .i64 0), (.bool false), (.slice none (length ([] : List Int)) 0), (.bool false), (.slice none (length ([] : List Int)) 0), (.string (strOf [])), (.int .i64 0)]) #[(.int .i64 0), (.bool false), (.slice none (length ([] : List Int)) 0), (.bool false), (.slice none (length ([] : List Int)) 0), (.string (strOf [])), (.int .i64 0)] hk123 (by kernel_rfl) (by kernel_rfl) (by kernel_rfl) ?_
     intro w117 hg118 hb119 hz120
     refine pN 1 [5] [(5, (.int .i64 15))] ?_
     refine gv_nil <| gv_cret ?_
     have e := sj h0; subst e
     refine gv_ret (gv_done [(.agg #[(.int .i64 0), (.bool false), (.slice none (length ([] : List Int)) 0), (.bool false), (.slice none (length ([] : List Int)) 0), (.string (strOf [])), (.int .i64 0)]), (.int .i64 15)] rfl ⟨⟨⟨b7, 0, none⟩, (by kernel_rfl), run_loadVar_row w117 b7 _ 48 _ _ _ hb119 Tryd.underlying48 rfl (by kernel_rfl)⟩, (by kernel_rfl), trivial⟩ ?_)
     have hB124 := grown_step hB103 hg106 rowpp
     have hB125 := grown_step hB0 hg3 nb
     have hlo126 : w0.heap.size ≤ b7 := lob hbe11 hB125.size
     have hB127 := grown_step hB124 hg118 (rowppr hlo126)
     have ap128 : ¬ (· = pb0) b7 := fun hx => nl ((lowb hbe11) _ rfl) ((ltb hk121) _ hx)
     have hk129 := hb113.grown hg118 (rowne ap128)
     exact ⟨hB127, none, 0, none, 0, rfl, (Gv.Own.nil (iE .u32) 87 w117 (fun _ => False)), (fun _ h => by cases h), (Gv.Own.nil (iE .u32) 87 w117 (fun _ => False)), (fun _ h => by cases h), (fun _ h => by cases h), hk129⟩
    ·replace h0 := ite_f hc116 h0
     refine gv_seq <| gv_region <| pN 1 [52] [(52, (.slice a108 (length r100.1) c109))] ?_
     refine bindE h0 ?_; clear h0; intro x130 hx131 h0
     refine gv_idxaddr (t := 24) (e := 5) (a := a108) (len := length r100.1) (cap := c109) (kk := .i64) (i := 0) (sz := 1) [] (fun e => by cases e) rfl rfl rfl (by kernel_rfl) (by kernel_rfl) Tryd.underlying24 (by kernel_rfl) (ho110.has hx131) (idx_spec hx131).1 (idx_spec hx131).2.1 rfl ?_
     refine gv_load (t := 5) (A := (elemAddr a108 ((0 : Int).toNat * 1))) (.int .u8 ((x130).toNat : Int)) [] (fun e => by cases e) rfl rfl rfl (by kernel_rfl) (by kernel_rfl) (by kernel_rfl) (inw0 (ho110.cell hx131)) rfl ?_
     refine pN 2 [51, 55] [(51, (.bool (decide (((x130).toNat : Int) > 1))))] ?_
     refine gv_nil <| gv_cond (b := (decide (((x130).toNat : Int) > 1))) (by kernel_rfl) (fun hc132 => ?_) (fun hc132 => ?_)
     ·replace h0 := ite_t hc132 h0
      refine gv_seq <| gv_region <| pN 1 [56] [(56, (.agg #[(.int .i64 0), (.bool false), (.slice none (length ([] : List Int)) 0), (.bool false), (.slice none (length ([] : List Int)) 0), (.string (strOf [])), (.int .i64 0)]))] ?_
      have hk137 := hp0.grown hg3 nb
      have ap138 : ¬ (· = b7) pb0 := fun hx => nl ((lowb hbe11) _ hx) ((ltb hk137) _ rfl)
      have hk139 := (hb10.grown hg17 nb).grown hg106 (rowne ap138)
      refine gv_store0 48 0 (.agg #[(.int .i64 0), (.bool false), (.slice none (length ([] : List Int)) 0), (.bool false), (.slice none (length ([] : List Int)) 0), (.string (strOf [])), (.int .i64 0)]) #[(.int .i64 0), (.bool false), (.slice none (length ([] : List Int)) 0), (.bool false), (.slice none (length ([] : List Int)) 0), (.string (strOf [])), (.int .i64 0)] hk139 (by kernel_rfl) (by kernel_rfl) (by kernel_rfl) ?_
      intro w133 hg134 hb135 hz136
      refine pN 1 [5] [(5, (.int .i64 16))] ?_
      refine gv_nil <| gv_cret ?_
      have e := sj h0; subst e
      refine gv_ret (gv_done [(.agg #[(.int .i64 0), (.bool false), (.slice none (length ([] : List Int)) 0), (.bool false), (.slice none (length ([] : List Int)) 0), (.string (strOf [])), (.int .i64 0)]), (.int .i64 16)] rfl ⟨⟨⟨b7, 0, none⟩, (by kernel_rfl), run_loadVar_row w133 b7 _ 48 _ _ _ hb135 Tryd.underlying48 rfl (by kernel_rfl)⟩, (by kernel_rfl), trivial⟩ ?_)
      have hB140 := grown_step hB103 hg106 rowpp
      have hB141 := grown_step hB0 hg3 nb
      have hlo142 : w0.heap.size ≤ b7 := lob hbe11 hB141.size
      have hB143 := grown_step hB140 hg134 (rowppr hlo142)
      have ap144 : ¬ (· = pb0) b7 := fun hx => nl ((lowb hbe11) _ rfl) ((ltb hk137) _ hx)
      have hk145 := hb113.grown hg134 (rowne ap144)
      exact ⟨hB143, none, 0, none, 0, rfl, (Gv.Own.nil (iE .u32) 87 w133 (fun _ => False)), (fun _ h => by cases h), (Gv.Own.nil (iE .u32) 87 w133 (fun _ => False)), (fun _ h => by cases h), (fun _ h => by cases h), hk145⟩
     ·replace h0 := ite_f hc132 h0
      refine gv_skip <| gv_blk <| gv_seq <| gv_region <| pN 1 [57] [(57, (.slice a108 (length r100.1) c109))] ?_
      refine bindE h0 ?_; clear h0; intro x146 hx147 h0
      refine gv_idxaddr (t := 24) (e := 5) (a := a108) (len := length r100.1) (cap := c109) (kk := .i64) (i := 0) (sz := 1) [] (fun e => by cases e) rfl rfl rfl (by kernel_rfl) (by kernel_rfl) Tryd.underlying24 (by kernel_rfl) (ho110.has hx147) (idx_spec hx147).1 (idx_spec hx147).2.1 rfl ?_
      refine gv_load (t := 5) (A := (elemAddr a108 ((0 : Int).toNat * 1))) (.int .u8 ((x146).toNat : Int)) [] (fun e => by cases e) rfl rfl rfl (by kernel_rfl) (by kernel_rfl) (by kernel_rfl) (inw0 (ho110.cell hx147)) rfl ?_
      refine pN 2 [60, 61] [(61, (.agg #[(.int .i64 1), (.bool false), (.slice none (length ([] : List Int)) 0), (.bool false), (.slice none (length ([] : List Int)) 0), (.string (strOf [])), (.int .i64 (IntKind.i64.wrap (((x146).toNat : Int))))]))] ?_
      have hk152 := hp0.grown hg3 nb
      have ap153 : ¬ (· = b7) pb0 := fun hx => nl ((lowb hbe11) _ hx) ((ltb hk152) _ rfl)
      have hk154 := (hb10.grown hg17 nb).grown hg106 (rowne ap153)
      refine gv_store0 48 0 (.agg #[(.int .i64 1), (.bool false), (.slice none (length ([] : List Int)) 0), (.bool false), (.slice none (length ([] : List Int)) 0), (.string (strOf [])), (.int .i64 (IntKind.i64.wrap (((x146).toNat : Int))))]) #[(.int .i64 1), (.bool false), (.slice none (length ([] : List Int)) 0), (.bool false), (.slice none (length ([] : List Int)) 0), (.string (strOf [])), (.int .i64 (IntKind.i64.wrap (((x146).toNat : Int))))] hk154 (by kernel_rfl) (by kernel_rfl) (by kernel_rfl) ?_
      intro w148 hg149 hb150 hz151
      refine pN 1 [5] [(5, (.int .i64 0))] ?_
      refine gv_sub [4, 5] (σ' := [(4, (bp b7)), (5, (.int .i64 0))]) (by kernel_rfl) ?_
      refine gv_nil <| gv_cret ?_
      have e := sj h0; subst e
      refine gv_ret (gv_done [(.agg #[(.int .i64 1), (.bool false), (.slice none (length ([] : List Int)) 0), (.bool false), (.slice none (length ([] : List Int)) 0), (.string (strOf [])), (.int .i64 (IntKind.i64.wrap (((x146).toNat : Int))))]), (.int .i64 0)] rfl ⟨⟨⟨b7, 0, none⟩, (by kernel_rfl), run_loadVar_row w148 b7 _ 48 _ _ _ hb150 Tryd.underlying48 rfl (by kernel_rfl)⟩, (by kernel_rfl), trivial⟩ ?_)
      have hB155 := grown_step hB103 hg106 rowpp
      have hB156 := grown_step hB0 hg3 nb
      have hlo157 : w0.heap.size ≤ b7 := lob hbe11 hB156.size
      have hB158 := grown_step hB155 hg149 (rowppr hlo157)
      have ap159 : ¬ (· = pb0) b7 := fun hx => nl ((lowb hbe11) _ rfl) ((ltb hk152) _ hx)
      have hk160 := hb113.grown hg149 (rowne ap159)
      exact ⟨hB158, none, 0, none, 0, rfl, (Gv.Own.nil (iE .u32) 87 w148 (fun _ => False)), (fun _ h => by cases h), (Gv.Own.nil (iE .u32) 87 w148 (fun _ => False)), (fun _ h => by cases h), (fun _ h => by cases h), hk160⟩
   ·replace h0 := ite_f hc99 h0
    refine gv_seq <| gv_region <| pN 1 [63] [(63, (bp b1))] ?_
    refine gv_load (t := 5) (A := ⟨b1, 0, none⟩) (.int .u8 f_1.1) [] (fun e => by cases e) rfl rfl rfl (by kernel_rfl) (by kernel_rfl) (by kernel_rfl) (inw0 (hk59.cell 0 rfl)) rfl ?_
    refine pN 2 [62, 65] [(62, (.bool (f_1.1 == 112)))] ?_
    refine gv_nil <| bindE h0 ?_; clear h0; intro j161 h1 h0
    refine gv_cut_code (J := fun a w163 => ∃ s162 : (((List UInt8) × Int) × (Int × Int × Bool) × (Int × (Bool × (List Int)) × (Bool × (List Int)) × ByteArray × Int)), j161 = .inl s162 ∧ ∃ (abb7_0j : Option Addr) (cbb7_0j : Nat), ∃ (abb7_1j : Option Addr) (cbb7_1j : Nat), w0.grownBy w163 (some pb0) ∧ w16.heap.size ≤ w163.heap.size ∧ Gv.Own (iE .u32) 87 w163 (fun _ => False) abb7_0j cbb7_0j s162.2.2.2.1.2 ∧ (∀ g, blk abb7_0j = some g → w0.heap.size ≤ g) ∧ Gv.Own (iE .u32) 87 w163 (fun _ => False) abb7_1j cbb7_1j s162.2.2.2.2.1.2 ∧ (∀ g, blk abb7_1j = some g → w0.heap.size ≤ g) ∧ (∀ g, blk abb7_0j = some g → ¬ (fun k => blk abb7_1j = some k) g) ∧ (∀ g, blk abb7_0j = some g → ¬ (· = b1) g) ∧ (∀ g, blk abb7_0j = some g → ¬ (· = b7) g) ∧ ¬ (fun k => blk abb7_0j = some k) b1 ∧ ¬ (fun k => blk abb7_0j = some k) b7 ∧ (∀ g, blk abb7_1j = some g → ¬ (fun k => blk abb7_0j = some k) g) ∧ (∀ g, blk abb7_1j = some g → ¬ (· = b1) g) ∧ (∀ g, blk abb7_1j = some g → ¬ (· = b7) g) ∧ ¬ (fun k => blk abb7_1j = some k) b1 ∧ ¬ (fun k => blk abb7_1j = some k) b7 ∧ Box w163 pb0 72 #[(.slice pa0_0 (length r_0.1) pc0_0), (.int .i64 s162.1.2)] ∧ Box w163 b1 31 #[(.int .u8 s162.2.1.1), (.int .i64 s162.2.1.2.1), (.bool s162.2.1.2.2)] ∧ Box w163 b7 48 #[(.int .i64 s162.2.2.1), (.bool s162.2.2.2.1.1), (.slice abb7_0j (length s162.2.2.2.1.2) cbb7_0j), (.bool s162.2.2.2.2.1.1), (.slice abb7_1j (length s162.2.2.2.2.1.2) cbb7_1j), (.string s162.2.2.2.2.2.1), (.int .i64 s162.2.2.2.2.2.2)] ∧ a.defers = [] ∧ a.tmps.size = 102 ∧ Ok [(0, (bp pb0)), (3, (bp b1)), (4, (bp b7))] a.tmps) ?_ ?_
    ·skip
     refine gv_cond (b := (f_1.1 == 112)) (by kernel_rfl) (fun hc164 => ?_) (fun hc164 => ?_)
     ·replace h1 := ite_t hc164 h1
      refine gv_seq <| gv_region <| pN 1 [67] [(67, (bp pb0))] ?_
      refine bindE h1 ?_; clear h1; intro r165 hr166 h1
      have hg167 := (grown_trans (grown_trans hg3 hg9) hg17)
      have hB168 := grown_step hB0 hg167 nb
      have hk169 := hp0.grown hg167 nb
      refine gv_call0 (by kernel_rfl) rfl (by kernel_rfl) enters46 (packing_reader_take_ok fuel pb0 pa0_0 pc0_0 (r_0.1, r_0.2) 1 w16 (fun k => X0 k) (fun k hk => ⟨(fun k (hk : X0 k) => ltl (hX0 k hk).1 hB168.size) k hk, fun e => (fun (hx : X0 pb0) => (hX0 _ hx).2 rfl) (e ▸ hk)⟩) hk169 ((hpa0_0.grown hB168 (fun k hk => (hX0 k hk).1) (fun g e hk => by cases e; exact (hX0 _ hk).2 rfl)).wide (fun k hk => hk)) r165 hr166) ?_
      rintro v172 w170 ⟨hg171, a173, c174, X176, rfl, ho175, hx177, hb178⟩
      have hx179 : ∀ k, X176 k → k < w170.heap.size := fun k hk => (hx177 k hk).1
      have hx180 : ∀ k, X176 k → X0 k ∨ w0.heap.size ≤ k := fun k hk => (hx177 k hk).2.elim (fun h => (fun k (hk : X0 k) => Or.inl hk) k h) (fun h => .inr (Nat.le_trans hB168.size h))
      refine pN 5 [10, 11, 66, 69, 70] [(10, (.slice a173 (length r165.1) c174)), (11, (.bool r165.2.1))] ?_
      refine gv_nil <| gv_seq <| gv_seq <| gv_region <| pN 2 [71, 72] [(72, (.bool (!r165.2.1)))] ?_
      refine gv_nil <| gv_cond (b := (!r165.2.1)) (by kernel_rfl) (fun hc181 => ?_) (fun hc181 => ?_)
      ·replace h1 := ite_t hc181 h1
       refine gv_seq <| gv_region <| pN 1 [73] [(73, (.agg #[(.int .i64 0), (.bool false), (.slice none (length ([] : List Int)) 0), (.bool false), (.slice none (length ([] : List Int)) 0), (.string (strOf [])), (.int .i64 0)]))] ?_
       have hk186 := hp0.grown hg3 nb
       have ap187 : ¬ (· = b7) pb0 := fun hx => nl ((lowb hbe11) _ hx) ((ltb hk186) _ rfl)
       have hk188 := (hb10.grown hg17 nb).grown hg171 (rowne ap187)
       refine gv_store0 48 0 (.agg #[(.int .i64 0), (.bool false), (.slice none (length ([] : List Int)) 0), (.bool false), (.slice none (length ([] : List Int)) 0), (.string (strOf [])), (.int .i64 0)]) #[(.int .i64 0), (.bool false), (.slice none (length ([] : List Int)) 0), (.bool false), (.slice none (length ([] : List Int)) 0), (.string (strOf [])), (.int .i64 0)] hk188 (by kernel_rfl) (by kernel_rfl) (by kernel_rfl) ?_
       intro w182 hg183 hb184 hz185
       refine pN 1 [5] [(5, (.int .i64 15))] ?_
       refine gv_nil <| gv_cret ?_
       have e := sj h1; subst e
       replace h0 := cont_inr h0
       have e := sj h0; subst e
       refine gv_ret (gv_done [(.agg #[(.int .i64 0), (.bool false), (.slice none (length ([] : List Int)) 0), (.bool false), (.slice none (length ([] : List Int)) 0), (.string (strOf [])), (.int .i64 0)]), (.int .i64 15)] rfl ⟨⟨⟨b7, 0, none⟩, (by kernel_rfl), run_loadVar_row w182 b7 _ 48 _ _ _ hb184 Tryd.underlying48 rfl (by kernel_rfl)⟩, (by kernel_rfl), trivial⟩ ?_)
       have hB189 := grown_step hB168 hg171 rowpp
       have hB190 := grown_step hB0 hg3 nb
       have hlo191 : w0.heap.size ≤ b7 := lob hbe11 hB190.size
       have hB192 := grown_step hB189 hg183 (rowppr hlo191)
       have ap193 : ¬ (· = pb0) b7 := fun hx => nl ((lowb hbe11) _ rfl) ((ltb hk186) _ hx)
       have hk194 := hb178.grown hg183 (rowne ap193)
       exact ⟨hB192, none, 0, none, 0, rfl, (Gv.Own.nil (iE .u32) 87 w182 (fun _ => False)), (fun _ h => by cases h), (Gv.Own.nil (iE .u32) 87 w182 (fun _ => False)), (fun _ h => by cases h), (fun _ h => by cases h), hk194⟩
      ·replace h1 := ite_f hc181 h1
       refine gv_skip <| gv_region <| pN 1 [74] [(74, (.slice a173 (length r165.1) c174))] ?_
       refine bindE h1 ?_; clear h1; intro x195 hx196 h1
       refine gv_idxaddr (t := 24) (e := 5) (a := a173) (len := length r165.1) (cap := c174) (kk := .i64) (i := 0) (sz := 1) [] (fun e => by cases e) rfl rfl rfl (by kernel_rfl) (by kernel_rfl) Tryd.underlying24 (by kernel_rfl) (ho175.has hx196) (idx_spec hx196).1 (idx_spec hx196).2.1 rfl ?_
       refine gv_load (t := 5) (A := (elemAddr a173 ((0 : Int).toNat * 1))) (.int .u8 ((x195).toNat : Int)) [] (fun e => by cases e) rfl rfl rfl (by kernel_rfl) (by kernel_rfl) (by kernel_rfl) (inw0 (ho175.cell hx196)) rfl ?_
       refine pN 2 [77, 78] [(77, (.int .i64 (IntKind.i64.wrap (((x195).toNat : Int))))), (78, (.pointer (some ⟨b1, 1, none⟩)))] ?_
       have ap201 : ¬ (· = b1) pb0 := fun hx => nl ((lowb hbe5) _ hx) ((ltb hp0) _ rfl)
       have hk202 := hk59.grown hg171 (rowne ap201)
       refine gv_store0 3 1 (.int .i64 (IntKind.i64.wrap (((x195).toNat : Int)))) #[(.int .u8 f_1.1), (.int .i64 (IntKind.i64.wrap (((x195).toNat : Int)))), (.bool f_1.2.2)] hk202 (by kernel_rfl) (by kernel_rfl) (by kernel_rfl) ?_
       intro w197 hg198 hb199 hz200
       refine gv_nil ?_
       have e := sj h1; subst e
       refine gv_goal fun a hd hs hok => ?_
       have hB203 := grown_step hB168 hg171 rowpp
       have hlo204 : w0.heap.size ≤ b1 := lob hbe5 hB0.size
       have hB205 := grown_step hB203 hg198 (rowppr hlo204)
       have hz206 := (nt hg171.size hg198.size)
       have ap207 : ¬ (· = pb0) b1 := fun hx => nl ((lowb hbe5) _ rfl) ((ltb hp0) _ hx)
       have hk208 := hb178.grown hg198 (rowne ap207)
       have hk209 := hp0.grown hg3 nb
       have ap210 : ¬ (· = b7) pb0 := fun hx => nl ((lowb hbe11) _ hx) ((ltb hk209) _ rfl)
       have lt211 := ltl ((ltb hb4) _ rfl) ((lowb hbe11) _ rfl)
       have hk212 := ((hb10.grown hg17 nb).grown hg171 (rowne ap210)).grown hg198 (rowne (Nat.ne_of_lt lt211))
       exact ⟨((r_0.1, r165.2.2.2), (f_1.1, (IntKind.i64.wrap (((x195).toNat : Int))), f_1.2.2), (0, (false, ([] : List Int)), (false, ([] : List Int)), (strOf []), 0)), rfl, none, 0, none, 0, hB205, hz206, (Gv.Own.nil (iE .u32) 87 w197 (fun _ => False)), (fun _ h => by cases h), (Gv.Own.nil (iE .u32) 87 w197 (fun _ => False)), (fun _ h => by cases h), (fun _ h => by cases h), (fun _ h => by cases h), (fun _ h => by cases h), (fun h => by cases h), (fun h => by cases h), (fun _ h => by cases h), (fun _ h => by cases h), (fun _ h => by cases h), (fun h => by cases h), (fun h => by cases h), hk208, hb199, hk212, hd, hs, okp [0, 3, 4] hok⟩
     ·replace h1 := ite_f hc164 h1
      refine gv_skip ?_
      have e := sj h1; subst e
      refine gv_goal fun a hd hs hok => ?_
      have hg213 := (grown_trans (grown_trans hg3 hg9) hg17)
      have hB214 := grown_step hB0 hg213 nb
      have hk215 := hp0.grown hg213 nb
      have hk216 := hb10.grown hg17 nb
      exact ⟨((r_0.1, r_0.2), (f_1.1, f_1.2.1, f_1.2.2), (0, (false, ([] : List Int)), (false, ([] : List Int)), (strOf []), 0)), rfl, none, 0, none, 0, hB214, nrf, (Gv.Own.nil (iE .u32) 87 w16 (fun _ => False)), (fun _ h => by cases h), (Gv.Own.nil (iE .u32) 87 w16 (fun _ => False)), (fun _ h => by cases h), (fun _ h => by cases h), (fun _ h => by cases h), (fun _ h => by cases h), (fun h => by cases h), (fun h => by cases h), (fun _ h => by cases h), (fun _ h => by cases h), (fun _ h => by cases h), (fun h => by cases h), (fun h => by cases h), hk215, hk59, hk216, hd, hs, okp [0, 3, 4] hok⟩
    ·rintro a w163 ⟨s162, e, a219, c220, a221, c222, hB217, hz218, ho223, hl224, ho225, hl226, ap227, ap228, ap229, ap230, ap231, ap232, ap233, ap234, ap235, ap236, hb237, hb238, hb239, hd, hs, hok⟩
     subst e
     refine gv_in ?_ hd hs hok
     clear hd hs hok
     replace h0 := cont_inl h0
     clear hz218 hc99 hc60 hk59 hc19 hg17 hr15 hk13 hz12 hb10 hg9 hz6
     refine gv_blk <| gv_seq <| gv_region <| pN 2 [80, 81] [(80, (bp pb0)), (81, (.pointer (some ⟨b1, 1, none⟩)))] ?_
     refine gv_load (t := 3) (A := ⟨b1, 1, none⟩) (.int .i64 s162.2.1.2.1) [] (fun e => by cases e) rfl rfl rfl (by kernel_rfl) (by kernel_rfl) (by kernel_rfl) (inw0 (hb238.cell 1 rfl)) rfl ?_
     refine bindE h0 ?_; clear h0; intro r240 hr241 h0
     refine gv_call0 (by kernel_rfl) rfl (by kernel_rfl) enters46 (packing_reader_take_ok fuel pb0 pa0_0 pc0_0 (r_0.1, s162.1.2) s162.2.1.2.1 w163 (fun k => X0 k) (fun k hk => ⟨(fun k (hk : X0 k) => ltl (hX0 k hk).1 hB217.size) k hk, fun e => (fun (hx : X0 pb0) => (hX0 _ hx).2 rfl) (e ▸ hk)⟩) hb237 ((hpa0_0.grown hB217 (fun k hk => (hX0 k hk).1) (fun g e hk => by cases e; exact (hX0 _ hk).2 rfl)).wide (fun k hk => hk)) r240 hr241) ?_
     rintro v244 w242 ⟨hg243, a245, c246, X248, rfl, ho247, hx249, hb250⟩
     have hx251 : ∀ k, X248 k → k < w242.heap.size := fun k hk => (hx249 k hk).1
     have hx252 : ∀ k, X248 k → X0 k ∨ w0.heap.size ≤ k := fun k hk => (hx249 k hk).2.elim (fun h => (fun k (hk : X0 k) => Or.inl hk) k h) (fun h => .inr (Nat.le_trans hB217.size h))
     refine pN 5 [12, 13, 79, 84, 85] [(12, (.slice a245 (length r240.1) c246)), (13, (.bool r240.2.1))] ?_
     refine gv_nil <| gv_seq <| gv_seq <| gv_region <| pN 2 [86, 87] [(87, (.bool (!r240.2.1)))] ?_
     refine gv_nil <| gv_cond (b := (!r240.2.1)) (by kernel_rfl) (fun hc253 => ?_) (fun hc253 => ?_)
     ·replace h0 := ite_t hc253 h0
      refine gv_seq <| gv_region <| pN 1 [88] [(88, (.agg #[(.int .i64 0), (.bool false), (.slice none (length ([] : List Int)) 0), (.bool false), (.slice none (length ([] : List Int)) 0), (.string (strOf [])), (.int .i64 0)]))] ?_
      have hk258 := hp0.grown hg3 nb
      have ap259 : ¬ (· = b7) pb0 := fun hx => nl ((lowb hbe11) _ hx) ((ltb hk258) _ rfl)
      have hk260 := hb239.grown hg243 (rowne ap259)
      refine gv_store0 48 0 (.agg #[(.int .i64 0), (.bool false), (.slice none (length ([] : List Int)) 0), (.bool false), (.slice none (length ([] : List Int)) 0), (.string (strOf [])), (.int .i64 0)]) #[(.int .i64 0), (.bool false), (.slice none (length ([] : List Int)) 0), (.bool false), (.slice none (length ([] : List Int)) 0), (.string (strOf [])), (.int .i64 0)] hk260 (by kernel_rfl) (by kernel_rfl) (by kernel_rfl) ?_
      intro w254 hg255 hb256 hz257
      clear hz257 hk260 hc253 hx252 hx251 hx249 ho247 hr241 hb239 hb238 hb237 ap236 ap235 ap234 ap233 ap232 ap231 ap230 ap229 ap228 ap227 hl226 ho225 hl224 ho223 hbe5 hb4
      refine pN 1 [5] [(5, (.int .i64 15))] ?_
      refine gv_nil <| gv_cret ?_
      have e := sj h0; subst e
      refine gv_ret (gv_done [(.agg #[(.int .i64 0), (.bool false), (.slice none (length ([] : List Int)) 0), (.bool false), (.slice none (length ([] : List Int)) 0), (.string (strOf [])), (.int .i64 0)]), (.int .i64 15)] rfl ⟨⟨⟨b7, 0, none⟩, (by kernel_rfl), run_loadVar_row w254 b7 _ 48 _ _ _ hb256 Tryd.underlying48 rfl (by kernel_rfl)⟩, (by kernel_rfl), trivial⟩ ?_)
      have hB261 := grown_step hB217 hg243 rowpp
      have hB262 := grown_step hB0 hg3 nb
      have hlo263 : w0.heap.size ≤ b7 := lob hbe11 hB262.size
      have hB264 := grown_step hB261 hg255 (rowppr hlo263)
      have ap265 : ¬ (· = pb0) b7 := fun hx => nl ((lowb hbe11) _ rfl) ((ltb hk258) _ hx)
      have hk266 := hb250.grown hg255 (rowne ap265)
      exact ⟨hB264, none, 0, none, 0, rfl, (Gv.Own.nil (iE .u32) 87 w254 (fun _ => False)), (fun _ h => by cases h), (Gv.Own.nil (iE .u32) 87 w254 (fun _ => False)), (fun _ h => by cases h), (fun _ h => by cases h), hk266⟩
     ·replace h0 := ite_f hc253 h0
      refine gv_skip <| gv_seq <| gv_seq <| gv_region <| bindE h0 ?_; clear h0; intro j267 h1 h0
      refine gv_cut_ops (J := fun a w268 => w0.grownBy w268 (some pb0) ∧ w242.heap.size ≤ w268.heap.size ∧ Box w268 pb0 72 #[(.slice pa0_0 (length r_0.1) pc0_0), (.int .i64 r240.2.2.2)] ∧ Box w268 b7 48 #[(.int .i64 s162.2.2.1), (.bool s162.2.2.2.1.1), (.slice a219 (length s162.2.2.2.1.2) c220), (.bool s162.2.2.2.2.1.1), (.slice a221 (length s162.2.2.2.2.1.2) c222), (.string s162.2.2.2.2.2.1), (.int .i64 s162.2.2.2.2.2.2)] ∧ Rd bE w268 X248 a245 c246 r240.1 ∧ Gv.Own (iE .u32) 87 w268 (fun _ => False) a219 c220 s162.2.2.2.1.2 ∧ Gv.Own (iE .u32) 87 w268 (fun _ => False) a221 c222 s162.2.2.2.2.1.2 ∧ a.defers = [] ∧ a.tmps.size = 102 ∧ Ok [(4, (bp b7)), (12, (.slice a245 (length r240.1) c246)), (97, (.bool j267))] a.tmps) ?_ ?_
      ·skip
       refine pN 1 [89] [(89, (bp b1))] ?_
       have ap269 : ¬ (· = b1) pb0 := fun hx => nl ((lowb hbe5) _ hx) ((ltb hp0) _ rfl)
       have hk270 := hb238.grown hg243 (rowne ap269)
       refine gv_load (t := 5) (A := ⟨b1, 0, none⟩) (.int .u8 s162.2.1.1) [] (fun e => by cases e) rfl rfl rfl (by kernel_rfl) (by kernel_rfl) (by kernel_rfl) (inw0 (hk270.cell 0 rfl)) rfl ?_
       refine pN 2 [91, 92] [(92, (.bool (s162.2.1.1 == 120)))] ?_
       refine gv_split (s := 92) (g := (s162.2.1.1 == 120)) (by kernel_rfl) (fun hc271 => ?_) (fun hc271 => ?_)
       ·skip
        replace h1 := ite_t hc271 h1
        refine pN 1 [93] [(93, (.slice a245 (length r240.1) c246))] ?_
        refine gv_b2s (src := 24) (dst := 9) (e := 5) (xs := r240.1) (a := a245) (cap := c246) (X := X248) [] (fun e => by cases e) rfl rfl rfl (by kernel_rfl) (by kernel_rfl) Tryd.underlying24 Tryd.underlying5 Tryd.underlying9 (inw0 ho247) rfl ?_
        refine bindE h1 ?_; clear h1; intro r272 hr273 h1
        refine gv_call0 (by kernel_rfl) rfl (by kernel_rfl) enters47 (strings_Trim_ok fuel (strOf r240.1) (strOf [0]) w242  r272 hr273) ?_
        rintro v276 w274 ⟨hg275, rfl⟩
        refine pN 2 [96, 97] [(97, (.bool (!(r272.toList == (strOf []).toList))))] ?_
        refine gv_nil ?_
        have e := sj h1; subst e
        refine gv_goal fun a hd hs hok => ?_
        have hB277 := grown_step hB217 hg243 rowpp
        have hB278 := grown_step hB277 hg275 nb
        have hz279 := hg275.size
        have hk280 := hb250.grown hg275 nb
        have hk281 := hp0.grown hg3 nb
        have ap282 : ¬ (· = b7) pb0 := fun hx => nl ((lowb hbe11) _ hx) ((ltb hk281) _ rfl)
        have hk283 := (hb239.grown hg243 (rowne ap282)).grown hg275 nb
        have hk284 := ho247.grown hg275 hx251 nb
        have hk285 := (ho223.grown hg243 (fun _ h => h.elim) (rdnn (rowne (fun (h : blk a219 = some pb0) => nl (hl224 _ h) hpl0)))).grown hg275 (fun _ h => h.elim) nb
        have hk286 := (ho225.grown hg243 (fun _ h => h.elim) (rdnn (rowne (fun (h : blk a221 = some pb0) => nl (hl226 _ h) hpl0)))).grown hg275 (fun _ h => h.elim) nb
        exact ⟨hB278, hz279, hk280, hk283, hk284, hk285, hk286, hd, hs, okp [4, 12, 97] hok⟩
       ·skip
        replace h1 := ite_f hc271 h1
        refine pN 5 [93, 94, 95, 96, 97] [(97, (.bool false))] ?_
        refine gv_nil ?_
        have e := sj h1; subst e
        refine gv_goal fun a hd hs hok => ?_
        have hB287 := grown_step hB217 hg243 rowpp
        have hk288 := hp0.grown hg3 nb
        have ap289 : ¬ (· = b7) pb0 := fun hx => nl ((lowb hbe11) _ hx) ((ltb hk288) _ rfl)
        have hk290 := hb239.grown hg243 (rowne ap289)
        have hk291 := ho223.grown hg243 (fun _ h => h.elim) (rdnn (rowne (fun (h : blk a219 = some pb0) => nl (hl224 _ h) hpl0)))
        have hk292 := ho225.grown hg243 (fun _ h => h.elim) (rdnn (rowne (fun (h : blk a221 = some pb0) => nl (hl226 _ h) hpl0)))
        exact ⟨hB287, nrf, hb250, hk290, ho247, hk291, hk292, hd, hs, okp [4, 12, 97] hok⟩
      ·rintro a w268 ⟨hB293, hz294, hb295, hb296, hk297, hk298, hk299, hd, hs, hok⟩
       refine gv_in ?_ hd hs hok
       clear hd hs hok
       clear hc253 hb250 ho247 hg243 hr241 hb238 hb237 ap235 ap233 ap230 ap228 hB217 hbe5 hb4
       refine gv_cond (b := j267) (by kernel_rfl) (fun hc300 => ?_) (fun hc300 => ?_)
       ·replace h0 := ite_t hc300 h0
        refine gv_seq <| gv_region <| pN 1 [98] [(98, (.agg #[(.int .i64 0), (.bool false), (.slice none (length ([] : List Int)) 0), (.bool false), (.slice none (length ([] : List Int)) 0), (.string (strOf [])), (.int .i64 0)]))] ?_
        refine gv_store0 48 0 (.agg #[(.int .i64 0), (.bool false), (.slice none (length ([] : List Int)) 0), (.bool false), (.slice none (length ([] : List Int)) 0), (.string (strOf [])), (.int .i64 0)]) #[(.int .i64 0), (.bool false), (.slice none (length ([] : List Int)) 0), (.bool false), (.slice none (length ([] : List Int)) 0), (.string (strOf [])), (.int .i64 0)] hb296 (by kernel_rfl) (by kernel_rfl) (by kernel_rfl) ?_
        intro w301 hg302 hb303 hz304
        refine pN 1 [5] [(5, (.int .i64 16))] ?_
        refine gv_nil <| gv_cret ?_
        have e := sj h0; subst e
        refine gv_ret (gv_done [(.agg #[(.int .i64 0), (.bool false), (.slice none (length ([] : List Int)) 0), (.bool false), (.slice none (length ([] : List Int)) 0), (.string (strOf [])), (.int .i64 0)]), (.int .i64 16)] rfl ⟨⟨⟨b7, 0, none⟩, (by kernel_rfl), run_loadVar_row w301 b7 _ 48 _ _ _ hb303 Tryd.underlying48 rfl (by kernel_rfl)⟩, (by kernel_rfl), trivial⟩ ?_)
        have hB305 := grown_step hB0 hg3 nb
        have hlo306 : w0.heap.size ≤ b7 := lob hbe11 hB305.size
        have hB307 := grown_step hB293 hg302 (rowppr hlo306)
        have hk308 := hp0.grown hg3 nb
        have ap309 : ¬ (· = pb0) b7 := fun hx => nl ((lowb hbe11) _ rfl) ((ltb hk308) _ hx)
        have hk310 := hb295.grown hg302 (rowne ap309)
        exact ⟨hB307, none, 0, none, 0, rfl, (Gv.Own.nil (iE .u32) 87 w301 (fun _ => False)), (fun _ h => by cases h), (Gv.Own.nil (iE .u32) 87 w301 (fun _ => False)), (fun _ h => by cases h), (fun _ h => by cases h), hk310⟩
       ·replace h0 := ite_f hc300 h0
        refine gv_skip <| gv_seq <| gv_region <| pN 1 [99] [(99, (.slice a245 (length r240.1) c246))] ?_
        refine gv_b2s (src := 24) (dst := 9) (e := 5) (xs := r240.1) (a := a245) (cap := c246) (X := X248) [] (fun e => by cases e) rfl rfl rfl (by kernel_rfl) (by kernel_rfl) Tryd.underlying24 Tryd.underlying5 Tryd.underlying9 (inw0 hk297) rfl ?_
        refine pN 1 [101] [(101, (.agg #[(.int .i64 5), (.bool false), (.slice none (length ([] : List Int)) 0), (.bool false), (.slice none (length ([] : List Int)) 0), (.string (strOf r240.1)), (.int .i64 0)]))] ?_
        refine gv_store0 48 0 (.agg #[(.int .i64 5), (.bool false), (.slice none (length ([] : List Int)) 0), (.bool false), (.slice none (length ([] : List Int)) 0), (.string (strOf r240.1)), (.int .i64 0)]) #[(.int .i64 5), (.bool false), (.slice none (length ([] : List Int)) 0), (.bool false), (.slice none (length ([] : List Int)) 0), (.string (strOf r240.1)), (.int .i64 0)] hb296 (by kernel_rfl) (by kernel_rfl) (by kernel_rfl) ?_
        intro w311 hg312 hb313 hz314
        refine pN 1 [5] [(5, (.int .i64 0))] ?_
        refine gv_nil <| gv_cret ?_
        have e := sj h0; subst e
        refine gv_ret (gv_done [(.agg #[(.int .i64 5), (.bool false), (.slice none (length ([] : List Int)) 0), (.bool false), (.slice none (length ([] : List Int)) 0), (.string (strOf r240.1)), (.int .i64 0)]), (.int .i64 0)] rfl ⟨⟨⟨b7, 0, none⟩, (by kernel_rfl), run_loadVar_row w311 b7 _ 48 _ _ _ hb313 Tryd.underlying48 rfl (by kernel_rfl)⟩, (by kernel_rfl), trivial⟩ ?_)
        have hB315 := grown_step hB0 hg3 nb
        have hlo316 : w0.heap.size ≤ b7 := lob hbe11 hB315.size
        have hB317 := grown_step hB293 hg312 (rowppr hlo316)
        have hk318 := hp0.grown hg3 nb
        have ap319 : ¬ (· = pb0) b7 := fun hx => nl ((lowb hbe11) _ rfl) ((ltb hk318) _ hx)
        have hk320 := hb295.grown hg312 (rowne ap319)
        exact ⟨hB317, none, 0, none, 0, rfl, (Gv.Own.nil (iE .u32) 87 w311 (fun _ => False)), (fun _ h => by cases h), (Gv.Own.nil (iE .u32) 87 w311 (fun _ => False)), (fun _ h => by cases h), (fun _ h => by cases h), hk320⟩

theorem packing_Unpack_ok (fuel : Nat) (pa0_0 : Option Addr) (pc0_0 : Nat) (l_0 : (List (Int × Int × Bool))) (pa1_0 : Option Addr) (pc1_0 : Nat) (data_1 : (List UInt8)) (w0 : World) (X0 : Nat → Prop) (hX0 : ∀ k, X0 k → k < w0.heap.size) (hpa0_0 : Rd (prE (iE .u8) (prE (iE .i64) tE)) w0 X0 pa0_0 pc0_0 l_0) (hpa1_0 : Rd bE w0 X0 pa1_0 pc1_0 data_1) (r0 : ((List (Int × (Bool × (List Int)) × (Bool × (List Int)) × ByteArray × Int)) × (Int × Int))) (h0 : packing_Unpack fuel l_0 data_1 = some r0) :
    Calls Tryd.prog 18 ([(.slice pa0_0 (length l_0) pc0_0), (.slice pa1_0 (length data_1) pc1_0)] : List Value).toArray w0 (Ret fun v w' => w0.grownBy w' none ∧ ∃ (a0_0r : Option Addr) (c0_0r : Nat), ∃ (X0_0r : Nat → Prop), v = tup [(.slice a0_0r (length r0.1) c0_0r), (.agg #[(.int .i64 r0.2.1), (.int .i64 r0.2.2)])] ∧ Gv.Own (prE (iE .i64) (prE (prE tE (slE (iE .u32))) (prE (prE tE (slE (iE .u32))) (prE sE (iE .i64))))) 48 w' X0_0r a0_0r c0_0r r0.1 ∧ (∀ g, blk a0_0r = some g → w0.heap.size ≤ g) ∧ (∀ k, X0_0r k → k < w'.heap.size ∧ (X0 k ∨ w0.heap.size ≤ k))) := by
 have hB0 : Below w0.heap.size w0 w0 := Below.refl _ _
 unfold packing_Unpack at h0
 refine calls_run Tryd.func18 rfl Tryd.ntmps18 (by kernel_rfl) ?_
 refine gv_sub [0, 1] (σ' := [(0, (.slice pa0_0 (length l_0) pc0_0)), (1, (.slice pa1_0 (length data_1) pc1_0))]) (by kernel_rfl) ?_
 refine gv_seq <| gv_region <| pN 1 [4] [] ?_
 refine gv_new0 (fun b => .pointer (some ⟨b, 0, none⟩)) #[(.int .i64 0), (.int .i64 0)] 26 (by kernel_rfl) (by kernel_rfl) ?_
 intro b1 w2 hg3 hb4 hbe5 hz6
 refine gv_nil <| gv_seq <| gv_seq <| gv_region <| pN 1 [13] [(13, (.slice pa0_0 (length l_0) pc0_0))] ?_
 refine bindE h0 ?_; clear h0; intro r7 hr8 h0
 have hB9 := bg hB0 hg3 nb
 refine gv_call0 (by kernel_rfl) rfl (by kernel_rfl) enters15 (packing_Check_ok fuel pa0_0 pc0_0 l_0 w2 (fun k => X0 k) (fun k hk => (fun k (hk : X0 k) => ltl (hX0 k hk) hB9.size) k hk) ((hpa0_0.below hB9 hX0).wide (fun k hk => hk)) r7 hr8) ?_
 rintro v12 w10 ⟨hg11, rfl⟩
 refine gv_new0 (fun b => .pointer (some ⟨b, 0, none⟩)) #[(.int .i64 0), (.int .i64 0)] 26 (by kernel_rfl) (by kernel_rfl) ?_
 intro b13 w14 hg15 hb16 hbe17 hz18
 refine gv_store0 26 0 (.agg #[(.int .i64 r7.1), (.int .i64 r7.2)]) #[(.int .i64 r7.1), (.int .i64 r7.2)] hb16 (by kernel_rfl) (by kernel_rfl) (by kernel_rfl) ?_
 intro w19 hg20 hb21 hz22
 refine gv_nil <| gv_seq <| gv_region <| pN 1 [15] [(15, (bp b13))] ?_
 refine gv_load (t := 3) (A := ⟨b13, 0, none⟩) (.int .i64 r7.1) [] (fun e => by cases e) rfl rfl rfl (by kernel_rfl) (by kernel_rfl) (by kernel_rfl) (inw0 (hb21.cell 0 rfl)) rfl ?_
 refine pN 1 [17] [(17, (.bool (r7.1 != 0)))] ?_
 refine gv_nil <| gv_cond (b := (r7.1 != 0)) (by kernel_rfl) (fun hc23 => ?_) (fun hc23 => ?_)
 ·replace h0 := ite_t hc23 h0
  refine gv_seq <| gv_drawA (by kernel_rfl) ?_
  intro w24 hg25
  refine gv_pre [1] (bA 3 [1]) 2 (by kernel_rfl) (by kernel_rfl) ?_
  refine pN 1 [4] [(4, (.slice none (length ([] : List (Int × (Bool × (List Int)) × (Bool × (List Int)) × ByteArray × Int))) 0))] ?_
  refine gv_nil <| gv_goA ?_
  refine gv_stage (Cls w24 []) [0] [(0, some true)] (bA 3 [0, 1]) 1 (by kernel_rfl) (by kernel_rfl) (Cls.refl _ _) ?_
  have hC26 := Cls.refl w24 []
  have hk27 := hb21.grown hg25 nb
  refine gv_loadBox (t := 26) (b := b13) (t' := 26) (fr := (0, 0)) #[(.int .i64 r7.1), (.int .i64 r7.2)] [] (fun e => by cases e) rfl rfl rfl (by kernel_rfl) (by kernel_rfl) (by kernel_rfl) (by kernel_rfl) (inw1 fun w' hC' => (hC'.box hk27 nm_nil)) rfl ?_
  refine gv_nil <| gv_goA ?_
  refine gv_stage (fun _ => True) [2] [(2, some false)] (bA 3 [0, 1, 2]) 0 (by kernel_rfl) (by kernel_rfl) trivial ?_
  have hg32 := (grown_trans hg11 hg15)
  have hk33 := hb4.grown hg11 nb
  have lt34 := ltl ((ltb hk33) _ rfl) ((lowb hbe17) _ rfl)
  have hk35 := ((hb4.grown hg32 nb).grown hg20 (rowne (ng lt34))).grown hg25 nb
  refine gv_store (t := 26) (b := b1) (off := 0) (v := (.agg #[(.int .i64 r7.1), (.int .i64 r7.2)])) (t' := 26) (cs := #[(.int .i64 0), (.int .i64 0)]) #[(.int .i64 r7.1), (.int .i64 r7.2)] (by decide) rfl rfl (by kernel_rfl) (by kernel_rfl) (by kernel_rfl) (by intro u hu; simp [Value.cells] at hu; rcases hu with rfl | rfl <;> rfl) (show 0 + 2 ≤ 2 by decide) (by rfl) hk35 ?_
  intro w28 hg29 hb30 hz31
  refine ⟨(fun _ => trivial), ?_⟩
  refine gv_nil <| gv_goA ?_
  refine gv_stageE (by kernel_rfl) ?_
  refine gv_cret ?_
  have e := sj h0; subst e
  refine gv_ret (gv_done [(.slice none (length ([] : List (Int × (Bool × (List Int)) × (Bool × (List Int)) × ByteArray × Int))) 0), (.agg #[(.int .i64 r7.1), (.int .i64 r7.2)])] rfl ⟨(by kernel_rfl), ⟨⟨b1, 0, none⟩, (by kernel_rfl), run_loadVar_row w28 b1 _ 26 _ _ _ hb30 Tryd.underlying26 rfl (by kernel_rfl)⟩, trivial⟩ ?_)
  have hB36 := bg hB9 hg32 nb
  have hB37 := bg hB9 hg11 nb
  have hlo38 : w0.heap.size ≤ b13 := lob hbe17 hB37.size
  have hB39 := bg hB36 hg20 (rowlo hlo38)
  have hB40 := bg hB39 hg25 nb
  have hlo41 : w0.heap.size ≤ b1 := lob hbe5 hB0.size
  have hB42 := bg hB40 hg29 (rowlo hlo41)
  exact ⟨grown_of_below hB42, none, 0, (fun _ => False), rfl, (Gv.Own.nil (prE (iE .i64) (prE (prE tE (slE (iE .u32))) (prE (prE tE (slE (iE .u32))) (prE sE (iE .i64))))) 48 w28 (fun _ => False)), (fun _ h => by cases h), (fun k hk => ⟨(fun _ h => h.elim) k hk, (fun _ h => h.elim) k hk⟩)⟩
 ·replace h0 := ite_f hc23 h0
  refine gv_skip <| gv_seq <| gv_region <| pN 2 [19, 20] [(20, (.agg #[(.slice pa1_0 (length data_1) pc1_0), (.int .i64 0)]))] ?_
  refine gv_new0 (fun b => .pointer (some ⟨b, 0, none⟩)) #[(.slice pa1_0 (length data_1) pc1_0), (.int .i64 0)] 72 (by kernel_rfl) (by kernel_rfl) ?_
  intro b43 w44 hg45 hb46 hbe47 hz48
  refine pN 1 [7] [(7, (bp b43))] ?_
  refine gv_nil <| gv_seq <| gv_region <| pN 1 [8] [(8, (.slice none (length ([] : List (Int × (Bool × (List Int)) × (Bool × (List Int)) × ByteArray × Int))) 0))] ?_
  refine gv_nil <| gv_seq <| gv_seq <| gv_region <| pN 3 [22, 23, 24] [(22, (.slice pa0_0 (length l_0) pc0_0)), (23, (.int .i64 ((length l_0 : Nat) : Int))), (24, (.int .i64 0))] ?_
  refine gv_sub [1, 5, 7, 8, 22, 23, 24] (σ' := [(1, (.slice pa1_0 (length data_1) pc1_0)), (5, (bp b1)), (7, (bp b43)), (8, (.slice none (length ([] : List (Int × (Bool × (List Int)) × (Bool × (List Int)) × ByteArray × Int))) 0)), (22, (.slice pa0_0 (length l_0) pc0_0)), (23, (.int .i64 ((length l_0 : Nat) : Int))), (24, (.int .i64 0))]) (by kernel_rfl) ?_
  refine gv_nil <| bindE h0 ?_; clear h0; intro j49 h1 h0
  refine gv_cut_code (J := fun a w51 => ∃ s50 : ((List (Int × (Bool × (List Int)) × (Bool × (List Int)) × ByteArray × Int)) × (Int × Int) × ((List UInt8) × Int)), j49 = .inl s50 ∧ ∃ (a8_0j : Option Addr) (c8_0j : Nat), ∃ (X8_0j : Nat → Prop), ∃ (abb43_0j : Option Addr) (cbb43_0j : Nat), Below w0.heap.size w0 w51 ∧ w44.heap.size ≤ w51.heap.size ∧ Gv.Own (prE (iE .i64) (prE (prE tE (slE (iE .u32))) (prE (prE tE (slE (iE .u32))) (prE sE (iE .i64))))) 48 w51 X8_0j a8_0j c8_0j s50.1 ∧ (∀ g, blk a8_0j = some g → w0.heap.size ≤ g) ∧ (∀ k, X8_0j k → k < w51.heap.size) ∧ (∀ k, X8_0j k → X0 k ∨ w0.heap.size ≤ k) ∧ Rd bE w0 X0 abb43_0j cbb43_0j s50.2.2.1 ∧ (∀ g, blk a8_0j = some g → ¬ (· = b1) g) ∧ (∀ g, blk a8_0j = some g → ¬ (· = b43) g) ∧ ¬ (fun k => blk a8_0j = some k ∨ X8_0j k) b1 ∧ ¬ (fun k => blk a8_0j = some k ∨ X8_0j k) b43 ∧ Box w51 b1 26 #[(.int .i64 s50.2.1.1), (.int .i64 s50.2.1.2)] ∧ Box w51 b43 72 #[(.slice abb43_0j (length s50.2.2.1) cbb43_0j), (.int .i64 s50.2.2.2)] ∧ a.defers = [] ∧ a.tmps.size = 58 ∧ Ok [(1, (.slice pa1_0 (length data_1) pc1_0)), (5, (bp b1)), (7, (bp b43)), (8, (.slice a8_0j (length s50.1) c8_0j))] a.tmps) ?_ ?_
  ·skip
   refine gv_block <| gv_loop (A := fun (s52 : ((List (Int × (Bool × (List Int)) × (Bool × (List Int)) × ByteArray × Int)) × Int × (Int × Int) × ((List UInt8) × Int))) a w53 => ∃ (a8_0j : Option Addr) (c8_0j : Nat), ∃ (X8_0j : Nat → Prop), ∃ (abb43_0j : Option Addr) (cbb43_0j : Nat), Below w0.heap.size w0 w53 ∧ w44.heap.size ≤ w53.heap.size ∧ Gv.Own (prE (iE .i64) (prE (prE tE (slE (iE .u32))) (prE (prE tE (slE (iE .u32))) (prE sE (iE .i64))))) 48 w53 X8_0j a8_0j c8_0j s52.1 ∧ (∀ g, blk a8_0j = some g → w0.heap.size ≤ g) ∧ (∀ k, X8_0j k → k < w53.heap.size) ∧ (∀ k, X8_0j k → X0 k ∨ w0.heap.size ≤ k) ∧ Rd bE w0 X0 abb43_0j cbb43_0j s52.2.2.2.1 ∧ (∀ g, blk a8_0j = some g → ¬ (· = b1) g) ∧ (∀ g, blk a8_0j = some g → ¬ (· = b43) g) ∧ ¬ (fun k => blk a8_0j = some k ∨ X8_0j k) b1 ∧ ¬ (fun k => blk a8_0j = some k ∨ X8_0j k) b43 ∧ Box w53 b1 26 #[(.int .i64 s52.2.2.1.1), (.int .i64 s52.2.2.1.2)] ∧ Box w53 b43 72 #[(.slice abb43_0j (length s52.2.2.2.1) cbb43_0j), (.int .i64 s52.2.2.2.2)] ∧ a.defers = [] ∧ a.tmps.size = 58 ∧ Ok [(1, (.slice pa1_0 (length data_1) pc1_0)), (5, (bp b1)), (7, (bp b43)), (8, (.slice a8_0j (length s52.1) c8_0j)), (22, (.slice pa0_0 (length l_0) pc0_0)), (23, (.int .i64 ((length l_0 : Nat) : Int))), (24, (.int .i64 s52.2.1))] a.tmps) h1 ?_ ?_
   ·intro a hd hs hok
    have hg54 := (grown_trans hg11 hg15)
    have hB55 := bg hB9 hg54 nb
    have hB56 := bg hB9 hg11 nb
    have hlo57 : w0.heap.size ≤ b13 := lob hbe17 hB56.size
    have hB58 := bg hB55 hg20 (rowlo hlo57)
    have hB59 := bg hB58 hg45 nb
    have hk60 := hb4.grown hg11 nb
    have lt61 := ltl ((ltb hk60) _ rfl) ((lowb hbe17) _ rfl)
    have hk62 := ((hb4.grown hg54 nb).grown hg20 (rowne (ng lt61))).grown hg45 nb
    exact ⟨none, 0, (fun _ => False), pa1_0, pc1_0, hB59, nrf, (Gv.Own.nil (prE (iE .i64) (prE (prE tE (slE (iE .u32))) (prE (prE tE (slE (iE .u32))) (prE sE (iE .i64))))) 48 w44 (fun _ => False)), (fun _ h => by cases h), (fun _ h => h.elim), (fun _ h => h.elim), hpa1_0, (fun _ h => by cases h), (fun _ h => by cases h), (fun h => h.elim (fun e => by cases e) (fun e => e)), (fun h => h.elim (fun e => by cases e) (fun e => e)), hk62, hb46, hd, hs, okp [1, 5, 7, 8, 22, 23, 24] hok⟩
   ·rintro s52 r2 h2 hR2 a w53 ⟨a65, c66, X65, a67, c68, hB63, hz64, ho69, hl70, hx71, hx72, hp73, ap74, ap75, ap76, ap77, hb78, hb79, hd, hs, hok⟩
    refine gv_in ?_ hd hs hok
    clear hd hs hok
    clear hz48 hb46 hg45 hc23 hz22 hz18 hb16 hr8 hz6 hg3
    refine gv_seq <| gv_region <| pN 1 [25] [(25, (.bool (decide (s52.2.1 < ((length l_0 : Nat) : Int)))))] ?_
    refine gv_nil <| gv_seq <| gv_cond (b := (decide (s52.2.1 < ((length l_0 : Nat) : Int)))) (by kernel_rfl) (fun hc80 => ?_) (fun hc80 => ?_)
    ·replace h2 := ite_t hc80 h2
     refine gv_skip <| gv_seq <| gv_block <| gv_seq <| gv_region <| pN 1 [26] [(26, (.int .i64 s52.2.1))] ?_
     refine bindE h2 ?_; clear h2; intro x81 hx82 h2
     refine gv_idxaddr (t := 22) (e := 31) (a := pa0_0) (len := length l_0) (cap := pc0_0) (kk := .i64) (i := s52.2.1) (sz := 3) [] (fun e => by cases e) rfl rfl rfl (by kernel_rfl) (by kernel_rfl) Tryd.underlying22 (by kernel_rfl) ((hpa0_0.below hB63 hX0).has hx82) (idx_spec hx82).1 (idx_spec hx82).2.1 rfl ?_
     obtain ⟨_, ⟨_, _, rfl, rfl, ⟨_, _, rfl, rfl, rfl⟩⟩, hc83⟩ := hpa0_0.cellsK hx82
     refine gv_loadAgg (t := 31) (A := (elemAddr pa0_0 ((s52.2.1 : Int).toNat * 3))) #[(.int .u8 x81.1), (.int .i64 x81.2.1), (.bool x81.2.2)] [] (fun e => by cases e) rfl rfl rfl (by kernel_rfl) (by kernel_rfl) (by kernel_rfl) (by kernel_rfl) (inw0 (hc83 w53 (fun k hk => hB63.block k (hX0 k hk)))) rfl ?_
     refine gv_new0 (fun b => .pointer (some ⟨b, 0, none⟩)) #[(.int .u8 0), (.int .i64 0), (.bool false)] 31 (by kernel_rfl) (by kernel_rfl) ?_
     intro b84 w85 hg86 hb87 hbe88 hz89
     have hz90 := (nt hz64 hg86.size)
     clear hz89 hc83 hx82 hc80 hz64
     refine pN 1 [9] [(9, (.int .i64 s52.2.1))] ?_
     refine gv_store0 31 0 (.agg #[(.int .u8 x81.1), (.int .i64 x81.2.1), (.bool x81.2.2)]) #[(.int .u8 x81.1), (.int .i64 x81.2.1), (.bool x81.2.2)] hb87 (by kernel_rfl) (by kernel_rfl) (by kernel_rfl) ?_
     intro w91 hg92 hb93 hz94
     refine gv_nil <| gv_seq <| gv_region <| pN 1 [30] [(30, (bp b43))] ?_
     refine gv_loadBox (t := 31) (b := b84) (t' := 31) (fr := (0, 0)) #[(.int .u8 x81.1), (.int .i64 x81.2.1), (.bool x81.2.2)] [] (fun e => by cases e) rfl rfl rfl (by kernel_rfl) (by kernel_rfl) (by kernel_rfl) (by kernel_rfl) (inw0 hb93) rfl ?_
     refine bindE h2 ?_; clear h2; intro r95 hr96 h2
     have hB97 := bg hB63 hg86 nb
     have hlo98 : w0.heap.size ≤ b84 := lob hbe88 hB63.size
     have hB99 := bg hB97 hg92 (rowlo hlo98)
     have hg100 := (grown_trans hg11 hg15)
     have hB101 := bg hB9 hg100 nb
     have hB102 := bg hB9 hg11 nb
     have hlo103 : w0.heap.size ≤ b13 := lob hbe17 hB102.size
     have hB104 := bg hB101 hg20 (rowlo hlo103)
     have hlo105 : w0.heap.size ≤ b43 := lob hbe47 hB104.size
     have lt106 := ltl ((ltb hb79) _ rfl) ((lowb hbe88) _ rfl)
     have hk107 := (hb79.grown hg86 nb).grown hg92 (rowne (ng lt106))
     refine gv_call0 (by kernel_rfl) rfl (by kernel_rfl) enters34 (packing_reader_value_ok fuel b43 a67 c68 (s52.2.2.2.1, s52.2.2.2.2) (x81.1, x81.2.1, x81.2.2) w91 (fun k => X0 k) (fun k hk => ⟨(fun k (hk : X0 k) => ltl (hX0 k hk) hB99.size) k hk, fun e => (fun (hx : X0 b43) => nl hlo105 (hX0 _ hx)) (e ▸ hk)⟩) hk107 ((hp73.below hB99 hX0).wide (fun k hk => hk)) r95 hr96) ?_
     rintro v110 w108 ⟨hg109, a111, c112, a115, c116, rfl, ho113, hl114, ho117, hl118, ap119, hb120⟩
     have hl121 : ∀ g, blk a111 = some g → w0.heap.size ≤ g := fun g e => Nat.le_trans hB99.size (hl114 g e)
     have hl122 : ∀ g, blk a115 = some g → w0.heap.size ≤ g := fun g e => Nat.le_trans hB99.size (hl118 g e)
     refine pN 3 [29, 33, 34] [(33, (.agg #[(.int .i64 r95.1.1), (.bool r95.1.2.1.1), (.slice a111 (length r95.1.2.1.2) c112), (.bool r95.1.2.2.1.1), (.slice a115 (length r95.1.2.2.1.2) c116), (.string r95.1.2.2.2.1), (.int .i64 r95.1.2.2.2.2)])), (34, (.int .i64 r95.2.1))] ?_
     refine gv_new0 (fun b => .pointer (some ⟨b, 0, none⟩)) #[(.int .i64 0), (.bool false), (.slice none (length ([] : List Int)) 0), (.bool false), (.slice none (length ([] : List Int)) 0), (.string (strOf [])), (.int .i64 0)] 48 (by kernel_rfl) (by kernel_rfl) ?_
     intro b123 w124 hg125 hb126 hbe127 hz128
     refine gv_store0 48 0 (.agg #[(.int .i64 r95.1.1), (.bool r95.1.2.1.1), (.slice a111 (length r95.1.2.1.2) c112), (.bool r95.1.2.2.1.1), (.slice a115 (length r95.1.2.2.1.2) c116), (.string r95.1.2.2.2.1), (.int .i64 r95.1.2.2.2.2)]) #[(.int .i64 r95.1.1), (.bool r95.1.2.1.1), (.slice a111 (length r95.1.2.1.2) c112), (.bool r95.1.2.2.1.1), (.slice a115 (length r95.1.2.2.1.2) c116), (.string r95.1.2.2.2.1), (.int .i64 r95.1.2.2.2.2)] hb126 (by kernel_rfl) (by kernel_rfl) (by kernel_rfl) ?_
     intro w129 hg130 hb131 hz132
     refine pN 1 [12] [(12, (.int .i64 r95.2.1))] ?_
     refine gv_sub [1, 5, 7, 8, 9, 10, 11, 12, 22, 23, 24] (σ' := [(1, (.slice pa1_0 (length data_1) pc1_0)), (5, (bp b1)), (7, (bp b43)), (8, (.slice a65 (length s52.1) c66)), (9, (.int .i64 s52.2.1)), (10, (bp b84)), (11, (bp b123)), (12, (.int .i64 r95.2.1)), (22, (.slice pa0_0 (length l_0) pc0_0)), (23, (.int .i64 ((length l_0 : Nat) : Int))), (24, (.int .i64 s52.2.1))]) (by kernel_rfl) ?_
     refine gv_nil <| gv_seq <| gv_seq <| gv_region <| pN 2 [35, 36] [(36, (.bool (r95.2.1 != 0)))] ?_
     refine gv_nil <| gv_cond (b := (r95.2.1 != 0)) (by kernel_rfl) (fun hc133 => ?_) (fun hc133 => ?_)
     ·replace h2 := ite_t hc133 h2
      refine gv_seq <| gv_region <| pN 2 [37, 38] [(37, (.int .i64 r95.2.1)), (38, (.int .i64 s52.2.1))] ?_
      refine bindE h2 ?_; clear h2; intro r134 hr135 h2
      refine gv_call0 (by kernel_rfl) rfl (by kernel_rfl) enters21 (packing_at_ok fuel r95.2.1 s52.2.1 w129  r134 hr135) ?_
      rintro v138 w136 ⟨hg137, rfl⟩
      refine pN 1 [4] [(4, (.slice none (length ([] : List (Int × (Bool × (List Int)) × (Bool × (List Int)) × ByteArray × Int))) 0))] ?_
      have hk143 := hb4.grown hg11 nb
      have lt144 := ltl ((ltb hk143) _ rfl) ((lowb hbe17) _ rfl)
      have lt145 := ltl ((ltb hb21) _ rfl) ((lowb hbe47) _ rfl)
      have lt146 := ltt lt144 lt145
      have lt147 := ltt lt146 lt106
      have hk148 := hb93.grown hg109 (rowne (Nat.ne_of_lt lt106))
      have lt149 := ltl ((ltb hk148) _ rfl) ((lowb hbe127) _ rfl)
      have lt150 := ltt lt147 lt149
      have hk151 := (((((hb78.grown hg86 nb).grown hg92 (rowne (ng lt147))).grown hg109 (rowne (ng lt146))).grown hg125 nb).grown hg130 (rowne (ng lt150))).grown hg137 nb
      refine gv_store0 26 0 (.agg #[(.int .i64 r134.1), (.int .i64 r134.2)]) #[(.int .i64 r134.1), (.int .i64 r134.2)] hk151 (by kernel_rfl) (by kernel_rfl) (by kernel_rfl) ?_
      intro w139 hg140 hb141 hz142
      refine gv_nil <| gv_cret ?_
      have e := sj h2; subst e
      replace h1 := congrArg some (hR2 _ rfl)
      have e := sj h1; subst e
      replace h0 := cont_inr h0
      have e := sj h0; subst e
      refine gv_ret (gv_done [(.slice none (length ([] : List (Int × (Bool × (List Int)) × (Bool × (List Int)) × ByteArray × Int))) 0), (.agg #[(.int .i64 r134.1), (.int .i64 r134.2)])] rfl ⟨(by kernel_rfl), ⟨⟨b1, 0, none⟩, (by kernel_rfl), run_loadVar_row w139 b1 _ 26 _ _ _ hb141 Tryd.underlying26 rfl (by kernel_rfl)⟩, trivial⟩ ?_)
      have hB152 := bg hB99 hg109 (rowlo hlo105)
      have hB153 := bg hB152 hg125 nb
      have hB154 := bg hB99 hg109 (rowlo hlo105)
      have hlo155 : w0.heap.size ≤ b123 := lob hbe127 hB154.size
      have hB156 := bg hB153 hg130 (rowlo hlo155)
      have hB157 := bg hB156 hg137 nb
      have hlo158 : w0.heap.size ≤ b1 := lob hbe5 hB0.size
      have hB159 := bg hB157 hg140 (rowlo hlo158)
      exact ⟨grown_of_below hB159, none, 0, (fun _ => False), rfl, (Gv.Own.nil (prE (iE .i64) (prE (prE tE (slE (iE .u32))) (prE (prE tE (slE (iE .u32))) (prE sE (iE .i64))))) 48 w139 (fun _ => False)), (fun _ h => by cases h), (fun k hk => ⟨(fun _ h => h.elim) k hk, (fun _ h => h.elim) k hk⟩)⟩
     ·replace h2 := ite_f hc133 h2
      refine gv_skip <| gv_seq <| gv_region <| pN 1 [40] [(40, (bp b84))] ?_
      have hk160 := hb93.grown hg109 (rowne (Nat.ne_of_lt lt106))
      have lt161 := ltl ((ltb hk160) _ rfl) ((lowb hbe127) _ rfl)
      have hk162 := ((hb93.grown hg109 (rowne (Nat.ne_of_lt lt106))).grown hg125 nb).grown hg130 (rowne (ng lt161))
      refine gv_load (t := 5) (A := ⟨b84, 0, none⟩) (.int .u8 x81.1) [] (fun e => by cases e) rfl rfl rfl (by kernel_rfl) (by kernel_rfl) (by kernel_rfl) (inw0 (hk162.cell 0 rfl)) rfl ?_
      refine pN 1 [42] [(42, (.bool (x81.1 != 120)))] ?_
      refine gv_nil <| bindE h2 ?_; clear h2; intro j163 h3 h2
      refine gv_cut_code (J := fun a w164 => ∃ (a8_0j : Option Addr) (c8_0j : Nat), ∃ (X8_0j : Nat → Prop), Below w0.heap.size w0 w164 ∧ w129.heap.size ≤ w164.heap.size ∧ Gv.Own (prE (iE .i64) (prE (prE tE (slE (iE .u32))) (prE (prE tE (slE (iE .u32))) (prE sE (iE .i64))))) 48 w164 X8_0j a8_0j c8_0j j163 ∧ (∀ g, blk a8_0j = some g → w0.heap.size ≤ g) ∧ (∀ k, X8_0j k → k < w164.heap.size) ∧ (∀ k, X8_0j k → X0 k ∨ w0.heap.size ≤ k) ∧ (∀ g, blk a8_0j = some g → ¬ (· = b1) g) ∧ (∀ g, blk a8_0j = some g → ¬ (· = b43) g) ∧ ¬ (fun k => blk a8_0j = some k ∨ X8_0j k) b1 ∧ ¬ (fun k => blk a8_0j = some k ∨ X8_0j k) b43 ∧ Box w164 b1 26 #[(.int .i64 s52.2.2.1.1), (.int .i64 s52.2.2.1.2)] ∧ Box w164 b43 72 #[(.slice a67 (length s52.2.2.2.1) c68), (.int .i64 r95.2.2.2)] ∧ a.defers = [] ∧ a.tmps.size = 58 ∧ Ok [(1, (.slice pa1_0 (length data_1) pc1_0)), (5, (bp b1)), (7, (bp b43)), (8, (.slice a8_0j (length j163) c8_0j)), (22, (.slice pa0_0 (length l_0) pc0_0)), (23, (.int .i64 ((length l_0 : Nat) : Int))), (24, (.int .i64 s52.2.1))] a.tmps) ?_ ?_
      ·skip
       refine gv_cond (b := (x81.1 != 120)) (by kernel_rfl) (fun hc165 => ?_) (fun hc165 => ?_)
       ·replace h3 := ite_t hc165 h3
        refine gv_region <| pN 1 [43] [(43, (.slice a65 (length s52.1) c66))] ?_
        refine gv_loadBox (t := 48) (b := b123) (t' := 48) (fr := (0, 0)) #[(.int .i64 r95.1.1), (.bool r95.1.2.1.1), (.slice a111 (length r95.1.2.1.2) c112), (.bool r95.1.2.2.1.1), (.slice a115 (length r95.1.2.2.1.2) c116), (.string r95.1.2.2.2.1), (.int .i64 r95.1.2.2.2.2)] [] (fun e => by cases e) rfl rfl rfl (by kernel_rfl) (by kernel_rfl) (by kernel_rfl) (by kernel_rfl) (inw0 hb131) rfl ?_
        refine gv_new0 (fun b => .slice (some ⟨b, 0, none⟩) 1 1) #[(.int .i64 r95.1.1), (.bool r95.1.2.1.1), (.slice a111 (length r95.1.2.1.2) c112), (.bool r95.1.2.2.1.1), (.slice a115 (length r95.1.2.2.1.2) c116), (.string r95.1.2.2.2.1), (.int .i64 r95.1.2.2.2.2)] 48 (by kernel_rfl) (by kernel_rfl) ?_
        intro b166 w167 hg168 hb169 hbe170 hz171
        obtain ⟨X177, e⟩ : ∃ X : Nat → Prop, X = (fun k => (fun k => blk a111 = some k) k ∨ (fun k => blk a115 = some k) k) := ⟨_, rfl⟩
        have ap178 : ¬ (fun k => blk a111 = some k) b123 := fun hx => nl ((lowb hbe127) _ rfl) ((fun k (hk : blk a111 = some k) => ho113.lt k hk) _ hx)
        have hk179 := (ho113.grown hg125 (fun _ h => h.elim) nb).grown hg130 (fun _ h => h.elim) (rdnn (rowne ap178))
        have ap180 : ¬ (fun k => blk a115 = some k) b123 := fun hx => nl ((lowb hbe127) _ rfl) ((fun k (hk : blk a115 = some k) => ho117.lt k hk) _ hx)
        have hk181 := (ho117.grown hg125 (fun _ h => h.elim) nb).grown hg130 (fun _ h => h.elim) (rdnn (rowne ap180))
        have hx175 : ∀ k, X177 k → k < w129.heap.size := fun k h => by rw [e] at h; exact (h).elim (fun h => (fun k (hk : blk a111 = some k) => hk179.lt k hk) k h) (fun h => (fun k (hk : blk a115 = some k) => hk181.lt k hk) k h)
        have hz182 := hg168.size
        have hx174 : ∀ k, X177 k → k < w167.heap.size := fun k h => ltl (hx175 k h) hz182
        have hx176 : ∀ k, X177 k → X0 k ∨ w0.heap.size ≤ k := fun k h => by rw [e] at h; exact (h).elim (fun h => (fun k (hk : blk a111 = some k) => Or.inr (hl121 k hk)) k h) (fun h => (fun k (hk : blk a115 = some k) => Or.inr (hl122 k hk)) k h)
        have hk183 := hk179.grown hg168 (fun _ h => h.elim) nb
        have hk184 := hk181.grown hg168 (fun _ h => h.elim) nb
        have ho172 : Gv.Own (prE (iE .i64) (prE (prE tE (slE (iE .u32))) (prE (prE tE (slE (iE .u32))) (prE sE (iE .i64))))) 48 w167 X177 (some ⟨b166, 0, none⟩) 1 ([(r95.1.1, (r95.1.2.1.1, r95.1.2.1.2), (r95.1.2.2.1.1, r95.1.2.2.1.2), r95.1.2.2.2.1, r95.1.2.2.2.2)] : List (Int × (Bool × (List Int)) × (Bool × (List Int)) × ByteArray × Int)) := Box.ownE hb169 (by rw [e]; exact ⟨[(.int .i64 r95.1.1), (.bool r95.1.2.1.1), (.slice a111 (length r95.1.2.1.2) c112), (.bool r95.1.2.2.1.1), (.slice a115 (length r95.1.2.2.1.2) c116), (.string r95.1.2.2.2.1), (.int .i64 r95.1.2.2.2.2)], [], rfl, ⟨[(.int .i64 r95.1.1)], [(.bool r95.1.2.1.1), (.slice a111 (length r95.1.2.1.2) c112), (.bool r95.1.2.2.1.1), (.slice a115 (length r95.1.2.2.1.2) c116), (.string r95.1.2.2.2.1), (.int .i64 r95.1.2.2.2.2)], rfl, rfl, ⟨[(.bool r95.1.2.1.1), (.slice a111 (length r95.1.2.1.2) c112)], [(.bool r95.1.2.2.1.1), (.slice a115 (length r95.1.2.2.1.2) c116), (.string r95.1.2.2.2.1), (.int .i64 r95.1.2.2.2.2)], rfl, ⟨[(.bool r95.1.2.1.1)], [(.slice a111 (length r95.1.2.1.2) c112)], rfl, rfl, ⟨a111, c112, rfl, ((hk183.rd (Y := fun k => blk a111 = some k) (fun _ h => h.elim) (fun g e => e)).wide (fun _ h => (.inl h)))⟩⟩, ⟨[(.bool r95.1.2.2.1.1), (.slice a115 (length r95.1.2.2.1.2) c116)], [(.string r95.1.2.2.2.1), (.int .i64 r95.1.2.2.2.2)], rfl, ⟨[(.bool r95.1.2.2.1.1)], [(.slice a115 (length r95.1.2.2.1.2) c116)], rfl, rfl, ⟨a115, c116, rfl, ((hk184.rd (Y := fun k => blk a115 = some k) (fun _ h => h.elim) (fun g e => e)).wide (fun _ h => (.inr h)))⟩⟩, ⟨[(.string r95.1.2.2.2.1)], [(.int .i64 r95.1.2.2.2.2)], rfl, rfl, rfl⟩⟩⟩⟩, rfl⟩) (show 1 ≤ maxLen by decide) (fun h => noteq hbe170 (hx175 _ h))
        have hx185 : ∀ k, X177 k → (fun k => (fun k => blk a111 = some k) k ∨ (fun k => blk a115 = some k) k) k := fun k h => by rw [e] at h; exact h
        clear e
        have hB186 := bg hB99 hg109 (rowlo hlo105)
        have hB187 := bg hB186 hg125 nb
        have hB188 := bg hB99 hg109 (rowlo hlo105)
        have hlo189 : w0.heap.size ≤ b123 := lob hbe127 hB188.size
        have hB190 := bg hB187 hg130 (rowlo hlo189)
        have hl173 : ∀ g, blk (some ⟨b166, 0, none⟩) = some g → w0.heap.size ≤ g := loo hbe170 hB190.size
        have ap192 : ¬ (fun k => blk a65 = some k ∨ X65 k) b84 := fun hx => nl ((lowb hbe88) _ rfl) ((fun k (hk : blk a65 = some k ∨ X65 k) => hk.elim (fun h => ho69.lt k h) (fun h => hx71 k h)) _ hx)
        have hx193 := ltx hx71 hg86.size
        have hx194 := ltx hx193 hg92.size
        have hx195 := ltx hx194 hg109.size
        have hk196 := ((ho69.grown hg86 hx71 nb).grown hg92 hx193 (rdnx (rowne ap192))).grown hg109 hx194 (rdnx (rowne ap77))
        have ap197 : ¬ (fun k => blk a65 = some k ∨ X65 k) b123 := fun hx => nl ((lowb hbe127) _ rfl) ((fun k (hk : blk a65 = some k ∨ X65 k) => hk.elim (fun h => hk196.lt k h) (fun h => hx195 k h)) _ hx)
        have hx198 := ltx hx195 hg125.size
        have hk199 := ((((ho69.grown hg86 hx71 nb).grown hg92 hx193 (rdnx (rowne ap192))).grown hg109 hx194 (rdnx (rowne ap77))).grown hg125 hx195 nb).grown hg130 hx198 (rdnx (rowne ap197))
        have hx200 := ltx hx198 hg130.size
        have ap191 : ∀ g, blk (some ⟨b166, 0, none⟩) = some g → ¬ (fun k => blk a65 = some k ∨ X65 k) g := fun g e hx => nl (lowo hbe170 g e) ((fun k (hk : blk a65 = some k ∨ X65 k) => hk.elim (fun h => hk199.lt k h) (fun h => hx200 k h)) _ hx)
        have hk202 := (ho69.grown hg86 hx71 nb).grown hg92 hx193 (rdnx (rowne ap192))
        have ap203 : ∀ g, blk a65 = some g → ¬ (fun k => blk a111 = some k) g := fun g e hx => nl ((show ∀ k, blk a111 = some k → w91.heap.size ≤ k from hl114) _ hx) ((fun k (hk : blk a65 = some k ∨ X65 k) => hk.elim (fun h => hk202.lt k h) (fun h => hx194 k h)) g (.inl e))
        have ap204 : ∀ g, blk a65 = some g → ¬ (fun k => blk a115 = some k) g := fun g e hx => nl ((show ∀ k, blk a115 = some k → w91.heap.size ≤ k from hl118) _ hx) ((fun k (hk : blk a65 = some k ∨ X65 k) => hk.elim (fun h => hk202.lt k h) (fun h => hx194 k h)) g (.inl e))
        have ap201 : ∀ g, blk a65 = some g → ¬ (fun k => blk (some ⟨b166, 0, none⟩) = some k ∨ X177 k) g := fun g e h => h.elim (fun h => nl (lowo hbe170 _ h) ((fun k (hk : blk a65 = some k ∨ X65 k) => hk.elim (fun h => hk199.lt k h) (fun h => hx200 k h)) g (.inl e))) (fun h => ((hx185 _ h)).elim (fun h => (ap203) g e h) (fun h => (ap204) g e h))
        have hk206 := hb4.grown hg11 nb
        have lt207 := ltl ((ltb hk206) _ rfl) ((lowb hbe17) _ rfl)
        have lt208 := ltl ((ltb hb21) _ rfl) ((lowb hbe47) _ rfl)
        have lt209 := ltt lt207 lt208
        have lt210 := ltt lt209 lt106
        have lt211 := ltt lt210 lt161
        have hk212 := ((((hb78.grown hg86 nb).grown hg92 (rowne (ng lt210))).grown hg109 (rowne (ng lt209))).grown hg125 nb).grown hg130 (rowne (ng lt211))
        have ap205 : ∀ g, blk (some ⟨b166, 0, none⟩) = some g → ¬ (· = b1) g := fun g e hx => nl (lowo hbe170 g e) ((ltb hk212) _ hx)
        have hk214 := (hb78.grown hg86 nb).grown hg92 (rowne (ng lt210))
        have ap215 : ¬ (fun k => blk a111 = some k) b1 := fun hx => nl ((show ∀ k, blk a111 = some k → w91.heap.size ≤ k from hl114) _ hx) ((ltb hk214) _ rfl)
        have ap216 : ¬ (fun k => blk a115 = some k) b1 := fun hx => nl ((show ∀ k, blk a115 = some k → w91.heap.size ≤ k from hl118) _ hx) ((ltb hk214) _ rfl)
        have ap213 : ¬ (fun k => blk (some ⟨b166, 0, none⟩) = some k ∨ X177 k) b1 := fun h => h.elim (fun h => nl (lowo hbe170 _ h) ((ltb hk212) _ rfl)) (fun h => ((hx185 _ h)).elim (fun h => (ap215)  h) (fun h => (ap216)  h))
        have lt218 := ltt lt106 lt161
        have hk219 := (hb120.grown hg125 nb).grown hg130 (rowne (ng lt218))
        have ap217 : ∀ g, blk (some ⟨b166, 0, none⟩) = some g → ¬ (· = b43) g := fun g e hx => nl (lowo hbe170 g e) ((ltb hk219) _ hx)
        have ap221 : ¬ (fun k => blk a111 = some k) b43 := fun hx => nl ((show ∀ k, blk a111 = some k → w91.heap.size ≤ k from hl114) _ hx) ((ltb hk107) _ rfl)
        have ap222 : ¬ (fun k => blk a115 = some k) b43 := fun hx => nl ((show ∀ k, blk a115 = some k → w91.heap.size ≤ k from hl118) _ hx) ((ltb hk107) _ rfl)
        have ap220 : ¬ (fun k => blk (some ⟨b166, 0, none⟩) = some k ∨ X177 k) b43 := fun h => h.elim (fun h => nl (lowo hbe170 _ h) ((ltb hk219) _ rfl)) (fun h => ((hx185 _ h)).elim (fun h => (ap221)  h) (fun h => (ap222)  h))
        have ap223 : ∀ g, blk (some ⟨b166, 0, none⟩) = some g → ¬ (· = b84) g := fun g e hx => nl (lowo hbe170 g e) ((ltb hk162) _ hx)
        have ap225 : ¬ (fun k => blk a111 = some k) b84 := fun hx => nl ((show ∀ k, blk a111 = some k → w91.heap.size ≤ k from hl114) _ hx) ((ltb hb93) _ rfl)
        have ap226 : ¬ (fun k => blk a115 = some k) b84 := fun hx => nl ((show ∀ k, blk a115 = some k → w91.heap.size ≤ k from hl118) _ hx) ((ltb hb93) _ rfl)
        have ap224 : ¬ (fun k => blk (some ⟨b166, 0, none⟩) = some k ∨ X177 k) b84 := fun h => h.elim (fun h => nl (lowo hbe170 _ h) ((ltb hk162) _ rfl)) (fun h => ((hx185 _ h)).elim (fun h => (ap225)  h) (fun h => (ap226)  h))
        have ap227 : ∀ g, blk (some ⟨b166, 0, none⟩) = some g → ¬ (fun k => blk a111 = some k) g := fun g e hx => nl (lowo hbe170 g e) ((fun k (hk : blk a111 = some k) => hk179.lt k hk) _ hx)
        have ap228 : ∀ g, blk (some ⟨b166, 0, none⟩) = some g → ¬ (fun k => blk a115 = some k) g := fun g e hx => nl (lowo hbe170 g e) ((fun k (hk : blk a115 = some k) => hk181.lt k hk) _ hx)
        have ap229 : ∀ g, blk (some ⟨b166, 0, none⟩) = some g → ¬ (· = b123) g := fun g e hx => nl (lowo hbe170 g e) ((ltb hb131) _ hx)
        have ap230 : ¬ (fun k => blk (some ⟨b166, 0, none⟩) = some k ∨ X177 k) b123 := fun h => h.elim (fun h => nl (lowo hbe170 _ h) ((ltb hb131) _ rfl)) (fun h => ((hx185 _ h)).elim (fun h => (ap178)  h) (fun h => (ap180)  h))
        refine bindE h3 ?_; clear h3; intro l231 hx232 h3
        obtain ⟨X233, e⟩ : ∃ X : Nat → Prop, X = fun k => X65 k ∨ (fun k => blk (some ⟨b166, 0, none⟩) = some k ∨ X177 k) k := ⟨_, rfl⟩
        have hx237 := ltx hx200 hg168.size
        have hx234 : ∀ k, X233 k → k < w167.heap.size := fun k hk => by rw [e] at hk; exact hk.elim (fun h => hx237 k h) (fun h => (fun k (hk : blk (some ⟨b166, 0, none⟩) = some k ∨ X177 k) => hk.elim (fun h => ho172.lt k h) (fun h => hx174 k h)) k h)
        have hx235 : ∀ k, X233 k → X0 k ∨ w0.heap.size ≤ k := fun k hk => by rw [e] at hk; exact hk.elim (fun h => hx72 k h) (fun h => (fun k (hk : blk (some ⟨b166, 0, none⟩) = some k ∨ X177 k) => hk.elim (fun h => Or.inr (hl173 k h)) (fun h => hx176 k h)) k h)
        have hk238 := hk199.grown hg168 hx200 nb
        have ho236 : Gv.Own (prE (iE .i64) (prE (prE tE (slE (iE .u32))) (prE (prE tE (slE (iE .u32))) (prE sE (iE .i64))))) 48 w167 X233 a65 c66 s52.1 := (hk238).wide (fun k hk => by rw [e]; exact .inl hk) (fun g e1 hk => by rw [e] at hk; exact hk.elim (fun h => (hk238).out g e1 h) (fun h => ap201 g e1 h))
        have hx239 : ∀ k, (fun k => blk (some ⟨b166, 0, none⟩) = some k ∨ X177 k) k → X233 k := fun k hk => by rw [e]; exact .inr hk
        have hx240 : ∀ k, X233 k → X65 k ∨ (fun k => blk (some ⟨b166, 0, none⟩) = some k ∨ X177 k) k := fun k hk => by rw [e] at hk; exact hk
        clear e
        refine gv_append (prE (iE .i64) (prE (prE tE (slE (iE .u32))) (prE (prE tE (slE (iE .u32))) (prE sE (iE .i64))))) (t := 23) (ty := 23) (e := 48) (a := a65) (ax := (some ⟨b166, 0, none⟩)) (cap := c66) (cx := 1) (xs := s52.1) (ys := ([(r95.1.1, (r95.1.2.1.1, r95.1.2.1.2), (r95.1.2.2.1.1, r95.1.2.2.1.2), r95.1.2.2.2.1, r95.1.2.2.2.2)] : List (Int × (Bool × (List Int)) × (Bool × (List Int)) × ByteArray × Int))) l231 (X := X233) (Y := (fun k => blk (some ⟨b166, 0, none⟩) = some k ∨ X177 k)) (by decide) rfl rfl (by kernel_rfl) (by kernel_rfl) Tryd.underlying23 info48 ho236 (ho172.rd (Y := fun k => blk (some ⟨b166, 0, none⟩) = some k ∨ X177 k) (fun _ h => .inr h) (fun g e => .inl e)) hx232 (.inl hx239) hx234 ?_
        intro a241 c242 w243 hg244 ho245 hk246
        refine ⟨(fun e => by cases e), ?_⟩
        have hB248 := bg hB190 hg168 nb
        have hl247 : ∀ g, blk a241 = some g → w0.heap.size ≤ g := blk_step hk246 hl70 hB248.size
        have hx249 : ∀ k, X233 k → k < w243.heap.size := fun k hk => ltl (hx234 k hk) hg244.size
        have hk251 := hk212.grown hg168 nb
        have ap250 : ∀ g, blk a241 = some g → ¬ (· = b1) g := blk_neX hk246 ap74 (ltb hk251)
        have ap252 : ¬ (fun k => blk a241 = some k ∨ X233 k) b1 := fun h => h.elim (fun h => blk_rev hk246 (fun h => (ap76) (.inl h)) (hk251.lt) h) (fun h => (hx240 _ h).elim (fun h => (ap76) (.inr h)) (fun h => (ap213) h))
        have hk254 := hk219.grown hg168 nb
        have ap253 : ∀ g, blk a241 = some g → ¬ (· = b43) g := blk_neX hk246 ap75 (ltb hk254)
        have ap255 : ¬ (fun k => blk a241 = some k ∨ X233 k) b43 := fun h => h.elim (fun h => blk_rev hk246 (fun h => (ap77) (.inl h)) (hk254.lt) h) (fun h => (hx240 _ h).elim (fun h => (ap77) (.inr h)) (fun h => (ap220) h))
        have ap257 : ∀ g, blk a65 = some g → ¬ (· = b84) g := fun g e hx => nl ((lowb hbe88) _ hx) ((fun k (hk : blk a65 = some k ∨ X65 k) => hk.elim (fun h => ho69.lt k h) (fun h => hx71 k h)) g (.inl e))
        have hk258 := hk162.grown hg168 nb
        have ap256 : ∀ g, blk a241 = some g → ¬ (· = b84) g := blk_neX hk246 ap257 (ltb hk258)
        have ap259 : ¬ (fun k => blk a241 = some k ∨ X233 k) b84 := fun h => h.elim (fun h => blk_rev hk246 (fun h => (ap192) (.inl h)) (hk258.lt) h) (fun h => (hx240 _ h).elim (fun h => (ap192) (.inr h)) (fun h => (ap224) h))
        have ap260 : ∀ g, blk a241 = some g → ¬ (fun k => blk a111 = some k) g := blk_neX hk246 ap203 (fun k (hk : blk a111 = some k) => hk183.lt k hk)
        have ap262 : ∀ g, blk a241 = some g → ¬ (fun k => blk a115 = some k) g := blk_neX hk246 ap204 (fun k (hk : blk a115 = some k) => hk184.lt k hk)
        have ap265 : ∀ g, blk a65 = some g → ¬ (· = b123) g := fun g e hx => nl ((lowb hbe127) _ hx) ((fun k (hk : blk a65 = some k ∨ X65 k) => hk.elim (fun h => hk196.lt k h) (fun h => hx195 k h)) g (.inl e))
        have hk266 := hb131.grown hg168 nb
        have ap264 : ∀ g, blk a241 = some g → ¬ (· = b123) g := blk_neX hk246 ap265 (ltb hk266)
        have ap267 : ¬ (fun k => blk a241 = some k ∨ X233 k) b123 := fun h => h.elim (fun h => blk_rev hk246 (fun h => (ap197) (.inl h)) (hk266.lt) h) (fun h => (hx240 _ h).elim (fun h => (ap197) (.inr h)) (fun h => (ap230) h))
        have ap268 : ∀ g, blk a241 = some g → ¬ (fun k => blk (some ⟨b166, 0, none⟩) = some k ∨ X177 k) g := blk_neX hk246 ap201 (fun k (hk : blk (some ⟨b166, 0, none⟩) = some k ∨ X177 k) => hk.elim (fun h => ho172.lt k h) (fun h => hx174 k h))
        have hz270 := (nt (nt (nt (nt hz90 hg92.size) hg109.size) hg125.size) hg130.size)
        have hz271 := (nt hg168.size hg244.size)
        clear ap268 ap267 ap264 hk266 ap265 ap262 ap260 ap259 ap256 hk258 ap257 hk246 hx240 hx239 ho236 hk238 hx234 hx237 hx232 ap230 ap229 ap228 ap227 ap224 ap226 ap225 ap223 ap220 ap222 ap221 ap217 hk219 lt218 ap213 ap216 ap215 hk214 ap205 hk212 lt211 lt210 lt208 lt207 hk206 ap201 ap204 ap203 hk202 ap191 hx200 hk199 hx198 ap197 hk196 hx195 hx194 hx193 ap192 hl173 hB190 hlo189 hB188 hB187 hB186 hx185 ho172 hk184 hk183 hx176 hx174 hz182 hx175 hk181 ap180 hk179 ap178 hz171 hbe170 hb169 hg168 hc165 hk162 lt161 hk160 hc133 hz132 hb131 hg130 hz128 hbe127 hb126 hg125 hl122 hl121 hb120 ap119 hl118 ho117 hl114 ho113 hg109 hk107 lt106 hB104 hlo103 hB102 hB101 hg100 hB99 hlo98 hB97 hr96 hz94 hb93 hg92 hz90 hbe88 hb87 hg86 hb79 hb78 ap77 ap76 hx72 hx71 ho69 hB63 hbe47 hb21 hg20 hbe17 hg15 hg11 hB9 hb4
        refine pN 1 [8] [(8, (.slice a241 (length l231) c242))] ?_
        refine gv_nil ?_
        have e := sj h3; subst e
        refine gv_goal fun a hd hs hok => ?_
        have hB272 := bg hB248 hg244 hl70
        have hz273 := hz271
        have hk274 := hk251.grown hg244 ap74
        have hk275 := hk254.grown hg244 ap75
        exact ⟨a241, c242, X233, hB272, hz273, ho245, hl247, hx249, hx235, ap250, ap253, ap252, ap255, hk274, hk275, hd, hs, okp [1, 5, 7, 8, 22, 23, 24] hok⟩
       ·replace h3 := ite_f hc165 h3
        refine gv_skip ?_
        have e := sj h3; subst e
        refine gv_goal fun a hd hs hok => ?_
        have hB276 := bg hB99 hg109 (rowlo hlo105)
        have hB277 := bg hB276 hg125 nb
        have hB278 := bg hB99 hg109 (rowlo hlo105)
        have hlo279 : w0.heap.size ≤ b123 := lob hbe127 hB278.size
        have hB280 := bg hB277 hg130 (rowlo hlo279)
        have ap281 : ¬ (fun k => blk a65 = some k ∨ X65 k) b84 := fun hx => nl ((lowb hbe88) _ rfl) ((fun k (hk : blk a65 = some k ∨ X65 k) => hk.elim (fun h => ho69.lt k h) (fun h => hx71 k h)) _ hx)
        have hx282 := ltx hx71 hg86.size
        have hx283 := ltx hx282 hg92.size
        have hx284 := ltx hx283 hg109.size
        have hk285 := ((ho69.grown hg86 hx71 nb).grown hg92 hx282 (rdnx (rowne ap281))).grown hg109 hx283 (rdnx (rowne ap77))
        have ap286 : ¬ (fun k => blk a65 = some k ∨ X65 k) b123 := fun hx => nl ((lowb hbe127) _ rfl) ((fun k (hk : blk a65 = some k ∨ X65 k) => hk.elim (fun h => hk285.lt k h) (fun h => hx284 k h)) _ hx)
        have hx287 := ltx hx284 hg125.size
        have hk288 := ((((ho69.grown hg86 hx71 nb).grown hg92 hx282 (rdnx (rowne ap281))).grown hg109 hx283 (rdnx (rowne ap77))).grown hg125 hx284 nb).grown hg130 hx287 (rdnx (rowne ap286))
        have hx289 := ltx hx287 hg130.size
        have hk290 := hb4.grown hg11 nb
        have lt291 := ltl ((ltb hk290) _ rfl) ((lowb hbe17) _ rfl)
        have lt292 := ltl ((ltb hb21) _ rfl) ((lowb hbe47) _ rfl)
        have lt293 := ltt lt291 lt292
        have lt294 := ltt lt293 lt106
        have lt295 := ltt lt294 lt161
        have hk296 := ((((hb78.grown hg86 nb).grown hg92 (rowne (ng lt294))).grown hg109 (rowne (ng lt293))).grown hg125 nb).grown hg130 (rowne (ng lt295))
        have lt297 := ltt lt106 lt161
        have hk298 := (hb120.grown hg125 nb).grown hg130 (rowne (ng lt297))
        exact ⟨a65, c66, X65, hB280, nrf, hk288, hl70, hx289, hx72, ap74, ap75, ap76, ap77, hk296, hk298, hd, hs, okp [1, 5, 7, 8, 22, 23, 24] hok⟩
      ·rintro a w164 ⟨a301, c302, X301, hB299, hz300, ho303, hl304, hx305, hx306, ap307, ap308, ap309, ap310, hb311, hb312, hd, hs, hok⟩
       refine gv_in ?_ hd hs hok
       clear hd hs hok
       have hz313 := (nt (nt (nt (nt (nt hz90 hg92.size) hg109.size) hg125.size) hg130.size) hz300)
       clear hz300 hk162 lt161 hk160 hc133 hz132 hb131 hg130 hz128 hbe127 hb126 hg125 hl122 hl121 hb120 ap119 hl118 ho117 hl114 ho113 hg109 hk107 lt106 hB104 hlo103 hB102 hB101 hg100 hB99 hlo98 hB97 hr96 hz94 hb93 hg92 hz90 hbe88 hb87 hg86 hb79 hb78 ap77 ap76 ap75 ap74 hx72 hx71 hl70 ho69 hB63 hg20 hg15 hB9
       refine gv_blk <| gv_region <| pN 2 [24, 47] [(24, (.int .i64 (IntKind.i64.wrap (s52.2.1 + 1))))] ?_
       refine gv_nil ?_
       have e := sj h2; subst e
       refine gv_goal fun a hd hs hok => ?_
       have hz314 := hz313
       exact ⟨(j163, (IntKind.i64.wrap (s52.2.1 + 1)), (s52.2.2.1.1, s52.2.2.1.2), (s52.2.2.2.1, r95.2.2.2)), rfl, a301, c302, X301, a67, c68, hB299, hz314, ho303, hl304, hx305, hx306, hp73, ap307, ap308, ap309, ap310, hb311, hb312, hd, hs, okp [1, 5, 7, 8, 22, 23, 24] hok⟩
    ·replace h2 := ite_f hc80 h2
     refine gv_cexit <| gv_exit rfl ?_
     have e := sj h2; subst e
     replace h1 := congrArg some (hR2 _ rfl)
     have e := sj h1; subst e
     refine gv_goal fun a hd hs hok => ?_
     have hz315 := hz64
     exact ⟨(s52.1, (s52.2.2.1.1, s52.2.2.1.2), (s52.2.2.2.1, s52.2.2.2.2)), rfl, a65, c66, X65, a67, c68, hB63, hz315, ho69, hl70, hx71, hx72, hp73, ap74, ap75, ap76, ap77, hb78, hb79, hd, hs, okp [1, 5, 7, 8] hok⟩
  ·rintro a w51 ⟨s50, e, a318, c319, X318, a320, c321, hB316, hz317, ho322, hl323, hx324, hx325, hp326, ap327, ap328, ap329, ap330, hb331, hb332, hd, hs, hok⟩
   subst e
   refine gv_in ?_ hd hs hok
   clear hd hs hok
   replace h0 := cont_inl h0
   clear hz317 hz48 hb46 hg45 hc23 hz22 hz18 hb16 hr8 hz6 hg3
   refine gv_seq <| gv_seq <| gv_region <| pN 3 [48, 49, 50] [(50, (.pointer (some ⟨b43, 1, none⟩)))] ?_
   refine gv_load (t := 3) (A := ⟨b43, 1, none⟩) (.int .i64 s50.2.2.2) [] (fun e => by cases e) rfl rfl rfl (by kernel_rfl) (by kernel_rfl) (by kernel_rfl) (inw0 (hb332.cell 1 rfl)) rfl ?_
   refine pN 3 [52, 53, 54] [(54, (.bool (decide (s50.2.2.2 < ((length data_1 : Nat) : Int)))))] ?_
   refine gv_nil <| gv_cond (b := (decide (s50.2.2.2 < ((length data_1 : Nat) : Int)))) (by kernel_rfl) (fun hc333 => ?_) (fun hc333 => ?_)
   ·replace h0 := ite_t hc333 h0
    refine gv_seq <| gv_region <| bindE h0 ?_; clear h0; intro r334 hr335 h0
    refine gv_call0 (by kernel_rfl) rfl (by kernel_rfl) enters21 (packing_at_ok fuel 3 (-2) w51  r334 hr335) ?_
    rintro v338 w336 ⟨hg337, rfl⟩
    refine pN 1 [4] [(4, (.slice none (length ([] : List (Int × (Bool × (List Int)) × (Bool × (List Int)) × ByteArray × Int))) 0))] ?_
    have hk343 := hb331.grown hg337 nb
    refine gv_store0 26 0 (.agg #[(.int .i64 r334.1), (.int .i64 r334.2)]) #[(.int .i64 r334.1), (.int .i64 r334.2)] hk343 (by kernel_rfl) (by kernel_rfl) (by kernel_rfl) ?_
    intro w339 hg340 hb341 hz342
    refine gv_nil <| gv_cret ?_
    have e := sj h0; subst e
    refine gv_ret (gv_done [(.slice none (length ([] : List (Int × (Bool × (List Int)) × (Bool × (List Int)) × ByteArray × Int))) 0), (.agg #[(.int .i64 r334.1), (.int .i64 r334.2)])] rfl ⟨(by kernel_rfl), ⟨⟨b1, 0, none⟩, (by kernel_rfl), run_loadVar_row w339 b1 _ 26 _ _ _ hb341 Tryd.underlying26 rfl (by kernel_rfl)⟩, trivial⟩ ?_)
    have hB344 := bg hB316 hg337 nb
    have hlo345 : w0.heap.size ≤ b1 := lob hbe5 hB0.size
    have hB346 := bg hB344 hg340 (rowlo hlo345)
    exact ⟨grown_of_below hB346, none, 0, (fun _ => False), rfl, (Gv.Own.nil (prE (iE .i64) (prE (prE tE (slE (iE .u32))) (prE (prE tE (slE (iE .u32))) (prE sE (iE .i64))))) 48 w339 (fun _ => False)), (fun _ h => by cases h), (fun k hk => ⟨(fun _ h => h.elim) k hk, (fun _ h => h.elim) k hk⟩)⟩
   ·replace h0 := ite_f hc333 h0
    refine gv_skip <| gv_seq <| gv_region <| pN 3 [4, 56, 57] [(4, (.slice a318 (length s50.1) c319)), (57, (.agg #[(.int .i64 0), (.int .i64 0)]))] ?_
    refine gv_store0 26 0 (.agg #[(.int .i64 0), (.int .i64 0)]) #[(.int .i64 0), (.int .i64 0)] hb331 (by kernel_rfl) (by kernel_rfl) (by kernel_rfl) ?_
    intro w347 hg348 hb349 hz350
    refine gv_nil <| gv_cret ?_
    have e := sj h0; subst e
    refine gv_ret (gv_done [(.slice a318 (length s50.1) c319), (.agg #[(.int .i64 0), (.int .i64 0)])] rfl ⟨(by kernel_rfl), ⟨⟨b1, 0, none⟩, (by kernel_rfl), run_loadVar_row w347 b1 _ 26 _ _ _ hb349 Tryd.underlying26 rfl (by kernel_rfl)⟩, trivial⟩ ?_)
    have hlo351 : w0.heap.size ≤ b1 := lob hbe5 hB0.size
    have hB352 := bg hB316 hg348 (rowlo hlo351)
    have hk353 := ho322.grown hg348 hx324 (rdnx (rowne ap329))
    have hx354 := ltx hx324 hg348.size
    exact ⟨grown_of_below hB352, a318, c319, X318, rfl, hk353, hl323, (fun k hk => ⟨hx354 k hk, hx325 k hk⟩)⟩

theorem ref4_SameBytes_ok (fuel : Nat) (pa0_0 : Option Addr) (pc0_0 : Nat) (a_0 : (List UInt8)) (pa1_0 : Option Addr) (pc1_0 : Nat) (b_1 : (List UInt8)) (w0 : World) (X0 : Nat → Prop) (hX0 : ∀ k, X0 k → k < w0.heap.size) (hpa0_0 : Rd bE w0 X0 pa0_0 pc0_0 a_0) (hpa1_0 : Rd bE w0 X0 pa1_0 pc1_0 b_1) (r0 : Bool) (h0 : ref4_SameBytes fuel a_0 b_1 = some r0) :
    Calls Tryd.prog 8 ([(.slice pa0_0 (length a_0) pc0_0), (.slice pa1_0 (length b_1) pc1_0)] : List Value).toArray w0 (Ret fun v w' => w0.grownBy w' none ∧ v = tup [(.bool r0)]) := by
 have hB0 : Below w0.heap.size w0 w0 := Below.refl _ _
 unfold ref4_SameBytes at h0
 refine calls_run Tryd.func8 rfl Tryd.ntmps8 (by kernel_rfl) ?_
 refine gv_sub [0, 1] (σ' := [(0, (.slice pa0_0 (length a_0) pc0_0)), (1, (.slice pa1_0 (length b_1) pc1_0))]) (by kernel_rfl) ?_
 refine gv_seq <| gv_region <| pN 1 [4] [] ?_
 refine gv_nil <| gv_seq <| gv_region <| pN 1 [5] [(5, (.slice pa0_0 (length a_0) pc0_0))] ?_
 refine gv_b2s (src := 24) (dst := 9) (e := 5) (xs := a_0) (a := pa0_0) (cap := pc0_0) (X := X0) [] (fun e => by cases e) rfl rfl rfl (by kernel_rfl) (by kernel_rfl) Tryd.underlying24 Tryd.underlying5 Tryd.underlying9 (inw0 (hpa0_0.below hB0 hX0)) rfl ?_
 refine pN 1 [7] [(7, (.slice pa1_0 (length b_1) pc1_0))] ?_
 refine gv_b2s (src := 24) (dst := 9) (e := 5) (xs := b_1) (a := pa1_0) (cap := pc1_0) (X := X0) [] (fun e => by cases e) rfl rfl rfl (by kernel_rfl) (by kernel_rfl) Tryd.underlying24 Tryd.underlying5 Tryd.underlying9 (inw0 (hpa1_0.below hB0 hX0)) rfl ?_
 refine pN 2 [4, 9] [(4, (.bool ((strOf a_0).toList == (strOf b_1).toList)))] ?_
 refine bindE h0 ?_; clear h0; intro n1 hn2 h0
 refine gv_name (s := 4) (v := (.bool ((strOf a_0).toList == (strOf b_1).toList))) (v' := (.bool n1)) (by kernel_rfl) (congrArg (Value.bool) (sj hn2)) ?_
 refine gv_nil <| gv_cret ?_
 have e := sj h0; subst e
 refine gv_ret (gv_done [(.bool n1)] rfl ⟨(by kernel_rfl), trivial⟩ ?_)
 exact ⟨grown_of_below hB0, rfl⟩

theorem ref3_SameLimbs_ok (fuel : Nat) (pa0_0 : Option Addr) (pc0_0 : Nat) (a_0 : (List Int)) (pa1_0 : Option Addr) (pc1_0 : Nat) (b_1 : (List Int)) (w0 : World) (X0 : Nat → Prop) (hX0 : ∀ k, X0 k → k < w0.heap.size) (hpa0_0 : Rd (iE .u32) w0 X0 pa0_0 pc0_0 a_0) (hpa1_0 : Rd (iE .u32) w0 X0 pa1_0 pc1_0 b_1) (r0 : Bool) (h0 : ref3_SameLimbs fuel a_0 b_1 = some r0) :
    Calls Tryd.prog 61 ([(.slice pa0_0 (length a_0) pc0_0), (.slice pa1_0 (length b_1) pc1_0)] : List Value).toArray w0 (Ret fun v w' => w0.grownBy w' none ∧ v = tup [(.bool r0)]) := by
 have hB0 : Below w0.heap.size w0 w0 := Below.refl _ _
 unfold ref3_SameLimbs at h0
 refine calls_run Tryd.func61 rfl Tryd.ntmps61 (by kernel_rfl) ?_
 refine gv_sub [0, 1] (σ' := [(0, (.slice pa0_0 (length a_0) pc0_0)), (1, (.slice pa1_0 (length b_1) pc1_0))]) (by kernel_rfl) ?_
 refine gv_seq <| gv_region <| pN 1 [4] [] ?_
 refine gv_nil <| gv_seq <| gv_seq <| gv_region <| pN 5 [6, 7, 8, 9, 10] [(10, (.bool (((length a_0 : Nat) : Int) != ((length b_1 : Nat) : Int))))] ?_
 refine gv_nil <| gv_cond (b := (((length a_0 : Nat) : Int) != ((length b_1 : Nat) : Int))) (by kernel_rfl) (fun hc1 => ?_) (fun hc1 => ?_)
 ·replace h0 := ite_t hc1 h0
  refine gv_seq <| gv_region <| pN 1 [4] [(4, (.bool false))] ?_
  refine gv_nil <| gv_cret ?_
  have e := sj h0; subst e
  refine gv_ret (gv_done [(.bool false)] rfl ⟨(by kernel_rfl), trivial⟩ ?_)
  exact ⟨grown_of_below hB0, rfl⟩
 ·replace h0 := ite_f hc1 h0
  refine gv_skip <| gv_seq <| gv_seq <| gv_region <| pN 1 [5] [(5, (.int .i64 0))] ?_
  refine gv_nil <| bindE h0 ?_; clear h0; intro j2 h1 h0
  refine gv_cut_code (J := fun a w4 => ∃ s3 : Unit, j2 = .inl s3 ∧ Below w0.heap.size w0 w4 ∧ w0.heap.size ≤ w4.heap.size ∧ a.defers = [] ∧ a.tmps.size = 26 ∧ Ok [] a.tmps) ?_ ?_
  ·skip
   refine gv_block <| gv_loop (A := fun (s5 : Int) a w6 => Below w0.heap.size w0 w6 ∧ w0.heap.size ≤ w6.heap.size ∧ a.defers = [] ∧ a.tmps.size = 26 ∧ Ok [(0, (.slice pa0_0 (length a_0) pc0_0)), (1, (.slice pa1_0 (length b_1) pc1_0)), (5, (.int .i64 s5))] a.tmps) h1 ?_ ?_
   ·intro a hd hs hok
    exact ⟨hB0, nrf, hd, hs, okp [0, 1, 5] hok⟩
   ·rintro s5 r2 h2 hR2 a w6 ⟨hB7, hz8, hd, hs, hok⟩
    refine gv_in ?_ hd hs hok
    clear hd hs hok
    refine gv_seq <| gv_seq <| gv_region <| pN 4 [11, 12, 13, 14] [(14, (.bool (decide (s5 < ((length a_0 : Nat) : Int)))))] ?_
    refine gv_nil <| gv_cond (b := (decide (s5 < ((length a_0 : Nat) : Int)))) (by kernel_rfl) (fun hc9 => ?_) (fun hc9 => ?_)
    ·replace h2 := ite_t hc9 h2
     refine gv_skip <| gv_seq <| gv_block <| gv_seq <| gv_drawA (by kernel_rfl) ?_
     intro w10 hg11
     refine gv_pre [0, 1, 2, 4, 5, 6] (bA 9 [0, 1, 2, 4, 5, 6]) 3 (by kernel_rfl) (by kernel_rfl) ?_
     refine pN 2 [17, 18] [(17, (.slice pa0_0 (length a_0) pc0_0)), (18, (.int .i64 s5))] ?_
     refine bindE h2 ?_; clear h2; intro x12 hx13 h2
     have hB14 := bg hB7 hg11 nb
     refine gv_idxaddr (t := 44) (e := 87) (a := pa0_0) (len := length a_0) (cap := pc0_0) (kk := .i64) (i := s5) (sz := 1) [] (fun e => by cases e) rfl rfl rfl (by kernel_rfl) (by kernel_rfl) Tryd.underlying44 (by kernel_rfl) ((hpa0_0.below hB14 hX0).has hx13) (idx_spec hx13).1 (idx_spec hx13).2.1 rfl ?_
     refine pN 2 [21, 22] [(21, (.slice pa1_0 (length b_1) pc1_0)), (22, (.int .i64 s5))] ?_
     refine bindE h2 ?_; clear h2; intro x15 hx16 h2
     refine gv_idxaddr (t := 44) (e := 87) (a := pa1_0) (len := length b_1) (cap := pc1_0) (kk := .i64) (i := s5) (sz := 1) [] (fun e => by cases e) rfl rfl rfl (by kernel_rfl) (by kernel_rfl) Tryd.underlying44 (by kernel_rfl) ((hpa1_0.below hB14 hX0).has hx16) (idx_spec hx16).1 (idx_spec hx16).2.1 rfl ?_
     refine gv_nil <| gv_goA ?_
     refine gv_stage (Cls w10 []) [3, 7] [(3, some true), (7, some true)] (bA 9 [0, 1, 2, 3, 4, 5, 6, 7]) 1 (by kernel_rfl) (by kernel_rfl) (Cls.refl _ _) ?_
     have hC17 := Cls.refl w10 []
     refine gv_load (t := 87) (A := (elemAddr pa0_0 ((s5 : Int).toNat * 1))) (.int .u32 x12) [] (fun e => by cases e) rfl rfl rfl (by kernel_rfl) (by kernel_rfl) (by kernel_rfl) (inw1 fun w' hC' => ((hC'.rd (hpa0_0.below hB14 hX0) (fun k (hk : X0 k) => ltl (hX0 k hk) hB14.size) nmx_nil).cell hx13)) rfl ?_
     refine gv_load (t := 87) (A := (elemAddr pa1_0 ((s5 : Int).toNat * 1))) (.int .u32 x15) [] (fun e => by cases e) rfl rfl rfl (by kernel_rfl) (by kernel_rfl) (by kernel_rfl) (inw1 fun w' hC' => ((hC'.rd (hpa1_0.below hB14 hX0) (fun k (hk : X0 k) => ltl (hX0 k hk) hB14.size) nmx_nil).cell hx16)) rfl ?_
     refine gv_nil <| gv_goA ?_
     refine gv_pre [8] (bA 9 [0, 1, 2, 3, 4, 5, 6, 7, 8]) 0 (by kernel_rfl) (by kernel_rfl) ?_
     refine pN 1 [25] [(25, (.bool (x12 != x15)))] ?_
     refine gv_nil <| gv_goA ?_
     refine gv_stageE (by kernel_rfl) ?_
     refine gv_cond (b := (x12 != x15)) (by kernel_rfl) (fun hc18 => ?_) (fun hc18 => ?_)
     ·replace h2 := ite_t hc18 h2
      refine gv_seq <| gv_region <| pN 1 [4] [(4, (.bool false))] ?_
      refine gv_nil <| gv_cret ?_
      have e := sj h2; subst e
      replace h1 := congrArg some (hR2 _ rfl)
      have e := sj h1; subst e
      replace h0 := cont_inr h0
      have e := sj h0; subst e
      refine gv_ret (gv_done [(.bool false)] rfl ⟨(by kernel_rfl), trivial⟩ ?_)
      exact ⟨grown_of_below hB14, rfl⟩
     ·replace h2 := ite_f hc18 h2
      refine gv_skip <| gv_blk <| gv_region <| pN 3 [5, 15, 16] [(5, (.int .i64 (IntKind.i64.wrap (s5 + 1))))] ?_
      refine gv_nil ?_
      have e := sj h2; subst e
      refine gv_goal fun a hd hs hok => ?_
      have hz19 := (nt hz8 hg11.size)
      exact ⟨(IntKind.i64.wrap (s5 + 1)), rfl, hB14, hz19, hd, hs, okp [0, 1, 5] hok⟩
    ·replace h2 := ite_f hc9 h2
     refine gv_cexit <| gv_exit rfl ?_
     have e := sj h2; subst e
     replace h1 := congrArg some (hR2 _ rfl)
     have e := sj h1; subst e
     refine gv_goal fun a hd hs hok => ?_
     have hz20 := hz8
     exact ⟨(), rfl, hB7, hz20, hd, hs, okp [] hok⟩
  ·rintro a w4 ⟨s3, e, hB21, hz22, hd, hs, hok⟩
   subst e
   refine gv_in ?_ hd hs hok
   clear hd hs hok
   replace h0 := cont_inl h0
   refine gv_seq <| gv_region <| pN 1 [4] [(4, (.bool true))] ?_
   refine gv_nil <| gv_cret ?_
   have e := sj h0; subst e
   refine gv_ret (gv_done [(.bool true)] rfl ⟨(by kernel_rfl), trivial⟩ ?_)
   exact ⟨grown_of_below hB21, rfl⟩

theorem ref3_SameInts_ok (fuel : Nat) (pa0_0 : Option Addr) (pc0_0 : Nat) (a_0 : (Bool × (List Int))) (pa1_0 : Option Addr) (pc1_0 : Nat) (b_1 : (Bool × (List Int))) (w0 : World) (X0 : Nat → Prop) (hX0 : ∀ k, X0 k → k < w0.heap.size) (hpa0_0 : Rd (iE .u32) w0 X0 pa0_0 pc0_0 a_0.2) (hpa1_0 : Rd (iE .u32) w0 X0 pa1_0 pc1_0 b_1.2) (r0 : Bool) (h0 : ref3_SameInts fuel a_0 b_1 = some r0) :
    Calls Tryd.prog 48 ([(.agg #[(.bool a_0.1), (.slice pa0_0 (length a_0.2) pc0_0)]), (.agg #[(.bool b_1.1), (.slice pa1_0 (length b_1.2) pc1_0)])] : List Value).toArray w0 (Ret fun v w' => w0.grownBy w' none ∧ v = tup [(.bool r0)]) := by
 have hB0 : Below w0.heap.size w0 w0 := Below.refl _ _
 unfold ref3_SameInts at h0
 refine calls_run Tryd.func48 rfl Tryd.ntmps48 (by kernel_rfl) ?_
 refine gv_sub [0, 1] (σ' := [(0, (.agg #[(.bool a_0.1), (.slice pa0_0 (length a_0.2) pc0_0)])), (1, (.agg #[(.bool b_1.1), (.slice pa1_0 (length b_1.2) pc1_0)]))]) (by kernel_rfl) ?_
 refine gv_seq <| gv_region <| gv_new0 (fun b => .pointer (some ⟨b, 0, none⟩)) #[(.bool a_0.1), (.slice pa0_0 (length a_0.2) pc0_0)] 46 (by kernel_rfl) (by kernel_rfl) ?_
 intro b1 w2 hg3 hb4 hbe5 hz6
 refine gv_new0 (fun b => .pointer (some ⟨b, 0, none⟩)) #[(.bool b_1.1), (.slice pa1_0 (length b_1.2) pc1_0)] 46 (by kernel_rfl) (by kernel_rfl) ?_
 intro b7 w8 hg9 hb10 hbe11 hz12
 refine pN 1 [4] [] ?_
 refine gv_nil <| gv_seq <| gv_region <| bindE h0 ?_; clear h0; intro j13 h1 h0
 refine gv_cut_ops (J := fun a w14 => Below w0.heap.size w0 w14 ∧ w8.heap.size ≤ w14.heap.size ∧ a.defers = [] ∧ a.tmps.size = 17 ∧ Ok [(4, (.bool j13))] a.tmps) ?_ ?_
 ·skip
  refine pN 1 [5] [(5, (bp b1))] ?_
  have hk15 := hb4.grown hg9 nb
  refine gv_load (t := 4) (A := ⟨b1, 0, none⟩) (.bool a_0.1) [] (fun e => by cases e) rfl rfl rfl (by kernel_rfl) (by kernel_rfl) (by kernel_rfl) (inw0 (hk15.cell 0 rfl)) rfl ?_
  refine pN 1 [7] [(7, (bp b7))] ?_
  refine gv_load (t := 4) (A := ⟨b7, 0, none⟩) (.bool b_1.1) [] (fun e => by cases e) rfl rfl rfl (by kernel_rfl) (by kernel_rfl) (by kernel_rfl) (inw0 (hb10.cell 0 rfl)) rfl ?_
  refine pN 2 [9, 10] [(10, (.bool (a_0.1 == b_1.1)))] ?_
  refine gv_split (s := 10) (g := (a_0.1 == b_1.1)) (by kernel_rfl) (fun hc16 => ?_) (fun hc16 => ?_)
  ·skip
   replace h1 := ite_t hc16 h1
   refine pN 1 [11] [(11, (.pointer (some ⟨b1, 1, none⟩)))] ?_
   refine gv_load (t := 44) (A := ⟨b1, 1, none⟩) (.slice pa0_0 (length a_0.2) pc0_0) [] (fun e => by cases e) rfl rfl rfl (by kernel_rfl) (by kernel_rfl) (by kernel_rfl) (inw0 (hk15.cell 1 rfl)) rfl ?_
   refine pN 1 [13] [(13, (.pointer (some ⟨b7, 1, none⟩)))] ?_
   refine gv_load (t := 44) (A := ⟨b7, 1, none⟩) (.slice pa1_0 (length b_1.2) pc1_0) [] (fun e => by cases e) rfl rfl rfl (by kernel_rfl) (by kernel_rfl) (by kernel_rfl) (inw0 (hb10.cell 1 rfl)) rfl ?_
   refine bindE h1 ?_; clear h1; intro r17 hr18 h1
   have hg19 := (grown_trans hg3 hg9)
   have hB20 := bg hB0 hg19 nb
   refine gv_call0 (by kernel_rfl) rfl (by kernel_rfl) enters61 (ref3_SameLimbs_ok fuel pa0_0 pc0_0 a_0.2 pa1_0 pc1_0 b_1.2 w8 (fun k => X0 k ∨ X0 k) (fun k hk => (hk).elim (fun h => (fun k (hk : X0 k) => ltl (hX0 k hk) hB20.size) k h) (fun h => (fun k (hk : X0 k) => ltl (hX0 k hk) hB20.size) k h)) ((hpa0_0.below hB20 hX0).wide (fun k hk => (.inl hk))) ((hpa1_0.below hB20 hX0).wide (fun k hk => (.inr hk))) r17 hr18) ?_
   rintro v23 w21 ⟨hg22, rfl⟩
   refine pN 2 [4, 16] [(4, (.bool r17))] ?_
   refine gv_sub [4] (σ' := [(4, (.bool r17))]) (by kernel_rfl) ?_
   refine gv_nil ?_
   have e := sj h1; subst e
   refine gv_goal fun a hd hs hok => ?_
   have hB24 := bg hB20 hg22 nb
   have hz25 := hg22.size
   exact ⟨hB24, hz25, hd, hs, okp [4] hok⟩
  ·skip
   replace h1 := ite_f hc16 h1
   refine pN 7 [4, 11, 12, 13, 14, 15, 16] [(4, (.bool false))] ?_
   refine gv_nil ?_
   have e := sj h1; subst e
   refine gv_goal fun a hd hs hok => ?_
   have hg26 := (grown_trans hg3 hg9)
   have hB27 := bg hB0 hg26 nb
   exact ⟨hB27, nrf, hd, hs, okp [4] hok⟩
 ·rintro a w14 ⟨hB28, hz29, hd, hs, hok⟩
  refine gv_in ?_ hd hs hok
  clear hd hs hok
  clear hz29 hz12 hbe11 hb10 hg9 hz6 hbe5 hb4 hg3
  refine gv_cret ?_
  have e := sj h0; subst e
  refine gv_ret (gv_done [(.bool j13)] rfl ⟨(by kernel_rfl), trivial⟩ ?_)
  exact ⟨grown_of_below hB28, rfl⟩

theorem ref3_SameValue_ok (fuel : Nat) (pa0_0 : Option Addr) (pc0_0 : Nat) (pa0_1 : Option Addr) (pc0_1 : Nat) (a_0 : (Int × (Bool × (List Int)) × (Bool × (List Int)) × ByteArray × Int)) (pa1_0 : Option Addr) (pc1_0 : Nat) (pa1_1 : Option Addr) (pc1_1 : Nat) (b_1 : (Int × (Bool × (List Int)) × (Bool × (List Int)) × ByteArray × Int)) (w0 : World) (X0 : Nat → Prop) (hX0 : ∀ k, X0 k → k < w0.heap.size) (hpa0_0 : Rd (iE .u32) w0 X0 pa0_0 pc0_0 a_0.2.1.2) (hpa0_1 : Rd (iE .u32) w0 X0 pa0_1 pc0_1 a_0.2.2.1.2) (hpa1_0 : Rd (iE .u32) w0 X0 pa1_0 pc1_0 b_1.2.1.2) (hpa1_1 : Rd (iE .u32) w0 X0 pa1_1 pc1_1 b_1.2.2.1.2) (r0 : Bool) (h0 : ref3_SameValue fuel a_0 b_1 = some r0) :
    Calls Tryd.prog 39 ([(.agg #[(.int .i64 a_0.1), (.bool a_0.2.1.1), (.slice pa0_0 (length a_0.2.1.2) pc0_0), (.bool a_0.2.2.1.1), (.slice pa0_1 (length a_0.2.2.1.2) pc0_1), (.string a_0.2.2.2.1), (.int .i64 a_0.2.2.2.2)]), (.agg #[(.int .i64 b_1.1), (.bool b_1.2.1.1), (.slice pa1_0 (length b_1.2.1.2) pc1_0), (.bool b_1.2.2.1.1), (.slice pa1_1 (length b_1.2.2.1.2) pc1_1), (.string b_1.2.2.2.1), (.int .i64 b_1.2.2.2.2)])] : List Value).toArray w0 (Ret fun v w' => w0.grownBy w' none ∧ v = tup [(.bool r0)]) := by
 have hB0 : Below w0.heap.size w0 w0 := Below.refl _ _
 unfold ref3_SameValue at h0
 refine calls_run Tryd.func39 rfl Tryd.ntmps39 (by kernel_rfl) ?_
 refine gv_sub [0, 1] (σ' := [(0, (.agg #[(.int .i64 a_0.1), (.bool a_0.2.1.1), (.slice pa0_0 (length a_0.2.1.2) pc0_0), (.bool a_0.2.2.1.1), (.slice pa0_1 (length a_0.2.2.1.2) pc0_1), (.string a_0.2.2.2.1), (.int .i64 a_0.2.2.2.2)])), (1, (.agg #[(.int .i64 b_1.1), (.bool b_1.2.1.1), (.slice pa1_0 (length b_1.2.1.2) pc1_0), (.bool b_1.2.2.1.1), (.slice pa1_1 (length b_1.2.2.1.2) pc1_1), (.string b_1.2.2.2.1), (.int .i64 b_1.2.2.2.2)]))]) (by kernel_rfl) ?_
 refine gv_seq <| gv_region <| gv_new0 (fun b => .pointer (some ⟨b, 0, none⟩)) #[(.int .i64 a_0.1), (.bool a_0.2.1.1), (.slice pa0_0 (length a_0.2.1.2) pc0_0), (.bool a_0.2.2.1.1), (.slice pa0_1 (length a_0.2.2.1.2) pc0_1), (.string a_0.2.2.2.1), (.int .i64 a_0.2.2.2.2)] 48 (by kernel_rfl) (by kernel_rfl) ?_
 intro b1 w2 hg3 hb4 hbe5 hz6
 refine gv_new0 (fun b => .pointer (some ⟨b, 0, none⟩)) #[(.int .i64 b_1.1), (.bool b_1.2.1.1), (.slice pa1_0 (length b_1.2.1.2) pc1_0), (.bool b_1.2.2.1.1), (.slice pa1_1 (length b_1.2.2.1.2) pc1_1), (.string b_1.2.2.2.1), (.int .i64 b_1.2.2.2.2)] 48 (by kernel_rfl) (by kernel_rfl) ?_
 intro b7 w8 hg9 hb10 hbe11 hz12
 refine pN 1 [4] [] ?_
 refine gv_nil <| gv_seq <| gv_region <| bindE h0 ?_; clear h0; intro j13 h1 h0
 refine gv_cut_ops (J := fun a w14 => Below w0.heap.size w0 w14 ∧ w8.heap.size ≤ w14.heap.size ∧ a.defers = [] ∧ a.tmps.size = 38 ∧ Ok [(4, (.bool j13))] a.tmps) ?_ ?_
 ·skip
  refine pN 1 [5] [(5, (bp b1))] ?_
  have hk15 := hb4.grown hg9 nb
  refine gv_load (t := 3) (A := ⟨b1, 0, none⟩) (.int .i64 a_0.1) [] (fun e => by cases e) rfl rfl rfl (by kernel_rfl) (by kernel_rfl) (by kernel_rfl) (inw0 (hk15.cell 0 rfl)) rfl ?_
  refine pN 1 [7] [(7, (bp b7))] ?_
  refine gv_load (t := 3) (A := ⟨b7, 0, none⟩) (.int .i64 b_1.1) [] (fun e => by cases e) rfl rfl rfl (by kernel_rfl) (by kernel_rfl) (by kernel_rfl) (inw0 (hb10.cell 0 rfl)) rfl ?_
  refine pN 2 [9, 10] [(10, (.bool (a_0.1 == b_1.1)))] ?_
  refine gv_split (s := 10) (g := (a_0.1 == b_1.1)) (by kernel_rfl) (fun hc16 => ?_) (fun hc16 => ?_)
  ·skip
   replace h1 := ite_t hc16 h1
   refine pN 1 [11] [(11, (.pointer (some ⟨b1, 1, none⟩)))] ?_
   refine gv_loadAgg (t := 46) (A := ⟨b1, 1, none⟩) #[(.bool a_0.2.1.1), (.slice pa0_0 (length a_0.2.1.2) pc0_0)] [] (fun e => by cases e) rfl rfl rfl (by kernel_rfl) (by kernel_rfl) (by kernel_rfl) (by kernel_rfl) (inw0 (Box.part hk15 1 _ rfl)) rfl ?_
   refine pN 1 [13] [(13, (.pointer (some ⟨b7, 1, none⟩)))] ?_
   refine gv_loadAgg (t := 46) (A := ⟨b7, 1, none⟩) #[(.bool b_1.2.1.1), (.slice pa1_0 (length b_1.2.1.2) pc1_0)] [] (fun e => by cases e) rfl rfl rfl (by kernel_rfl) (by kernel_rfl) (by kernel_rfl) (by kernel_rfl) (inw0 (Box.part hb10 1 _ rfl)) rfl ?_
   refine bindE h1 ?_; clear h1; intro r17 hr18 h1
   have hg19 := (grown_trans hg3 hg9)
   have hB20 := bg hB0 hg19 nb
   refine gv_call0 (by kernel_rfl) rfl (by kernel_rfl) enters48 (ref3_SameInts_ok fuel pa0_0 pc0_0 (a_0.2.1.1, a_0.2.1.2) pa1_0 pc1_0 (b_1.2.1.1, b_1.2.1.2) w8 (fun k => X0 k ∨ X0 k) (fun k hk => (hk).elim (fun h => (fun k (hk : X0 k) => ltl (hX0 k hk) hB20.size) k h) (fun h => (fun k (hk : X0 k) => ltl (hX0 k hk) hB20.size) k h)) ((hpa0_0.below hB20 hX0).wide (fun k hk => (.inl hk))) ((hpa1_0.below hB20 hX0).wide (fun k hk => (.inr hk))) r17 hr18) ?_
   rintro v23 w21 ⟨hg22, rfl⟩
   refine pN 2 [16, 17] [(17, (.bool r17))] ?_
   refine gv_sub [2, 3, 17] (σ' := [(2, (bp b1)), (3, (bp b7)), (17, (.bool r17))]) (by kernel_rfl) ?_
   refine gv_split (s := 17) (g := r17) (by kernel_rfl) (fun hc24 => ?_) (fun hc24 => ?_)
   ·skip
    replace h1 := ite_t hc24 h1
    refine pN 1 [18] [(18, (.pointer (some ⟨b1, 3, none⟩)))] ?_
    have hk25 := hk15.grown hg22 nb
    refine gv_loadAgg (t := 46) (A := ⟨b1, 3, none⟩) #[(.bool a_0.2.2.1.1), (.slice pa0_1 (length a_0.2.2.1.2) pc0_1)] [] (fun e => by cases e) rfl rfl rfl (by kernel_rfl) (by kernel_rfl) (by kernel_rfl) (by kernel_rfl) (inw0 (Box.part hk25 3 _ rfl)) rfl ?_
    refine pN 1 [20] [(20, (.pointer (some ⟨b7, 3, none⟩)))] ?_
    have hk26 := hb10.grown hg22 nb
    refine gv_loadAgg (t := 46) (A := ⟨b7, 3, none⟩) #[(.bool b_1.2.2.1.1), (.slice pa1_1 (length b_1.2.2.1.2) pc1_1)] [] (fun e => by cases e) rfl rfl rfl (by kernel_rfl) (by kernel_rfl) (by kernel_rfl) (by kernel_rfl) (inw0 (Box.part hk26 3 _ rfl)) rfl ?_
    refine bindE h1 ?_; clear h1; intro r27 hr28 h1
    have hB29 := bg hB20 hg22 nb
    refine gv_call0 (by kernel_rfl) rfl (by kernel_rfl) enters48 (ref3_SameInts_ok fuel pa0_1 pc0_1 (a_0.2.2.1.1, a_0.2.2.1.2) pa1_1 pc1_1 (b_1.2.2.1.1, b_1.2.2.1.2) w21 (fun k => X0 k ∨ X0 k) (fun k hk => (hk).elim (fun h => (fun k (hk : X0 k) => ltl (hX0 k hk) hB29.size) k h) (fun h => (fun k (hk : X0 k) => ltl (hX0 k hk) hB29.size) k h)) ((hpa0_1.below hB29 hX0).wide (fun k hk => (.inl hk))) ((hpa1_1.below hB29 hX0).wide (fun k hk => (.inr hk))) r27 hr28) ?_
    rintro v32 w30 ⟨hg31, rfl⟩
    refine pN 2 [23, 24] [(24, (.bool r27))] ?_
    refine gv_split (s := 24) (g := r27) (by kernel_rfl) (fun hc33 => ?_) (fun hc33 => ?_)
    ·skip
     replace h1 := ite_t hc33 h1
     refine pN 1 [25] [(25, (.pointer (some ⟨b1, 5, none⟩)))] ?_
     have hk34 := hk25.grown hg31 nb
     refine gv_load (t := 9) (A := ⟨b1, 5, none⟩) (.string a_0.2.2.2.1) [] (fun e => by cases e) rfl rfl rfl (by kernel_rfl) (by kernel_rfl) (by kernel_rfl) (inw0 (hk34.cell 5 rfl)) rfl ?_
     refine pN 1 [27] [(27, (.pointer (some ⟨b7, 5, none⟩)))] ?_
     have hk35 := hk26.grown hg31 nb
     refine gv_load (t := 9) (A := ⟨b7, 5, none⟩) (.string b_1.2.2.2.1) [] (fun e => by cases e) rfl rfl rfl (by kernel_rfl) (by kernel_rfl) (by kernel_rfl) (inw0 (hk35.cell 5 rfl)) rfl ?_
     refine pN 3 [29, 30, 31] [(31, (.bool (a_0.2.2.2.1.toList == b_1.2.2.2.1.toList)))] ?_
     refine gv_split (s := 31) (g := (a_0.2.2.2.1.toList == b_1.2.2.2.1.toList)) (by kernel_rfl) (fun hc36 => ?_) (fun hc36 => ?_)
     ·skip
      replace h1 := ite_t hc36 h1
      refine pN 1 [32] [(32, (.pointer (some ⟨b1, 6, none⟩)))] ?_
      refine gv_load (t := 3) (A := ⟨b1, 6, none⟩) (.int .i64 a_0.2.2.2.2) [] (fun e => by cases e) rfl rfl rfl (by kernel_rfl) (by kernel_rfl) (by kernel_rfl) (inw0 (hk34.cell 6 rfl)) rfl ?_
      refine pN 1 [34] [(34, (.pointer (some ⟨b7, 6, none⟩)))] ?_
      refine gv_sub [31, 33, 34] (σ' := [(31, (.bool true)), (33, (.int .i64 a_0.2.2.2.2)), (34, (.pointer (some ⟨b7, 6, none⟩)))]) (by kernel_rfl) ?_
      refine gv_load (t := 3) (A := ⟨b7, 6, none⟩) (.int .i64 b_1.2.2.2.2) [] (fun e => by cases e) rfl rfl rfl (by kernel_rfl) (by kernel_rfl) (by kernel_rfl) (inw0 (hk35.cell 6 rfl)) rfl ?_
      refine pN 3 [4, 36, 37] [(4, (.bool (a_0.2.2.2.2 == b_1.2.2.2.2)))] ?_
      refine gv_nil ?_
      have e := sj h1; subst e
      refine gv_goal fun a hd hs hok => ?_
      have hB37 := bg hB29 hg31 nb
      have hz38 := (nt hg22.size hg31.size)
      exact ⟨hB37, hz38, hd, hs, okp [4] hok⟩
     ·skip
      replace h1 := ite_f hc36 h1
      refine pN 7 [4, 32, 33, 34, 35, 36, 37] [(4, (.bool false))] ?_
      refine gv_nil ?_
      have e := sj h1; subst e
      refine gv_goal fun a hd hs hok => ?_
      have hB39 := bg hB29 hg31 nb
      have hz40 := (nt hg22.size hg31.size)
      exact ⟨hB39, hz40, hd, hs, okp [4] hok⟩
    ·skip
     replace h1 := ite_f hc33 h1
     refine pN 14 [4, 25, 26, 27, 28, 29, 30, 31, 32, 33, 34, 35, 36, 37] [(4, (.bool false))] ?_
     refine gv_nil ?_
     have e := sj h1; subst e
     refine gv_goal fun a hd hs hok => ?_
     have hB41 := bg hB29 hg31 nb
     have hz42 := (nt hg22.size hg31.size)
     exact ⟨hB41, hz42, hd, hs, okp [4] hok⟩
   ·skip
    replace h1 := ite_f hc24 h1
    refine pN 21 [4, 18, 19, 20, 21, 22, 23, 24, 25, 26, 27, 28, 29, 30, 31, 32, 33, 34, 35, 36, 37] [(4, (.bool false))] ?_
    refine gv_nil ?_
    have e := sj h1; subst e
    refine gv_goal fun a hd hs hok => ?_
    have hB43 := bg hB20 hg22 nb
    have hz44 := hg22.size
    exact ⟨hB43, hz44, hd, hs, okp [4] hok⟩
  ·skip
   replace h1 := ite_f hc16 h1
   refine pN 28 [4, 11, 12, 13, 14, 15, 16, 17, 18, 19, 20, 21, 22, 23, 24, 25, 26, 27, 28, 29, 30, 31, 32, 33, 34, 35, 36, 37] [(4, (.bool false))] ?_
   refine gv_nil ?_
   have e := sj h1; subst e
   refine gv_goal fun a hd hs hok => ?_
   have hg45 := (grown_trans hg3 hg9)
   have hB46 := bg hB0 hg45 nb
   exact ⟨hB46, nrf, hd, hs, okp [4] hok⟩
 ·rintro a w14 ⟨hB47, hz48, hd, hs, hok⟩
  refine gv_in ?_ hd hs hok
  clear hd hs hok
  clear hz48 hz12 hbe11 hb10 hg9 hz6 hbe5 hb4 hg3
  refine gv_cret ?_
  have e := sj h0; subst e
  refine gv_ret (gv_done [(.bool j13)] rfl ⟨(by kernel_rfl), trivial⟩ ?_)
  exact ⟨grown_of_below hB47, rfl⟩

theorem ref3_SameValues_ok (fuel : Nat) (pa0_0 : Option Addr) (pc0_0 : Nat) (a_0 : (List (Int × (Bool × (List Int)) × (Bool × (List Int)) × ByteArray × Int))) (pa1_0 : Option Addr) (pc1_0 : Nat) (b_1 : (List (Int × (Bool × (List Int)) × (Bool × (List Int)) × ByteArray × Int))) (w0 : World) (X0 : Nat → Prop) (hX0 : ∀ k, X0 k → k < w0.heap.size) (hpa0_0 : Rd (prE (iE .i64) (prE (prE tE (slE (iE .u32))) (prE (prE tE (slE (iE .u32))) (prE sE (iE .i64))))) w0 X0 pa0_0 pc0_0 a_0) (hpa1_0 : Rd (prE (iE .i64) (prE (prE tE (slE (iE .u32))) (prE (prE tE (slE (iE .u32))) (prE sE (iE .i64))))) w0 X0 pa1_0 pc1_0 b_1) (r0 : Bool) (h0 : ref3_SameValues fuel a_0 b_1 = some r0) :
    Calls Tryd.prog 24 ([(.slice pa0_0 (length a_0) pc0_0), (.slice pa1_0 (length b_1) pc1_0)] : List Value).toArray w0 (Ret fun v w' => w0.grownBy w' none ∧ v = tup [(.bool r0)]) := by
 have hB0 : Below w0.heap.size w0 w0 := Below.refl _ _
 unfold ref3_SameValues at h0
 refine calls_run Tryd.func24 rfl Tryd.ntmps24 (by kernel_rfl) ?_
 refine gv_sub [0, 1] (σ' := [(0, (.slice pa0_0 (length a_0) pc0_0)), (1, (.slice pa1_0 (length b_1) pc1_0))]) (by kernel_rfl) ?_
 refine gv_seq <| gv_region <| pN 1 [4] [] ?_
 refine gv_nil <| gv_seq <| gv_seq <| gv_region <| pN 5 [6, 7, 8, 9, 10] [(10, (.bool (((length a_0 : Nat) : Int) != ((length b_1 : Nat) : Int))))] ?_
 refine gv_nil <| gv_cond (b := (((length a_0 : Nat) : Int) != ((length b_1 : Nat) : Int))) (by kernel_rfl) (fun hc1 => ?_) (fun hc1 => ?_)
 ·replace h0 := ite_t hc1 h0
  refine gv_seq <| gv_region <| pN 1 [4] [(4, (.bool false))] ?_
  refine gv_nil <| gv_cret ?_
  have e := sj h0; subst e
  refine gv_ret (gv_done [(.bool false)] rfl ⟨(by kernel_rfl), trivial⟩ ?_)
  exact ⟨grown_of_below hB0, rfl⟩
 ·replace h0 := ite_f hc1 h0
  refine gv_skip <| gv_seq <| gv_seq <| gv_region <| pN 1 [5] [(5, (.int .i64 0))] ?_
  refine gv_nil <| bindE h0 ?_; clear h0; intro j2 h1 h0
  refine gv_cut_code (J := fun a w4 => ∃ s3 : Unit, j2 = .inl s3 ∧ Below w0.heap.size w0 w4 ∧ w0.heap.size ≤ w4.heap.size ∧ a.defers = [] ∧ a.tmps.size = 27 ∧ Ok [] a.tmps) ?_ ?_
  ·skip
   refine gv_block <| gv_loop (A := fun (s5 : Int) a w6 => Below w0.heap.size w0 w6 ∧ w0.heap.size ≤ w6.heap.size ∧ a.defers = [] ∧ a.tmps.size = 27 ∧ Ok [(0, (.slice pa0_0 (length a_0) pc0_0)), (1, (.slice pa1_0 (length b_1) pc1_0)), (5, (.int .i64 s5))] a.tmps) h1 ?_ ?_
   ·intro a hd hs hok
    exact ⟨hB0, nrf, hd, hs, okp [0, 1, 5] hok⟩
   ·rintro s5 r2 h2 hR2 a w6 ⟨hB7, hz8, hd, hs, hok⟩
    refine gv_in ?_ hd hs hok
    clear hd hs hok
    refine gv_seq <| gv_seq <| gv_region <| pN 4 [11, 12, 13, 14] [(14, (.bool (decide (s5 < ((length a_0 : Nat) : Int)))))] ?_
    refine gv_nil <| gv_cond (b := (decide (s5 < ((length a_0 : Nat) : Int)))) (by kernel_rfl) (fun hc9 => ?_) (fun hc9 => ?_)
    ·replace h2 := ite_t hc9 h2
     refine gv_skip <| gv_seq <| gv_block <| gv_seq <| gv_drawA (by kernel_rfl) ?_
     intro w10 hg11
     refine gv_pre [0, 1, 2, 4, 5, 6] (bA 10 [0, 1, 2, 4, 5, 6]) 4 (by kernel_rfl) (by kernel_rfl) ?_
     refine pN 2 [17, 18] [(17, (.slice pa0_0 (length a_0) pc0_0)), (18, (.int .i64 s5))] ?_
     refine bindE h2 ?_; clear h2; intro x12 hx13 h2
     have hB14 := bg hB7 hg11 nb
     refine gv_idxaddr (t := 23) (e := 48) (a := pa0_0) (len := length a_0) (cap := pc0_0) (kk := .i64) (i := s5) (sz := 7) [] (fun e => by cases e) rfl rfl rfl (by kernel_rfl) (by kernel_rfl) Tryd.underlying23 (by kernel_rfl) ((hpa0_0.below hB14 hX0).has hx13) (idx_spec hx13).1 (idx_spec hx13).2.1 rfl ?_
     refine pN 2 [21, 22] [(21, (.slice pa1_0 (length b_1) pc1_0)), (22, (.int .i64 s5))] ?_
     refine bindE h2 ?_; clear h2; intro x15 hx16 h2
     refine gv_idxaddr (t := 23) (e := 48) (a := pa1_0) (len := length b_1) (cap := pc1_0) (kk := .i64) (i := s5) (sz := 7) [] (fun e => by cases e) rfl rfl rfl (by kernel_rfl) (by kernel_rfl) Tryd.underlying23 (by kernel_rfl) ((hpa1_0.below hB14 hX0).has hx16) (idx_spec hx16).1 (idx_spec hx16).2.1 rfl ?_
     refine gv_nil <| gv_goA ?_
     refine gv_stage (Cls w10 []) [3, 7] [(3, some true), (7, some true)] (bA 10 [0, 1, 2, 3, 4, 5, 6, 7]) 2 (by kernel_rfl) (by kernel_rfl) (Cls.refl _ _) ?_
     have hC17 := Cls.refl w10 []
     obtain ⟨_, ⟨_, _, rfl, rfl, ⟨_, _, rfl, ⟨_, _, rfl, rfl, ⟨a19, c20, rfl, hr21⟩⟩, ⟨_, _, rfl, ⟨_, _, rfl, rfl, ⟨a22, c23, rfl, hr24⟩⟩, ⟨_, _, rfl, rfl, rfl⟩⟩⟩⟩, hc18⟩ := hpa0_0.cellsK hx13
     refine gv_loadAgg (t := 48) (A := (elemAddr pa0_0 ((s5 : Int).toNat * 7))) #[(.int .i64 x12.1), (.bool x12.2.1.1), (.slice a19 (length x12.2.1.2) c20), (.bool x12.2.2.1.1), (.slice a22 (length x12.2.2.1.2) c23), (.string x12.2.2.2.1), (.int .i64 x12.2.2.2.2)] [] (fun e => by cases e) rfl rfl rfl (by kernel_rfl) (by kernel_rfl) (by kernel_rfl) (by kernel_rfl) (inw1 fun w' hC' => (hc18 w' (fun k hk => (hC'.2 k ((fun k (hk : X0 k) => ltl (hX0 k hk) hB14.size) k hk) (fun hg => nmx_nil k hg hk)).trans (hB14.block k (hX0 k hk))))) rfl ?_
     obtain ⟨_, ⟨_, _, rfl, rfl, ⟨_, _, rfl, ⟨_, _, rfl, rfl, ⟨a26, c27, rfl, hr28⟩⟩, ⟨_, _, rfl, ⟨_, _, rfl, rfl, ⟨a29, c30, rfl, hr31⟩⟩, ⟨_, _, rfl, rfl, rfl⟩⟩⟩⟩, hc25⟩ := hpa1_0.cellsK hx16
     refine gv_loadAgg (t := 48) (A := (elemAddr pa1_0 ((s5 : Int).toNat * 7))) #[(.int .i64 x15.1), (.bool x15.2.1.1), (.slice a26 (length x15.2.1.2) c27), (.bool x15.2.2.1.1), (.slice a29 (length x15.2.2.1.2) c30), (.string x15.2.2.2.1), (.int .i64 x15.2.2.2.2)] [] (fun e => by cases e) rfl rfl rfl (by kernel_rfl) (by kernel_rfl) (by kernel_rfl) (by kernel_rfl) (inw1 fun w' hC' => (hc25 w' (fun k hk => (hC'.2 k ((fun k (hk : X0 k) => ltl (hX0 k hk) hB14.size) k hk) (fun hg => nmx_nil k hg hk)).trans (hB14.block k (hX0 k hk))))) rfl ?_
     refine gv_nil <| gv_goA ?_
     refine gv_stage (fun _ => True) [8] [(8, some false)] (bA 10 [0, 1, 2, 3, 4, 5, 6, 7, 8]) 1 (by kernel_rfl) (by kernel_rfl) trivial ?_
     refine bindE h2 ?_; clear h2; intro r32 hr33 h2
     refine gv_call (f := 39) (vs := [(.agg #[(.int .i64 x12.1), (.bool x12.2.1.1), (.slice a19 (length x12.2.1.2) c20), (.bool x12.2.2.1.1), (.slice a22 (length x12.2.2.1.2) c23), (.string x12.2.2.2.1), (.int .i64 x12.2.2.2.2)]), (.agg #[(.int .i64 x15.1), (.bool x15.2.1.1), (.slice a26 (length x15.2.1.2) c27), (.bool x15.2.2.1.1), (.slice a29 (length x15.2.2.1.2) c30), (.string x15.2.2.2.1), (.int .i64 x15.2.2.2.2)])]) (cap := []) _ (by decide) rfl rfl rfl (by kernel_rfl) (by kernel_rfl) enters39 (ref3_SameValue_ok fuel a19 c20 a22 c23 (x12.1, (x12.2.1.1, x12.2.1.2), (x12.2.2.1.1, x12.2.2.1.2), x12.2.2.2.1, x12.2.2.2.2) a26 c27 a29 c30 (x15.1, (x15.2.1.1, x15.2.1.2), (x15.2.2.1.1, x15.2.2.1.2), x15.2.2.2.1, x15.2.2.2.2) w10 (fun k => X0 k ∨ X0 k ∨ X0 k ∨ X0 k) (fun k hk => (hk).elim (fun h => (fun k (hk : X0 k) => ltl (hX0 k hk) hB14.size) k h) (fun h => (h).elim (fun h => (fun k (hk : X0 k) => ltl (hX0 k hk) hB14.size) k h) (fun h => (h).elim (fun h => (fun k (hk : X0 k) => ltl (hX0 k hk) hB14.size) k h) (fun h => (fun k (hk : X0 k) => ltl (hX0 k hk) hB14.size) k h)))) ((hr21.below hB14 hX0).wide (fun k hk => (.inl hk))) ((hr24.below hB14 hX0).wide (fun k hk => (.inr (.inl hk)))) ((hr28.below hB14 hX0).wide (fun k hk => (.inr (.inr (.inl hk))))) ((hr31.below hB14 hX0).wide (fun k hk => (.inr (.inr (.inr hk))))) r32 hr33) ?_
     rintro v36 w34 ⟨hg35, rfl⟩
     refine ⟨(fun _ => trivial), ?_⟩
     refine gv_nil <| gv_goA ?_
     refine gv_pre [9] (bA 10 [0, 1, 2, 3, 4, 5, 6, 7, 8, 9]) 0 (by kernel_rfl) (by kernel_rfl) ?_
     refine pN 1 [26] [(26, (.bool (!r32)))] ?_
     refine gv_nil <| gv_goA ?_
     refine gv_stageE (by kernel_rfl) ?_
     refine gv_cond (b := (!r32)) (by kernel_rfl) (fun hc37 => ?_) (fun hc37 => ?_)
     ·replace h2 := ite_t hc37 h2
      refine gv_seq <| gv_region <| pN 1 [4] [(4, (.bool false))] ?_
      refine gv_nil <| gv_cret ?_
      have e := sj h2; subst e
      replace h1 := congrArg some (hR2 _ rfl)
      have e := sj h1; subst e
      replace h0 := cont_inr h0
      have e := sj h0; subst e
      refine gv_ret (gv_done [(.bool false)] rfl ⟨(by kernel_rfl), trivial⟩ ?_)
      have hB38 := bg hB14 hg35 nb
      exact ⟨grown_of_below hB38, rfl⟩
     ·replace h2 := ite_f hc37 h2
      refine gv_skip <| gv_blk <| gv_region <| pN 3 [5, 15, 16] [(5, (.int .i64 (IntKind.i64.wrap (s5 + 1))))] ?_
      refine gv_nil ?_
      have e := sj h2; subst e
      refine gv_goal fun a hd hs hok => ?_
      have hB39 := bg hB14 hg35 nb
      have hz40 := (nt (nt hz8 hg11.size) hg35.size)
      exact ⟨(IntKind.i64.wrap (s5 + 1)), rfl, hB39, hz40, hd, hs, okp [0, 1, 5] hok⟩
    ·replace h2 := ite_f hc9 h2
     refine gv_cexit <| gv_exit rfl ?_
     have e := sj h2; subst e
     replace h1 := congrArg some (hR2 _ rfl)
     have e := sj h1; subst e
     refine gv_goal fun a hd hs hok => ?_
     have hz41 := hz8
     exact ⟨(), rfl, hB7, hz41, hd, hs, okp [] hok⟩
  ·rintro a w4 ⟨s3, e, hB42, hz43, hd, hs, hok⟩
   subst e
   refine gv_in ?_ hd hs hok
   clear hd hs hok
   replace h0 := cont_inl h0
   refine gv_seq <| gv_region <| pN 1 [4] [(4, (.bool true))] ?_
   refine gv_nil <| gv_cret ?_
   have e := sj h0; subst e
   refine gv_ret (gv_done [(.bool true)] rfl ⟨(by kernel_rfl), trivial⟩ ?_)
   exact ⟨grown_of_below hB42, rfl⟩

theorem law4_packs_ok (fuel : Nat)  (w0 : World) (X0 : Nat → Prop) (hX0 : ∀ k, X0 k → k < w0.heap.size) {erx : TypeId × Value} (hG2 : Rd eE w0 X0 (some ⟨2, 0, none⟩) 1 [erx]) (r0 : Bool) (h0 : law4_packs fuel  = some r0) :
    Calls Tryd.prog 7 ([] : List Value).toArray w0 (Ret fun v w' => w0.grownBy w' none ∧ v = tup [(.bool r0)]) := by
 have hB0 : Below w0.heap.size w0 w0 := Below.refl _ _
 unfold law4_packs at h0
 refine calls_run Tryd.func7 rfl Tryd.ntmps7 (by kernel_rfl) ?_
 refine gv_sub [] (σ' := []) (by kernel_rfl) ?_
 refine gv_seq <| gv_region <| pN 1 [0] [] ?_
 refine gv_nil <| gv_seq <| gv_region <| bindE h0 ?_; clear h0; intro r1 hr2 h0
 refine gv_call0 (by kernel_rfl) rfl (by kernel_rfl) enters10 (packing_Parse_ok fuel (strOf [62, 104, 118]) w0 (fun k => X0 k) (fun k hk => (fun k (hk : X0 k) => ltl (hX0 k hk) hB0.size) k hk) ((hG2.below hB0 hX0).wide (fun k hk => hk)) r1 hr2) ?_
 rintro v5 w3 ⟨hg4, a6, c7, rfl, ho8, hl9⟩
 have hl10 : ∀ g, blk a6 = some g → w0.heap.size ≤ g := fun g e => Nat.le_trans hB0.size (hl9 g e)
 refine pN 3 [7, 9, 10] [(9, (.slice a6 (length r1.1) c7)), (10, (.agg #[(.int .i64 r1.2.1), (.int .i64 r1.2.2)]))] ?_
 refine gv_new0 (fun b => .pointer (some ⟨b, 0, none⟩)) #[(.int .i64 0), (.int .i64 0)] 26 (by kernel_rfl) (by kernel_rfl) ?_
 intro b11 w12 hg13 hb14 hbe15 hz16
 refine pN 1 [1] [(1, (.slice a6 (length r1.1) c7))] ?_
 refine gv_store0 26 0 (.agg #[(.int .i64 r1.2.1), (.int .i64 r1.2.2)]) #[(.int .i64 r1.2.1), (.int .i64 r1.2.2)] hb14 (by kernel_rfl) (by kernel_rfl) (by kernel_rfl) ?_
 intro w17 hg18 hb19 hz20
 refine gv_nil <| gv_seq <| gv_region <| pN 1 [12] [(12, (.slice a6 (length r1.1) c7))] ?_
 refine bindE h0 ?_; clear h0; intro r21 hr22 h0
 refine gv_call0 (by kernel_rfl) rfl (by kernel_rfl) enters17 (law4_whole_ok fuel 258 w17  r21 hr22) ?_
 rintro v25 w23 ⟨hg24, a26, c27, a30, c31, rfl, ho28, hl29, ho32, hl33, ap34⟩
 have hg36 := (grown_trans hg4 hg13)
 have hB37 := bg hB0 hg36 nb
 have hB38 := bg hB0 hg4 nb
 have hlo39 : w0.heap.size ≤ b11 := lob hbe15 hB38.size
 have hB40 := bg hB37 hg18 (rowlo hlo39)
 have hl35 : ∀ g, blk a26 = some g → w0.heap.size ≤ g := fun g e => Nat.le_trans hB40.size (hl29 g e)
 have hl41 : ∀ g, blk a30 = some g → w0.heap.size ≤ g := fun g e => Nat.le_trans hB40.size (hl33 g e)
 refine bindE h0 ?_; clear h0; intro r42 hr43 h0
 refine gv_call0 (by kernel_rfl) rfl (by kernel_rfl) enters17 (law4_whole_ok fuel (-3) w23  r42 hr43) ?_
 rintro v46 w44 ⟨hg45, a47, c48, a51, c52, rfl, ho49, hl50, ho53, hl54, ap55⟩
 have hB57 := bg hB40 hg24 nb
 have hl56 : ∀ g, blk a47 = some g → w0.heap.size ≤ g := fun g e => Nat.le_trans hB57.size (hl50 g e)
 have hl58 : ∀ g, blk a51 = some g → w0.heap.size ≤ g := fun g e => Nat.le_trans hB57.size (hl54 g e)
 refine gv_new0 (fun b => .slice (some ⟨b, 0, none⟩) 2 2) #[(.int .i64 r21.1), (.bool r21.2.1.1), (.slice a26 (length r21.2.1.2) c27), (.bool r21.2.2.1.1), (.slice a30 (length r21.2.2.1.2) c31), (.string r21.2.2.2.1), (.int .i64 r21.2.2.2.2), (.int .i64 r42.1), (.bool r42.2.1.1), (.slice a47 (length r42.2.1.2) c48), (.bool r42.2.2.1.1), (.slice a51 (length r42.2.2.1.2) c52), (.string r42.2.2.2.1), (.int .i64 r42.2.2.2.2)] 48 (by kernel_rfl) (by kernel_rfl) ?_
 intro b59 w60 hg61 hb62 hbe63 hz64
 obtain ⟨X70, e⟩ : ∃ X : Nat → Prop, X = (fun k => (fun k => blk a26 = some k) k ∨ (fun k => blk a30 = some k) k ∨ (fun k => blk a47 = some k) k ∨ (fun k => blk a51 = some k) k) := ⟨_, rfl⟩
 have hk71 := ho28.grown hg45 (fun _ h => h.elim) nb
 have hk72 := ho32.grown hg45 (fun _ h => h.elim) nb
 have hx68 : ∀ k, X70 k → k < w44.heap.size := fun k h => by rw [e] at h; exact (h).elim (fun h => (fun k (hk : blk a26 = some k) => hk71.lt k hk) k h) (fun h => (h).elim (fun h => (fun k (hk : blk a30 = some k) => hk72.lt k hk) k h) (fun h => (h).elim (fun h => (fun k (hk : blk a47 = some k) => ho49.lt k hk) k h) (fun h => (fun k (hk : blk a51 = some k) => ho53.lt k hk) k h)))
 have hz73 := hg61.size
 have hx67 : ∀ k, X70 k → k < w60.heap.size := fun k h => ltl (hx68 k h) hz73
 have hx69 : ∀ k, X70 k → X0 k ∨ w0.heap.size ≤ k := fun k h => by rw [e] at h; exact (h).elim (fun h => (fun k (hk : blk a26 = some k) => Or.inr (hl35 k hk)) k h) (fun h => (h).elim (fun h => (fun k (hk : blk a30 = some k) => Or.inr (hl41 k hk)) k h) (fun h => (h).elim (fun h => (fun k (hk : blk a47 = some k) => Or.inr (hl56 k hk)) k h) (fun h => (fun k (hk : blk a51 = some k) => Or.inr (hl58 k hk)) k h)))
 have hk74 := hk71.grown hg61 (fun _ h => h.elim) nb
 have hk75 := hk72.grown hg61 (fun _ h => h.elim) nb
 have hk76 := ho49.grown hg61 (fun _ h => h.elim) nb
 have hk77 := ho53.grown hg61 (fun _ h => h.elim) nb
 have ho65 : Gv.Own (prE (iE .i64) (prE (prE tE (slE (iE .u32))) (prE (prE tE (slE (iE .u32))) (prE sE (iE .i64))))) 48 w60 X70 (some ⟨b59, 0, none⟩) 2 ([(r21.1, (r21.2.1.1, r21.2.1.2), (r21.2.2.1.1, r21.2.2.1.2), r21.2.2.2.1, r21.2.2.2.2), (r42.1, (r42.2.1.1, r42.2.1.2), (r42.2.2.1.1, r42.2.2.1.2), r42.2.2.2.1, r42.2.2.2.2)] : List (Int × (Bool × (List Int)) × (Bool × (List Int)) × ByteArray × Int)) := Box.ownE hb62 (by rw [e]; exact ⟨[(.int .i64 r21.1), (.bool r21.2.1.1), (.slice a26 (length r21.2.1.2) c27), (.bool r21.2.2.1.1), (.slice a30 (length r21.2.2.1.2) c31), (.string r21.2.2.2.1), (.int .i64 r21.2.2.2.2)], [(.int .i64 r42.1), (.bool r42.2.1.1), (.slice a47 (length r42.2.1.2) c48), (.bool r42.2.2.1.1), (.slice a51 (length r42.2.2.1.2) c52), (.string r42.2.2.2.1), (.int .i64 r42.2.2.2.2)], rfl, ⟨[(.int .i64 r21.1)], [(.bool r21.2.1.1), (.slice a26 (length r21.2.1.2) c27), (.bool r21.2.2.1.1), (.slice a30 (length r21.2.2.1.2) c31), (.string r21.2.2.2.1), (.int .i64 r21.2.2.2.2)], rfl, rfl, ⟨[(.bool r21.2.1.1), (.slice a26 (length r21.2.1.2) c27)], [(.bool r21.2.2.1.1), (.slice a30 (length r21.2.2.1.2) c31), (.string r21.2.2.2.1), (.int .i64 r21.2.2.2.2)], rfl, ⟨[(.bool r21.2.1.1)], [(.slice a26 (length r21.2.1.2) c27)], rfl, rfl, ⟨a26, c27, rfl, ((hk74.rd (Y := fun k => blk a26 = some k) (fun _ h => h.elim) (fun g e => e)).wide (fun _ h => (.inl h)))⟩⟩, ⟨[(.bool r21.2.2.1.1), (.slice a30 (length r21.2.2.1.2) c31)], [(.string r21.2.2.2.1), (.int .i64 r21.2.2.2.2)], rfl, ⟨[(.bool r21.2.2.1.1)], [(.slice a30 (length r21.2.2.1.2) c31)], rfl, rfl, ⟨a30, c31, rfl, ((hk75.rd (Y := fun k => blk a30 = some k) (fun _ h => h.elim) (fun g e => e)).wide (fun _ h => (.inr (.inl h))))⟩⟩, ⟨[(.string r21.2.2.2.1)], [(.int .i64 r21.2.2.2.2)], rfl, rfl, rfl⟩⟩⟩⟩, ⟨[(.int .i64 r42.1), (.bool r42.2.1.1), (.slice a47 (length r42.2.1.2) c48), (.bool r42.2.2.1.1), (.slice a51 (length r42.2.2.1.2) c52), (.string r42.2.2.2.1), (.int .i64 r42.2.2.2.2)], [], rfl, ⟨[(.int .i64 r42.1)], [(.bool r42.2.1.1), (.slice a47 (length r42.2.1.2) c48), (.bool r42.2.2.1.1), (.slice a51 (length r42.2.2.1.2) c52), (.string r42.2.2.2.1), (.int .i64 r42.2.2.2.2)], rfl, rfl, ⟨[(.bool r42.2.1.1), (.slice a47 (length r42.2.1.2) c48)], [(.bool r42.2.2.1.1), (.slice a51 (length r42.2.2.1.2) c52), (.string r42.2.2.2.1), (.int .i64 r42.2.2.2.2)], rfl, ⟨[(.bool r42.2.1.1)], [(.slice a47 (length r42.2.1.2) c48)], rfl, rfl, ⟨a47, c48, rfl, ((hk76.rd (Y := fun k => blk a47 = some k) (fun _ h => h.elim) (fun g e => e)).wide (fun _ h => (.inr (.inr (.inl h)))))⟩⟩, ⟨[(.bool r42.2.2.1.1), (.slice a51 (length r42.2.2.1.2) c52)], [(.string r42.2.2.2.1), (.int .i64 r42.2.2.2.2)], rfl, ⟨[(.bool r42.2.2.1.1)], [(.slice a51 (length r42.2.2.1.2) c52)], rfl, rfl, ⟨a51, c52, rfl, ((hk77.rd (Y := fun k => blk a51 = some k) (fun _ h => h.elim) (fun g e => e)).wide (fun _ h => (.inr (.inr (.inr h)))))⟩⟩, ⟨[(.string r42.2.2.2.1)], [(.int .i64 r42.2.2.2.2)], rfl, rfl, rfl⟩⟩⟩⟩, rfl⟩⟩) (show 2 ≤ maxLen by decide) (fun h => noteq hbe63 (hx68 _ h))
 have hx78 : ∀ k, X70 k → (fun k => (fun k => blk a26 = some k) k ∨ (fun k => blk a30 = some k) k ∨ (fun k => blk a47 = some k) k ∨ (fun k => blk a51 = some k) k) k := fun k h => by rw [e] at h; exact h
 clear e
 have hB79 := bg hB57 hg45 nb
 have hl66 : ∀ g, blk (some ⟨b59, 0, none⟩) = some g → w0.heap.size ≤ g := loo hbe63 hB79.size
 have ap81 : ¬ (fun k => blk a6 = some k) b11 := fun hx => nl ((lowb hbe15) _ rfl) ((fun k (hk : blk a6 = some k) => ho8.lt k hk) _ hx)
 have hg82 := (grown_trans hg24 hg45)
 have hk83 := ((ho8.grown hg13 (fun _ h => h.elim) nb).grown hg18 (fun _ h => h.elim) (rdnn (rowne ap81))).grown hg82 (fun _ h => h.elim) nb
 have ap80 : ∀ g, blk (some ⟨b59, 0, none⟩) = some g → ¬ (fun k => blk a6 = some k) g := fun g e hx => nl (lowo hbe63 g e) ((fun k (hk : blk a6 = some k) => hk83.lt k hk) _ hx)
 have hk85 := (ho8.grown hg13 (fun _ h => h.elim) nb).grown hg18 (fun _ h => h.elim) (rdnn (rowne ap81))
 have ap86 : ∀ g, blk a6 = some g → ¬ (fun k => blk a26 = some k) g := fun g e hx => nl ((show ∀ k, blk a26 = some k → w17.heap.size ≤ k from hl29) _ hx) ((fun k (hk : blk a6 = some k) => hk85.lt k hk) g e)
 have ap87 : ∀ g, blk a6 = some g → ¬ (fun k => blk a30 = some k) g := fun g e hx => nl ((show ∀ k, blk a30 = some k → w17.heap.size ≤ k from hl33) _ hx) ((fun k (hk : blk a6 = some k) => hk85.lt k hk) g e)
 have hk88 := hk85.grown hg24 (fun _ h => h.elim) nb
 have ap89 : ∀ g, blk a6 = some g → ¬ (fun k => blk a47 = some k) g := fun g e hx => nl ((show ∀ k, blk a47 = some k → w23.heap.size ≤ k from hl50) _ hx) ((fun k (hk : blk a6 = some k) => hk88.lt k hk) g e)
 have ap90 : ∀ g, blk a6 = some g → ¬ (fun k => blk a51 = some k) g := fun g e hx => nl ((show ∀ k, blk a51 = some k → w23.heap.size ≤ k from hl54) _ hx) ((fun k (hk : blk a6 = some k) => hk88.lt k hk) g e)
 have ap84 : ∀ g, blk a6 = some g → ¬ (fun k => blk (some ⟨b59, 0, none⟩) = some k ∨ X70 k) g := fun g e h => h.elim (fun h => nl (lowo hbe63 _ h) ((fun k (hk : blk a6 = some k) => hk83.lt k hk) g e)) (fun h => ((hx78 _ h)).elim (fun h => (ap86) g e h) (fun h => (h).elim (fun h => (ap87) g e h) (fun h => (h).elim (fun h => (ap89) g e h) (fun h => (ap90) g e h))))
 have hk92 := hb19.grown hg82 nb
 have ap91 : ∀ g, blk (some ⟨b59, 0, none⟩) = some g → ¬ (· = b11) g := fun g e hx => nl (lowo hbe63 g e) ((ltb hk92) _ hx)
 have ap94 : ¬ (fun k => blk a26 = some k) b11 := fun hx => nl ((show ∀ k, blk a26 = some k → w17.heap.size ≤ k from hl29) _ hx) ((ltb hb19) _ rfl)
 have ap95 : ¬ (fun k => blk a30 = some k) b11 := fun hx => nl ((show ∀ k, blk a30 = some k → w17.heap.size ≤ k from hl33) _ hx) ((ltb hb19) _ rfl)
 have hk96 := hb19.grown hg24 nb
 have ap97 : ¬ (fun k => blk a47 = some k) b11 := fun hx => nl ((show ∀ k, blk a47 = some k → w23.heap.size ≤ k from hl50) _ hx) ((ltb hk96) _ rfl)
 have ap98 : ¬ (fun k => blk a51 = some k) b11 := fun hx => nl ((show ∀ k, blk a51 = some k → w23.heap.size ≤ k from hl54) _ hx) ((ltb hk96) _ rfl)
 have ap93 : ¬ (fun k => blk (some ⟨b59, 0, none⟩) = some k ∨ X70 k) b11 := fun h => h.elim (fun h => nl (lowo hbe63 _ h) ((ltb hk92) _ rfl)) (fun h => ((hx78 _ h)).elim (fun h => (ap94)  h) (fun h => (h).elim (fun h => (ap95)  h) (fun h => (h).elim (fun h => (ap97)  h) (fun h => (ap98)  h))))
 have ap99 : ∀ g, blk (some ⟨b59, 0, none⟩) = some g → ¬ (fun k => blk a26 = some k) g := fun g e hx => nl (lowo hbe63 g e) ((fun k (hk : blk a26 = some k) => hk71.lt k hk) _ hx)
 have ap100 : ∀ g, blk (some ⟨b59, 0, none⟩) = some g → ¬ (fun k => blk a30 = some k) g := fun g e hx => nl (lowo hbe63 g e) ((fun k (hk : blk a30 = some k) => hk72.lt k hk) _ hx)
 have ap101 : ∀ g, blk (some ⟨b59, 0, none⟩) = some g → ¬ (fun k => blk a47 = some k) g := fun g e hx => nl (lowo hbe63 g e) ((fun k (hk : blk a47 = some k) => ho49.lt k hk) _ hx)
 have ap102 : ∀ g, blk (some ⟨b59, 0, none⟩) = some g → ¬ (fun k => blk a51 = some k) g := fun g e hx => nl (lowo hbe63 g e) ((fun k (hk : blk a51 = some k) => ho53.lt k hk) _ hx)
 refine bindE h0 ?_; clear h0; intro r103 hr104 h0
 have hk105 := hk83.grown hg61 (fun _ h => h.elim) nb
 refine gv_call0 (by kernel_rfl) rfl (by kernel_rfl) enters6 (packing_Pack_ok fuel a6 c7 r1.1 (some ⟨b59, 0, none⟩) 2 ([(r21.1, (r21.2.1.1, r21.2.1.2), (r21.2.2.1.1, r21.2.2.1.2), r21.2.2.2.1, r21.2.2.2.2), (r42.1, (r42.2.1.1, r42.2.1.2), (r42.2.2.1.1, r42.2.2.1.2), r42.2.2.2.1, r42.2.2.2.2)] : List (Int × (Bool × (List Int)) × (Bool × (List Int)) × ByteArray × Int)) w60 (fun k => (fun k => blk a6 = some k) k ∨ (fun k => blk (some ⟨b59, 0, none⟩) = some k ∨ X70 k) k) (fun k hk => (hk).elim (fun h => (fun k (hk : blk a6 = some k) => hk105.lt k hk) k h) (fun h => (fun k (hk : blk (some ⟨b59, 0, none⟩) = some k ∨ X70 k) => hk.elim (fun h => ho65.lt k h) (fun h => hx67 k h)) k h)) ((hk105.rd (Y := fun k => blk a6 = some k) (fun _ h => h.elim) (fun g e => e)).wide (fun k hk => (.inl hk))) ((ho65.rd (Y := fun k => blk (some ⟨b59, 0, none⟩) = some k ∨ X70 k) (fun _ h => .inr h) (fun g e => .inl e)).wide (fun k hk => (.inr hk))) r103 hr104) ?_
 rintro v108 w106 ⟨hg107, a109, c110, rfl, ho111, hl112⟩
 have hB114 := bg hB79 hg61 nb
 have hl113 : ∀ g, blk a109 = some g → w0.heap.size ≤ g := fun g e => Nat.le_trans hB114.size (hl112 g e)
 refine pN 3 [11, 17, 18] [(17, (.slice a109 (length r103.1) c110)), (18, (.agg #[(.int .i64 r103.2.1), (.int .i64 r103.2.2)]))] ?_
 refine gv_new0 (fun b => .pointer (some ⟨b, 0, none⟩)) #[(.int .i64 0), (.int .i64 0)] 26 (by kernel_rfl) (by kernel_rfl) ?_
 intro b115 w116 hg117 hb118 hbe119 hz120
 clear hz120 hr104 ap102 ap101 ap100 ap99 ap93 ap98 ap97 hk96 ap95 ap94 ap91 ap84 ap90 ap89 hk88 ap87 ap86 hk85 ap80 hk83 hg82 hl66 hB79 hx78 ho65 hk77 hk76 hk75 hk74 hx69 hx67 hz73 hx68 hk72 hk71 hz64 hbe63 hb62 hl58 hl56 hB57 ap55 hl54 ho53 hl50 ho49 hg45 hr43 hl41 hl35 hB40 hB38 hB37 hg36 ap34 hl33 ho32 hl29 ho28 hg24 hr22 hz20 hb19 hg18 hz16 hb14 hg13 hl9 hg4 hr2
 refine pN 1 [3] [(3, (.slice a109 (length r103.1) c110))] ?_
 refine gv_sub [1, 2, 3, 4, 18] (σ' := [(1, (.slice a6 (length r1.1) c7)), (2, (bp b11)), (3, (.slice a109 (length r103.1) c110)), (4, (bp b115)), (18, (.agg #[(.int .i64 r103.2.1), (.int .i64 r103.2.2)]))]) (by kernel_rfl) ?_
 refine gv_store0 26 0 (.agg #[(.int .i64 r103.2.1), (.int .i64 r103.2.2)]) #[(.int .i64 r103.2.1), (.int .i64 r103.2.2)] hb118 (by kernel_rfl) (by kernel_rfl) (by kernel_rfl) ?_
 intro w121 hg122 hb123 hz124
 refine gv_nil <| gv_seq <| gv_region <| pN 2 [20, 21] [(20, (.slice a6 (length r1.1) c7)), (21, (.slice a109 (length r103.1) c110))] ?_
 refine bindE h0 ?_; clear h0; intro r125 hr126 h0
 have hg127 := (grown_trans hg107 hg117)
 have hk128 := hk105.grown hg107 (fun _ h => h.elim) nb
 have ap129 : ¬ (fun k => blk a6 = some k) b115 := fun hx => nl ((lowb hbe119) _ rfl) ((fun k (hk : blk a6 = some k) => hk128.lt k hk) _ hx)
 have hk130 := (hk105.grown hg127 (fun _ h => h.elim) nb).grown hg122 (fun _ h => h.elim) (rdnn (rowne ap129))
 have ap131 : ¬ (fun k => blk a109 = some k) b115 := fun hx => nl ((lowb hbe119) _ rfl) ((fun k (hk : blk a109 = some k) => ho111.lt k hk) _ hx)
 have hk132 := (ho111.grown hg117 (fun _ h => h.elim) nb).grown hg122 (fun _ h => h.elim) (rdnn (rowne ap131))
 refine gv_call0 (by kernel_rfl) rfl (by kernel_rfl) enters18 (packing_Unpack_ok fuel a6 c7 r1.1 a109 c110 r103.1 w121 (fun k => (fun k => blk a6 = some k) k ∨ (fun k => blk a109 = some k) k) (fun k hk => (hk).elim (fun h => (fun k (hk : blk a6 = some k) => hk130.lt k hk) k h) (fun h => (fun k (hk : blk a109 = some k) => hk132.lt k hk) k h)) ((hk130.rd (Y := fun k => blk a6 = some k) (fun _ h => h.elim) (fun g e => e)).wide (fun k hk => (.inl hk))) ((hk132.rd (Y := fun k => blk a109 = some k) (fun _ h => h.elim) (fun g e => e)).wide (fun k hk => (.inr hk))) r125 hr126) ?_
 rintro v135 w133 ⟨hg134, a136, c137, X140, rfl, ho138, hl139, hx141⟩
 have hB143 := bg hB114 hg127 nb
 have hB144 := bg hB114 hg107 nb
 have hlo145 : w0.heap.size ≤ b115 := lob hbe119 hB144.size
 have hB146 := bg hB143 hg122 (rowlo hlo145)
 have hl142 : ∀ g, blk a136 = some g → w0.heap.size ≤ g := fun g e => Nat.le_trans hB146.size (hl139 g e)
 have hx147 : ∀ k, X140 k → k < w133.heap.size := fun k hk => (hx141 k hk).1
 have hx148 : ∀ k, X140 k → X0 k ∨ w0.heap.size ≤ k := fun k hk => (hx141 k hk).2.elim (fun h => (h).elim (fun h => (fun k (hk : blk a6 = some k) => Or.inr (hl10 k hk)) k h) (fun h => (fun k (hk : blk a109 = some k) => Or.inr (hl113 k hk)) k h)) (fun h => .inr (Nat.le_trans hB146.size h))
 refine pN 3 [19, 23, 24] [(23, (.slice a136 (length r125.1) c137)), (24, (.agg #[(.int .i64 r125.2.1), (.int .i64 r125.2.2)]))] ?_
 refine gv_new0 (fun b => .pointer (some ⟨b, 0, none⟩)) #[(.int .i64 0), (.int .i64 0)] 26 (by kernel_rfl) (by kernel_rfl) ?_
 intro b149 w150 hg151 hb152 hbe153 hz154
 refine pN 1 [5] [(5, (.slice a136 (length r125.1) c137))] ?_
 refine gv_store0 26 0 (.agg #[(.int .i64 r125.2.1), (.int .i64 r125.2.2)]) #[(.int .i64 r125.2.1), (.int .i64 r125.2.2)] hb152 (by kernel_rfl) (by kernel_rfl) (by kernel_rfl) ?_
 intro w155 hg156 hb157 hz158
 refine gv_nil <| gv_seq <| gv_region <| bindE h0 ?_; clear h0; intro j159 h1 h0
 refine gv_cut_ops (J := fun a w160 => Below w0.heap.size w0 w160 ∧ w155.heap.size ≤ w160.heap.size ∧ a.defers = [] ∧ a.tmps.size = 50 ∧ Ok [(0, (.bool j159))] a.tmps) ?_ ?_
 ·skip
  refine pN 1 [25] [(25, (bp b11))] ?_
  have hg161 := (grown_trans hg61 hg127)
  have hg162 := (grown_trans hg61 hg107)
  have hk163 := hk92.grown hg162 nb
  have lt164 := ltl ((ltb hk163) _ rfl) ((lowb hbe119) _ rfl)
  have hg165 := (grown_trans hg134 hg151)
  have hk166 := hb123.grown hg134 nb
  have lt167 := ltl ((ltb hk166) _ rfl) ((lowb hbe153) _ rfl)
  have lt168 := ltt lt164 lt167
  have hk169 := (((hk92.grown hg161 nb).grown hg122 (rowne (ng lt164))).grown hg165 nb).grown hg156 (rowne (ng lt168))
  refine gv_load (t := 3) (A := ⟨b11, 0, none⟩) (.int .i64 r1.2.1) [] (fun e => by cases e) rfl rfl rfl (by kernel_rfl) (by kernel_rfl) (by kernel_rfl) (inw0 (hk169.cell 0 rfl)) rfl ?_
  refine pN 2 [27, 28] [(28, (.bool (r1.2.1 == 0)))] ?_
  refine gv_split (s := 28) (g := (r1.2.1 == 0)) (by kernel_rfl) (fun hc170 => ?_) (fun hc170 => ?_)
  ·skip
   replace h1 := ite_t hc170 h1
   refine pN 1 [29] [(29, (bp b115))] ?_
   have hk171 := (hk166.grown hg151 nb).grown hg156 (rowne (ng lt167))
   refine gv_load (t := 3) (A := ⟨b115, 0, none⟩) (.int .i64 r103.2.1) [] (fun e => by cases e) rfl rfl rfl (by kernel_rfl) (by kernel_rfl) (by kernel_rfl) (inw0 (hk171.cell 0 rfl)) rfl ?_
   refine pN 3 [31, 32, 33] [(33, (.bool (r103.2.1 == 0)))] ?_
   refine gv_split (s := 33) (g := (r103.2.1 == 0)) (by kernel_rfl) (fun hc172 => ?_) (fun hc172 => ?_)
   ·skip
    replace h1 := ite_t hc172 h1
    refine pN 1 [34] [(34, (bp b149))] ?_
    refine gv_sub [3, 5, 33, 34] (σ' := [(3, (.slice a109 (length r103.1) c110)), (5, (.slice a136 (length r125.1) c137)), (33, (.bool true)), (34, (bp b149))]) (by kernel_rfl) ?_
    refine gv_load (t := 3) (A := ⟨b149, 0, none⟩) (.int .i64 r125.2.1) [] (fun e => by cases e) rfl rfl rfl (by kernel_rfl) (by kernel_rfl) (by kernel_rfl) (inw0 (hb157.cell 0 rfl)) rfl ?_
    refine pN 3 [36, 37, 38] [(38, (.bool (r125.2.1 == 0)))] ?_
    refine gv_split (s := 38) (g := (r125.2.1 == 0)) (by kernel_rfl) (fun hc173 => ?_) (fun hc173 => ?_)
    ·skip
     replace h1 := ite_t hc173 h1
     refine pN 1 [39] [(39, (.slice a109 (length r103.1) c110))] ?_
     refine gv_new0 (fun b => .slice (some ⟨b, 0, none⟩) 3 3) #[(.int .u8 1), (.int .u8 2), (.int .u8 5)] 5 (by kernel_rfl) (by kernel_rfl) ?_
     intro b174 w175 hg176 hb177 hbe178 hz179
     have ho180 : Gv.Own bE 5 w175 (fun _ => False) (some ⟨b174, 0, none⟩) 3 ([(1 : UInt8), (2 : UInt8), (5 : UInt8)] : List UInt8) := Box.ownE hb177 ⟨[(.int .u8 1)], [(.int .u8 2), (.int .u8 5)], rfl, rfl, ⟨[(.int .u8 2)], [(.int .u8 5)], rfl, rfl, ⟨[(.int .u8 5)], [], rfl, rfl, rfl⟩⟩⟩ (show 3 ≤ maxLen by decide) (fun h => h)
     have hB185 := bg hB146 hg165 nb
     have hB186 := bg hB146 hg134 nb
     have hlo187 : w0.heap.size ≤ b149 := lob hbe153 hB186.size
     have hB188 := bg hB185 hg156 (rowlo hlo187)
     have hl181 : ∀ g, blk (some ⟨b174, 0, none⟩) = some g → w0.heap.size ≤ g := loo hbe178 hB188.size
     refine bindE h1 ?_; clear h1; intro r189 hr190 h1
     have hk191 := hk132.grown hg134 (fun _ h => h.elim) nb
     have ap192 : ¬ (fun k => blk a109 = some k) b149 := fun hx => nl ((lowb hbe153) _ rfl) ((fun k (hk : blk a109 = some k) => hk191.lt k hk) _ hx)
     have hk193 := ((hk132.grown hg165 (fun _ h => h.elim) nb).grown hg156 (fun _ h => h.elim) (rdnn (rowne ap192))).grown hg176 (fun _ h => h.elim) nb
     refine gv_call0 (by kernel_rfl) rfl (by kernel_rfl) enters8 (ref4_SameBytes_ok fuel a109 c110 r103.1 (some ⟨b174, 0, none⟩) 3 ([(1 : UInt8), (2 : UInt8), (5 : UInt8)] : List UInt8) w175 (fun k => (fun k => blk a109 = some k) k ∨ (fun k => blk (some ⟨b174, 0, none⟩) = some k) k) (fun k hk => (hk).elim (fun h => (fun k (hk : blk a109 = some k) => hk193.lt k hk) k h) (fun h => (fun k (hk : blk (some ⟨b174, 0, none⟩) = some k) => ho180.lt k hk) k h)) ((hk193.rd (Y := fun k => blk a109 = some k) (fun _ h => h.elim) (fun g e => e)).wide (fun k hk => (.inl hk))) ((ho180.rd (Y := fun k => blk (some ⟨b174, 0, none⟩) = some k) (fun _ h => h.elim) (fun g e => e)).wide (fun k hk => (.inr hk))) r189 hr190) ?_
     rintro v196 w194 ⟨hg195, rfl⟩
     refine pN 2 [42, 43] [(43, (.bool r189))] ?_
     refine gv_split (s := 43) (g := r189) (by kernel_rfl) (fun hc197 => ?_) (fun hc197 => ?_)
     ·skip
      replace h1 := ite_t hc197 h1
      refine pN 1 [44] [(44, (.slice a136 (length r125.1) c137))] ?_
      refine bindE h1 ?_; clear h1; intro r198 hr199 h1
      refine gv_call0 (by kernel_rfl) rfl (by kernel_rfl) enters17 (law4_whole_ok fuel 258 w194  r198 hr199) ?_
      rintro v202 w200 ⟨hg201, a203, c204, a207, c208, rfl, ho205, hl206, ho209, hl210, ap211⟩
      have hg213 := (grown_trans hg176 hg195)
      have hB214 := bg hB188 hg213 nb
      have hl212 : ∀ g, blk a203 = some g → w0.heap.size ≤ g := fun g e => Nat.le_trans hB214.size (hl206 g e)
      have hl215 : ∀ g, blk a207 = some g → w0.heap.size ≤ g := fun g e => Nat.le_trans hB214.size (hl210 g e)
      refine bindE h1 ?_; clear h1; intro r216 hr217 h1
      refine gv_call0 (by kernel_rfl) rfl (by kernel_rfl) enters17 (law4_whole_ok fuel (-3) w200  r216 hr217) ?_
      rintro v220 w218 ⟨hg219, a221, c222, a225, c226, rfl, ho223, hl224, ho227, hl228, ap229⟩
      have hB231 := bg hB214 hg201 nb
      have hl230 : ∀ g, blk a221 = some g → w0.heap.size ≤ g := fun g e => Nat.le_trans hB231.size (hl224 g e)
      have hl232 : ∀ g, blk a225 = some g → w0.heap.size ≤ g := fun g e => Nat.le_trans hB231.size (hl228 g e)
      have hz233 := (nt (nt (nt hg176.size hg195.size) hg201.size) hg219.size)
      clear hr217 hB214 hg213 hr199 hc197 hk193 ap192 hk191 hr190 hl181 hB188 hlo187 hB186 hB185 ho180 hz179 hbe178 hb177 hc173 hc172 hk171 hc170 hk169 lt168 lt167 hk166 hg165 lt164 hk163 hg162 hg161 hz158 hb157 hz154 hb152 hB146 hlo145 hB144 hB143 hx141 hl139 hg134 hk132 ap131 hk130 ap129 hk128 hg127 hr126 hz124 hb123 hg122 hbe119 hb118 hg117 hl113 hB114 hl112 ho111 hg107 hk105 hk92 ap81 hg61 hlo39 hbe15 hl10 ho8
      refine gv_new0 (fun b => .slice (some ⟨b, 0, none⟩) 2 2) #[(.int .i64 r198.1), (.bool r198.2.1.1), (.slice a203 (length r198.2.1.2) c204), (.bool r198.2.2.1.1), (.slice a207 (length r198.2.2.1.2) c208), (.string r198.2.2.2.1), (.int .i64 r198.2.2.2.2), (.int .i64 r216.1), (.bool r216.2.1.1), (.slice a221 (length r216.2.1.2) c222), (.bool r216.2.2.1.1), (.slice a225 (length r216.2.2.1.2) c226), (.string r216.2.2.2.1), (.int .i64 r216.2.2.2.2)] 48 (by kernel_rfl) (by kernel_rfl) ?_
      intro b234 w235 hg236 hb237 hbe238 hz239
      obtain ⟨X245, e⟩ : ∃ X : Nat → Prop, X = (fun k => (fun k => blk a203 = some k) k ∨ (fun k => blk a207 = some k) k ∨ (fun k => blk a221 = some k) k ∨ (fun k => blk a225 = some k) k) := ⟨_, rfl⟩
      have hk246 := ho205.grown hg219 (fun _ h => h.elim) nb
      have hk247 := ho209.grown hg219 (fun _ h => h.elim) nb
      have hx243 : ∀ k, X245 k → k < w218.heap.size := fun k h => by rw [e] at h; exact (h).elim (fun h => (fun k (hk : blk a203 = some k) => hk246.lt k hk) k h) (fun h => (h).elim (fun h => (fun k (hk : blk a207 = some k) => hk247.lt k hk) k h) (fun h => (h).elim (fun h => (fun k (hk : blk a221 = some k) => ho223.lt k hk) k h) (fun h => (fun k (hk : blk a225 = some k) => ho227.lt k hk) k h)))
      have hz248 := hg236.size
      have hx242 : ∀ k, X245 k → k < w235.heap.size := fun k h => ltl (hx243 k h) hz248
      have hx244 : ∀ k, X245 k → X0 k ∨ w0.heap.size ≤ k := fun k h => by rw [e] at h; exact (h).elim (fun h => (fun k (hk : blk a203 = some k) => Or.inr (hl212 k hk)) k h) (fun h => (h).elim (fun h => (fun k (hk : blk a207 = some k) => Or.inr (hl215 k hk)) k h) (fun h => (h).elim (fun h => (fun k (hk : blk a221 = some k) => Or.inr (hl230 k hk)) k h) (fun h => (fun k (hk : blk a225 = some k) => Or.inr (hl232 k hk)) k h)))
      have hk249 := hk246.grown hg236 (fun _ h => h.elim) nb
      have hk250 := hk247.grown hg236 (fun _ h => h.elim) nb
      have hk251 := ho223.grown hg236 (fun _ h => h.elim) nb
      have hk252 := ho227.grown hg236 (fun _ h => h.elim) nb
      have ho240 : Gv.Own (prE (iE .i64) (prE (prE tE (slE (iE .u32))) (prE (prE tE (slE (iE .u32))) (prE sE (iE .i64))))) 48 w235 X245 (some ⟨b234, 0, none⟩) 2 ([(r198.1, (r198.2.1.1, r198.2.1.2), (r198.2.2.1.1, r198.2.2.1.2), r198.2.2.2.1, r198.2.2.2.2), (r216.1, (r216.2.1.1, r216.2.1.2), (r216.2.2.1.1, r216.2.2.1.2), r216.2.2.2.1, r216.2.2.2.2)] : List (Int × (Bool × (List Int)) × (Bool × (List Int)) × ByteArray × Int)) := Box.ownE hb237 (by rw [e]; exact ⟨[(.int .i64 r198.1), (.bool r198.2.1.1), (.slice a203 (length r198.2.1.2) c204), (.bool r198.2.2.1.1), (.slice a207 (length r198.2.2.1.2) c208), (.string r198.2.2.2.1), (.int .i64 r198.2.2.2.2)], [(.int .i64 r216.1), (.bool r216.2.1.1), (.slice a221 (length r216.2.1.2) c222), (.bool r216.2.2.1.1), (.slice a225 (length r216.2.2.1.2) c226), (.string r216.2.2.2.1), (.int .i64 r216.2.2.2.2)], rfl, ⟨[(.int .i64 r198.1)], [(.bool r198.2.1.1), (.slice a203 (length r198.2.1.2) c204), (.bool r198.2.2.1.1), (.slice a207 (length r198.2.2.1.2) c208), (.string r198.2.2.2.1), (.int .i64 r198.2.2.2.2)], rfl, rfl, ⟨[(.bool r198.2.1.1), (.slice a203 (length r198.2.1.2) c204)], [(.bool r198.2.2.1.1), (.slice a207 (length r198.2.2.1.2) c208), (.string r198.2.2.2.1), (.int .i64 r198.2.2.2.2)], rfl, ⟨[(.bool r198.2.1.1)], [(.slice a203 (length r198.2.1.2) c204)], rfl, rfl, ⟨a203, c204, rfl, ((hk249.rd (Y := fun k => blk a203 = some k) (fun _ h => h.elim) (fun g e => e)).wide (fun _ h => (.inl h)))⟩⟩, ⟨[(.bool r198.2.2.1.1), (.slice a207 (length r198.2.2.1.2) c208)], [(.string r198.2.2.2.1), (.int .i64 r198.2.2.2.2)], rfl, ⟨[(.bool r198.2.2.1.1)], [(.slice a207 (length r198.2.2.1.2) c208)], rfl, rfl, ⟨a207, c208, rfl, ((hk250.rd (Y := fun k => blk a207 = some k) (fun _ h => h.elim) (fun g e => e)).wide (fun _ h => (.inr (.inl h))))⟩⟩, ⟨[(.string r198.2.2.2.1)], [(.int .i64 r198.2.2.2.2)], rfl, rfl, rfl⟩⟩⟩⟩, ⟨[(.int .i64 r216.1), (.bool r216.2.1.1), (.slice a221 (length r216.2.1.2) c222), (.bool r216.2.2.1.1), (.slice a225 (length r216.2.2.1.2) c226), (.string r216.2.2.2.1), (.int .i64 r216.2.2.2.2)], [], rfl, ⟨[(.int .i64 r216.1)], [(.bool r216.2.1.1), (.slice a221 (length r216.2.1.2) c222), (.bool r216.2.2.1.1), (.slice a225 (length r216.2.2.1.2) c226), (.string r216.2.2.2.1), (.int .i64 r216.2.2.2.2)], rfl, rfl, ⟨[(.bool r216.2.1.1), (.slice a221 (length r216.2.1.2) c222)], [(.bool r216.2.2.1.1), (.slice a225 (length r216.2.2.1.2) c226), (.string r216.2.2.2.1), (.int .i64 r216.2.2.2.2)], rfl, ⟨[(.bool r216.2.1.1)], [(.slice a221 (length r216.2.1.2) c222)], rfl, rfl, ⟨a221, c222, rfl, ((hk251.rd (Y := fun k => blk a221 = some k) (fun _ h => h.elim) (fun g e => e)).wide (fun _ h => (.inr (.inr (.inl h)))))⟩⟩, ⟨[(.bool r216.2.2.1.1), (.slice a225 (length r216.2.2.1.2) c226)], [(.string r216.2.2.2.1), (.int .i64 r216.2.2.2.2)], rfl, ⟨[(.bool r216.2.2.1.1)], [(.slice a225 (length r216.2.2.1.2) c226)], rfl, rfl, ⟨a225, c226, rfl, ((hk252.rd (Y := fun k => blk a225 = some k) (fun _ h => h.elim) (fun g e => e)).wide (fun _ h => (.inr (.inr (.inr h)))))⟩⟩, ⟨[(.string r216.2.2.2.1)], [(.int .i64 r216.2.2.2.2)], rfl, rfl, rfl⟩⟩⟩⟩, rfl⟩⟩) (show 2 ≤ maxLen by decide) (fun h => noteq hbe238 (hx243 _ h))
      have hx253 : ∀ k, X245 k → (fun k => (fun k => blk a203 = some k) k ∨ (fun k => blk a207 = some k) k ∨ (fun k => blk a221 = some k) k ∨ (fun k => blk a225 = some k) k) k := fun k h => by rw [e] at h; exact h
      clear e
      have hB254 := bg hB231 hg219 nb
      have hl241 : ∀ g, blk (some ⟨b234, 0, none⟩) = some g → w0.heap.size ≤ g := loo hbe238 hB254.size
      have ap256 : ¬ (fun k => blk a136 = some k ∨ X140 k) b149 := fun hx => nl ((lowb hbe153) _ rfl) ((fun k (hk : blk a136 = some k ∨ X140 k) => hk.elim (fun h => ho138.lt k h) (fun h => hx147 k h)) _ hx)
      have hx257 := ltx hx147 hg151.size
      have hg258 := (grown_trans (grown_trans (grown_trans hg176 hg195) hg201) hg219)
      have hx259 := ltx hx257 hg156.size
      have hk260 := ((ho138.grown hg151 hx147 nb).grown hg156 hx257 (rdnx (rowne ap256))).grown hg258 hx259 nb
      have hx261 := ltx hx259 hg258.size
      have ap255 : ∀ g, blk (some ⟨b234, 0, none⟩) = some g → ¬ (fun k => blk a136 = some k ∨ X140 k) g := fun g e hx => nl (lowo hbe238 g e) ((fun k (hk : blk a136 = some k ∨ X140 k) => hk.elim (fun h => hk260.lt k h) (fun h => hx261 k h)) _ hx)
      have hg263 := (grown_trans hg176 hg195)
      have hk264 := ((ho138.grown hg151 hx147 nb).grown hg156 hx257 (rdnx (rowne ap256))).grown hg263 hx259 nb
      have hx265 := ltx hx259 hg263.size
      have ap266 : ∀ g, blk a136 = some g → ¬ (fun k => blk a203 = some k) g := fun g e hx => nl ((show ∀ k, blk a203 = some k → w194.heap.size ≤ k from hl206) _ hx) ((fun k (hk : blk a136 = some k ∨ X140 k) => hk.elim (fun h => hk264.lt k h) (fun h => hx265 k h)) g (.inl e))
      have ap267 : ∀ g, blk a136 = some g → ¬ (fun k => blk a207 = some k) g := fun g e hx => nl ((show ∀ k, blk a207 = some k → w194.heap.size ≤ k from hl210) _ hx) ((fun k (hk : blk a136 = some k ∨ X140 k) => hk.elim (fun h => hk264.lt k h) (fun h => hx265 k h)) g (.inl e))
      have hk268 := hk264.grown hg201 hx265 nb
      have hx269 := ltx hx265 hg201.size
      have ap270 : ∀ g, blk a136 = some g → ¬ (fun k => blk a221 = some k) g := fun g e hx => nl ((show ∀ k, blk a221 = some k → w200.heap.size ≤ k from hl224) _ hx) ((fun k (hk : blk a136 = some k ∨ X140 k) => hk.elim (fun h => hk268.lt k h) (fun h => hx269 k h)) g (.inl e))
      have ap271 : ∀ g, blk a136 = some g → ¬ (fun k => blk a225 = some k) g := fun g e hx => nl ((show ∀ k, blk a225 = some k → w200.heap.size ≤ k from hl228) _ hx) ((fun k (hk : blk a136 = some k ∨ X140 k) => hk.elim (fun h => hk268.lt k h) (fun h => hx269 k h)) g (.inl e))
      have ap262 : ∀ g, blk a136 = some g → ¬ (fun k => blk (some ⟨b234, 0, none⟩) = some k ∨ X245 k) g := fun g e h => h.elim (fun h => nl (lowo hbe238 _ h) ((fun k (hk : blk a136 = some k ∨ X140 k) => hk.elim (fun h => hk260.lt k h) (fun h => hx261 k h)) g (.inl e))) (fun h => ((hx253 _ h)).elim (fun h => (ap266) g e h) (fun h => (h).elim (fun h => (ap267) g e h) (fun h => (h).elim (fun h => (ap270) g e h) (fun h => (ap271) g e h))))
      have ap272 : ∀ g, blk (some ⟨b234, 0, none⟩) = some g → ¬ (fun k => blk a203 = some k) g := fun g e hx => nl (lowo hbe238 g e) ((fun k (hk : blk a203 = some k) => hk246.lt k hk) _ hx)
      have ap273 : ∀ g, blk (some ⟨b234, 0, none⟩) = some g → ¬ (fun k => blk a207 = some k) g := fun g e hx => nl (lowo hbe238 g e) ((fun k (hk : blk a207 = some k) => hk247.lt k hk) _ hx)
      have ap274 : ∀ g, blk (some ⟨b234, 0, none⟩) = some g → ¬ (fun k => blk a221 = some k) g := fun g e hx => nl (lowo hbe238 g e) ((fun k (hk : blk a221 = some k) => ho223.lt k hk) _ hx)
      have ap275 : ∀ g, blk (some ⟨b234, 0, none⟩) = some g → ¬ (fun k => blk a225 = some k) g := fun g e hx => nl (lowo hbe238 g e) ((fun k (hk : blk a225 = some k) => ho227.lt k hk) _ hx)
      refine bindE h1 ?_; clear h1; intro r276 hr277 h1
      have hk278 := hk260.grown hg236 hx261 nb
      have hx279 := ltx hx261 hg236.size
      refine gv_call0 (by kernel_rfl) rfl (by kernel_rfl) enters24 (ref3_SameValues_ok fuel a136 c137 r125.1 (some ⟨b234, 0, none⟩) 2 ([(r198.1, (r198.2.1.1, r198.2.1.2), (r198.2.2.1.1, r198.2.2.1.2), r198.2.2.2.1, r198.2.2.2.2), (r216.1, (r216.2.1.1, r216.2.1.2), (r216.2.2.1.1, r216.2.2.1.2), r216.2.2.2.1, r216.2.2.2.2)] : List (Int × (Bool × (List Int)) × (Bool × (List Int)) × ByteArray × Int)) w235 (fun k => (fun k => blk a136 = some k ∨ X140 k) k ∨ (fun k => blk (some ⟨b234, 0, none⟩) = some k ∨ X245 k) k) (fun k hk => (hk).elim (fun h => (fun k (hk : blk a136 = some k ∨ X140 k) => hk.elim (fun h => hk278.lt k h) (fun h => hx279 k h)) k h) (fun h => (fun k (hk : blk (some ⟨b234, 0, none⟩) = some k ∨ X245 k) => hk.elim (fun h => ho240.lt k h) (fun h => hx242 k h)) k h)) ((hk278.rd (Y := fun k => blk a136 = some k ∨ X140 k) (fun _ h => .inr h) (fun g e => .inl e)).wide (fun k hk => (.inl hk))) ((ho240.rd (Y := fun k => blk (some ⟨b234, 0, none⟩) = some k ∨ X245 k) (fun _ h => .inr h) (fun g e => .inl e)).wide (fun k hk => (.inr hk))) r276 hr277) ?_
      rintro v282 w280 ⟨hg281, rfl⟩
      refine pN 2 [0, 49] [(0, (.bool r276))] ?_
      refine gv_nil ?_
      have e := sj h1; subst e
      refine gv_goal fun a hd hs hok => ?_
      have hg283 := (grown_trans hg236 hg281)
      have hB284 := bg hB254 hg283 nb
      have hz285 := (nt (nt hz233 hg236.size) hg281.size)
      exact ⟨hB284, hz285, hd, hs, okp [0] hok⟩
     ·skip
      replace h1 := ite_f hc197 h1
      refine pN 7 [0, 44, 45, 46, 47, 48, 49] [(0, (.bool false))] ?_
      refine gv_nil ?_
      have e := sj h1; subst e
      refine gv_goal fun a hd hs hok => ?_
      have hg286 := (grown_trans hg176 hg195)
      have hB287 := bg hB188 hg286 nb
      have hz288 := (nt hg176.size hg195.size)
      exact ⟨hB287, hz288, hd, hs, okp [0] hok⟩
    ·skip
     replace h1 := ite_f hc173 h1
     refine pN 12 [0, 39, 40, 41, 42, 43, 44, 45, 46, 47, 48, 49] [(0, (.bool false))] ?_
     refine gv_nil ?_
     have e := sj h1; subst e
     refine gv_goal fun a hd hs hok => ?_
     have hB289 := bg hB146 hg165 nb
     have hB290 := bg hB146 hg134 nb
     have hlo291 : w0.heap.size ≤ b149 := lob hbe153 hB290.size
     have hB292 := bg hB289 hg156 (rowlo hlo291)
     exact ⟨hB292, nrf, hd, hs, okp [0] hok⟩
   ·skip
    replace h1 := ite_f hc172 h1
    refine pN 17 [0, 34, 35, 36, 37, 38, 39, 40, 41, 42, 43, 44, 45, 46, 47, 48, 49] [(0, (.bool false))] ?_
    refine gv_sub [0] (σ' := [(0, (.bool false))]) (by kernel_rfl) ?_
    refine gv_nil ?_
    have e := sj h1; subst e
    refine gv_goal fun a hd hs hok => ?_
    have hB293 := bg hB146 hg165 nb
    have hB294 := bg hB146 hg134 nb
    have hlo295 : w0.heap.size ≤ b149 := lob hbe153 hB294.size
    have hB296 := bg hB293 hg156 (rowlo hlo295)
    exact ⟨hB296, nrf, hd, hs, okp [0] hok⟩
  ·skip
   replace h1 := ite_f hc170 h1
   refine pN 22 [0, 29, 30, 31, 32, 33, 34, 35, 36, 37, 38, 39, 40, 41, 42, 43, 44, 45, 46, 47, 48, 49] [(0, (.bool false))] ?_
   refine gv_nil ?_
   have e := sj h1; subst e
   refine gv_goal fun a hd hs hok => ?_
   have hB297 := bg hB146 hg165 nb
   have hB298 := bg hB146 hg134 nb
   have hlo299 : w0.heap.size ≤ b149 := lob hbe153 hB298.size
   have hB300 := bg hB297 hg156 (rowlo hlo299)
   exact ⟨hB300, nrf, hd, hs, okp [0] hok⟩
 ·rintro a w160 ⟨hB301, hz302, hd, hs, hok⟩
  refine gv_in ?_ hd hs hok
  clear hd hs hok
  clear hz302 hz158 hb157 hg156 hz154 hbe153 hb152 hg151 hx148 hx147 hl142 hB146 hlo145 hB144 hB143 hx141 hl139 ho138 hg134 hk132 ap131 hk130 ap129 hk128 hg127 hr126 hz124 hb123 hg122 hbe119 hb118 hg117 hl113 hB114 hl112 ho111 hg107 hk105 hk92 ap81 hg61 hlo39 hbe15 hl10 ho8
  refine gv_cret ?_
  have e := sj h0; subst e
  refine gv_ret (gv_done [(.bool j159)] rfl ⟨(by kernel_rfl), trivial⟩ ?_)
  exact ⟨grown_of_below hB301, rfl⟩

theorem law4_oneOf_ok (fuel : Nat) (code_0 : Int) (w0 : World)  (r0 : Bool) (h0 : law4_oneOf fuel code_0 = some r0) :
    Calls Tryd.prog 9 ([(.int .u8 code_0)] : List Value).toArray w0 (Ret fun v w' => w0.grownBy w' none ∧ v = tup [(.bool r0)]) := by
 have hB0 : Below w0.heap.size w0 w0 := Below.refl _ _
 unfold law4_oneOf at h0
 refine calls_run Tryd.func9 rfl Tryd.ntmps9 (by kernel_rfl) ?_
 refine gv_sub [0] (σ' := [(0, (.int .u8 code_0))]) (by kernel_rfl) ?_
 refine gv_seq <| gv_region <| pN 1 [2] [] ?_
 refine gv_nil <| gv_seq <| gv_seq <| gv_region <| pN 1 [3] [(3, (.int .i64 0))] ?_
 refine gv_nil <| bindE h0 ?_; clear h0; intro j1 h1 h0
 refine gv_cut_code (J := fun a w3 => ∃ s2 : Unit, j1 = .inl s2 ∧ Below w0.heap.size w0 w3 ∧ w0.heap.size ≤ w3.heap.size ∧ a.defers = [] ∧ a.tmps.size = 12 ∧ Ok [] a.tmps) ?_ ?_
 ·skip
  refine gv_block <| gv_loop (A := fun (s4 : Int) a w5 => Below w0.heap.size w0 w5 ∧ w0.heap.size ≤ w5.heap.size ∧ a.defers = [] ∧ a.tmps.size = 12 ∧ Ok [(0, (.int .u8 code_0)), (3, (.int .i64 s4))] a.tmps) h1 ?_ ?_
  ·intro a hd hs hok
   exact ⟨hB0, nrf, hd, hs, okp [0, 3] hok⟩
  ·rintro s4 r2 h2 hR2 a w5 ⟨hB6, hz7, hd, hs, hok⟩
   refine gv_in ?_ hd hs hok
   clear hd hs hok
   refine gv_seq <| gv_seq <| gv_region <| pN 2 [4, 5] [(5, (.bool (decide (s4 < 8))))] ?_
   refine gv_nil <| gv_cond (b := (decide (s4 < 8))) (by kernel_rfl) (fun hc8 => ?_) (fun hc8 => ?_)
   ·replace h2 := ite_t hc8 h2
    refine gv_skip <| gv_seq <| gv_block <| gv_seq <| gv_region <| pN 1 [8] [(8, (.int .i64 s4))] ?_
    refine bindE h2 ?_; clear h2; intro x9 hx10 h2
    refine gv_sindex (t := 9) (s := (strOf [98, 66, 104, 72, 105, 73, 113, 81])) (kk := .i64) (i := s4) x9 [] (fun e => by cases e) rfl rfl rfl (by kernel_rfl) (by kernel_rfl) Tryd.underlying9 hx10 rfl ?_
    refine pN 2 [10, 11] [(11, (.bool (x9 == code_0)))] ?_
    refine gv_nil <| gv_cond (b := (x9 == code_0)) (by kernel_rfl) (fun hc11 => ?_) (fun hc11 => ?_)
    ·replace h2 := ite_t hc11 h2
     refine gv_seq <| gv_region <| pN 1 [2] [(2, (.bool true))] ?_
     refine gv_nil <| gv_cret ?_
     have e := sj h2; subst e
     replace h1 := congrArg some (hR2 _ rfl)
     have e := sj h1; subst e
     replace h0 := cont_inr h0
     have e := sj h0; subst e
     refine gv_ret (gv_done [(.bool true)] rfl ⟨(by kernel_rfl), trivial⟩ ?_)
     exact ⟨grown_of_below hB6, rfl⟩
    ·replace h2 := ite_f hc11 h2
     refine gv_skip <| gv_blk <| gv_region <| pN 3 [3, 6, 7] [(3, (.int .i64 (IntKind.i64.wrap (s4 + 1))))] ?_
     refine gv_nil ?_
     have e := sj h2; subst e
     refine gv_goal fun a hd hs hok => ?_
     have hz12 := hz7
     exact ⟨(IntKind.i64.wrap (s4 + 1)), rfl, hB6, hz12, hd, hs, okp [0, 3] hok⟩
   ·replace h2 := ite_f hc8 h2
    refine gv_cexit <| gv_exit rfl ?_
    have e := sj h2; subst e
    replace h1 := congrArg some (hR2 _ rfl)
    have e := sj h1; subst e
    refine gv_goal fun a hd hs hok => ?_
    have hz13 := hz7
    exact ⟨(), rfl, hB6, hz13, hd, hs, okp [] hok⟩
 ·rintro a w3 ⟨s2, e, hB14, hz15, hd, hs, hok⟩
  subst e
  refine gv_in ?_ hd hs hok
  clear hd hs hok
  replace h0 := cont_inl h0
  refine gv_seq <| gv_region <| pN 1 [2] [(2, (.bool false))] ?_
  refine gv_nil <| gv_cret ?_
  have e := sj h0; subst e
  refine gv_ret (gv_done [(.bool false)] rfl ⟨(by kernel_rfl), trivial⟩ ?_)
  exact ⟨grown_of_below hB14, rfl⟩

end Go.Proofs.YtdpmkphjcjacfaaDoor
