import Derived.Test.YtdpmkphjcjacfaaGreatDoorP2
set_option linter.all false
set_option maxHeartbeats 4000000
set_option maxRecDepth 100000
/- Own work, printed by a program of mine: the walk of each function: a call returns what the plain function says. -/
namespace Go.Proofs.YtdpmkphjcjacfaaGreatDoor
open Go.Gv Go.Gv.D Go.RowKit
open List (length)
theorem law4_PackingPacks_ok (fuel : Nat) (pa0_0 : Option Addr) (pc0_0 : Nat) (l_0 : (List (Int × Int × Bool))) (pa1_0 : Option Addr) (pc1_0 : Nat) (vs_1 : (List (Int × (Bool × (List Int)) × (Bool × (List Int)) × ByteArray × Int))) (w0 : World) (X0 : Nat → Prop) (hX0 : ∀ k, X0 k → k < w0.heap.size) (hpa0_0 : Rd (prE (iE .u8) (prE (iE .i64) tE)) w0 X0 pa0_0 pc0_0 l_0) (hpa1_0 : Rd (prE (iE .i64) (prE (prE tE (slE (iE .u32))) (prE (prE tE (slE (iE .u32))) (prE sE (iE .i64))))) w0 X0 pa1_0 pc1_0 vs_1) {erx : TypeId × Value} (hG4 : Rd eE w0 X0 (some ⟨4, 0, none⟩) 1 [erx]) (r0 : Bool) (h0 : law4_PackingPacks fuel l_0 vs_1 = some r0) :
    Calls Tryz.prog 4 ([(.slice pa0_0 (length l_0) pc0_0), (.slice pa1_0 (length vs_1) pc1_0)] : List Value).toArray w0 (Ret fun v w' => w0.grownBy w' none ∧ v = tup [(.bool r0)]) := by
 have hB0 : Below w0.heap.size w0 w0 := Below.refl _ _
 unfold law4_PackingPacks at h0
 refine calls_run Tryz.func4 rfl Tryz.ntmps4 kr ?_
 refine gv_sub [0, 1] (σ' := [(0, (.slice pa0_0 (length l_0) pc0_0)), (1, (.slice pa1_0 (length vs_1) pc1_0))]) kr ?_
 refine gv_seq <| gv_region <| pN 1 [4] [] ?_
 refine gv_nil <| gv_seq <| gv_region <| pN 2 [16, 17] [(16, (.slice pa0_0 (length l_0) pc0_0)), (17, (.slice pa1_0 (length vs_1) pc1_0))] ?_
 refine bindE h0 ?_; clear h0; intro r1 hr2 h0
 refine gv_call0 kr rfl kr enters9 (packing_Pack_ok fuel pa0_0 pc0_0 l_0 pa1_0 pc1_0 vs_1 w0 (fun k => X0 k ∨ X0 k) (fun k hk => (hk).elim (fun h => (fun k (hk : X0 k) => ltl (hX0 k hk) hB0.size) k h) (fun h => (fun k (hk : X0 k) => ltl (hX0 k hk) hB0.size) k h)) ((hpa0_0.below hB0 hX0).wide (fun k hk => (.inl hk))) ((hpa1_0.below hB0 hX0).wide (fun k hk => (.inr hk))) r1 hr2) ?_
 rintro v5 w3 ⟨hg4, a6, c7, rfl, ho8, hl9⟩
 have hl10 : ∀ g, blk a6 = some g → w0.heap.size ≤ g := fun g e => Nat.le_trans hB0.size (hl9 g e)
 refine pN 3 [15, 19, 20] [(19, (.slice a6 (length r1.1) c7)), (20, (.agg #[(.int .i64 r1.2.1), (.int .i64 r1.2.2)]))] ?_
 refine gv_new0 (fun b => .pointer (some ⟨b, 0, none⟩)) #[(.int .i64 0), (.int .i64 0)] 26 kr kr ?_
 intro b11 w12 hg13 hb14 hbe15 hz16
 refine pN 1 [5] [(5, (.slice a6 (length r1.1) c7))] ?_
 refine gv_store0 26 0 (.agg #[(.int .i64 r1.2.1), (.int .i64 r1.2.2)]) #[(.int .i64 r1.2.1), (.int .i64 r1.2.2)] hb14 kr kr kr ?_
 intro w17 hg18 hb19 hz20
 refine gv_nil <| gv_seq <| gv_region <| pN 2 [22, 23] [(22, (.slice pa0_0 (length l_0) pc0_0)), (23, (.slice pa1_0 (length vs_1) pc1_0))] ?_
 refine bindE h0 ?_; clear h0; intro r21 hr22 h0
 have hg23 := (grown_trans hg4 hg13)
 have hB24 := bg hB0 hg23 nb
 have hB25 := bg hB0 hg4 nb
 have hlo26 : w0.heap.size ≤ b11 := lob hbe15 hB25.size
 have hB27 := bg hB24 hg18 (rowlo hlo26)
 refine gv_call0 kr rfl kr enters11 (ref4_Packed_ok fuel pa0_0 pc0_0 l_0 pa1_0 pc1_0 vs_1 w17 (fun k => X0 k ∨ X0 k) (fun k hk => (hk).elim (fun h => (fun k (hk : X0 k) => ltl (hX0 k hk) hB27.size) k h) (fun h => (fun k (hk : X0 k) => ltl (hX0 k hk) hB27.size) k h)) ((hpa0_0.below hB27 hX0).wide (fun k hk => (.inl hk))) ((hpa1_0.below hB27 hX0).wide (fun k hk => (.inr hk))) r21 hr22) ?_
 rintro v30 w28 ⟨hg29, a31, c32, rfl, ho33, hl34⟩
 have hl35 : ∀ g, blk a31 = some g → w0.heap.size ≤ g := fun g e => Nat.le_trans hB27.size (hl34 g e)
 refine pN 3 [21, 25, 26] [(25, (.slice a31 (length r21.1) c32)), (26, (.agg #[(.int .i64 r21.2.1), (.int .i64 r21.2.2)]))] ?_
 refine gv_new0 (fun b => .pointer (some ⟨b, 0, none⟩)) #[(.int .i64 0), (.int .i64 0)] 26 kr kr ?_
 intro b36 w37 hg38 hb39 hbe40 hz41
 refine pN 1 [7] [(7, (.slice a31 (length r21.1) c32))] ?_
 refine gv_store0 26 0 (.agg #[(.int .i64 r21.2.1), (.int .i64 r21.2.2)]) #[(.int .i64 r21.2.1), (.int .i64 r21.2.2)] hb39 kr kr kr ?_
 intro w42 hg43 hb44 hz45
 refine gv_nil <| gv_seq <| gv_seq <| gv_region <| bindE h0 ?_; clear h0; intro j46 h1 h0
 refine gv_cut_ops (J := fun a w47 => Below w0.heap.size w0 w47 ∧ w42.heap.size ≤ w47.heap.size ∧ Box w47 b36 26 #[(.int .i64 r21.2.1), (.int .i64 r21.2.2)] ∧ Gv.Own bE 5 w47 (fun _ => False) a6 c7 r1.1 ∧ a.defers = [] ∧ a.tmps.size = 166 ∧ Ok [(0, (.slice pa0_0 (length l_0) pc0_0)), (1, (.slice pa1_0 (length vs_1) pc1_0)), (5, (.slice a6 (length r1.1) c7)), (8, (bp b36)), (39, (.bool j46))] a.tmps) ?_ ?_
 ·skip
  refine bindE h1 ?_; clear h1; intro r48 hr49 h1
  have hg50 := (grown_trans hg29 hg38)
  have hB51 := bg hB27 hg50 nb
  have hB52 := bg hB27 hg29 nb
  have hlo53 : w0.heap.size ≤ b36 := lob hbe40 hB52.size
  have hB54 := bg hB51 hg43 (rowlo hlo53)
  refine gv_call0 kr rfl kr enters7 (law4_packs_ok fuel  w42 (fun k => X0 k) (fun k hk => (fun k (hk : X0 k) => ltl (hX0 k hk) hB54.size) k hk) ((hG4.below hB54 hX0).wide (fun k hk => hk)) r48 hr49) ?_
  rintro v57 w55 ⟨hg56, rfl⟩
  refine pN 2 [28, 29] [(29, (.bool (!r48)))] ?_
  refine gv_sub [0, 1, 5, 6, 7, 8, 29] (σ' := [(0, (.slice pa0_0 (length l_0) pc0_0)), (1, (.slice pa1_0 (length vs_1) pc1_0)), (5, (.slice a6 (length r1.1) c7)), (6, (bp b11)), (7, (.slice a31 (length r21.1) c32)), (8, (bp b36)), (29, (.bool (!r48)))]) kr ?_
  refine gv_split (s := 29) (g := (!r48)) kr (fun hc58 => ?_) (fun hc58 => ?_)
  ·skip
   replace h1 := ite_t hc58 h1
   refine pN 10 [30, 31, 32, 33, 34, 35, 36, 37, 38, 39] [(39, (.bool true))] ?_
   refine gv_nil ?_
   have e := sj h1; subst e
   refine gv_goal fun a hd hs hok => ?_
   have hB59 := bg hB54 hg56 nb
   have hz60 := hg56.size
   have hk61 := hb44.grown hg56 nb
   have ap62 : ¬ (fun k => blk a6 = some k) b11 := fun hx => nl ((lowb hbe15) _ rfl) ((fun k (hk : blk a6 = some k) => ho8.lt k hk) _ hx)
   have hk63 := ((ho8.grown hg13 (fun _ h => h.elim) nb).grown hg18 (fun _ h => h.elim) (rdnn (rowne ap62))).grown hg29 (fun _ h => h.elim) nb
   have ap64 : ¬ (fun k => blk a6 = some k) b36 := fun hx => nl ((lowb hbe40) _ rfl) ((fun k (hk : blk a6 = some k) => hk63.lt k hk) _ hx)
   have hk65 := ((((ho8.grown hg13 (fun _ h => h.elim) nb).grown hg18 (fun _ h => h.elim) (rdnn (rowne ap62))).grown hg50 (fun _ h => h.elim) nb).grown hg43 (fun _ h => h.elim) (rdnn (rowne ap64))).grown hg56 (fun _ h => h.elim) nb
   exact ⟨hB59, hz60, hk61, hk65, hd, hs, okp [0, 1, 5, 8, 39] hok⟩
  ·skip
   replace h1 := ite_f hc58 h1
   have hk66 := hb19.grown hg29 nb
   have lt67 := ltl ((ltb hk66) _ rfl) ((lowb hbe40) _ rfl)
   have hk68 := ((hb19.grown hg50 nb).grown hg43 (rowne (ng lt67))).grown hg56 nb
   refine gv_loadBox (t := 26) (b := b11) (t' := 26) (fr := (0, 0)) #[(.int .i64 r1.2.1), (.int .i64 r1.2.2)] [] (fun e => by cases e) rfl rfl rfl kr kr kr kr (inw0 hk68) rfl ?_
   have hk69 := hb44.grown hg56 nb
   refine gv_loadBox (t := 26) (b := b36) (t' := 26) (fr := (0, 0)) #[(.int .i64 r21.2.1), (.int .i64 r21.2.2)] [] (fun e => by cases e) rfl rfl rfl kr kr kr kr (inw0 hk69) rfl ?_
   refine gv_eqs (t := 26) (op := .neq) (x := (.tmp 30)) (y := (.tmp 31)) (xs := #[(.int .i64 r1.2.1), (.int .i64 r1.2.2)]) (ys := #[(.int .i64 r21.2.1), (.int .i64 r21.2.2)]) (!((r1.2.1 == r21.2.1) && (r1.2.2 == r21.2.2))) [] (fun e => by cases e) rfl rfl rfl kr kr (fun w' => eqs26neq r1.2.1 r1.2.2 r21.2.1 r21.2.2 _ _ w') rfl ?_
   refine pN 2 [33, 34] [(34, (.bool (!((r1.2.1 == r21.2.1) && (r1.2.2 == r21.2.2)))))] ?_
   refine gv_split (s := 34) (g := (!((r1.2.1 == r21.2.1) && (r1.2.2 == r21.2.2)))) kr (fun hc70 => ?_) (fun hc70 => ?_)
   ·skip
    replace h1 := ite_t hc70 h1
    refine pN 5 [35, 36, 37, 38, 39] [(39, (.bool true))] ?_
    refine gv_nil ?_
    have e := sj h1; subst e
    refine gv_goal fun a hd hs hok => ?_
    have hB71 := bg hB54 hg56 nb
    have hz72 := hg56.size
    have ap73 : ¬ (fun k => blk a6 = some k) b11 := fun hx => nl ((lowb hbe15) _ rfl) ((fun k (hk : blk a6 = some k) => ho8.lt k hk) _ hx)
    have hk74 := ((ho8.grown hg13 (fun _ h => h.elim) nb).grown hg18 (fun _ h => h.elim) (rdnn (rowne ap73))).grown hg29 (fun _ h => h.elim) nb
    have ap75 : ¬ (fun k => blk a6 = some k) b36 := fun hx => nl ((lowb hbe40) _ rfl) ((fun k (hk : blk a6 = some k) => hk74.lt k hk) _ hx)
    have hk76 := ((((ho8.grown hg13 (fun _ h => h.elim) nb).grown hg18 (fun _ h => h.elim) (rdnn (rowne ap73))).grown hg50 (fun _ h => h.elim) nb).grown hg43 (fun _ h => h.elim) (rdnn (rowne ap75))).grown hg56 (fun _ h => h.elim) nb
    exact ⟨hB71, hz72, hk69, hk76, hd, hs, okp [0, 1, 5, 8, 39] hok⟩
   ·skip
    replace h1 := ite_f hc70 h1
    refine pN 2 [35, 36] [(35, (.slice a6 (length r1.1) c7)), (36, (.slice a31 (length r21.1) c32))] ?_
    refine bindE h1 ?_; clear h1; intro r77 hr78 h1
    have ap79 : ¬ (fun k => blk a6 = some k) b11 := fun hx => nl ((lowb hbe15) _ rfl) ((fun k (hk : blk a6 = some k) => ho8.lt k hk) _ hx)
    have hk80 := ((ho8.grown hg13 (fun _ h => h.elim) nb).grown hg18 (fun _ h => h.elim) (rdnn (rowne ap79))).grown hg29 (fun _ h => h.elim) nb
    have ap81 : ¬ (fun k => blk a6 = some k) b36 := fun hx => nl ((lowb hbe40) _ rfl) ((fun k (hk : blk a6 = some k) => hk80.lt k hk) _ hx)
    have hk82 := ((((ho8.grown hg13 (fun _ h => h.elim) nb).grown hg18 (fun _ h => h.elim) (rdnn (rowne ap79))).grown hg50 (fun _ h => h.elim) nb).grown hg43 (fun _ h => h.elim) (rdnn (rowne ap81))).grown hg56 (fun _ h => h.elim) nb
    have ap83 : ¬ (fun k => blk a31 = some k) b36 := fun hx => nl ((lowb hbe40) _ rfl) ((fun k (hk : blk a31 = some k) => ho33.lt k hk) _ hx)
    have hk84 := ((ho33.grown hg38 (fun _ h => h.elim) nb).grown hg43 (fun _ h => h.elim) (rdnn (rowne ap83))).grown hg56 (fun _ h => h.elim) nb
    refine gv_call0 kr rfl kr enters10 (ref4_SameBytes_ok fuel a6 c7 r1.1 a31 c32 r21.1 w55 (fun k => (fun k => blk a6 = some k) k ∨ (fun k => blk a31 = some k) k) (fun k hk => (hk).elim (fun h => (fun k (hk : blk a6 = some k) => hk82.lt k hk) k h) (fun h => (fun k (hk : blk a31 = some k) => hk84.lt k hk) k h)) ((hk82.rd (Y := fun k => blk a6 = some k) (fun _ h => h.elim) (fun g e => e)).wide (fun k hk => (.inl hk))) ((hk84.rd (Y := fun k => blk a31 = some k) (fun _ h => h.elim) (fun g e => e)).wide (fun k hk => (.inr hk))) r77 hr78) ?_
    rintro v87 w85 ⟨hg86, rfl⟩
    have hz88 := (nt hg56.size hg86.size)
    clear hk84 ap83 ap79 hr78 hc70 hk68 lt67 hk66 hc58 hB52 hB51 hg50 hr49 hz45 hb44 hg43 hz41 hb39 hg38 hl35 hl34 ho33 hg29 hB27 hlo26 hB25 hB24 hg23 hr22 hz20 hb19 hg18 hz16 hbe15 hb14 hg13 hl9 ho8 hg4 hr2
    refine pN 2 [38, 39] [(39, (.bool (!r77)))] ?_
    refine gv_nil ?_
    have e := sj h1; subst e
    refine gv_goal fun a hd hs hok => ?_
    have hg89 := (grown_trans hg56 hg86)
    have hB90 := bg hB54 hg89 nb
    have hz91 := hz88
    have hk92 := hk69.grown hg86 nb
    have hk93 := hk82.grown hg86 (fun _ h => h.elim) nb
    exact ⟨hB90, hz91, hk92, hk93, hd, hs, okp [0, 1, 5, 8, 39] hok⟩
 ·rintro a w47 ⟨hB94, hz95, hb96, hk97, hd, hs, hok⟩
  refine gv_in ?_ hd hs hok
  clear hd hs hok
  clear hz95 hz45 hb44 hg43 hz41 hb39 hg38 hl35 hl34 ho33 hlo26 hB25 hB24 hg23 hr22 hz20 hb19 hz16 hb14 hl9 hg4 hr2
  refine gv_cond (b := j46) kr (fun hc98 => ?_) (fun hc98 => ?_)
  ·replace h0 := ite_t hc98 h0
   refine gv_seq <| gv_region <| pN 1 [4] [(4, (.bool false))] ?_
   refine gv_nil <| gv_cret ?_
   have e := sj h0; subst e
   refine gv_ret (gv_done [(.bool false)] rfl ⟨kr, trivial⟩ ?_)
   exact ⟨grown_of_below hB94, rfl⟩
  ·replace h0 := ite_f hc98 h0
   refine gv_skip <| gv_seq <| gv_seq <| gv_region <| pN 1 [40] [(40, (bp b36))] ?_
   refine gv_load (t := 3) (A := ⟨b36, 0, none⟩) (.int .i64 r21.2.1) [] (fun e => by cases e) rfl rfl rfl kr kr kr (inw0 (hb96.cell 0 rfl)) rfl ?_
   refine pN 1 [42] [(42, (.bool (r21.2.1 != 0)))] ?_
   refine gv_nil <| gv_cond (b := (r21.2.1 != 0)) kr (fun hc99 => ?_) (fun hc99 => ?_)
   ·replace h0 := ite_t hc99 h0
    refine gv_seq <| gv_region <| pN 4 [4, 43, 44, 45] [(4, (.bool (((length r1.1 : Nat) : Int) == 0)))] ?_
    refine gv_nil <| gv_cret ?_
    have e := sj h0; subst e
    refine gv_ret (gv_done [(.bool (((length r1.1 : Nat) : Int) == 0))] rfl ⟨kr, trivial⟩ ?_)
    exact ⟨grown_of_below hB94, rfl⟩
   ·replace h0 := ite_f hc99 h0
    refine gv_skip <| gv_seq <| gv_region <| pN 1 [47] [(47, (.slice pa0_0 (length l_0) pc0_0))] ?_
    refine bindE h0 ?_; clear h0; intro r100 hr101 h0
    refine gv_call0 kr rfl kr enters12 (packing_Sizes_ok fuel pa0_0 pc0_0 l_0 w47 (fun k => X0 k) (fun k hk => (fun k (hk : X0 k) => ltl (hX0 k hk) hB94.size) k hk) ((hpa0_0.below hB94 hX0).wide (fun k hk => hk)) r100 hr101) ?_
    rintro v104 w102 ⟨hg103, rfl⟩
    refine pN 4 [46, 49, 50, 51] [(49, (.int .i64 r100.1)), (50, (.int .i64 r100.2.1)), (51, (.agg #[(.int .i64 r100.2.2.1), (.int .i64 r100.2.2.2)]))] ?_
    refine gv_new0 (fun b => .pointer (some ⟨b, 0, none⟩)) #[(.int .i64 0), (.int .i64 0)] 26 kr kr ?_
    intro b105 w106 hg107 hb108 hbe109 hz110
    refine pN 2 [9, 10] [(9, (.int .i64 r100.1)), (10, (.int .i64 r100.2.1))] ?_
    refine gv_store0 26 0 (.agg #[(.int .i64 r100.2.2.1), (.int .i64 r100.2.2.2)]) #[(.int .i64 r100.2.2.1), (.int .i64 r100.2.2.2)] hb108 kr kr kr ?_
    intro w111 hg112 hb113 hz114
    refine gv_nil <| gv_seq <| gv_region <| pN 2 [53, 54] [(53, (.slice pa0_0 (length l_0) pc0_0)), (54, (.slice a6 (length r1.1) c7))] ?_
    refine bindE h0 ?_; clear h0; intro r115 hr116 h0
    have hg117 := (grown_trans hg103 hg107)
    have hB118 := bg hB94 hg117 nb
    have hB119 := bg hB94 hg103 nb
    have hlo120 : w0.heap.size ≤ b105 := lob hbe109 hB119.size
    have hB121 := bg hB118 hg112 (rowlo hlo120)
    have hk122 := hk97.grown hg103 (fun _ h => h.elim) nb
    have ap123 : ¬ (fun k => blk a6 = some k) b105 := fun hx => nl ((lowb hbe109) _ rfl) ((fun k (hk : blk a6 = some k) => hk122.lt k hk) _ hx)
    have hk124 := (hk97.grown hg117 (fun _ h => h.elim) nb).grown hg112 (fun _ h => h.elim) (rdnn (rowne ap123))
    refine gv_call0 kr rfl kr enters5 (packing_Unpack_ok fuel pa0_0 pc0_0 l_0 a6 c7 r1.1 w111 (fun k => X0 k ∨ (fun k => blk a6 = some k) k) (fun k hk => (hk).elim (fun h => (fun k (hk : X0 k) => ltl (hX0 k hk) hB121.size) k h) (fun h => (fun k (hk : blk a6 = some k) => hk124.lt k hk) k h)) ((hpa0_0.below hB121 hX0).wide (fun k hk => (.inl hk))) ((hk124.rd (Y := fun k => blk a6 = some k) (fun _ h => h.elim) (fun g e => e)).wide (fun k hk => (.inr hk))) r115 hr116) ?_
    rintro v127 w125 ⟨hg126, a128, c129, X132, rfl, ho130, hl131, hx133⟩
    have hl134 : ∀ g, blk a128 = some g → w0.heap.size ≤ g := fun g e => Nat.le_trans hB121.size (hl131 g e)
    have hx135 : ∀ k, X132 k → k < w125.heap.size := fun k hk => (hx133 k hk).1
    have hx136 : ∀ k, X132 k → X0 k ∨ w0.heap.size ≤ k := fun k hk => (hx133 k hk).2.elim (fun h => (h).elim (fun h => (fun k (hk : X0 k) => Or.inl hk) k h) (fun h => (fun k (hk : blk a6 = some k) => Or.inr (hl10 k hk)) k h)) (fun h => .inr (Nat.le_trans hB121.size h))
    refine pN 3 [52, 56, 57] [(56, (.slice a128 (length r115.1) c129)), (57, (.agg #[(.int .i64 r115.2.1), (.int .i64 r115.2.2)]))] ?_
    refine gv_new0 (fun b => .pointer (some ⟨b, 0, none⟩)) #[(.int .i64 0), (.int .i64 0)] 26 kr kr ?_
    intro b137 w138 hg139 hb140 hbe141 hz142
    refine pN 1 [12] [(12, (.slice a128 (length r115.1) c129))] ?_
    refine gv_sub [1, 5, 9, 10, 11, 12, 13, 57] (σ' := [(1, (.slice pa1_0 (length vs_1) pc1_0)), (5, (.slice a6 (length r1.1) c7)), (9, (.int .i64 r100.1)), (10, (.int .i64 r100.2.1)), (11, (bp b105)), (12, (.slice a128 (length r115.1) c129)), (13, (bp b137)), (57, (.agg #[(.int .i64 r115.2.1), (.int .i64 r115.2.2)]))]) kr ?_
    refine gv_store0 26 0 (.agg #[(.int .i64 r115.2.1), (.int .i64 r115.2.2)]) #[(.int .i64 r115.2.1), (.int .i64 r115.2.2)] hb140 kr kr kr ?_
    intro w143 hg144 hb145 hz146
    refine gv_nil <| gv_seq <| gv_seq <| gv_region <| bindE h0 ?_; clear h0; intro j147 h1 h0
    refine gv_cut_ops (J := fun a w148 => Below w0.heap.size w0 w148 ∧ w143.heap.size ≤ w148.heap.size ∧ Gv.Own (prE (iE .i64) (prE (prE tE (slE (iE .u32))) (prE (prE tE (slE (iE .u32))) (prE sE (iE .i64))))) 41 w148 X132 a128 c129 r115.1 ∧ a.defers = [] ∧ a.tmps.size = 166 ∧ Ok [(1, (.slice pa1_0 (length vs_1) pc1_0)), (12, (.slice a128 (length r115.1) c129)), (84, (.bool j147))] a.tmps) ?_ ?_
    ·skip
     refine pN 1 [58] [(58, (bp b105))] ?_
     have hg149 := (grown_trans hg126 hg139)
     have hk150 := hb113.grown hg126 nb
     have lt151 := ltl ((ltb hk150) _ rfl) ((lowb hbe141) _ rfl)
     have hk152 := (hb113.grown hg149 nb).grown hg144 (rowne (ng lt151))
     refine gv_load (t := 3) (A := ⟨b105, 0, none⟩) (.int .i64 r100.2.2.1) [] (fun e => by cases e) rfl rfl rfl kr kr kr (inw0 (hk152.cell 0 rfl)) rfl ?_
     refine pN 2 [60, 61] [(61, (.bool (r100.2.2.1 != 0)))] ?_
     refine gv_split (s := 61) (g := (r100.2.2.1 != 0)) kr (fun hc153 => ?_) (fun hc153 => ?_)
     ·skip
      replace h1 := ite_t hc153 h1
      refine pN 23 [62, 63, 64, 65, 66, 67, 68, 69, 70, 71, 72, 73, 74, 75, 76, 77, 78, 79, 80, 81, 82, 83, 84] [(84, (.bool true))] ?_
      refine gv_nil ?_
      have e := sj h1; subst e
      refine gv_goal fun a hd hs hok => ?_
      have hB154 := bg hB121 hg149 nb
      have hB155 := bg hB121 hg126 nb
      have hlo156 : w0.heap.size ≤ b137 := lob hbe141 hB155.size
      have hB157 := bg hB154 hg144 (rowlo hlo156)
      have ap158 : ¬ (fun k => blk a128 = some k ∨ X132 k) b137 := fun hx => nl ((lowb hbe141) _ rfl) ((fun k (hk : blk a128 = some k ∨ X132 k) => hk.elim (fun h => ho130.lt k h) (fun h => hx135 k h)) _ hx)
      have hx159 := ltx hx135 hg139.size
      have hk160 := (ho130.grown hg139 hx135 nb).grown hg144 hx159 (rdnx (rowne ap158))
      exact ⟨hB157, nrf, hk160, hd, hs, okp [1, 12, 84] hok⟩
     ·skip
      replace h1 := ite_f hc153 h1
      refine pN 1 [62] [(62, (bp b137))] ?_
      refine gv_load (t := 3) (A := ⟨b137, 0, none⟩) (.int .i64 r115.2.1) [] (fun e => by cases e) rfl rfl rfl kr kr kr (inw0 (hb145.cell 0 rfl)) rfl ?_
      refine pN 3 [64, 65, 66] [(66, (.bool (r115.2.1 != 0)))] ?_
      refine gv_split (s := 66) (g := (r115.2.1 != 0)) kr (fun hc161 => ?_) (fun hc161 => ?_)
      ·skip
       replace h1 := ite_t hc161 h1
       refine pN 18 [67, 68, 69, 70, 71, 72, 73, 74, 75, 76, 77, 78, 79, 80, 81, 82, 83, 84] [(84, (.bool true))] ?_
       refine gv_nil ?_
       have e := sj h1; subst e
       refine gv_goal fun a hd hs hok => ?_
       have hB162 := bg hB121 hg149 nb
       have hB163 := bg hB121 hg126 nb
       have hlo164 : w0.heap.size ≤ b137 := lob hbe141 hB163.size
       have hB165 := bg hB162 hg144 (rowlo hlo164)
       have ap166 : ¬ (fun k => blk a128 = some k ∨ X132 k) b137 := fun hx => nl ((lowb hbe141) _ rfl) ((fun k (hk : blk a128 = some k ∨ X132 k) => hk.elim (fun h => ho130.lt k h) (fun h => hx135 k h)) _ hx)
       have hx167 := ltx hx135 hg139.size
       have hk168 := (ho130.grown hg139 hx135 nb).grown hg144 hx167 (rdnx (rowne ap166))
       exact ⟨hB165, nrf, hk168, hd, hs, okp [1, 12, 84] hok⟩
      ·skip
       replace h1 := ite_f hc161 h1
       refine pN 6 [67, 68, 69, 70, 71, 72] [(72, (.bool (decide (((length r1.1 : Nat) : Int) < r100.1))))] ?_
       refine gv_split (s := 72) (g := (decide (((length r1.1 : Nat) : Int) < r100.1))) kr (fun hc169 => ?_) (fun hc169 => ?_)
       ·skip
        replace h1 := ite_t hc169 h1
        refine pN 12 [73, 74, 75, 76, 77, 78, 79, 80, 81, 82, 83, 84] [(84, (.bool true))] ?_
        refine gv_nil ?_
        have e := sj h1; subst e
        refine gv_goal fun a hd hs hok => ?_
        have hB170 := bg hB121 hg149 nb
        have hB171 := bg hB121 hg126 nb
        have hlo172 : w0.heap.size ≤ b137 := lob hbe141 hB171.size
        have hB173 := bg hB170 hg144 (rowlo hlo172)
        have ap174 : ¬ (fun k => blk a128 = some k ∨ X132 k) b137 := fun hx => nl ((lowb hbe141) _ rfl) ((fun k (hk : blk a128 = some k ∨ X132 k) => hk.elim (fun h => ho130.lt k h) (fun h => hx135 k h)) _ hx)
        have hx175 := ltx hx135 hg139.size
        have hk176 := (ho130.grown hg139 hx135 nb).grown hg144 hx175 (rdnx (rowne ap174))
        exact ⟨hB173, nrf, hk176, hd, hs, okp [1, 12, 84] hok⟩
       ·skip
        replace h1 := ite_f hc169 h1
        refine pN 6 [73, 74, 75, 76, 77, 78] [(78, (.bool (decide (((length r1.1 : Nat) : Int) > r100.2.1))))] ?_
        refine gv_split (s := 78) (g := (decide (((length r1.1 : Nat) : Int) > r100.2.1))) kr (fun hc177 => ?_) (fun hc177 => ?_)
        ·skip
         replace h1 := ite_t hc177 h1
         refine pN 6 [79, 80, 81, 82, 83, 84] [(84, (.bool true))] ?_
         refine gv_nil ?_
         have e := sj h1; subst e
         refine gv_goal fun a hd hs hok => ?_
         have hB178 := bg hB121 hg149 nb
         have hB179 := bg hB121 hg126 nb
         have hlo180 : w0.heap.size ≤ b137 := lob hbe141 hB179.size
         have hB181 := bg hB178 hg144 (rowlo hlo180)
         have ap182 : ¬ (fun k => blk a128 = some k ∨ X132 k) b137 := fun hx => nl ((lowb hbe141) _ rfl) ((fun k (hk : blk a128 = some k ∨ X132 k) => hk.elim (fun h => ho130.lt k h) (fun h => hx135 k h)) _ hx)
         have hx183 := ltx hx135 hg139.size
         have hk184 := (ho130.grown hg139 hx135 nb).grown hg144 hx183 (rdnx (rowne ap182))
         exact ⟨hB181, nrf, hk184, hd, hs, okp [1, 12, 84] hok⟩
        ·skip
         replace h1 := ite_f hc177 h1
         refine pN 6 [79, 80, 81, 82, 83, 84] [(84, (.bool (((length r115.1 : Nat) : Int) != ((length vs_1 : Nat) : Int))))] ?_
         refine gv_nil ?_
         have e := sj h1; subst e
         refine gv_goal fun a hd hs hok => ?_
         have hB185 := bg hB121 hg149 nb
         have hB186 := bg hB121 hg126 nb
         have hlo187 : w0.heap.size ≤ b137 := lob hbe141 hB186.size
         have hB188 := bg hB185 hg144 (rowlo hlo187)
         have ap189 : ¬ (fun k => blk a128 = some k ∨ X132 k) b137 := fun hx => nl ((lowb hbe141) _ rfl) ((fun k (hk : blk a128 = some k ∨ X132 k) => hk.elim (fun h => ho130.lt k h) (fun h => hx135 k h)) _ hx)
         have hx190 := ltx hx135 hg139.size
         have hk191 := (ho130.grown hg139 hx135 nb).grown hg144 hx190 (rdnx (rowne ap189))
         exact ⟨hB188, nrf, hk191, hd, hs, okp [1, 12, 84] hok⟩
    ·rintro a w148 ⟨hB192, hz193, hk194, hd, hs, hok⟩
     refine gv_in ?_ hd hs hok
     clear hd hs hok
     clear hz146 hb145 hz142 hbe141 hb140 hx133 hl131 ho130 hg126 hk124 ap123 hk122 hB121 hlo120 hB119 hB118 hg117 hr116 hz114 hb113 hg112 hz110 hbe109 hb108 hg107 hg103 hr101 hc99 hc98 hk97 hb96 hB94 hbe40 hg29 hB27 hg18 hbe15 hg13 hl10 ho8
     refine gv_cond (b := j147) kr (fun hc195 => ?_) (fun hc195 => ?_)
     ·replace h0 := ite_t hc195 h0
      refine gv_seq <| gv_region <| pN 1 [4] [(4, (.bool false))] ?_
      refine gv_nil <| gv_cret ?_
      have e := sj h0; subst e
      refine gv_ret (gv_done [(.bool false)] rfl ⟨kr, trivial⟩ ?_)
      exact ⟨grown_of_below hB192, rfl⟩
     ·replace h0 := ite_f hc195 h0
      refine gv_skip <| gv_seq <| gv_seq <| gv_region <| pN 1 [14] [(14, (.int .i64 0))] ?_
      refine gv_nil <| bindE h0 ?_; clear h0; intro j196 h1 h0
      refine gv_cut_code (J := fun a w198 => ∃ s197 : Unit, j196 = .inl s197 ∧ Below w0.heap.size w0 w198 ∧ w148.heap.size ≤ w198.heap.size ∧ a.defers = [] ∧ a.tmps.size = 166 ∧ Ok [] a.tmps) ?_ ?_
      ·skip
       refine gv_block <| gv_loop (A := fun (s199 : Int) a w200 => Below w0.heap.size w0 w200 ∧ w148.heap.size ≤ w200.heap.size ∧ Gv.Own (prE (iE .i64) (prE (prE tE (slE (iE .u32))) (prE (prE tE (slE (iE .u32))) (prE sE (iE .i64))))) 41 w200 X132 a128 c129 r115.1 ∧ a.defers = [] ∧ a.tmps.size = 166 ∧ Ok [(1, (.slice pa1_0 (length vs_1) pc1_0)), (12, (.slice a128 (length r115.1) c129)), (14, (.int .i64 s199))] a.tmps) h1 ?_ ?_
       ·intro a hd hs hok
        exact ⟨hB192, nrf, hk194, hd, hs, okp [1, 12, 14] hok⟩
       ·rintro s199 r2 h2 hR2 a w200 ⟨hB201, hz202, hk203, hd, hs, hok⟩
        refine gv_in ?_ hd hs hok
        clear hd hs hok
        refine gv_seq <| gv_seq <| gv_region <| pN 4 [85, 86, 87, 88] [(88, (.bool (decide (s199 < ((length vs_1 : Nat) : Int)))))] ?_
        refine gv_nil <| gv_cond (b := (decide (s199 < ((length vs_1 : Nat) : Int)))) kr (fun hc204 => ?_) (fun hc204 => ?_)
        ·replace h2 := ite_t hc204 h2
         refine gv_skip <| gv_seq <| gv_block <| gv_seq <| bindE h2 ?_; clear h2; intro j205 h3 h2
         refine gv_cut_code (J := fun a w206 => Below w0.heap.size w0 w206 ∧ w200.heap.size ≤ w206.heap.size ∧ Gv.Own (prE (iE .i64) (prE (prE tE (slE (iE .u32))) (prE (prE tE (slE (iE .u32))) (prE sE (iE .i64))))) 41 w206 X132 a128 c129 r115.1 ∧ a.defers = [] ∧ a.tmps.size = 166 ∧ Ok [(1, (.slice pa1_0 (length vs_1) pc1_0)), (12, (.slice a128 (length r115.1) c129)), (14, (.int .i64 s199)), (165, (.bool j205))] a.tmps) ?_ ?_
         ·skip
          refine gv_drawA kr ?_
          intro w207 hg208
          refine gv_pre [0, 1, 2, 3, 5, 6, 7, 8] (bA 75 [0, 1, 2, 3, 5, 6, 7, 8]) 67 kr kr ?_
          refine pN 2 [91, 92] [(91, (.slice a128 (length r115.1) c129)), (92, (.int .i64 s199))] ?_
          refine bindE h3 ?_; clear h3; intro x209 hx210 h3
          have hx211 := ltx (ltx hx135 hg139.size) hg144.size
          have hk212 := hk203.grown hg208 (fun k hk => ltl ((fun k hk => ltl (hx211 k hk) hz193) k hk) hz202) nb
          refine gv_idxaddr (t := 24) (e := 41) (a := a128) (len := length r115.1) (cap := c129) (kk := .i64) (i := s199) (sz := 7) [] (fun e => by cases e) rfl rfl rfl kr kr Tryz.underlying24 kr ((hk212.rd (Y := fun k => blk a128 = some k ∨ X132 k) (fun _ h => .inr h) (fun g e => .inl e)).has hx210) (idx_spec hx210).1 (idx_spec hx210).2.1 rfl ?_
          refine pN 3 [94, 96, 97] [(94, (.pointer (some (elemAddr a128 ((s199 : Int).toNat * 7))))), (96, (.slice pa1_0 (length vs_1) pc1_0)), (97, (.int .i64 s199))] ?_
          refine bindE h3 ?_; clear h3; intro x213 hx214 h3
          have hB215 := bg hB201 hg208 nb
          refine gv_idxaddr (t := 24) (e := 41) (a := pa1_0) (len := length vs_1) (cap := pc1_0) (kk := .i64) (i := s199) (sz := 7) [] (fun e => by cases e) rfl rfl rfl kr kr Tryz.underlying24 kr ((hpa1_0.below hB215 hX0).has hx214) (idx_spec hx214).1 (idx_spec hx214).2.1 rfl ?_
          refine pN 1 [99] [(99, (.pointer (some (elemAddr pa1_0 ((s199 : Int).toNat * 7)))))] ?_
          refine gv_nil <| gv_goA ?_
          refine gv_stage (Cls w207 []) [4, 9] [(4, some true), (9, some true)] (bA 75 [0, 1, 2, 3, 4, 5, 6, 7, 8, 9]) 65 kr kr (Cls.refl _ _) ?_
          have hC216 := Cls.refl w207 []
          obtain ⟨_, ⟨_, _, rfl, rfl, ⟨_, _, rfl, ⟨_, _, rfl, rfl, ⟨a218, c219, rfl, hr220⟩⟩, ⟨_, _, rfl, ⟨_, _, rfl, rfl, ⟨a221, c222, rfl, hr223⟩⟩, ⟨_, _, rfl, rfl, rfl⟩⟩⟩⟩, hc217⟩ := hk212.cellsK hx210
          have hx224 := ltx (fun k hk => ltl ((fun k hk => ltl (hx211 k hk) hz193) k hk) hz202) hg208.size
          refine gv_load (t := 3) (A := (elemAddr a128 ((s199 : Int).toNat * 7))) (.int .i64 x209.1) [] (fun e => by cases e) rfl rfl rfl kr kr kr (inw1 fun w' hC' => ((hc217 w' (fun k hk => hC'.2 k ((fun k (hk : blk a128 = some k ∨ X132 k) => hk.elim (fun h => hk212.lt k h) (fun h => hx224 k h)) k hk) (fun hg => (nmx_nil (X := (fun k => blk a128 = some k ∨ X132 k))) k hg hk))).zero rfl)) rfl ?_
          obtain ⟨_, ⟨_, _, rfl, rfl, ⟨_, _, rfl, ⟨_, _, rfl, rfl, ⟨a226, c227, rfl, hr228⟩⟩, ⟨_, _, rfl, ⟨_, _, rfl, rfl, ⟨a229, c230, rfl, hr231⟩⟩, ⟨_, _, rfl, rfl, rfl⟩⟩⟩⟩, hc225⟩ := hpa1_0.cellsK hx214
          refine gv_load (t := 3) (A := (elemAddr pa1_0 ((s199 : Int).toNat * 7))) (.int .i64 x213.1) [] (fun e => by cases e) rfl rfl rfl kr kr kr (inw1 fun w' hC' => ((hc225 w' (fun k hk => (hC'.2 k ((fun k (hk : X0 k) => ltl (hX0 k hk) hB215.size) k hk) (fun hg => nmx_nil k hg hk)).trans (hB215.block k (hX0 k hk)))).zero rfl)) rfl ?_
          refine gv_nil <| gv_goA ?_
          refine gv_pre [10, 11, 12, 13, 14, 15, 17, 18, 19, 20] (bA 75 [0, 1, 2, 3, 4, 5, 6, 7, 8, 9, 10, 11, 12, 13, 14, 15, 17, 18, 19, 20]) 55 kr kr ?_
          refine pN 2 [101, 102] [(102, (.bool (x209.1 != x213.1)))] ?_
          refine gv_split (s := 102) (g := (x209.1 != x213.1)) kr (fun hc232 => ?_) (fun hc232 => ?_)
          ·skip
           replace h3 := ite_t hc232 h3
           refine pN 8 [103, 104, 105, 106, 108, 109, 110, 111] [(106, undef), (111, undef)] ?_
           refine gv_nil <| gv_goA ?_
           refine gv_stage (Cls w207 []) [16, 21] [(16, some true), (21, some true)] (bA 75 [0, 1, 2, 3, 4, 5, 6, 7, 8, 9, 10, 11, 12, 13, 14, 15, 16, 17, 18, 19, 20, 21]) 53 kr kr (Cls.refl _ _) ?_
           have hC233 := Cls.refl w207 []
           refine pN 2 [107, 112] [(107, undef), (112, undef)] ?_
           refine gv_nil <| gv_goA ?_
           refine gv_stage (fun _ => True) [22] [(22, some false)] (bA 75 [0, 1, 2, 3, 4, 5, 6, 7, 8, 9, 10, 11, 12, 13, 14, 15, 16, 17, 18, 19, 20, 21, 22]) 52 kr kr trivial ?_
           refine gv_pureNC trivial 1 [113] [(113, undef)] kr ?_
           refine gv_nil <| gv_goA ?_
           refine gv_pre [23, 24, 25, 26, 27, 28] (bA 75 [0, 1, 2, 3, 4, 5, 6, 7, 8, 9, 10, 11, 12, 13, 14, 15, 16, 17, 18, 19, 20, 21, 22, 23, 24, 25, 26, 27, 28]) 46 kr kr ?_
           refine pN 6 [114, 115, 116, 117, 118, 119] [(115, undef), (119, undef)] ?_
           refine gv_nil <| gv_goA ?_
           refine gv_stage (Cls w207 []) [29] [(29, some true)] (bA 75 [0, 1, 2, 3, 4, 5, 6, 7, 8, 9, 10, 11, 12, 13, 14, 15, 16, 17, 18, 19, 20, 21, 22, 23, 24, 25, 26, 27, 28, 29]) 45 kr kr (Cls.refl _ _) ?_
           have hC234 := Cls.refl w207 []
           refine pN 1 [120] [(120, undef)] ?_
           refine gv_sub [1, 12, 14, 102, 115, 120] (σ' := [(1, (.slice pa1_0 (length vs_1) pc1_0)), (12, (.slice a128 (length r115.1) c129)), (14, (.int .i64 s199)), (102, (.bool true)), (115, undef), (120, undef)]) kr ?_
           refine gv_nil <| gv_goA ?_
           refine gv_pre [30, 31, 32, 33, 34, 35, 36, 37, 39, 40, 41, 42] (bA 75 [0, 1, 2, 3, 4, 5, 6, 7, 8, 9, 10, 11, 12, 13, 14, 15, 16, 17, 18, 19, 20, 21, 22, 23, 24, 25, 26, 27, 28, 29, 30, 31, 32, 33, 34, 35, 36, 37, 39, 40, 41, 42]) 33 kr kr ?_
           refine pN 12 [121, 122, 123, 124, 125, 126, 127, 128, 130, 131, 132, 133] [(124, (.bool true)), (128, undef), (133, undef)] ?_
           refine gv_nil <| gv_goA ?_
           refine gv_stage (Cls w207 []) [38, 43] [(38, some true), (43, some true)] (bA 75 [0, 1, 2, 3, 4, 5, 6, 7, 8, 9, 10, 11, 12, 13, 14, 15, 16, 17, 18, 19, 20, 21, 22, 23, 24, 25, 26, 27, 28, 29, 30, 31, 32, 33, 34, 35, 36, 37, 38, 39, 40, 41, 42, 43]) 31 kr kr (Cls.refl _ _) ?_
           have hC235 := Cls.refl w207 []
           refine pN 2 [129, 134] [(129, undef), (134, undef)] ?_
           refine gv_nil <| gv_goA ?_
           refine gv_pre [44, 45, 46, 47, 48, 49] (bA 75 [0, 1, 2, 3, 4, 5, 6, 7, 8, 9, 10, 11, 12, 13, 14, 15, 16, 17, 18, 19, 20, 21, 22, 23, 24, 25, 26, 27, 28, 29, 30, 31, 32, 33, 34, 35, 36, 37, 38, 39, 40, 41, 42, 43, 44, 45, 46, 47, 48, 49]) 25 kr kr ?_
           refine pN 6 [135, 136, 137, 138, 139, 140] [(136, undef), (140, undef)] ?_
           refine gv_nil <| gv_goA ?_
           refine gv_stage (Cls w207 []) [50] [(50, some true)] (bA 75 [0, 1, 2, 3, 4, 5, 6, 7, 8, 9, 10, 11, 12, 13, 14, 15, 16, 17, 18, 19, 20, 21, 22, 23, 24, 25, 26, 27, 28, 29, 30, 31, 32, 33, 34, 35, 36, 37, 38, 39, 40, 41, 42, 43, 44, 45, 46, 47, 48, 49, 50]) 24 kr kr (Cls.refl _ _) ?_
           have hC236 := Cls.refl w207 []
           refine pN 1 [141] [(141, undef)] ?_
           refine gv_nil <| gv_goA ?_
           refine gv_pre [51, 52, 53, 54, 55, 56, 57, 58, 60, 61, 62, 63] (bA 75 [0, 1, 2, 3, 4, 5, 6, 7, 8, 9, 10, 11, 12, 13, 14, 15, 16, 17, 18, 19, 20, 21, 22, 23, 24, 25, 26, 27, 28, 29, 30, 31, 32, 33, 34, 35, 36, 37, 38, 39, 40, 41, 42, 43, 44, 45, 46, 47, 48, 49, 50, 51, 52, 53, 54, 55, 56, 57, 58, 60, 61, 62, 63]) 12 kr kr ?_
           refine pN 12 [142, 143, 144, 145, 146, 147, 148, 149, 151, 152, 153, 154] [(145, (.bool true)), (149, undef), (154, undef)] ?_
           refine gv_nil <| gv_goA ?_
           refine gv_stage (Cls w207 []) [59, 64] [(59, some true), (64, some true)] (bA 75 [0, 1, 2, 3, 4, 5, 6, 7, 8, 9, 10, 11, 12, 13, 14, 15, 16, 17, 18, 19, 20, 21, 22, 23, 24, 25, 26, 27, 28, 29, 30, 31, 32, 33, 34, 35, 36, 37, 38, 39, 40, 41, 42, 43, 44, 45, 46, 47, 48, 49, 50, 51, 52, 53, 54, 55, 56, 57, 58, 59, 60, 61, 62, 63, 64]) 10 kr kr (Cls.refl _ _) ?_
           have hC237 := Cls.refl w207 []
           refine pN 2 [150, 155] [(150, undef), (155, undef)] ?_
           refine gv_nil <| gv_goA ?_
           refine gv_pre [65, 66, 67, 68, 69, 70] (bA 75 [0, 1, 2, 3, 4, 5, 6, 7, 8, 9, 10, 11, 12, 13, 14, 15, 16, 17, 18, 19, 20, 21, 22, 23, 24, 25, 26, 27, 28, 29, 30, 31, 32, 33, 34, 35, 36, 37, 38, 39, 40, 41, 42, 43, 44, 45, 46, 47, 48, 49, 50, 51, 52, 53, 54, 55, 56, 57, 58, 59, 60, 61, 62, 63, 64, 65, 66, 67, 68, 69, 70]) 4 kr kr ?_
           refine pN 6 [156, 157, 158, 159, 160, 161] [(157, undef), (161, undef)] ?_
           refine gv_nil <| gv_goA ?_
           refine gv_stage (Cls w207 []) [71] [(71, some true)] (bA 75 [0, 1, 2, 3, 4, 5, 6, 7, 8, 9, 10, 11, 12, 13, 14, 15, 16, 17, 18, 19, 20, 21, 22, 23, 24, 25, 26, 27, 28, 29, 30, 31, 32, 33, 34, 35, 36, 37, 38, 39, 40, 41, 42, 43, 44, 45, 46, 47, 48, 49, 50, 51, 52, 53, 54, 55, 56, 57, 58, 59, 60, 61, 62, 63, 64, 65, 66, 67, 68, 69, 70, 71]) 3 kr kr (Cls.refl _ _) ?_
           have hC238 := Cls.refl w207 []
           refine pN 1 [162] [(162, undef)] ?_
           refine gv_nil <| gv_goA ?_
           refine gv_pre [72, 73, 74] (bA 75 [0, 1, 2, 3, 4, 5, 6, 7, 8, 9, 10, 11, 12, 13, 14, 15, 16, 17, 18, 19, 20, 21, 22, 23, 24, 25, 26, 27, 28, 29, 30, 31, 32, 33, 34, 35, 36, 37, 38, 39, 40, 41, 42, 43, 44, 45, 46, 47, 48, 49, 50, 51, 52, 53, 54, 55, 56, 57, 58, 59, 60, 61, 62, 63, 64, 65, 66, 67, 68, 69, 70, 71, 72, 73, 74]) 0 kr kr ?_
           refine pN 3 [163, 164, 165] [(165, (.bool true))] ?_
           refine gv_nil <| gv_goA ?_
           refine gv_stageE kr ?_
           have e := sj h3; subst e
           refine gv_goal fun a hd hs hok => ?_
           have hz239 := hg208.size
           exact ⟨hB215, hz239, hk212, hd, hs, okp [1, 12, 14, 165] hok⟩
          ·skip
           replace h3 := ite_f hc232 h3
           refine pN 2 [103, 104] [(103, (.slice a128 (length r115.1) c129)), (104, (.int .i64 s199))] ?_
           refine bindE h3 ?_; clear h3; intro x240 hx241 h3
           refine gv_idxaddr (t := 24) (e := 41) (a := a128) (len := length r115.1) (cap := c129) (kk := .i64) (i := s199) (sz := 7) [] (fun e => by cases e) rfl rfl rfl kr kr Tryz.underlying24 kr ((hk212.rd (Y := fun k => blk a128 = some k ∨ X132 k) (fun _ h => .inr h) (fun g e => .inl e)).has hx241) (idx_spec hx241).1 (idx_spec hx241).2.1 rfl ?_
           refine pN 3 [106, 108, 109] [(106, (.pointer (some (Addr.add (elemAddr a128 ((s199 : Int).toNat * 7)) 1)))), (108, (.slice pa1_0 (length vs_1) pc1_0)), (109, (.int .i64 s199))] ?_
           refine bindE h3 ?_; clear h3; intro x242 hx243 h3
           refine gv_idxaddr (t := 24) (e := 41) (a := pa1_0) (len := length vs_1) (cap := pc1_0) (kk := .i64) (i := s199) (sz := 7) [] (fun e => by cases e) rfl rfl rfl kr kr Tryz.underlying24 kr ((hpa1_0.below hB215 hX0).has hx243) (idx_spec hx243).1 (idx_spec hx243).2.1 rfl ?_
           refine pN 1 [111] [(111, (.pointer (some (Addr.add (elemAddr pa1_0 ((s199 : Int).toNat * 7)) 1))))] ?_
           refine gv_sub [1, 12, 14, 102, 106, 111] (σ' := [(1, (.slice pa1_0 (length vs_1) pc1_0)), (12, (.slice a128 (length r115.1) c129)), (14, (.int .i64 s199)), (102, (.bool false)), (106, (.pointer (some (Addr.add (elemAddr a128 ((s199 : Int).toNat * 7)) 1)))), (111, (.pointer (some (Addr.add (elemAddr pa1_0 ((s199 : Int).toNat * 7)) 1))))]) kr ?_
           refine gv_nil <| gv_goA ?_
           refine gv_stage (Cls w207 []) [16, 21] [(16, some true), (21, some true)] (bA 75 [0, 1, 2, 3, 4, 5, 6, 7, 8, 9, 10, 11, 12, 13, 14, 15, 16, 17, 18, 19, 20, 21]) 53 kr kr (Cls.refl _ _) ?_
           have hC244 := Cls.refl w207 []
           obtain ⟨_, ⟨_, _, rfl, rfl, ⟨_, _, rfl, ⟨_, _, rfl, rfl, ⟨a246, c247, rfl, hr248⟩⟩, ⟨_, _, rfl, ⟨_, _, rfl, rfl, ⟨a249, c250, rfl, hr251⟩⟩, ⟨_, _, rfl, rfl, rfl⟩⟩⟩⟩, hc245⟩ := hk212.cellsK hx241
           refine gv_loadAgg (t := 39) (A := (Addr.add (elemAddr a128 ((s199 : Int).toNat * 7)) 1)) #[(.bool x240.2.1.1), (.slice a246 (length x240.2.1.2) c247)] [] (fun e => by cases e) rfl rfl rfl kr kr kr kr (inw1 fun w' hC' => (cells_part (hc245 w' (fun k hk => hC'.2 k ((fun k (hk : blk a128 = some k ∨ X132 k) => hk.elim (fun h => hk212.lt k h) (fun h => hx224 k h)) k hk) (fun hg => (nmx_nil (X := (fun k => blk a128 = some k ∨ X132 k))) k hg hk))) 1 [(.bool x240.2.1.1), (.slice a246 (length x240.2.1.2) c247)] rfl)) rfl ?_
           obtain ⟨_, ⟨_, _, rfl, rfl, ⟨_, _, rfl, ⟨_, _, rfl, rfl, ⟨a253, c254, rfl, hr255⟩⟩, ⟨_, _, rfl, ⟨_, _, rfl, rfl, ⟨a256, c257, rfl, hr258⟩⟩, ⟨_, _, rfl, rfl, rfl⟩⟩⟩⟩, hc252⟩ := hpa1_0.cellsK hx243
           refine gv_loadAgg (t := 39) (A := (Addr.add (elemAddr pa1_0 ((s199 : Int).toNat * 7)) 1)) #[(.bool x242.2.1.1), (.slice a253 (length x242.2.1.2) c254)] [] (fun e => by cases e) rfl rfl rfl kr kr kr kr (inw1 fun w' hC' => (cells_part (hc252 w' (fun k hk => (hC'.2 k ((fun k (hk : X0 k) => ltl (hX0 k hk) hB215.size) k hk) (fun hg => nmx_nil k hg hk)).trans (hB215.block k (hX0 k hk)))) 1 [(.bool x242.2.1.1), (.slice a253 (length x242.2.1.2) c254)] rfl)) rfl ?_
           refine gv_nil <| gv_goA ?_
           refine gv_stage (fun _ => True) [22] [(22, some false)] (bA 75 [0, 1, 2, 3, 4, 5, 6, 7, 8, 9, 10, 11, 12, 13, 14, 15, 16, 17, 18, 19, 20, 21, 22]) 52 kr kr trivial ?_
           refine bindE h3 ?_; clear h3; intro r259 hr260 h3
           refine gv_call (f := 13) (vs := [(.agg #[(.bool x240.2.1.1), (.slice a246 (length x240.2.1.2) c247)]), (.agg #[(.bool x242.2.1.1), (.slice a253 (length x242.2.1.2) c254)])]) (cap := []) _ (by decide) rfl rfl rfl kr kr enters13 (ref3_SameInts_ok fuel a246 c247 (x240.2.1.1, x240.2.1.2) a253 c254 (x242.2.1.1, x242.2.1.2) w207 (fun k => X132 k ∨ X0 k) (fun k hk => (hk).elim (fun h => hx224 k h) (fun h => (fun k (hk : X0 k) => ltl (hX0 k hk) hB215.size) k h)) (hr248.wide (fun k hk => (.inl hk))) ((hr255.below hB215 hX0).wide (fun k hk => (.inr hk))) r259 hr260) ?_
           rintro v263 w261 ⟨hg262, rfl⟩
           refine ⟨(fun _ => trivial), ?_⟩
           clear hr260 hc252 hc245 hC244 hx243 hx241 hc232 hc225 hc217 hC216 hx214 hx211 hx210 hc204 hk203 hB201 hc195 hk194 hz193 hB192 hg144 hg139 hx135
           refine gv_nil <| gv_goA ?_
           refine gv_pre [23, 24, 25, 26, 27, 28] (bA 75 [0, 1, 2, 3, 4, 5, 6, 7, 8, 9, 10, 11, 12, 13, 14, 15, 16, 17, 18, 19, 20, 21, 22, 23, 24, 25, 26, 27, 28]) 46 kr kr ?_
           refine pN 2 [114, 115] [(115, (.bool (!r259)))] ?_
           refine gv_split (s := 115) (g := (!r259)) kr (fun hc264 => ?_) (fun hc264 => ?_)
           ·skip
            replace h3 := ite_t hc264 h3
            refine pN 2 [116, 117] [(116, (.slice pa1_0 (length vs_1) pc1_0)), (117, (.int .i64 s199))] ?_
            refine bindE h3 ?_; clear h3; intro x265 hx266 h3
            have hB267 := bg hB215 hg262 nb
            refine gv_idxaddr (t := 24) (e := 41) (a := pa1_0) (len := length vs_1) (cap := pc1_0) (kk := .i64) (i := s199) (sz := 7) [] (fun e => by cases e) rfl rfl rfl kr kr Tryz.underlying24 kr ((hpa1_0.below hB267 hX0).has hx266) (idx_spec hx266).1 (idx_spec hx266).2.1 rfl ?_
            refine pN 1 [119] [(119, (.pointer (some (elemAddr pa1_0 ((s199 : Int).toNat * 7)))))] ?_
            refine gv_nil <| gv_goA ?_
            refine gv_stage (Cls w261 []) [29] [(29, some true)] (bA 75 [0, 1, 2, 3, 4, 5, 6, 7, 8, 9, 10, 11, 12, 13, 14, 15, 16, 17, 18, 19, 20, 21, 22, 23, 24, 25, 26, 27, 28, 29]) 45 kr kr (Cls.refl _ _) ?_
            have hC268 := Cls.refl w261 []
            obtain ⟨_, ⟨_, _, rfl, rfl, ⟨_, _, rfl, ⟨_, _, rfl, rfl, ⟨a270, c271, rfl, hr272⟩⟩, ⟨_, _, rfl, ⟨_, _, rfl, rfl, ⟨a273, c274, rfl, hr275⟩⟩, ⟨_, _, rfl, rfl, rfl⟩⟩⟩⟩, hc269⟩ := hpa1_0.cellsK hx266
            refine gv_load (t := 3) (A := (elemAddr pa1_0 ((s199 : Int).toNat * 7))) (.int .i64 x265.1) [] (fun e => by cases e) rfl rfl rfl kr kr kr (inw1 fun w' hC' => ((hc269 w' (fun k hk => (hC'.2 k ((fun k (hk : X0 k) => ltl (hX0 k hk) hB267.size) k hk) (fun hg => nmx_nil k hg hk)).trans (hB267.block k (hX0 k hk)))).zero rfl)) rfl ?_
            refine gv_nil <| gv_goA ?_
            refine gv_pre [30, 31, 32, 33, 34, 35, 36, 37, 39, 40, 41, 42] (bA 75 [0, 1, 2, 3, 4, 5, 6, 7, 8, 9, 10, 11, 12, 13, 14, 15, 16, 17, 18, 19, 20, 21, 22, 23, 24, 25, 26, 27, 28, 29, 30, 31, 32, 33, 34, 35, 36, 37, 39, 40, 41, 42]) 33 kr kr ?_
            refine pN 4 [121, 122, 123, 124] [(124, (.bool (x265.1 == 2)))] ?_
            refine gv_split (s := 124) (g := (x265.1 == 2)) kr (fun hc276 => ?_) (fun hc276 => ?_)
            ·skip
             replace h3 := ite_t hc276 h3
             refine pN 8 [125, 126, 127, 128, 130, 131, 132, 133] [(128, undef), (133, undef)] ?_
             refine gv_nil <| gv_goA ?_
             refine gv_stage (Cls w261 []) [38, 43] [(38, some true), (43, some true)] (bA 75 [0, 1, 2, 3, 4, 5, 6, 7, 8, 9, 10, 11, 12, 13, 14, 15, 16, 17, 18, 19, 20, 21, 22, 23, 24, 25, 26, 27, 28, 29, 30, 31, 32, 33, 34, 35, 36, 37, 38, 39, 40, 41, 42, 43]) 31 kr kr (Cls.refl _ _) ?_
             have hC277 := Cls.refl w261 []
             refine pN 2 [129, 134] [(129, undef), (134, undef)] ?_
             refine gv_nil <| gv_goA ?_
             refine gv_pre [44, 45, 46, 47, 48, 49] (bA 75 [0, 1, 2, 3, 4, 5, 6, 7, 8, 9, 10, 11, 12, 13, 14, 15, 16, 17, 18, 19, 20, 21, 22, 23, 24, 25, 26, 27, 28, 29, 30, 31, 32, 33, 34, 35, 36, 37, 38, 39, 40, 41, 42, 43, 44, 45, 46, 47, 48, 49]) 25 kr kr ?_
             refine pN 6 [135, 136, 137, 138, 139, 140] [(136, undef), (140, undef)] ?_
             refine gv_nil <| gv_goA ?_
             refine gv_stage (Cls w261 []) [50] [(50, some true)] (bA 75 [0, 1, 2, 3, 4, 5, 6, 7, 8, 9, 10, 11, 12, 13, 14, 15, 16, 17, 18, 19, 20, 21, 22, 23, 24, 25, 26, 27, 28, 29, 30, 31, 32, 33, 34, 35, 36, 37, 38, 39, 40, 41, 42, 43, 44, 45, 46, 47, 48, 49, 50]) 24 kr kr (Cls.refl _ _) ?_
             have hC278 := Cls.refl w261 []
             refine pN 1 [141] [(141, undef)] ?_
             refine gv_nil <| gv_goA ?_
             refine gv_pre [51, 52, 53, 54, 55, 56, 57, 58, 60, 61, 62, 63] (bA 75 [0, 1, 2, 3, 4, 5, 6, 7, 8, 9, 10, 11, 12, 13, 14, 15, 16, 17, 18, 19, 20, 21, 22, 23, 24, 25, 26, 27, 28, 29, 30, 31, 32, 33, 34, 35, 36, 37, 38, 39, 40, 41, 42, 43, 44, 45, 46, 47, 48, 49, 50, 51, 52, 53, 54, 55, 56, 57, 58, 60, 61, 62, 63]) 12 kr kr ?_
             refine pN 12 [142, 143, 144, 145, 146, 147, 148, 149, 151, 152, 153, 154] [(145, (.bool true)), (149, undef), (154, undef)] ?_
             refine gv_sub [1, 12, 14, 145, 149, 154] (σ' := [(1, (.slice pa1_0 (length vs_1) pc1_0)), (12, (.slice a128 (length r115.1) c129)), (14, (.int .i64 s199)), (145, (.bool true)), (149, undef), (154, undef)]) kr ?_
             refine gv_nil <| gv_goA ?_
             refine gv_stage (Cls w261 []) [59, 64] [(59, some true), (64, some true)] (bA 75 [0, 1, 2, 3, 4, 5, 6, 7, 8, 9, 10, 11, 12, 13, 14, 15, 16, 17, 18, 19, 20, 21, 22, 23, 24, 25, 26, 27, 28, 29, 30, 31, 32, 33, 34, 35, 36, 37, 38, 39, 40, 41, 42, 43, 44, 45, 46, 47, 48, 49, 50, 51, 52, 53, 54, 55, 56, 57, 58, 59, 60, 61, 62, 63, 64]) 10 kr kr (Cls.refl _ _) ?_
             have hC279 := Cls.refl w261 []
             refine pN 2 [150, 155] [(150, undef), (155, undef)] ?_
             refine gv_nil <| gv_goA ?_
             refine gv_pre [65, 66, 67, 68, 69, 70] (bA 75 [0, 1, 2, 3, 4, 5, 6, 7, 8, 9, 10, 11, 12, 13, 14, 15, 16, 17, 18, 19, 20, 21, 22, 23, 24, 25, 26, 27, 28, 29, 30, 31, 32, 33, 34, 35, 36, 37, 38, 39, 40, 41, 42, 43, 44, 45, 46, 47, 48, 49, 50, 51, 52, 53, 54, 55, 56, 57, 58, 59, 60, 61, 62, 63, 64, 65, 66, 67, 68, 69, 70]) 4 kr kr ?_
             refine pN 6 [156, 157, 158, 159, 160, 161] [(157, undef), (161, undef)] ?_
             refine gv_nil <| gv_goA ?_
             refine gv_stage (Cls w261 []) [71] [(71, some true)] (bA 75 [0, 1, 2, 3, 4, 5, 6, 7, 8, 9, 10, 11, 12, 13, 14, 15, 16, 17, 18, 19, 20, 21, 22, 23, 24, 25, 26, 27, 28, 29, 30, 31, 32, 33, 34, 35, 36, 37, 38, 39, 40, 41, 42, 43, 44, 45, 46, 47, 48, 49, 50, 51, 52, 53, 54, 55, 56, 57, 58, 59, 60, 61, 62, 63, 64, 65, 66, 67, 68, 69, 70, 71]) 3 kr kr (Cls.refl _ _) ?_
             have hC280 := Cls.refl w261 []
             refine pN 1 [162] [(162, undef)] ?_
             refine gv_nil <| gv_goA ?_
             refine gv_pre [72, 73, 74] (bA 75 [0, 1, 2, 3, 4, 5, 6, 7, 8, 9, 10, 11, 12, 13, 14, 15, 16, 17, 18, 19, 20, 21, 22, 23, 24, 25, 26, 27, 28, 29, 30, 31, 32, 33, 34, 35, 36, 37, 38, 39, 40, 41, 42, 43, 44, 45, 46, 47, 48, 49, 50, 51, 52, 53, 54, 55, 56, 57, 58, 59, 60, 61, 62, 63, 64, 65, 66, 67, 68, 69, 70, 71, 72, 73, 74]) 0 kr kr ?_
             refine pN 3 [163, 164, 165] [(165, (.bool true))] ?_
             refine gv_nil <| gv_goA ?_
             refine gv_stageE kr ?_
             have e := sj h3; subst e
             refine gv_goal fun a hd hs hok => ?_
             have hz281 := (nt hg208.size hg262.size)
             have hk282 := hk212.grown hg262 hx224 nb
             exact ⟨hB267, hz281, hk282, hd, hs, okp [1, 12, 14, 165] hok⟩
            ·skip
             replace h3 := ite_f hc276 h3
             refine pN 2 [125, 126] [(125, (.slice a128 (length r115.1) c129)), (126, (.int .i64 s199))] ?_
             refine bindE h3 ?_; clear h3; intro x283 hx284 h3
             have hk285 := hk212.grown hg262 hx224 nb
             refine gv_idxaddr (t := 24) (e := 41) (a := a128) (len := length r115.1) (cap := c129) (kk := .i64) (i := s199) (sz := 7) [] (fun e => by cases e) rfl rfl rfl kr kr Tryz.underlying24 kr ((hk285.rd (Y := fun k => blk a128 = some k ∨ X132 k) (fun _ h => .inr h) (fun g e => .inl e)).has hx284) (idx_spec hx284).1 (idx_spec hx284).2.1 rfl ?_
             refine pN 3 [128, 130, 131] [(128, (.pointer (some (Addr.add (elemAddr a128 ((s199 : Int).toNat * 7)) 5)))), (130, (.slice pa1_0 (length vs_1) pc1_0)), (131, (.int .i64 s199))] ?_
             refine bindE h3 ?_; clear h3; intro x286 hx287 h3
             refine gv_idxaddr (t := 24) (e := 41) (a := pa1_0) (len := length vs_1) (cap := pc1_0) (kk := .i64) (i := s199) (sz := 7) [] (fun e => by cases e) rfl rfl rfl kr kr Tryz.underlying24 kr ((hpa1_0.below hB267 hX0).has hx287) (idx_spec hx287).1 (idx_spec hx287).2.1 rfl ?_
             refine pN 1 [133] [(133, (.pointer (some (Addr.add (elemAddr pa1_0 ((s199 : Int).toNat * 7)) 5))))] ?_
             refine gv_sub [1, 12, 14, 124, 128, 133] (σ' := [(1, (.slice pa1_0 (length vs_1) pc1_0)), (12, (.slice a128 (length r115.1) c129)), (14, (.int .i64 s199)), (124, (.bool false)), (128, (.pointer (some (Addr.add (elemAddr a128 ((s199 : Int).toNat * 7)) 5)))), (133, (.pointer (some (Addr.add (elemAddr pa1_0 ((s199 : Int).toNat * 7)) 5))))]) kr ?_
             refine gv_nil <| gv_goA ?_
             refine gv_stage (Cls w261 []) [38, 43] [(38, some true), (43, some true)] (bA 75 [0, 1, 2, 3, 4, 5, 6, 7, 8, 9, 10, 11, 12, 13, 14, 15, 16, 17, 18, 19, 20, 21, 22, 23, 24, 25, 26, 27, 28, 29, 30, 31, 32, 33, 34, 35, 36, 37, 38, 39, 40, 41, 42, 43]) 31 kr kr (Cls.refl _ _) ?_
             have hC288 := Cls.refl w261 []
             obtain ⟨_, ⟨_, _, rfl, rfl, ⟨_, _, rfl, ⟨_, _, rfl, rfl, ⟨a290, c291, rfl, hr292⟩⟩, ⟨_, _, rfl, ⟨_, _, rfl, rfl, ⟨a293, c294, rfl, hr295⟩⟩, ⟨_, _, rfl, rfl, rfl⟩⟩⟩⟩, hc289⟩ := hk285.cellsK hx284
             have hx296 := ltx hx224 hg262.size
             refine gv_load (t := 9) (A := (Addr.add (elemAddr a128 ((s199 : Int).toNat * 7)) 5)) (.string x283.2.2.2.1) [] (fun e => by cases e) rfl rfl rfl kr kr kr (inw1 fun w' hC' => ((hc289 w' (fun k hk => hC'.2 k ((fun k (hk : blk a128 = some k ∨ X132 k) => hk.elim (fun h => hk285.lt k h) (fun h => hx296 k h)) k hk) (fun hg => (nmx_nil (X := (fun k => blk a128 = some k ∨ X132 k))) k hg hk))) 5 _ rfl)) rfl ?_
             obtain ⟨_, ⟨_, _, rfl, rfl, ⟨_, _, rfl, ⟨_, _, rfl, rfl, ⟨a298, c299, rfl, hr300⟩⟩, ⟨_, _, rfl, ⟨_, _, rfl, rfl, ⟨a301, c302, rfl, hr303⟩⟩, ⟨_, _, rfl, rfl, rfl⟩⟩⟩⟩, hc297⟩ := hpa1_0.cellsK hx287
             refine gv_load (t := 9) (A := (Addr.add (elemAddr pa1_0 ((s199 : Int).toNat * 7)) 5)) (.string x286.2.2.2.1) [] (fun e => by cases e) rfl rfl rfl kr kr kr (inw1 fun w' hC' => ((hc297 w' (fun k hk => (hC'.2 k ((fun k (hk : X0 k) => ltl (hX0 k hk) hB267.size) k hk) (fun hg => nmx_nil k hg hk)).trans (hB267.block k (hX0 k hk)))) 5 _ rfl)) rfl ?_
             refine gv_nil <| gv_goA ?_
             refine gv_pre [44, 45, 46, 47, 48, 49] (bA 75 [0, 1, 2, 3, 4, 5, 6, 7, 8, 9, 10, 11, 12, 13, 14, 15, 16, 17, 18, 19, 20, 21, 22, 23, 24, 25, 26, 27, 28, 29, 30, 31, 32, 33, 34, 35, 36, 37, 38, 39, 40, 41, 42, 43, 44, 45, 46, 47, 48, 49]) 25 kr kr ?_
             refine pN 2 [135, 136] [(136, (.bool (!(x283.2.2.2.1.toList == x286.2.2.2.1.toList))))] ?_
             refine gv_split (s := 136) (g := (!(x283.2.2.2.1.toList == x286.2.2.2.1.toList))) kr (fun hc304 => ?_) (fun hc304 => ?_)
             ·skip
              replace h3 := ite_t hc304 h3
              refine pN 2 [137, 138] [(137, (.slice pa1_0 (length vs_1) pc1_0)), (138, (.int .i64 s199))] ?_
              refine bindE h3 ?_; clear h3; intro x305 hx306 h3
              refine gv_idxaddr (t := 24) (e := 41) (a := pa1_0) (len := length vs_1) (cap := pc1_0) (kk := .i64) (i := s199) (sz := 7) [] (fun e => by cases e) rfl rfl rfl kr kr Tryz.underlying24 kr ((hpa1_0.below hB267 hX0).has hx306) (idx_spec hx306).1 (idx_spec hx306).2.1 rfl ?_
              refine pN 1 [140] [(140, (.pointer (some (elemAddr pa1_0 ((s199 : Int).toNat * 7)))))] ?_
              refine gv_nil <| gv_goA ?_
              refine gv_stage (Cls w261 []) [50] [(50, some true)] (bA 75 [0, 1, 2, 3, 4, 5, 6, 7, 8, 9, 10, 11, 12, 13, 14, 15, 16, 17, 18, 19, 20, 21, 22, 23, 24, 25, 26, 27, 28, 29, 30, 31, 32, 33, 34, 35, 36, 37, 38, 39, 40, 41, 42, 43, 44, 45, 46, 47, 48, 49, 50]) 24 kr kr (Cls.refl _ _) ?_
              have hC307 := Cls.refl w261 []
              obtain ⟨_, ⟨_, _, rfl, rfl, ⟨_, _, rfl, ⟨_, _, rfl, rfl, ⟨a309, c310, rfl, hr311⟩⟩, ⟨_, _, rfl, ⟨_, _, rfl, rfl, ⟨a312, c313, rfl, hr314⟩⟩, ⟨_, _, rfl, rfl, rfl⟩⟩⟩⟩, hc308⟩ := hpa1_0.cellsK hx306
              refine gv_load (t := 3) (A := (elemAddr pa1_0 ((s199 : Int).toNat * 7))) (.int .i64 x305.1) [] (fun e => by cases e) rfl rfl rfl kr kr kr (inw1 fun w' hC' => ((hc308 w' (fun k hk => (hC'.2 k ((fun k (hk : X0 k) => ltl (hX0 k hk) hB267.size) k hk) (fun hg => nmx_nil k hg hk)).trans (hB267.block k (hX0 k hk)))).zero rfl)) rfl ?_
              refine gv_nil <| gv_goA ?_
              refine gv_pre [51, 52, 53, 54, 55, 56, 57, 58, 60, 61, 62, 63] (bA 75 [0, 1, 2, 3, 4, 5, 6, 7, 8, 9, 10, 11, 12, 13, 14, 15, 16, 17, 18, 19, 20, 21, 22, 23, 24, 25, 26, 27, 28, 29, 30, 31, 32, 33, 34, 35, 36, 37, 38, 39, 40, 41, 42, 43, 44, 45, 46, 47, 48, 49, 50, 51, 52, 53, 54, 55, 56, 57, 58, 60, 61, 62, 63]) 12 kr kr ?_
              refine pN 4 [142, 143, 144, 145] [(145, (.bool (x305.1 == 5)))] ?_
              refine gv_split (s := 145) (g := (x305.1 == 5)) kr (fun hc315 => ?_) (fun hc315 => ?_)
              ·skip
               replace h3 := ite_t hc315 h3
               refine pN 8 [146, 147, 148, 149, 151, 152, 153, 154] [(149, undef), (154, undef)] ?_
               refine gv_nil <| gv_goA ?_
               refine gv_stage (Cls w261 []) [59, 64] [(59, some true), (64, some true)] (bA 75 [0, 1, 2, 3, 4, 5, 6, 7, 8, 9, 10, 11, 12, 13, 14, 15, 16, 17, 18, 19, 20, 21, 22, 23, 24, 25, 26, 27, 28, 29, 30, 31, 32, 33, 34, 35, 36, 37, 38, 39, 40, 41, 42, 43, 44, 45, 46, 47, 48, 49, 50, 51, 52, 53, 54, 55, 56, 57, 58, 59, 60, 61, 62, 63, 64]) 10 kr kr (Cls.refl _ _) ?_
               have hC316 := Cls.refl w261 []
               refine pN 2 [150, 155] [(150, undef), (155, undef)] ?_
               refine gv_nil <| gv_goA ?_
               refine gv_pre [65, 66, 67, 68, 69, 70] (bA 75 [0, 1, 2, 3, 4, 5, 6, 7, 8, 9, 10, 11, 12, 13, 14, 15, 16, 17, 18, 19, 20, 21, 22, 23, 24, 25, 26, 27, 28, 29, 30, 31, 32, 33, 34, 35, 36, 37, 38, 39, 40, 41, 42, 43, 44, 45, 46, 47, 48, 49, 50, 51, 52, 53, 54, 55, 56, 57, 58, 59, 60, 61, 62, 63, 64, 65, 66, 67, 68, 69, 70]) 4 kr kr ?_
               refine pN 6 [156, 157, 158, 159, 160, 161] [(157, undef), (161, undef)] ?_
               refine gv_nil <| gv_goA ?_
               refine gv_stage (Cls w261 []) [71] [(71, some true)] (bA 75 [0, 1, 2, 3, 4, 5, 6, 7, 8, 9, 10, 11, 12, 13, 14, 15, 16, 17, 18, 19, 20, 21, 22, 23, 24, 25, 26, 27, 28, 29, 30, 31, 32, 33, 34, 35, 36, 37, 38, 39, 40, 41, 42, 43, 44, 45, 46, 47, 48, 49, 50, 51, 52, 53, 54, 55, 56, 57, 58, 59, 60, 61, 62, 63, 64, 65, 66, 67, 68, 69, 70, 71]) 3 kr kr (Cls.refl _ _) ?_
               have hC317 := Cls.refl w261 []
               refine pN 1 [162] [(162, undef)] ?_
               refine gv_nil <| gv_goA ?_
               refine gv_pre [72, 73, 74] (bA 75 [0, 1, 2, 3, 4, 5, 6, 7, 8, 9, 10, 11, 12, 13, 14, 15, 16, 17, 18, 19, 20, 21, 22, 23, 24, 25, 26, 27, 28, 29, 30, 31, 32, 33, 34, 35, 36, 37, 38, 39, 40, 41, 42, 43, 44, 45, 46, 47, 48, 49, 50, 51, 52, 53, 54, 55, 56, 57, 58, 59, 60, 61, 62, 63, 64, 65, 66, 67, 68, 69, 70, 71, 72, 73, 74]) 0 kr kr ?_
               refine pN 3 [163, 164, 165] [(165, (.bool true))] ?_
               refine gv_nil <| gv_goA ?_
               refine gv_stageE kr ?_
               have e := sj h3; subst e
               refine gv_goal fun a hd hs hok => ?_
               have hz318 := (nt hg208.size hg262.size)
               exact ⟨hB267, hz318, hk285, hd, hs, okp [1, 12, 14, 165] hok⟩
              ·skip
               replace h3 := ite_f hc315 h3
               refine pN 2 [146, 147] [(146, (.slice a128 (length r115.1) c129)), (147, (.int .i64 s199))] ?_
               refine bindE h3 ?_; clear h3; intro x319 hx320 h3
               refine gv_idxaddr (t := 24) (e := 41) (a := a128) (len := length r115.1) (cap := c129) (kk := .i64) (i := s199) (sz := 7) [] (fun e => by cases e) rfl rfl rfl kr kr Tryz.underlying24 kr ((hk285.rd (Y := fun k => blk a128 = some k ∨ X132 k) (fun _ h => .inr h) (fun g e => .inl e)).has hx320) (idx_spec hx320).1 (idx_spec hx320).2.1 rfl ?_
               refine pN 3 [149, 151, 152] [(149, (.pointer (some (Addr.add (elemAddr a128 ((s199 : Int).toNat * 7)) 6)))), (151, (.slice pa1_0 (length vs_1) pc1_0)), (152, (.int .i64 s199))] ?_
               refine bindE h3 ?_; clear h3; intro x321 hx322 h3
               refine gv_idxaddr (t := 24) (e := 41) (a := pa1_0) (len := length vs_1) (cap := pc1_0) (kk := .i64) (i := s199) (sz := 7) [] (fun e => by cases e) rfl rfl rfl kr kr Tryz.underlying24 kr ((hpa1_0.below hB267 hX0).has hx322) (idx_spec hx322).1 (idx_spec hx322).2.1 rfl ?_
               refine pN 1 [154] [(154, (.pointer (some (Addr.add (elemAddr pa1_0 ((s199 : Int).toNat * 7)) 6))))] ?_
               refine gv_nil <| gv_goA ?_
               refine gv_stage (Cls w261 []) [59, 64] [(59, some true), (64, some true)] (bA 75 [0, 1, 2, 3, 4, 5, 6, 7, 8, 9, 10, 11, 12, 13, 14, 15, 16, 17, 18, 19, 20, 21, 22, 23, 24, 25, 26, 27, 28, 29, 30, 31, 32, 33, 34, 35, 36, 37, 38, 39, 40, 41, 42, 43, 44, 45, 46, 47, 48, 49, 50, 51, 52, 53, 54, 55, 56, 57, 58, 59, 60, 61, 62, 63, 64]) 10 kr kr (Cls.refl _ _) ?_
               have hC323 := Cls.refl w261 []
               obtain ⟨_, ⟨_, _, rfl, rfl, ⟨_, _, rfl, ⟨_, _, rfl, rfl, ⟨a325, c326, rfl, hr327⟩⟩, ⟨_, _, rfl, ⟨_, _, rfl, rfl, ⟨a328, c329, rfl, hr330⟩⟩, ⟨_, _, rfl, rfl, rfl⟩⟩⟩⟩, hc324⟩ := hk285.cellsK hx320
               refine gv_load (t := 3) (A := (Addr.add (elemAddr a128 ((s199 : Int).toNat * 7)) 6)) (.int .i64 x319.2.2.2.2) [] (fun e => by cases e) rfl rfl rfl kr kr kr (inw1 fun w' hC' => ((hc324 w' (fun k hk => hC'.2 k ((fun k (hk : blk a128 = some k ∨ X132 k) => hk.elim (fun h => hk285.lt k h) (fun h => hx296 k h)) k hk) (fun hg => (nmx_nil (X := (fun k => blk a128 = some k ∨ X132 k))) k hg hk))) 6 _ rfl)) rfl ?_
               refine gv_sub [1, 12, 14, 145, 150, 154] (σ' := [(1, (.slice pa1_0 (length vs_1) pc1_0)), (12, (.slice a128 (length r115.1) c129)), (14, (.int .i64 s199)), (145, (.bool false)), (150, (.int .i64 x319.2.2.2.2)), (154, (.pointer (some (Addr.add (elemAddr pa1_0 ((s199 : Int).toNat * 7)) 6))))]) kr ?_
               obtain ⟨_, ⟨_, _, rfl, rfl, ⟨_, _, rfl, ⟨_, _, rfl, rfl, ⟨a332, c333, rfl, hr334⟩⟩, ⟨_, _, rfl, ⟨_, _, rfl, rfl, ⟨a335, c336, rfl, hr337⟩⟩, ⟨_, _, rfl, rfl, rfl⟩⟩⟩⟩, hc331⟩ := hpa1_0.cellsK hx322
               refine gv_load (t := 3) (A := (Addr.add (elemAddr pa1_0 ((s199 : Int).toNat * 7)) 6)) (.int .i64 x321.2.2.2.2) [] (fun e => by cases e) rfl rfl rfl kr kr kr (inw1 fun w' hC' => ((hc331 w' (fun k hk => (hC'.2 k ((fun k (hk : X0 k) => ltl (hX0 k hk) hB267.size) k hk) (fun hg => nmx_nil k hg hk)).trans (hB267.block k (hX0 k hk)))) 6 _ rfl)) rfl ?_
               refine gv_nil <| gv_goA ?_
               refine gv_pre [65, 66, 67, 68, 69, 70] (bA 75 [0, 1, 2, 3, 4, 5, 6, 7, 8, 9, 10, 11, 12, 13, 14, 15, 16, 17, 18, 19, 20, 21, 22, 23, 24, 25, 26, 27, 28, 29, 30, 31, 32, 33, 34, 35, 36, 37, 38, 39, 40, 41, 42, 43, 44, 45, 46, 47, 48, 49, 50, 51, 52, 53, 54, 55, 56, 57, 58, 59, 60, 61, 62, 63, 64, 65, 66, 67, 68, 69, 70]) 4 kr kr ?_
               refine pN 2 [156, 157] [(157, (.bool (x319.2.2.2.2 != x321.2.2.2.2)))] ?_
               refine gv_split (s := 157) (g := (x319.2.2.2.2 != x321.2.2.2.2)) kr (fun hc338 => ?_) (fun hc338 => ?_)
               ·skip
                replace h3 := ite_t hc338 h3
                refine pN 2 [158, 159] [(158, (.slice pa1_0 (length vs_1) pc1_0)), (159, (.int .i64 s199))] ?_
                refine bindE h3 ?_; clear h3; intro x339 hx340 h3
                refine gv_idxaddr (t := 24) (e := 41) (a := pa1_0) (len := length vs_1) (cap := pc1_0) (kk := .i64) (i := s199) (sz := 7) [] (fun e => by cases e) rfl rfl rfl kr kr Tryz.underlying24 kr ((hpa1_0.below hB267 hX0).has hx340) (idx_spec hx340).1 (idx_spec hx340).2.1 rfl ?_
                refine pN 1 [161] [(161, (.pointer (some (elemAddr pa1_0 ((s199 : Int).toNat * 7)))))] ?_
                refine gv_nil <| gv_goA ?_
                refine gv_stage (Cls w261 []) [71] [(71, some true)] (bA 75 [0, 1, 2, 3, 4, 5, 6, 7, 8, 9, 10, 11, 12, 13, 14, 15, 16, 17, 18, 19, 20, 21, 22, 23, 24, 25, 26, 27, 28, 29, 30, 31, 32, 33, 34, 35, 36, 37, 38, 39, 40, 41, 42, 43, 44, 45, 46, 47, 48, 49, 50, 51, 52, 53, 54, 55, 56, 57, 58, 59, 60, 61, 62, 63, 64, 65, 66, 67, 68, 69, 70, 71]) 3 kr kr (Cls.refl _ _) ?_
                have hC341 := Cls.refl w261 []
                obtain ⟨_, ⟨_, _, rfl, rfl, ⟨_, _, rfl, ⟨_, _, rfl, rfl, ⟨a343, c344, rfl, hr345⟩⟩, ⟨_, _, rfl, ⟨_, _, rfl, rfl, ⟨a346, c347, rfl, hr348⟩⟩, ⟨_, _, rfl, rfl, rfl⟩⟩⟩⟩, hc342⟩ := hpa1_0.cellsK hx340
                refine gv_load (t := 3) (A := (elemAddr pa1_0 ((s199 : Int).toNat * 7))) (.int .i64 x339.1) [] (fun e => by cases e) rfl rfl rfl kr kr kr (inw1 fun w' hC' => ((hc342 w' (fun k hk => (hC'.2 k ((fun k (hk : X0 k) => ltl (hX0 k hk) hB267.size) k hk) (fun hg => nmx_nil k hg hk)).trans (hB267.block k (hX0 k hk)))).zero rfl)) rfl ?_
                refine gv_nil <| gv_goA ?_
                refine gv_pre [72, 73, 74] (bA 75 [0, 1, 2, 3, 4, 5, 6, 7, 8, 9, 10, 11, 12, 13, 14, 15, 16, 17, 18, 19, 20, 21, 22, 23, 24, 25, 26, 27, 28, 29, 30, 31, 32, 33, 34, 35, 36, 37, 38, 39, 40, 41, 42, 43, 44, 45, 46, 47, 48, 49, 50, 51, 52, 53, 54, 55, 56, 57, 58, 59, 60, 61, 62, 63, 64, 65, 66, 67, 68, 69, 70, 71, 72, 73, 74]) 0 kr kr ?_
                refine pN 3 [163, 164, 165] [(165, (.bool (x339.1 == 1)))] ?_
                refine gv_nil <| gv_goA ?_
                refine gv_stageE kr ?_
                have e := sj h3; subst e
                refine gv_goal fun a hd hs hok => ?_
                have hz349 := (nt hg208.size hg262.size)
                exact ⟨hB267, hz349, hk285, hd, hs, okp [1, 12, 14, 165] hok⟩
               ·skip
                replace h3 := ite_f hc338 h3
                refine pN 4 [158, 159, 160, 161] [(161, undef)] ?_
                refine gv_nil <| gv_goA ?_
                refine gv_stage (Cls w261 []) [71] [(71, some true)] (bA 75 [0, 1, 2, 3, 4, 5, 6, 7, 8, 9, 10, 11, 12, 13, 14, 15, 16, 17, 18, 19, 20, 21, 22, 23, 24, 25, 26, 27, 28, 29, 30, 31, 32, 33, 34, 35, 36, 37, 38, 39, 40, 41, 42, 43, 44, 45, 46, 47, 48, 49, 50, 51, 52, 53, 54, 55, 56, 57, 58, 59, 60, 61, 62, 63, 64, 65, 66, 67, 68, 69, 70, 71]) 3 kr kr (Cls.refl _ _) ?_
                have hC350 := Cls.refl w261 []
                refine pN 1 [162] [(162, undef)] ?_
                refine gv_nil <| gv_goA ?_
                refine gv_pre [72, 73, 74] (bA 75 [0, 1, 2, 3, 4, 5, 6, 7, 8, 9, 10, 11, 12, 13, 14, 15, 16, 17, 18, 19, 20, 21, 22, 23, 24, 25, 26, 27, 28, 29, 30, 31, 32, 33, 34, 35, 36, 37, 38, 39, 40, 41, 42, 43, 44, 45, 46, 47, 48, 49, 50, 51, 52, 53, 54, 55, 56, 57, 58, 59, 60, 61, 62, 63, 64, 65, 66, 67, 68, 69, 70, 71, 72, 73, 74]) 0 kr kr ?_
                refine pN 3 [163, 164, 165] [(165, (.bool false))] ?_
                refine gv_nil <| gv_goA ?_
                refine gv_stageE kr ?_
                have e := sj h3; subst e
                refine gv_goal fun a hd hs hok => ?_
                have hz351 := (nt hg208.size hg262.size)
                exact ⟨hB267, hz351, hk285, hd, hs, okp [1, 12, 14, 165] hok⟩
             ·skip
              replace h3 := ite_f hc304 h3
              refine pN 4 [137, 138, 139, 140] [(140, undef)] ?_
              refine gv_nil <| gv_goA ?_
              refine gv_stage (Cls w261 []) [50] [(50, some true)] (bA 75 [0, 1, 2, 3, 4, 5, 6, 7, 8, 9, 10, 11, 12, 13, 14, 15, 16, 17, 18, 19, 20, 21, 22, 23, 24, 25, 26, 27, 28, 29, 30, 31, 32, 33, 34, 35, 36, 37, 38, 39, 40, 41, 42, 43, 44, 45, 46, 47, 48, 49, 50]) 24 kr kr (Cls.refl _ _) ?_
              have hC352 := Cls.refl w261 []
              refine pN 1 [141] [(141, undef)] ?_
              refine gv_nil <| gv_goA ?_
              refine gv_pre [51, 52, 53, 54, 55, 56, 57, 58, 60, 61, 62, 63] (bA 75 [0, 1, 2, 3, 4, 5, 6, 7, 8, 9, 10, 11, 12, 13, 14, 15, 16, 17, 18, 19, 20, 21, 22, 23, 24, 25, 26, 27, 28, 29, 30, 31, 32, 33, 34, 35, 36, 37, 38, 39, 40, 41, 42, 43, 44, 45, 46, 47, 48, 49, 50, 51, 52, 53, 54, 55, 56, 57, 58, 60, 61, 62, 63]) 12 kr kr ?_
              refine pN 6 [142, 143, 144, 145, 146, 147] [(145, (.bool false)), (146, (.slice a128 (length r115.1) c129)), (147, (.int .i64 s199))] ?_
              refine bindE h3 ?_; clear h3; intro x353 hx354 h3
              refine gv_idxaddr (t := 24) (e := 41) (a := a128) (len := length r115.1) (cap := c129) (kk := .i64) (i := s199) (sz := 7) [] (fun e => by cases e) rfl rfl rfl kr kr Tryz.underlying24 kr ((hk285.rd (Y := fun k => blk a128 = some k ∨ X132 k) (fun _ h => .inr h) (fun g e => .inl e)).has hx354) (idx_spec hx354).1 (idx_spec hx354).2.1 rfl ?_
              refine pN 3 [149, 151, 152] [(149, (.pointer (some (Addr.add (elemAddr a128 ((s199 : Int).toNat * 7)) 6)))), (151, (.slice pa1_0 (length vs_1) pc1_0)), (152, (.int .i64 s199))] ?_
              refine bindE h3 ?_; clear h3; intro x355 hx356 h3
              refine gv_idxaddr (t := 24) (e := 41) (a := pa1_0) (len := length vs_1) (cap := pc1_0) (kk := .i64) (i := s199) (sz := 7) [] (fun e => by cases e) rfl rfl rfl kr kr Tryz.underlying24 kr ((hpa1_0.below hB267 hX0).has hx356) (idx_spec hx356).1 (idx_spec hx356).2.1 rfl ?_
              refine pN 1 [154] [(154, (.pointer (some (Addr.add (elemAddr pa1_0 ((s199 : Int).toNat * 7)) 6))))] ?_
              refine gv_nil <| gv_goA ?_
              refine gv_stage (Cls w261 []) [59, 64] [(59, some true), (64, some true)] (bA 75 [0, 1, 2, 3, 4, 5, 6, 7, 8, 9, 10, 11, 12, 13, 14, 15, 16, 17, 18, 19, 20, 21, 22, 23, 24, 25, 26, 27, 28, 29, 30, 31, 32, 33, 34, 35, 36, 37, 38, 39, 40, 41, 42, 43, 44, 45, 46, 47, 48, 49, 50, 51, 52, 53, 54, 55, 56, 57, 58, 59, 60, 61, 62, 63, 64]) 10 kr kr (Cls.refl _ _) ?_
              have hC357 := Cls.refl w261 []
              obtain ⟨_, ⟨_, _, rfl, rfl, ⟨_, _, rfl, ⟨_, _, rfl, rfl, ⟨a359, c360, rfl, hr361⟩⟩, ⟨_, _, rfl, ⟨_, _, rfl, rfl, ⟨a362, c363, rfl, hr364⟩⟩, ⟨_, _, rfl, rfl, rfl⟩⟩⟩⟩, hc358⟩ := hk285.cellsK hx354
              refine gv_load (t := 3) (A := (Addr.add (elemAddr a128 ((s199 : Int).toNat * 7)) 6)) (.int .i64 x353.2.2.2.2) [] (fun e => by cases e) rfl rfl rfl kr kr kr (inw1 fun w' hC' => ((hc358 w' (fun k hk => hC'.2 k ((fun k (hk : blk a128 = some k ∨ X132 k) => hk.elim (fun h => hk285.lt k h) (fun h => hx296 k h)) k hk) (fun hg => (nmx_nil (X := (fun k => blk a128 = some k ∨ X132 k))) k hg hk))) 6 _ rfl)) rfl ?_
              obtain ⟨_, ⟨_, _, rfl, rfl, ⟨_, _, rfl, ⟨_, _, rfl, rfl, ⟨a366, c367, rfl, hr368⟩⟩, ⟨_, _, rfl, ⟨_, _, rfl, rfl, ⟨a369, c370, rfl, hr371⟩⟩, ⟨_, _, rfl, rfl, rfl⟩⟩⟩⟩, hc365⟩ := hpa1_0.cellsK hx356
              refine gv_load (t := 3) (A := (Addr.add (elemAddr pa1_0 ((s199 : Int).toNat * 7)) 6)) (.int .i64 x355.2.2.2.2) [] (fun e => by cases e) rfl rfl rfl kr kr kr (inw1 fun w' hC' => ((hc365 w' (fun k hk => (hC'.2 k ((fun k (hk : X0 k) => ltl (hX0 k hk) hB267.size) k hk) (fun hg => nmx_nil k hg hk)).trans (hB267.block k (hX0 k hk)))) 6 _ rfl)) rfl ?_
              refine gv_nil <| gv_goA ?_
              refine gv_pre [65, 66, 67, 68, 69, 70] (bA 75 [0, 1, 2, 3, 4, 5, 6, 7, 8, 9, 10, 11, 12, 13, 14, 15, 16, 17, 18, 19, 20, 21, 22, 23, 24, 25, 26, 27, 28, 29, 30, 31, 32, 33, 34, 35, 36, 37, 38, 39, 40, 41, 42, 43, 44, 45, 46, 47, 48, 49, 50, 51, 52, 53, 54, 55, 56, 57, 58, 59, 60, 61, 62, 63, 64, 65, 66, 67, 68, 69, 70]) 4 kr kr ?_
              refine pN 2 [156, 157] [(157, (.bool (x353.2.2.2.2 != x355.2.2.2.2)))] ?_
              refine gv_split (s := 157) (g := (x353.2.2.2.2 != x355.2.2.2.2)) kr (fun hc372 => ?_) (fun hc372 => ?_)
              ·skip
               replace h3 := ite_t hc372 h3
               refine pN 2 [158, 159] [(158, (.slice pa1_0 (length vs_1) pc1_0)), (159, (.int .i64 s199))] ?_
               refine gv_sub [1, 12, 14, 145, 157, 158, 159] (σ' := [(1, (.slice pa1_0 (length vs_1) pc1_0)), (12, (.slice a128 (length r115.1) c129)), (14, (.int .i64 s199)), (145, (.bool false)), (157, (.bool true)), (158, (.slice pa1_0 (length vs_1) pc1_0)), (159, (.int .i64 s199))]) kr ?_
               refine bindE h3 ?_; clear h3; intro x373 hx374 h3
               refine gv_idxaddr (t := 24) (e := 41) (a := pa1_0) (len := length vs_1) (cap := pc1_0) (kk := .i64) (i := s199) (sz := 7) [] (fun e => by cases e) rfl rfl rfl kr kr Tryz.underlying24 kr ((hpa1_0.below hB267 hX0).has hx374) (idx_spec hx374).1 (idx_spec hx374).2.1 rfl ?_
               refine pN 1 [161] [(161, (.pointer (some (elemAddr pa1_0 ((s199 : Int).toNat * 7)))))] ?_
               refine gv_nil <| gv_goA ?_
               refine gv_stage (Cls w261 []) [71] [(71, some true)] (bA 75 [0, 1, 2, 3, 4, 5, 6, 7, 8, 9, 10, 11, 12, 13, 14, 15, 16, 17, 18, 19, 20, 21, 22, 23, 24, 25, 26, 27, 28, 29, 30, 31, 32, 33, 34, 35, 36, 37, 38, 39, 40, 41, 42, 43, 44, 45, 46, 47, 48, 49, 50, 51, 52, 53, 54, 55, 56, 57, 58, 59, 60, 61, 62, 63, 64, 65, 66, 67, 68, 69, 70, 71]) 3 kr kr (Cls.refl _ _) ?_
               have hC375 := Cls.refl w261 []
               obtain ⟨_, ⟨_, _, rfl, rfl, ⟨_, _, rfl, ⟨_, _, rfl, rfl, ⟨a377, c378, rfl, hr379⟩⟩, ⟨_, _, rfl, ⟨_, _, rfl, rfl, ⟨a380, c381, rfl, hr382⟩⟩, ⟨_, _, rfl, rfl, rfl⟩⟩⟩⟩, hc376⟩ := hpa1_0.cellsK hx374
               refine gv_load (t := 3) (A := (elemAddr pa1_0 ((s199 : Int).toNat * 7))) (.int .i64 x373.1) [] (fun e => by cases e) rfl rfl rfl kr kr kr (inw1 fun w' hC' => ((hc376 w' (fun k hk => (hC'.2 k ((fun k (hk : X0 k) => ltl (hX0 k hk) hB267.size) k hk) (fun hg => nmx_nil k hg hk)).trans (hB267.block k (hX0 k hk)))).zero rfl)) rfl ?_
               refine gv_nil <| gv_goA ?_
               refine gv_pre [72, 73, 74] (bA 75 [0, 1, 2, 3, 4, 5, 6, 7, 8, 9, 10, 11, 12, 13, 14, 15, 16, 17, 18, 19, 20, 21, 22, 23, 24, 25, 26, 27, 28, 29, 30, 31, 32, 33, 34, 35, 36, 37, 38, 39, 40, 41, 42, 43, 44, 45, 46, 47, 48, 49, 50, 51, 52, 53, 54, 55, 56, 57, 58, 59, 60, 61, 62, 63, 64, 65, 66, 67, 68, 69, 70, 71, 72, 73, 74]) 0 kr kr ?_
               refine pN 3 [163, 164, 165] [(165, (.bool (x373.1 == 1)))] ?_
               refine gv_nil <| gv_goA ?_
               refine gv_stageE kr ?_
               have e := sj h3; subst e
               refine gv_goal fun a hd hs hok => ?_
               have hz383 := (nt hg208.size hg262.size)
               exact ⟨hB267, hz383, hk285, hd, hs, okp [1, 12, 14, 165] hok⟩
              ·skip
               replace h3 := ite_f hc372 h3
               refine pN 4 [158, 159, 160, 161] [(161, undef)] ?_
               refine gv_sub [1, 12, 14, 145, 157, 161] (σ' := [(1, (.slice pa1_0 (length vs_1) pc1_0)), (12, (.slice a128 (length r115.1) c129)), (14, (.int .i64 s199)), (145, (.bool false)), (157, (.bool false)), (161, undef)]) kr ?_
               refine gv_nil <| gv_goA ?_
               refine gv_stage (Cls w261 []) [71] [(71, some true)] (bA 75 [0, 1, 2, 3, 4, 5, 6, 7, 8, 9, 10, 11, 12, 13, 14, 15, 16, 17, 18, 19, 20, 21, 22, 23, 24, 25, 26, 27, 28, 29, 30, 31, 32, 33, 34, 35, 36, 37, 38, 39, 40, 41, 42, 43, 44, 45, 46, 47, 48, 49, 50, 51, 52, 53, 54, 55, 56, 57, 58, 59, 60, 61, 62, 63, 64, 65, 66, 67, 68, 69, 70, 71]) 3 kr kr (Cls.refl _ _) ?_
               have hC384 := Cls.refl w261 []
               refine pN 1 [162] [(162, undef)] ?_
               refine gv_nil <| gv_goA ?_
               refine gv_pre [72, 73, 74] (bA 75 [0, 1, 2, 3, 4, 5, 6, 7, 8, 9, 10, 11, 12, 13, 14, 15, 16, 17, 18, 19, 20, 21, 22, 23, 24, 25, 26, 27, 28, 29, 30, 31, 32, 33, 34, 35, 36, 37, 38, 39, 40, 41, 42, 43, 44, 45, 46, 47, 48, 49, 50, 51, 52, 53, 54, 55, 56, 57, 58, 59, 60, 61, 62, 63, 64, 65, 66, 67, 68, 69, 70, 71, 72, 73, 74]) 0 kr kr ?_
               refine pN 3 [163, 164, 165] [(165, (.bool false))] ?_
               refine gv_nil <| gv_goA ?_
               refine gv_stageE kr ?_
               have e := sj h3; subst e
               refine gv_goal fun a hd hs hok => ?_
               have hz385 := (nt hg208.size hg262.size)
               exact ⟨hB267, hz385, hk285, hd, hs, okp [1, 12, 14, 165] hok⟩
           ·skip
            replace h3 := ite_f hc264 h3
            refine pN 4 [116, 117, 118, 119] [(119, undef)] ?_
            refine gv_nil <| gv_goA ?_
            refine gv_stage (Cls w261 []) [29] [(29, some true)] (bA 75 [0, 1, 2, 3, 4, 5, 6, 7, 8, 9, 10, 11, 12, 13, 14, 15, 16, 17, 18, 19, 20, 21, 22, 23, 24, 25, 26, 27, 28, 29]) 45 kr kr (Cls.refl _ _) ?_
            have hC386 := Cls.refl w261 []
            refine pN 1 [120] [(120, undef)] ?_
            refine gv_nil <| gv_goA ?_
            refine gv_pre [30, 31, 32, 33, 34, 35, 36, 37, 39, 40, 41, 42] (bA 75 [0, 1, 2, 3, 4, 5, 6, 7, 8, 9, 10, 11, 12, 13, 14, 15, 16, 17, 18, 19, 20, 21, 22, 23, 24, 25, 26, 27, 28, 29, 30, 31, 32, 33, 34, 35, 36, 37, 39, 40, 41, 42]) 33 kr kr ?_
            refine pN 6 [121, 122, 123, 124, 125, 126] [(124, (.bool false)), (125, (.slice a128 (length r115.1) c129)), (126, (.int .i64 s199))] ?_
            refine bindE h3 ?_; clear h3; intro x387 hx388 h3
            have hk389 := hk212.grown hg262 hx224 nb
            refine gv_idxaddr (t := 24) (e := 41) (a := a128) (len := length r115.1) (cap := c129) (kk := .i64) (i := s199) (sz := 7) [] (fun e => by cases e) rfl rfl rfl kr kr Tryz.underlying24 kr ((hk389.rd (Y := fun k => blk a128 = some k ∨ X132 k) (fun _ h => .inr h) (fun g e => .inl e)).has hx388) (idx_spec hx388).1 (idx_spec hx388).2.1 rfl ?_
            refine pN 3 [128, 130, 131] [(128, (.pointer (some (Addr.add (elemAddr a128 ((s199 : Int).toNat * 7)) 5)))), (130, (.slice pa1_0 (length vs_1) pc1_0)), (131, (.int .i64 s199))] ?_
            refine bindE h3 ?_; clear h3; intro x390 hx391 h3
            have hB392 := bg hB215 hg262 nb
            refine gv_idxaddr (t := 24) (e := 41) (a := pa1_0) (len := length vs_1) (cap := pc1_0) (kk := .i64) (i := s199) (sz := 7) [] (fun e => by cases e) rfl rfl rfl kr kr Tryz.underlying24 kr ((hpa1_0.below hB392 hX0).has hx391) (idx_spec hx391).1 (idx_spec hx391).2.1 rfl ?_
            refine pN 1 [133] [(133, (.pointer (some (Addr.add (elemAddr pa1_0 ((s199 : Int).toNat * 7)) 5))))] ?_
            refine gv_nil <| gv_goA ?_
            refine gv_stage (Cls w261 []) [38, 43] [(38, some true), (43, some true)] (bA 75 [0, 1, 2, 3, 4, 5, 6, 7, 8, 9, 10, 11, 12, 13, 14, 15, 16, 17, 18, 19, 20, 21, 22, 23, 24, 25, 26, 27, 28, 29, 30, 31, 32, 33, 34, 35, 36, 37, 38, 39, 40, 41, 42, 43]) 31 kr kr (Cls.refl _ _) ?_
            have hC393 := Cls.refl w261 []
            obtain ⟨_, ⟨_, _, rfl, rfl, ⟨_, _, rfl, ⟨_, _, rfl, rfl, ⟨a395, c396, rfl, hr397⟩⟩, ⟨_, _, rfl, ⟨_, _, rfl, rfl, ⟨a398, c399, rfl, hr400⟩⟩, ⟨_, _, rfl, rfl, rfl⟩⟩⟩⟩, hc394⟩ := hk389.cellsK hx388
            have hx401 := ltx hx224 hg262.size
            refine gv_load (t := 9) (A := (Addr.add (elemAddr a128 ((s199 : Int).toNat * 7)) 5)) (.string x387.2.2.2.1) [] (fun e => by cases e) rfl rfl rfl kr kr kr (inw1 fun w' hC' => ((hc394 w' (fun k hk => hC'.2 k ((fun k (hk : blk a128 = some k ∨ X132 k) => hk.elim (fun h => hk389.lt k h) (fun h => hx401 k h)) k hk) (fun hg => (nmx_nil (X := (fun k => blk a128 = some k ∨ X132 k))) k hg hk))) 5 _ rfl)) rfl ?_
            obtain ⟨_, ⟨_, _, rfl, rfl, ⟨_, _, rfl, ⟨_, _, rfl, rfl, ⟨a403, c404, rfl, hr405⟩⟩, ⟨_, _, rfl, ⟨_, _, rfl, rfl, ⟨a406, c407, rfl, hr408⟩⟩, ⟨_, _, rfl, rfl, rfl⟩⟩⟩⟩, hc402⟩ := hpa1_0.cellsK hx391
            refine gv_load (t := 9) (A := (Addr.add (elemAddr pa1_0 ((s199 : Int).toNat * 7)) 5)) (.string x390.2.2.2.1) [] (fun e => by cases e) rfl rfl rfl kr kr kr (inw1 fun w' hC' => ((hc402 w' (fun k hk => (hC'.2 k ((fun k (hk : X0 k) => ltl (hX0 k hk) hB392.size) k hk) (fun hg => nmx_nil k hg hk)).trans (hB392.block k (hX0 k hk)))) 5 _ rfl)) rfl ?_
            refine gv_nil <| gv_goA ?_
            refine gv_pre [44, 45, 46, 47, 48, 49] (bA 75 [0, 1, 2, 3, 4, 5, 6, 7, 8, 9, 10, 11, 12, 13, 14, 15, 16, 17, 18, 19, 20, 21, 22, 23, 24, 25, 26, 27, 28, 29, 30, 31, 32, 33, 34, 35, 36, 37, 38, 39, 40, 41, 42, 43, 44, 45, 46, 47, 48, 49]) 25 kr kr ?_
            refine pN 2 [135, 136] [(136, (.bool (!(x387.2.2.2.1.toList == x390.2.2.2.1.toList))))] ?_
            refine gv_sub [1, 12, 14, 124, 136] (σ' := [(1, (.slice pa1_0 (length vs_1) pc1_0)), (12, (.slice a128 (length r115.1) c129)), (14, (.int .i64 s199)), (124, (.bool false)), (136, (.bool (!(x387.2.2.2.1.toList == x390.2.2.2.1.toList))))]) kr ?_
            refine gv_split (s := 136) (g := (!(x387.2.2.2.1.toList == x390.2.2.2.1.toList))) kr (fun hc409 => ?_) (fun hc409 => ?_)
            ·skip
             replace h3 := ite_t hc409 h3
             refine pN 2 [137, 138] [(137, (.slice pa1_0 (length vs_1) pc1_0)), (138, (.int .i64 s199))] ?_
             refine bindE h3 ?_; clear h3; intro x410 hx411 h3
             refine gv_idxaddr (t := 24) (e := 41) (a := pa1_0) (len := length vs_1) (cap := pc1_0) (kk := .i64) (i := s199) (sz := 7) [] (fun e => by cases e) rfl rfl rfl kr kr Tryz.underlying24 kr ((hpa1_0.below hB392 hX0).has hx411) (idx_spec hx411).1 (idx_spec hx411).2.1 rfl ?_
             refine pN 1 [140] [(140, (.pointer (some (elemAddr pa1_0 ((s199 : Int).toNat * 7)))))] ?_
             refine gv_nil <| gv_goA ?_
             refine gv_stage (Cls w261 []) [50] [(50, some true)] (bA 75 [0, 1, 2, 3, 4, 5, 6, 7, 8, 9, 10, 11, 12, 13, 14, 15, 16, 17, 18, 19, 20, 21, 22, 23, 24, 25, 26, 27, 28, 29, 30, 31, 32, 33, 34, 35, 36, 37, 38, 39, 40, 41, 42, 43, 44, 45, 46, 47, 48, 49, 50]) 24 kr kr (Cls.refl _ _) ?_
             have hC412 := Cls.refl w261 []
             obtain ⟨_, ⟨_, _, rfl, rfl, ⟨_, _, rfl, ⟨_, _, rfl, rfl, ⟨a414, c415, rfl, hr416⟩⟩, ⟨_, _, rfl, ⟨_, _, rfl, rfl, ⟨a417, c418, rfl, hr419⟩⟩, ⟨_, _, rfl, rfl, rfl⟩⟩⟩⟩, hc413⟩ := hpa1_0.cellsK hx411
             refine gv_load (t := 3) (A := (elemAddr pa1_0 ((s199 : Int).toNat * 7))) (.int .i64 x410.1) [] (fun e => by cases e) rfl rfl rfl kr kr kr (inw1 fun w' hC' => ((hc413 w' (fun k hk => (hC'.2 k ((fun k (hk : X0 k) => ltl (hX0 k hk) hB392.size) k hk) (fun hg => nmx_nil k hg hk)).trans (hB392.block k (hX0 k hk)))).zero rfl)) rfl ?_
             refine gv_nil <| gv_goA ?_
             refine gv_pre [51, 52, 53, 54, 55, 56, 57, 58, 60, 61, 62, 63] (bA 75 [0, 1, 2, 3, 4, 5, 6, 7, 8, 9, 10, 11, 12, 13, 14, 15, 16, 17, 18, 19, 20, 21, 22, 23, 24, 25, 26, 27, 28, 29, 30, 31, 32, 33, 34, 35, 36, 37, 38, 39, 40, 41, 42, 43, 44, 45, 46, 47, 48, 49, 50, 51, 52, 53, 54, 55, 56, 57, 58, 60, 61, 62, 63]) 12 kr kr ?_
             refine pN 4 [142, 143, 144, 145] [(145, (.bool (x410.1 == 5)))] ?_
             refine gv_split (s := 145) (g := (x410.1 == 5)) kr (fun hc420 => ?_) (fun hc420 => ?_)
             ·skip
              replace h3 := ite_t hc420 h3
              refine pN 8 [146, 147, 148, 149, 151, 152, 153, 154] [(149, undef), (154, undef)] ?_
              refine gv_nil <| gv_goA ?_
              refine gv_stage (Cls w261 []) [59, 64] [(59, some true), (64, some true)] (bA 75 [0, 1, 2, 3, 4, 5, 6, 7, 8, 9, 10, 11, 12, 13, 14, 15, 16, 17, 18, 19, 20, 21, 22, 23, 24, 25, 26, 27, 28, 29, 30, 31, 32, 33, 34, 35, 36, 37, 38, 39, 40, 41, 42, 43, 44, 45, 46, 47, 48, 49, 50, 51, 52, 53, 54, 55, 56, 57, 58, 59, 60, 61, 62, 63, 64]) 10 kr kr (Cls.refl _ _) ?_
              have hC421 := Cls.refl w261 []
              refine pN 2 [150, 155] [(150, undef), (155, undef)] ?_
              refine gv_nil <| gv_goA ?_
              refine gv_pre [65, 66, 67, 68, 69, 70] (bA 75 [0, 1, 2, 3, 4, 5, 6, 7, 8, 9, 10, 11, 12, 13, 14, 15, 16, 17, 18, 19, 20, 21, 22, 23, 24, 25, 26, 27, 28, 29, 30, 31, 32, 33, 34, 35, 36, 37, 38, 39, 40, 41, 42, 43, 44, 45, 46, 47, 48, 49, 50, 51, 52, 53, 54, 55, 56, 57, 58, 59, 60, 61, 62, 63, 64, 65, 66, 67, 68, 69, 70]) 4 kr kr ?_
              refine pN 6 [156, 157, 158, 159, 160, 161] [(157, undef), (161, undef)] ?_
              refine gv_nil <| gv_goA ?_
              refine gv_stage (Cls w261 []) [71] [(71, some true)] (bA 75 [0, 1, 2, 3, 4, 5, 6, 7, 8, 9, 10, 11, 12, 13, 14, 15, 16, 17, 18, 19, 20, 21, 22, 23, 24, 25, 26, 27, 28, 29, 30, 31, 32, 33, 34, 35, 36, 37, 38, 39, 40, 41, 42, 43, 44, 45, 46, 47, 48, 49, 50, 51, 52, 53, 54, 55, 56, 57, 58, 59, 60, 61, 62, 63, 64, 65, 66, 67, 68, 69, 70, 71]) 3 kr kr (Cls.refl _ _) ?_
              have hC422 := Cls.refl w261 []
              refine pN 1 [162] [(162, undef)] ?_
              refine gv_nil <| gv_goA ?_
              refine gv_pre [72, 73, 74] (bA 75 [0, 1, 2, 3, 4, 5, 6, 7, 8, 9, 10, 11, 12, 13, 14, 15, 16, 17, 18, 19, 20, 21, 22, 23, 24, 25, 26, 27, 28, 29, 30, 31, 32, 33, 34, 35, 36, 37, 38, 39, 40, 41, 42, 43, 44, 45, 46, 47, 48, 49, 50, 51, 52, 53, 54, 55, 56, 57, 58, 59, 60, 61, 62, 63, 64, 65, 66, 67, 68, 69, 70, 71, 72, 73, 74]) 0 kr kr ?_
              refine pN 3 [163, 164, 165] [(165, (.bool true))] ?_
              refine gv_nil <| gv_goA ?_
              refine gv_stageE kr ?_
              have e := sj h3; subst e
              refine gv_goal fun a hd hs hok => ?_
              have hz423 := (nt hg208.size hg262.size)
              exact ⟨hB392, hz423, hk389, hd, hs, okp [1, 12, 14, 165] hok⟩
             ·skip
              replace h3 := ite_f hc420 h3
              refine pN 2 [146, 147] [(146, (.slice a128 (length r115.1) c129)), (147, (.int .i64 s199))] ?_
              refine bindE h3 ?_; clear h3; intro x424 hx425 h3
              refine gv_idxaddr (t := 24) (e := 41) (a := a128) (len := length r115.1) (cap := c129) (kk := .i64) (i := s199) (sz := 7) [] (fun e => by cases e) rfl rfl rfl kr kr Tryz.underlying24 kr ((hk389.rd (Y := fun k => blk a128 = some k ∨ X132 k) (fun _ h => .inr h) (fun g e => .inl e)).has hx425) (idx_spec hx425).1 (idx_spec hx425).2.1 rfl ?_
              refine pN 3 [149, 151, 152] [(149, (.pointer (some (Addr.add (elemAddr a128 ((s199 : Int).toNat * 7)) 6)))), (151, (.slice pa1_0 (length vs_1) pc1_0)), (152, (.int .i64 s199))] ?_
              refine bindE h3 ?_; clear h3; intro x426 hx427 h3
              refine gv_idxaddr (t := 24) (e := 41) (a := pa1_0) (len := length vs_1) (cap := pc1_0) (kk := .i64) (i := s199) (sz := 7) [] (fun e => by cases e) rfl rfl rfl kr kr Tryz.underlying24 kr ((hpa1_0.below hB392 hX0).has hx427) (idx_spec hx427).1 (idx_spec hx427).2.1 rfl ?_
              refine pN 1 [154] [(154, (.pointer (some (Addr.add (elemAddr pa1_0 ((s199 : Int).toNat * 7)) 6))))] ?_
              refine gv_nil <| gv_goA ?_
              refine gv_stage (Cls w261 []) [59, 64] [(59, some true), (64, some true)] (bA 75 [0, 1, 2, 3, 4, 5, 6, 7, 8, 9, 10, 11, 12, 13, 14, 15, 16, 17, 18, 19, 20, 21, 22, 23, 24, 25, 26, 27, 28, 29, 30, 31, 32, 33, 34, 35, 36, 37, 38, 39, 40, 41, 42, 43, 44, 45, 46, 47, 48, 49, 50, 51, 52, 53, 54, 55, 56, 57, 58, 59, 60, 61, 62, 63, 64]) 10 kr kr (Cls.refl _ _) ?_
              have hC428 := Cls.refl w261 []
              obtain ⟨_, ⟨_, _, rfl, rfl, ⟨_, _, rfl, ⟨_, _, rfl, rfl, ⟨a430, c431, rfl, hr432⟩⟩, ⟨_, _, rfl, ⟨_, _, rfl, rfl, ⟨a433, c434, rfl, hr435⟩⟩, ⟨_, _, rfl, rfl, rfl⟩⟩⟩⟩, hc429⟩ := hk389.cellsK hx425
              refine gv_load (t := 3) (A := (Addr.add (elemAddr a128 ((s199 : Int).toNat * 7)) 6)) (.int .i64 x424.2.2.2.2) [] (fun e => by cases e) rfl rfl rfl kr kr kr (inw1 fun w' hC' => ((hc429 w' (fun k hk => hC'.2 k ((fun k (hk : blk a128 = some k ∨ X132 k) => hk.elim (fun h => hk389.lt k h) (fun h => hx401 k h)) k hk) (fun hg => (nmx_nil (X := (fun k => blk a128 = some k ∨ X132 k))) k hg hk))) 6 _ rfl)) rfl ?_
              obtain ⟨_, ⟨_, _, rfl, rfl, ⟨_, _, rfl, ⟨_, _, rfl, rfl, ⟨a437, c438, rfl, hr439⟩⟩, ⟨_, _, rfl, ⟨_, _, rfl, rfl, ⟨a440, c441, rfl, hr442⟩⟩, ⟨_, _, rfl, rfl, rfl⟩⟩⟩⟩, hc436⟩ := hpa1_0.cellsK hx427
              refine gv_load (t := 3) (A := (Addr.add (elemAddr pa1_0 ((s199 : Int).toNat * 7)) 6)) (.int .i64 x426.2.2.2.2) [] (fun e => by cases e) rfl rfl rfl kr kr kr (inw1 fun w' hC' => ((hc436 w' (fun k hk => (hC'.2 k ((fun k (hk : X0 k) => ltl (hX0 k hk) hB392.size) k hk) (fun hg => nmx_nil k hg hk)).trans (hB392.block k (hX0 k hk)))) 6 _ rfl)) rfl ?_
              refine gv_nil <| gv_goA ?_
              refine gv_pre [65, 66, 67, 68, 69, 70] (bA 75 [0, 1, 2, 3, 4, 5, 6, 7, 8, 9, 10, 11, 12, 13, 14, 15, 16, 17, 18, 19, 20, 21, 22, 23, 24, 25, 26, 27, 28, 29, 30, 31, 32, 33, 34, 35, 36, 37, 38, 39, 40, 41, 42, 43, 44, 45, 46, 47, 48, 49, 50, 51, 52, 53, 54, 55, 56, 57, 58, 59, 60, 61, 62, 63, 64, 65, 66, 67, 68, 69, 70]) 4 kr kr ?_
              refine pN 2 [156, 157] [(157, (.bool (x424.2.2.2.2 != x426.2.2.2.2)))] ?_
              refine gv_split (s := 157) (g := (x424.2.2.2.2 != x426.2.2.2.2)) kr (fun hc443 => ?_) (fun hc443 => ?_)
              ·skip
               replace h3 := ite_t hc443 h3
               refine pN 2 [158, 159] [(158, (.slice pa1_0 (length vs_1) pc1_0)), (159, (.int .i64 s199))] ?_
               refine gv_sub [1, 12, 14, 145, 157, 158, 159] (σ' := [(1, (.slice pa1_0 (length vs_1) pc1_0)), (12, (.slice a128 (length r115.1) c129)), (14, (.int .i64 s199)), (145, (.bool false)), (157, (.bool true)), (158, (.slice pa1_0 (length vs_1) pc1_0)), (159, (.int .i64 s199))]) kr ?_
               refine bindE h3 ?_; clear h3; intro x444 hx445 h3
               refine gv_idxaddr (t := 24) (e := 41) (a := pa1_0) (len := length vs_1) (cap := pc1_0) (kk := .i64) (i := s199) (sz := 7) [] (fun e => by cases e) rfl rfl rfl kr kr Tryz.underlying24 kr ((hpa1_0.below hB392 hX0).has hx445) (idx_spec hx445).1 (idx_spec hx445).2.1 rfl ?_
               refine pN 1 [161] [(161, (.pointer (some (elemAddr pa1_0 ((s199 : Int).toNat * 7)))))] ?_
               refine gv_nil <| gv_goA ?_
               refine gv_stage (Cls w261 []) [71] [(71, some true)] (bA 75 [0, 1, 2, 3, 4, 5, 6, 7, 8, 9, 10, 11, 12, 13, 14, 15, 16, 17, 18, 19, 20, 21, 22, 23, 24, 25, 26, 27, 28, 29, 30, 31, 32, 33, 34, 35, 36, 37, 38, 39, 40, 41, 42, 43, 44, 45, 46, 47, 48, 49, 50, 51, 52, 53, 54, 55, 56, 57, 58, 59, 60, 61, 62, 63, 64, 65, 66, 67, 68, 69, 70, 71]) 3 kr kr (Cls.refl _ _) ?_
               have hC446 := Cls.refl w261 []
               obtain ⟨_, ⟨_, _, rfl, rfl, ⟨_, _, rfl, ⟨_, _, rfl, rfl, ⟨a448, c449, rfl, hr450⟩⟩, ⟨_, _, rfl, ⟨_, _, rfl, rfl, ⟨a451, c452, rfl, hr453⟩⟩, ⟨_, _, rfl, rfl, rfl⟩⟩⟩⟩, hc447⟩ := hpa1_0.cellsK hx445
               refine gv_load (t := 3) (A := (elemAddr pa1_0 ((s199 : Int).toNat * 7))) (.int .i64 x444.1) [] (fun e => by cases e) rfl rfl rfl kr kr kr (inw1 fun w' hC' => ((hc447 w' (fun k hk => (hC'.2 k ((fun k (hk : X0 k) => ltl (hX0 k hk) hB392.size) k hk) (fun hg => nmx_nil k hg hk)).trans (hB392.block k (hX0 k hk)))).zero rfl)) rfl ?_
               refine gv_nil <| gv_goA ?_
               refine gv_pre [72, 73, 74] (bA 75 [0, 1, 2, 3, 4, 5, 6, 7, 8, 9, 10, 11, 12, 13, 14, 15, 16, 17, 18, 19, 20, 21, 22, 23, 24, 25, 26, 27, 28, 29, 30, 31, 32, 33, 34, 35, 36, 37, 38, 39, 40, 41, 42, 43, 44, 45, 46, 47, 48, 49, 50, 51, 52, 53, 54, 55, 56, 57, 58, 59, 60, 61, 62, 63, 64, 65, 66, 67, 68, 69, 70, 71, 72, 73, 74]) 0 kr kr ?_
               refine pN 3 [163, 164, 165] [(165, (.bool (x444.1 == 1)))] ?_
               refine gv_nil <| gv_goA ?_
               refine gv_stageE kr ?_
               have e := sj h3; subst e
               refine gv_goal fun a hd hs hok => ?_
               have hz454 := (nt hg208.size hg262.size)
               exact ⟨hB392, hz454, hk389, hd, hs, okp [1, 12, 14, 165] hok⟩
              ·skip
               replace h3 := ite_f hc443 h3
               refine pN 4 [158, 159, 160, 161] [(161, undef)] ?_
               refine gv_sub [1, 12, 14, 145, 157, 161] (σ' := [(1, (.slice pa1_0 (length vs_1) pc1_0)), (12, (.slice a128 (length r115.1) c129)), (14, (.int .i64 s199)), (145, (.bool false)), (157, (.bool false)), (161, undef)]) kr ?_
               refine gv_nil <| gv_goA ?_
               refine gv_stage (Cls w261 []) [71] [(71, some true)] (bA 75 [0, 1, 2, 3, 4, 5, 6, 7, 8, 9, 10, 11, 12, 13, 14, 15, 16, 17, 18, 19, 20, 21, 22, 23, 24, 25, 26, 27, 28, 29, 30, 31, 32, 33, 34, 35, 36, 37, 38, 39, 40, 41, 42, 43, 44, 45, 46, 47, 48, 49, 50, 51, 52, 53, 54, 55, 56, 57, 58, 59, 60, 61, 62, 63, 64, 65, 66, 67, 68, 69, 70, 71]) 3 kr kr (Cls.refl _ _) ?_
               have hC455 := Cls.refl w261 []
               refine pN 1 [162] [(162, undef)] ?_
               refine gv_nil <| gv_goA ?_
               refine gv_pre [72, 73, 74] (bA 75 [0, 1, 2, 3, 4, 5, 6, 7, 8, 9, 10, 11, 12, 13, 14, 15, 16, 17, 18, 19, 20, 21, 22, 23, 24, 25, 26, 27, 28, 29, 30, 31, 32, 33, 34, 35, 36, 37, 38, 39, 40, 41, 42, 43, 44, 45, 46, 47, 48, 49, 50, 51, 52, 53, 54, 55, 56, 57, 58, 59, 60, 61, 62, 63, 64, 65, 66, 67, 68, 69, 70, 71, 72, 73, 74]) 0 kr kr ?_
               refine pN 3 [163, 164, 165] [(165, (.bool false))] ?_
               refine gv_nil <| gv_goA ?_
               refine gv_stageE kr ?_
               have e := sj h3; subst e
               refine gv_goal fun a hd hs hok => ?_
               have hz456 := (nt hg208.size hg262.size)
               exact ⟨hB392, hz456, hk389, hd, hs, okp [1, 12, 14, 165] hok⟩
            ·skip
             replace h3 := ite_f hc409 h3
             refine pN 4 [137, 138, 139, 140] [(140, undef)] ?_
             refine gv_nil <| gv_goA ?_
             refine gv_stage (Cls w261 []) [50] [(50, some true)] (bA 75 [0, 1, 2, 3, 4, 5, 6, 7, 8, 9, 10, 11, 12, 13, 14, 15, 16, 17, 18, 19, 20, 21, 22, 23, 24, 25, 26, 27, 28, 29, 30, 31, 32, 33, 34, 35, 36, 37, 38, 39, 40, 41, 42, 43, 44, 45, 46, 47, 48, 49, 50]) 24 kr kr (Cls.refl _ _) ?_
             have hC457 := Cls.refl w261 []
             refine pN 1 [141] [(141, undef)] ?_
             refine gv_nil <| gv_goA ?_
             refine gv_pre [51, 52, 53, 54, 55, 56, 57, 58, 60, 61, 62, 63] (bA 75 [0, 1, 2, 3, 4, 5, 6, 7, 8, 9, 10, 11, 12, 13, 14, 15, 16, 17, 18, 19, 20, 21, 22, 23, 24, 25, 26, 27, 28, 29, 30, 31, 32, 33, 34, 35, 36, 37, 38, 39, 40, 41, 42, 43, 44, 45, 46, 47, 48, 49, 50, 51, 52, 53, 54, 55, 56, 57, 58, 60, 61, 62, 63]) 12 kr kr ?_
             refine pN 6 [142, 143, 144, 145, 146, 147] [(145, (.bool false)), (146, (.slice a128 (length r115.1) c129)), (147, (.int .i64 s199))] ?_
             refine bindE h3 ?_; clear h3; intro x458 hx459 h3
             refine gv_idxaddr (t := 24) (e := 41) (a := a128) (len := length r115.1) (cap := c129) (kk := .i64) (i := s199) (sz := 7) [] (fun e => by cases e) rfl rfl rfl kr kr Tryz.underlying24 kr ((hk389.rd (Y := fun k => blk a128 = some k ∨ X132 k) (fun _ h => .inr h) (fun g e => .inl e)).has hx459) (idx_spec hx459).1 (idx_spec hx459).2.1 rfl ?_
             refine pN 3 [149, 151, 152] [(149, (.pointer (some (Addr.add (elemAddr a128 ((s199 : Int).toNat * 7)) 6)))), (151, (.slice pa1_0 (length vs_1) pc1_0)), (152, (.int .i64 s199))] ?_
             refine bindE h3 ?_; clear h3; intro x460 hx461 h3
             refine gv_idxaddr (t := 24) (e := 41) (a := pa1_0) (len := length vs_1) (cap := pc1_0) (kk := .i64) (i := s199) (sz := 7) [] (fun e => by cases e) rfl rfl rfl kr kr Tryz.underlying24 kr ((hpa1_0.below hB392 hX0).has hx461) (idx_spec hx461).1 (idx_spec hx461).2.1 rfl ?_
             refine pN 1 [154] [(154, (.pointer (some (Addr.add (elemAddr pa1_0 ((s199 : Int).toNat * 7)) 6))))] ?_
             refine gv_nil <| gv_goA ?_
             refine gv_stage (Cls w261 []) [59, 64] [(59, some true), (64, some true)] (bA 75 [0, 1, 2, 3, 4, 5, 6, 7, 8, 9, 10, 11, 12, 13, 14, 15, 16, 17, 18, 19, 20, 21, 22, 23, 24, 25, 26, 27, 28, 29, 30, 31, 32, 33, 34, 35, 36, 37, 38, 39, 40, 41, 42, 43, 44, 45, 46, 47, 48, 49, 50, 51, 52, 53, 54, 55, 56, 57, 58, 59, 60, 61, 62, 63, 64]) 10 kr kr (Cls.refl _ _) ?_
             have hC462 := Cls.refl w261 []
             obtain ⟨_, ⟨_, _, rfl, rfl, ⟨_, _, rfl, ⟨_, _, rfl, rfl, ⟨a464, c465, rfl, hr466⟩⟩, ⟨_, _, rfl, ⟨_, _, rfl, rfl, ⟨a467, c468, rfl, hr469⟩⟩, ⟨_, _, rfl, rfl, rfl⟩⟩⟩⟩, hc463⟩ := hk389.cellsK hx459
             refine gv_load (t := 3) (A := (Addr.add (elemAddr a128 ((s199 : Int).toNat * 7)) 6)) (.int .i64 x458.2.2.2.2) [] (fun e => by cases e) rfl rfl rfl kr kr kr (inw1 fun w' hC' => ((hc463 w' (fun k hk => hC'.2 k ((fun k (hk : blk a128 = some k ∨ X132 k) => hk.elim (fun h => hk389.lt k h) (fun h => hx401 k h)) k hk) (fun hg => (nmx_nil (X := (fun k => blk a128 = some k ∨ X132 k))) k hg hk))) 6 _ rfl)) rfl ?_
             obtain ⟨_, ⟨_, _, rfl, rfl, ⟨_, _, rfl, ⟨_, _, rfl, rfl, ⟨a471, c472, rfl, hr473⟩⟩, ⟨_, _, rfl, ⟨_, _, rfl, rfl, ⟨a474, c475, rfl, hr476⟩⟩, ⟨_, _, rfl, rfl, rfl⟩⟩⟩⟩, hc470⟩ := hpa1_0.cellsK hx461
             refine gv_load (t := 3) (A := (Addr.add (elemAddr pa1_0 ((s199 : Int).toNat * 7)) 6)) (.int .i64 x460.2.2.2.2) [] (fun e => by cases e) rfl rfl rfl kr kr kr (inw1 fun w' hC' => ((hc470 w' (fun k hk => (hC'.2 k ((fun k (hk : X0 k) => ltl (hX0 k hk) hB392.size) k hk) (fun hg => nmx_nil k hg hk)).trans (hB392.block k (hX0 k hk)))) 6 _ rfl)) rfl ?_
             refine gv_nil <| gv_goA ?_
             refine gv_pre [65, 66, 67, 68, 69, 70] (bA 75 [0, 1, 2, 3, 4, 5, 6, 7, 8, 9, 10, 11, 12, 13, 14, 15, 16, 17, 18, 19, 20, 21, 22, 23, 24, 25, 26, 27, 28, 29, 30, 31, 32, 33, 34, 35, 36, 37, 38, 39, 40, 41, 42, 43, 44, 45, 46, 47, 48, 49, 50, 51, 52, 53, 54, 55, 56, 57, 58, 59, 60, 61, 62, 63, 64, 65, 66, 67, 68, 69, 70]) 4 kr kr ?_
             refine pN 2 [156, 157] [(157, (.bool (x458.2.2.2.2 != x460.2.2.2.2)))] ?_
             refine gv_split (s := 157) (g := (x458.2.2.2.2 != x460.2.2.2.2)) kr (fun hc477 => ?_) (fun hc477 => ?_)
             ·skip
              replace h3 := ite_t hc477 h3
              refine pN 2 [158, 159] [(158, (.slice pa1_0 (length vs_1) pc1_0)), (159, (.int .i64 s199))] ?_
              refine bindE h3 ?_; clear h3; intro x478 hx479 h3
              refine gv_idxaddr (t := 24) (e := 41) (a := pa1_0) (len := length vs_1) (cap := pc1_0) (kk := .i64) (i := s199) (sz := 7) [] (fun e => by cases e) rfl rfl rfl kr kr Tryz.underlying24 kr ((hpa1_0.below hB392 hX0).has hx479) (idx_spec hx479).1 (idx_spec hx479).2.1 rfl ?_
              refine pN 1 [161] [(161, (.pointer (some (elemAddr pa1_0 ((s199 : Int).toNat * 7)))))] ?_
              refine gv_nil <| gv_goA ?_
              refine gv_stage (Cls w261 []) [71] [(71, some true)] (bA 75 [0, 1, 2, 3, 4, 5, 6, 7, 8, 9, 10, 11, 12, 13, 14, 15, 16, 17, 18, 19, 20, 21, 22, 23, 24, 25, 26, 27, 28, 29, 30, 31, 32, 33, 34, 35, 36, 37, 38, 39, 40, 41, 42, 43, 44, 45, 46, 47, 48, 49, 50, 51, 52, 53, 54, 55, 56, 57, 58, 59, 60, 61, 62, 63, 64, 65, 66, 67, 68, 69, 70, 71]) 3 kr kr (Cls.refl _ _) ?_
              have hC480 := Cls.refl w261 []
              obtain ⟨_, ⟨_, _, rfl, rfl, ⟨_, _, rfl, ⟨_, _, rfl, rfl, ⟨a482, c483, rfl, hr484⟩⟩, ⟨_, _, rfl, ⟨_, _, rfl, rfl, ⟨a485, c486, rfl, hr487⟩⟩, ⟨_, _, rfl, rfl, rfl⟩⟩⟩⟩, hc481⟩ := hpa1_0.cellsK hx479
              refine gv_load (t := 3) (A := (elemAddr pa1_0 ((s199 : Int).toNat * 7))) (.int .i64 x478.1) [] (fun e => by cases e) rfl rfl rfl kr kr kr (inw1 fun w' hC' => ((hc481 w' (fun k hk => (hC'.2 k ((fun k (hk : X0 k) => ltl (hX0 k hk) hB392.size) k hk) (fun hg => nmx_nil k hg hk)).trans (hB392.block k (hX0 k hk)))).zero rfl)) rfl ?_
              refine gv_nil <| gv_goA ?_
              refine gv_pre [72, 73, 74] (bA 75 [0, 1, 2, 3, 4, 5, 6, 7, 8, 9, 10, 11, 12, 13, 14, 15, 16, 17, 18, 19, 20, 21, 22, 23, 24, 25, 26, 27, 28, 29, 30, 31, 32, 33, 34, 35, 36, 37, 38, 39, 40, 41, 42, 43, 44, 45, 46, 47, 48, 49, 50, 51, 52, 53, 54, 55, 56, 57, 58, 59, 60, 61, 62, 63, 64, 65, 66, 67, 68, 69, 70, 71, 72, 73, 74]) 0 kr kr ?_
              refine pN 3 [163, 164, 165] [(165, (.bool (x478.1 == 1)))] ?_
              refine gv_sub [1, 12, 14, 165] (σ' := [(1, (.slice pa1_0 (length vs_1) pc1_0)), (12, (.slice a128 (length r115.1) c129)), (14, (.int .i64 s199)), (165, (.bool (x478.1 == 1)))]) kr ?_
              refine gv_nil <| gv_goA ?_
              refine gv_stageE kr ?_
              have e := sj h3; subst e
              refine gv_goal fun a hd hs hok => ?_
              have hz488 := (nt hg208.size hg262.size)
              exact ⟨hB392, hz488, hk389, hd, hs, okp [1, 12, 14, 165] hok⟩
             ·skip
              replace h3 := ite_f hc477 h3
              refine pN 4 [158, 159, 160, 161] [(161, undef)] ?_
              refine gv_nil <| gv_goA ?_
              refine gv_stage (Cls w261 []) [71] [(71, some true)] (bA 75 [0, 1, 2, 3, 4, 5, 6, 7, 8, 9, 10, 11, 12, 13, 14, 15, 16, 17, 18, 19, 20, 21, 22, 23, 24, 25, 26, 27, 28, 29, 30, 31, 32, 33, 34, 35, 36, 37, 38, 39, 40, 41, 42, 43, 44, 45, 46, 47, 48, 49, 50, 51, 52, 53, 54, 55, 56, 57, 58, 59, 60, 61, 62, 63, 64, 65, 66, 67, 68, 69, 70, 71]) 3 kr kr (Cls.refl _ _) ?_
              have hC489 := Cls.refl w261 []
              refine pN 1 [162] [(162, undef)] ?_
              refine gv_nil <| gv_goA ?_
              refine gv_pre [72, 73, 74] (bA 75 [0, 1, 2, 3, 4, 5, 6, 7, 8, 9, 10, 11, 12, 13, 14, 15, 16, 17, 18, 19, 20, 21, 22, 23, 24, 25, 26, 27, 28, 29, 30, 31, 32, 33, 34, 35, 36, 37, 38, 39, 40, 41, 42, 43, 44, 45, 46, 47, 48, 49, 50, 51, 52, 53, 54, 55, 56, 57, 58, 59, 60, 61, 62, 63, 64, 65, 66, 67, 68, 69, 70, 71, 72, 73, 74]) 0 kr kr ?_
              refine pN 3 [163, 164, 165] [(165, (.bool false))] ?_
              refine gv_nil <| gv_goA ?_
              refine gv_stageE kr ?_
              have e := sj h3; subst e
              refine gv_goal fun a hd hs hok => ?_
              have hz490 := (nt hg208.size hg262.size)
              exact ⟨hB392, hz490, hk389, hd, hs, okp [1, 12, 14, 165] hok⟩
         ·rintro a w206 ⟨hB491, hz492, hk493, hd, hs, hok⟩
          refine gv_in ?_ hd hs hok
          clear hd hs hok
          have hz494 := (nt hz202 hz492)
          clear hc204 hk203 hB201 hc195 hk194 hB192
          refine gv_cond (b := j205) kr (fun hc495 => ?_) (fun hc495 => ?_)
          ·replace h2 := ite_t hc495 h2
           refine gv_seq <| gv_region <| pN 1 [4] [(4, (.bool false))] ?_
           refine gv_nil <| gv_cret ?_
           have e := sj h2; subst e
           replace h1 := congrArg some (hR2 _ rfl)
           have e := sj h1; subst e
           replace h0 := cont_inr h0
           have e := sj h0; subst e
           refine gv_ret (gv_done [(.bool false)] rfl ⟨kr, trivial⟩ ?_)
           exact ⟨grown_of_below hB491, rfl⟩
          ·replace h2 := ite_f hc495 h2
           refine gv_skip <| gv_blk <| gv_region <| pN 3 [14, 89, 90] [(14, (.int .i64 (IntKind.i64.wrap (s199 + 1))))] ?_
           refine gv_nil ?_
           have e := sj h2; subst e
           refine gv_goal fun a hd hs hok => ?_
           have hz496 := hz494
           exact ⟨(IntKind.i64.wrap (s199 + 1)), rfl, hB491, hz496, hk493, hd, hs, okp [1, 12, 14] hok⟩
        ·replace h2 := ite_f hc204 h2
         refine gv_cexit <| gv_exit rfl ?_
         have e := sj h2; subst e
         replace h1 := congrArg some (hR2 _ rfl)
         have e := sj h1; subst e
         refine gv_goal fun a hd hs hok => ?_
         have hz497 := hz202
         exact ⟨(), rfl, hB201, hz497, hd, hs, okp [] hok⟩
      ·rintro a w198 ⟨s197, e, hB498, hz499, hd, hs, hok⟩
       subst e
       refine gv_in ?_ hd hs hok
       clear hd hs hok
       replace h0 := cont_inl h0
       clear hz499 hc195 hk194 hz193 hB192 hg144 hg139 hx136 hx135 hl134
       refine gv_seq <| gv_region <| pN 1 [4] [(4, (.bool true))] ?_
       refine gv_nil <| gv_cret ?_
       have e := sj h0; subst e
       refine gv_ret (gv_done [(.bool true)] rfl ⟨kr, trivial⟩ ?_)
       exact ⟨grown_of_below hB498, rfl⟩

end Go.Proofs.YtdpmkphjcjacfaaGreatDoor
