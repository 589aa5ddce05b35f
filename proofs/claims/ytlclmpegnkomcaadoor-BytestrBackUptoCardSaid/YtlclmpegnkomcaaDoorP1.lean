import Derived.Test.YtlclmpegnkomcaaDoorP0
set_option linter.all false
set_option maxHeartbeats 4000000
set_option maxRecDepth 100000
/- Own work, printed by a program of mine: the walk of each function: a call returns what the plain function says. -/
namespace Go.Proofs.YtlclmpegnkomcaaDoor
open Go.Gv Go.Gv.D Go.RowKit
theorem bytestr_FromBase64_ok (fuel : Nat) (s_0 : ByteArray) (w0 : World)  (r0 : ((List UInt8) × (Int × Int))) (h0 : bytestr_FromBase64 fuel s_0 = some r0) :
    Calls Tryd.prog 18 ([(.string s_0)] : List Value).toArray w0 (Ret fun v w' => w0.grownBy w' none ∧ ∃ (a0_0r : Option Addr) (c0_0r : Nat), v = tup [(.slice a0_0r (List.length r0.1) c0_0r), (.agg #[(.int .i64 r0.2.1), (.int .i64 r0.2.2)])] ∧ Gv.Own bE 5 w' (fun _ => False) a0_0r c0_0r r0.1 ∧ (∀ g, blk a0_0r = some g → w0.heap.size ≤ g)) := by
 have hB0 : Below w0.heap.size w0 w0 := Below.refl _ _
 unfold bytestr_FromBase64 at h0
 refine calls_run Tryd.func18 rfl Tryd.ntmps18 (by kernel_rfl) ?_
 refine gv_sub [0] (σ' := [(0, (.string s_0))]) (by kernel_rfl) ?_
 refine gv_seq <| gv_region <| gv_pureN 1 [2] [] (by kernel_rfl) ?_
 refine gv_new0 (fun b => .pointer (some ⟨b, 0, none⟩)) #[(.int .i64 0), (.int .i64 0)] 25 (by kernel_rfl) (by kernel_rfl) ?_
 intro b1 w2 hg3 hb4 hbe5 hz6
 refine gv_nil <| gv_seq <| gv_block <| gv_seq <| gv_region <| gv_pureN 4 [13, 14, 15, 16] [(13, (.bool (decide (((ByteArray.size s_0 : Nat) : Int) > 4000))))] (by kernel_rfl) ?_
 refine bindE h0 ?_; clear h0; intro n7 hn8 h0
 refine gv_name (s := 13) (v := (.bool (decide (((ByteArray.size s_0 : Nat) : Int) > 4000)))) (v' := (.bool n7)) (by kernel_rfl) (congrArg (Value.bool) (sj hn8)) ?_
 refine gv_nil <| gv_cond (b := n7) (by kernel_rfl) (fun hc9 => ?_) (fun hc9 => ?_)
 ·replace h0 := ite_t hc9 h0
  refine gv_seq <| gv_region <| bindE h0 ?_; clear h0; intro r10 hr11 h0
  refine gv_call0 (by kernel_rfl) rfl (by kernel_rfl) enters38 (bytestr_at_ok fuel 3 (-1) w2  r10 hr11) ?_
  rintro v14 w12 ⟨hg13, rfl⟩
  refine gv_pureN 1 [2] [(2, (.slice none (List.length ([] : List UInt8)) 0))] (by kernel_rfl) ?_
  have hk19 := hb4.grown hg13 nb
  refine gv_store0 25 0 (.agg #[(.int .i64 r10.1), (.int .i64 r10.2)]) #[(.int .i64 r10.1), (.int .i64 r10.2)] hk19 (by kernel_rfl) (by kernel_rfl) (by kernel_rfl) ?_
  intro w15 hg16 hb17 hz18
  refine gv_nil <| gv_cret ?_
  have e := sj h0; subst e
  refine gv_ret (gv_done [(.slice none (List.length ([] : List UInt8)) 0), (.agg #[(.int .i64 r10.1), (.int .i64 r10.2)])] rfl ⟨(by kernel_rfl), ⟨⟨b1, 0, none⟩, (by kernel_rfl), run_loadVar_row w15 b1 _ 25 _ _ _ hb17 Tryd.underlying25 rfl (by kernel_rfl)⟩, trivial⟩ ?_)
  have hg20 := (grown_trans hg3 hg13)
  have hB21 := bg hB0 hg20 nb
  have hlo22 : w0.heap.size ≤ b1 := lob hbe5 hB0.size
  have hB23 := bg hB21 hg16 (rowlo hlo22)
  exact ⟨grown_of_below hB23, none, 0, rfl, (Gv.Own.nil bE 5 w15 (fun _ => False)), (fun _ h => by cases h)⟩
 ·replace h0 := ite_f hc9 h0
  refine gv_seq <| gv_region <| gv_pureN 5 [18, 19, 20, 21, 22] [(18, (.bool (((((ByteArray.size s_0 : Nat) : Int)).tmod 4) != 0)))] (by kernel_rfl) ?_
  refine bindE h0 ?_; clear h0; intro n24 hn25 h0
  refine gv_name (s := 18) (v := (.bool (((((ByteArray.size s_0 : Nat) : Int)).tmod 4) != 0))) (v' := (.bool n24)) (by kernel_rfl) (congrArg (Value.bool) (sj hn25)) ?_
  refine gv_nil <| gv_cond (b := n24) (by kernel_rfl) (fun hc26 => ?_) (fun hc26 => ?_)
  ·replace h0 := ite_t hc26 h0
   refine gv_seq <| gv_region <| bindE h0 ?_; clear h0; intro r27 hr28 h0
   refine gv_call0 (by kernel_rfl) rfl (by kernel_rfl) enters38 (bytestr_at_ok fuel 9 (-1) w2  r27 hr28) ?_
   rintro v31 w29 ⟨hg30, rfl⟩
   refine gv_pureN 1 [2] [(2, (.slice none (List.length ([] : List UInt8)) 0))] (by kernel_rfl) ?_
   have hk36 := hb4.grown hg30 nb
   refine gv_store0 25 0 (.agg #[(.int .i64 r27.1), (.int .i64 r27.2)]) #[(.int .i64 r27.1), (.int .i64 r27.2)] hk36 (by kernel_rfl) (by kernel_rfl) (by kernel_rfl) ?_
   intro w32 hg33 hb34 hz35
   refine gv_nil <| gv_cret ?_
   have e := sj h0; subst e
   refine gv_ret (gv_done [(.slice none (List.length ([] : List UInt8)) 0), (.agg #[(.int .i64 r27.1), (.int .i64 r27.2)])] rfl ⟨(by kernel_rfl), ⟨⟨b1, 0, none⟩, (by kernel_rfl), run_loadVar_row w32 b1 _ 25 _ _ _ hb34 Tryd.underlying25 rfl (by kernel_rfl)⟩, trivial⟩ ?_)
   have hg37 := (grown_trans hg3 hg30)
   have hB38 := bg hB0 hg37 nb
   have hlo39 : w0.heap.size ≤ b1 := lob hbe5 hB0.size
   have hB40 := bg hB38 hg33 (rowlo hlo39)
   exact ⟨grown_of_below hB40, none, 0, rfl, (Gv.Own.nil bE 5 w32 (fun _ => False)), (fun _ h => by cases h)⟩
  ·replace h0 := ite_f hc26 h0
   refine gv_skip <| gv_blk <| gv_seq <| gv_region <| gv_pureN 1 [4] [(4, (.slice none (List.length ([] : List UInt8)) 0))] (by kernel_rfl) ?_
   refine gv_nil <| gv_seq <| gv_seq <| gv_region <| gv_pureN 1 [5] [(5, (.int .i64 0))] (by kernel_rfl) ?_
   refine gv_nil <| bindE h0 ?_; clear h0; intro j41 h1 h0
   refine gv_cut_code (J := fun a w42 => ∃ (a4_0j : Option Addr) (c4_0j : Nat), Below w0.heap.size w0 w42 ∧ w2.heap.size ≤ w42.heap.size ∧ Gv.Own bE 5 w42 (fun _ => False) a4_0j c4_0j j41 ∧ (∀ g, blk a4_0j = some g → w0.heap.size ≤ g) ∧ (∀ g, blk a4_0j = some g → ¬ (· = b1) g) ∧ ¬ (fun k => blk a4_0j = some k) b1 ∧ Box w42 b1 25 #[(.int .i64 0), (.int .i64 0)] ∧ a.defers = [] ∧ a.tmps.size = 77 ∧ Ok [(0, (.string s_0)), (3, (bp b1)), (4, (.slice a4_0j (List.length j41) c4_0j))] a.tmps) ?_ ?_
   ·skip
    refine gv_block <| gv_loop (A := fun (s43 : ((List UInt8) × Int)) a w44 => ∃ (a4_0j : Option Addr) (c4_0j : Nat), Below w0.heap.size w0 w44 ∧ w2.heap.size ≤ w44.heap.size ∧ Gv.Own bE 5 w44 (fun _ => False) a4_0j c4_0j s43.1 ∧ (∀ g, blk a4_0j = some g → w0.heap.size ≤ g) ∧ (∀ g, blk a4_0j = some g → ¬ (· = b1) g) ∧ ¬ (fun k => blk a4_0j = some k) b1 ∧ Box w44 b1 25 #[(.int .i64 0), (.int .i64 0)] ∧ a.defers = [] ∧ a.tmps.size = 77 ∧ Ok [(0, (.string s_0)), (3, (bp b1)), (4, (.slice a4_0j (List.length s43.1) c4_0j)), (5, (.int .i64 s43.2))] a.tmps) h1 ?_ ?_
    ·intro a hd hs hok
     have hB45 := bg hB0 hg3 nb
     exact ⟨none, 0, hB45, (Nat.le_refl _), (Gv.Own.nil bE 5 w2 (fun _ => False)), (fun _ h => by cases h), (fun _ h => by cases h), (fun h => by cases h), hb4, hd, hs, ok_pick [0, 3, 4, 5] hok (by kernel_rfl)⟩
    ·rintro s43 r2 h2 hR2 a w44 ⟨a48, c49, hB46, hz47, ho50, hl51, ap52, ap53, hb54, hd, hs, hok⟩
     refine gv_in ?_ hd hs hok
     clear hd hs hok
     clear hc26 hn25 hc9 hn8 hz6 hb4 hg3
     refine gv_seq <| gv_seq <| gv_region <| gv_pureN 4 [24, 25, 26, 27] [(27, (.bool (decide (s43.2 < ((ByteArray.size s_0 : Nat) : Int)))))] (by kernel_rfl) ?_
     refine gv_nil <| gv_cond (b := (decide (s43.2 < ((ByteArray.size s_0 : Nat) : Int)))) (by kernel_rfl) (fun hc55 => ?_) (fun hc55 => ?_)
     ·replace h2 := ite_t hc55 h2
      refine gv_skip <| gv_seq <| gv_block <| gv_seq <| gv_region <| gv_pureN 2 [6, 7] [(6, (.int .i64 0)), (7, (.int .i64 3))] (by kernel_rfl) ?_
      refine gv_nil <| gv_seq <| gv_seq <| gv_region <| gv_pureN 1 [30] [(30, (.int .i64 0))] (by kernel_rfl) ?_
      refine gv_nil <| bindE h2 ?_; clear h2; intro j56 h3 h2
      refine gv_cut_code (J := fun a w57 => Below w0.heap.size w0 w57 ∧ w44.heap.size ≤ w57.heap.size ∧ Box w57 b1 25 #[(.int .i64 0), (.int .i64 0)] ∧ Gv.Own bE 5 w57 (fun _ => False) a48 c49 s43.1 ∧ a.defers = [] ∧ a.tmps.size = 77 ∧ Ok [(0, (.string s_0)), (3, (bp b1)), (4, (.slice a48 (List.length s43.1) c49)), (5, (.int .i64 s43.2)), (6, (.int .i64 j56.1)), (7, (.int .i64 j56.2))] a.tmps) ?_ ?_
      ·skip
       refine gv_block <| gv_loop (A := fun (s58 : (Int × Int × Int)) a w59 => Below w0.heap.size w0 w59 ∧ w44.heap.size ≤ w59.heap.size ∧ Box w59 b1 25 #[(.int .i64 0), (.int .i64 0)] ∧ Gv.Own bE 5 w59 (fun _ => False) a48 c49 s43.1 ∧ a.defers = [] ∧ a.tmps.size = 77 ∧ Ok [(0, (.string s_0)), (3, (bp b1)), (4, (.slice a48 (List.length s43.1) c49)), (5, (.int .i64 s43.2)), (6, (.int .i64 s58.1)), (7, (.int .i64 s58.2.1)), (30, (.int .i64 s58.2.2))] a.tmps) h3 ?_ ?_
       ·intro a hd hs hok
        exact ⟨hB46, (Nat.le_refl _), hb54, ho50, hd, hs, ok_pick [0, 3, 4, 5, 6, 7, 30] hok (by kernel_rfl)⟩
       ·rintro s58 r4 h4 hR4 a w59 ⟨hB60, hz61, hb62, hk63, hd, hs, hok⟩
        refine gv_in ?_ hd hs hok
        clear hd hs hok
        clear hc55 hb54 ho50 hB46
        refine gv_seq <| gv_region <| gv_pureN 1 [31] [(31, (.bool (decide (s58.2.2 < 4))))] (by kernel_rfl) ?_
        refine gv_nil <| gv_seq <| gv_cond (b := (decide (s58.2.2 < 4))) (by kernel_rfl) (fun hc64 => ?_) (fun hc64 => ?_)
        ·replace h4 := ite_t hc64 h4
         refine gv_skip <| gv_seq <| gv_block <| gv_seq <| gv_region <| gv_pureN 2 [8, 32] [(8, (.int .i64 s58.2.2))] (by kernel_rfl) ?_
         refine gv_nil <| gv_seq <| gv_region <| gv_new0 (fun b => .slice (some ⟨b, 0, none⟩) 64 64) #[(.int .u8 65), (.int .u8 66), (.int .u8 67), (.int .u8 68), (.int .u8 69), (.int .u8 70), (.int .u8 71), (.int .u8 72), (.int .u8 73), (.int .u8 74), (.int .u8 75), (.int .u8 76), (.int .u8 77), (.int .u8 78), (.int .u8 79), (.int .u8 80), (.int .u8 81), (.int .u8 82), (.int .u8 83), (.int .u8 84), (.int .u8 85), (.int .u8 86), (.int .u8 87), (.int .u8 88), (.int .u8 89), (.int .u8 90), (.int .u8 97), (.int .u8 98), (.int .u8 99), (.int .u8 100), (.int .u8 101), (.int .u8 102), (.int .u8 103), (.int .u8 104), (.int .u8 105), (.int .u8 106), (.int .u8 107), (.int .u8 108), (.int .u8 109), (.int .u8 110), (.int .u8 111), (.int .u8 112), (.int .u8 113), (.int .u8 114), (.int .u8 115), (.int .u8 116), (.int .u8 117), (.int .u8 118), (.int .u8 119), (.int .u8 120), (.int .u8 121), (.int .u8 122), (.int .u8 48), (.int .u8 49), (.int .u8 50), (.int .u8 51), (.int .u8 52), (.int .u8 53), (.int .u8 54), (.int .u8 55), (.int .u8 56), (.int .u8 57), (.int .u8 43), (.int .u8 47)] 5 (by kernel_rfl) (by kernel_rfl) ?_
         intro b65 w66 hg67 hb68 hbe69 hz70
         have ho71 : Gv.Own bE 5 w66 (fun _ => False) (some ⟨b65, 0, none⟩) 64 ([(65 : UInt8), (66 : UInt8), (67 : UInt8), (68 : UInt8), (69 : UInt8), (70 : UInt8), (71 : UInt8), (72 : UInt8), (73 : UInt8), (74 : UInt8), (75 : UInt8), (76 : UInt8), (77 : UInt8), (78 : UInt8), (79 : UInt8), (80 : UInt8), (81 : UInt8), (82 : UInt8), (83 : UInt8), (84 : UInt8), (85 : UInt8), (86 : UInt8), (87 : UInt8), (88 : UInt8), (89 : UInt8), (90 : UInt8), (97 : UInt8), (98 : UInt8), (99 : UInt8), (100 : UInt8), (101 : UInt8), (102 : UInt8), (103 : UInt8), (104 : UInt8), (105 : UInt8), (106 : UInt8), (107 : UInt8), (108 : UInt8), (109 : UInt8), (110 : UInt8), (111 : UInt8), (112 : UInt8), (113 : UInt8), (114 : UInt8), (115 : UInt8), (116 : UInt8), (117 : UInt8), (118 : UInt8), (119 : UInt8), (120 : UInt8), (121 : UInt8), (122 : UInt8), (48 : UInt8), (49 : UInt8), (50 : UInt8), (51 : UInt8), (52 : UInt8), (53 : UInt8), (54 : UInt8), (55 : UInt8), (56 : UInt8), (57 : UInt8), (43 : UInt8), (47 : UInt8)] : List UInt8) := Box.ownE hb68 ⟨[(.int .u8 65)], [(.int .u8 66), (.int .u8 67), (.int .u8 68), (.int .u8 69), (.int .u8 70), (.int .u8 71), (.int .u8 72), (.int .u8 73), (.int .u8 74), (.int .u8 75), (.int .u8 76), (.int .u8 77), (.int .u8 78), (.int .u8 79), (.int .u8 80), (.int .u8 81), (.int .u8 82), (.int .u8 83), (.int .u8 84), (.int .u8 85), (.int .u8 86), (.int .u8 87), (.int .u8 88), (.int .u8 89), (.int .u8 90), (.int .u8 97), (.int .u8 98), (.int .u8 99), (.int .u8 100), (.int .u8 101), (.int .u8 102), (.int .u8 103), (.int .u8 104), (.int .u8 105), (.int .u8 106), (.int .u8 107), (.int .u8 108), (.int .u8 109), (.int .u8 110), (.int .u8 111), (.int .u8 112), (.int .u8 113), (.int .u8 114), (.int .u8 115), (.int .u8 116), (.int .u8 117), (.int .u8 118), (.int .u8 119), (.int .u8 120), (.int .u8 121), (.int .u8 122), (.int .u8 48), (.int .u8 49), (.int .u8 50), (.int .u8 51), (.int .u8 52), (.int .u8 53), (.int .u8 54), (.int .u8 55), (.int .u8 56), (.int .u8 57), (.int .u8 43), (.int .u8 47)], rfl, rfl, ⟨[(.int .u8 66)], [(.int .u8 67), (.int .u8 68), (.int .u8 69), (.int .u8 70), (.int .u8 71), (.int .u8 72), (.int .u8 73), (.int .u8 74), (.int .u8 75), (.int .u8 76), (.int .u8 77), (.int .u8 78), (.int .u8 79), (.int .u8 80), (.int .u8 81), (.int .u8 82), (.int .u8 83), (.int .u8 84), (.int .u8 85), (.int .u8 86), (.int .u8 87), (.int .u8 88), (.int .u8 89), (.int .u8 90), (.int .u8 97), (.int .u8 98), (.int .u8 99), (.int .u8 100), (.int .u8 101), (.int .u8 102), (.int .u8 103), (.int .u8 104), (.int .u8 105), (.int .u8 106), (.int .u8 107), (.int .u8 108), (.int .u8 109), (.int .u8 110), (.int .u8 111), (.int .u8 112), (.int .u8 113), (.int .u8 114), (.int .u8 115), (.int .u8 116), (.int .u8 117), (.int .u8 118), (.int .u8 119), (.int .u8 120), (.int .u8 121), (.int .u8 122), (.int .u8 48), (.int .u8 49), (.int .u8 50), (.int .u8 51), (.int .u8 52), (.int .u8 53), (.int .u8 54), (.int .u8 55), (.int .u8 56), (.int .u8 57), (.int .u8 43), (.int .u8 47)], rfl, rfl, ⟨[(.int .u8 67)], [(.int .u8 68), (.int .u8 69), (.int .u8 70), (.int .u8 71), (.int .u8 72), (.int .u8 73), (.int .u8 74), (.int .u8 75), (.int .u8 76), (.int .u8 77), (.int .u8 78), (.int .u8 79), (.int .u8 80), (.int .u8 81), (.int .u8 82), (.int .u8 83), (.int .u8 84), (.int .u8 85), (.int .u8 86), (.int .u8 87), (.int .u8 88), (.int .u8 89), (.int .u8 90), (.int .u8 97), (.int .u8 98), (.int .u8 99), (.int .u8 100), (.int .u8 101), (.int .u8 102), (.int .u8 103), (.int .u8 104), (.int .u8 105), (.int .u8 106), (.int .u8 107), (.int .u8 108), (.int .u8 109), (.int .u8 110), (.int .u8 111), (.int .u8 112), (.int .u8 113), (.int .u8 114), (.int .u8 115), (.int .u8 116), (.int .u8 117), (.int .u8 118), (.int .u8 119), (.int .u8 120), (.int .u8 121), (.int .u8 122), (.int .u8 48), (.int .u8 49), (.int .u8 50), (.int .u8 51), (.int .u8 52), (.int .u8 53), (.int .u8 54), (.int .u8 55), (.int .u8 56), (.int .u8 57), (.int .u8 43), (.int .u8 47)], rfl, rfl, ⟨[(.int .u8 68)], [(.int .u8 69), (.int .u8 70), (.int .u8 71), (.int .u8 72), (.int .u8 73), (.int .u8 74), (.int .u8 75), (.int .u8 76), (.int .u8 77), (.int .u8 78), (.int .u8 79), (.int .u8 80), (.int .u8 81), (.int .u8 82), (.int .u8 83), (.int .u8 84), (.int .u8 85), (.int .u8 86), (.int .u8 87), (.int .u8 88), (.int .u8 89), (.int .u8 90), (.int .u8 97), (.int .u8 98), (.int .u8 99), (.int .u8 100), (.int .u8 101), (.int .u8 102), (.int .u8 103), (.int .u8 104), (.int .u8 105), (.int .u8 106), (.int .u8 107), (.int .u8 108), (.int .u8 109), (.int .u8 110), (.int .u8 111), (.int .u8 112), (.int .u8 113), (.int .u8 114), (.int .u8 115), (.int .u8 116), (.int .u8 117), (.int .u8 118), (.int .u8 119), (.int .u8 120), (.int .u8 121), (.int .u8 122), (.int .u8 48), (.int .u8 49), (.int .u8 50), (.int .u8 51), (.int .u8 52), (.int .u8 53), (.int .u8 54), (.int .u8 55), (.int .u8 56), (.int .u8 57), (.int .u8 43), (.int .u8 47)], rfl, rfl, ⟨[(.int .u8 69)], [(.int .u8 70), (.int .u8 71), (.int .u8 72), (.int .u8 73), (.int .u8 74), (.int .u8 75), (.int .u8 76), (.int .u8 77), (.int .u8 78), (.int .u8 79), (.int .u8 80), (.int .u8 81), (.int .u8 82), (.int .u8 83), (.int .u8 84), (.int .u8 85), (.int .u8 86), (.int .u8 87), (.int .u8 88), (.int .u8 89), (.int .u8 90), (.int .u8 97), (.int .u8 98), (.int .u8 99), (.int .u8 100), (.int .u8 101), (.int .u8 102), (.int .u8 103), (.int .u8 104), (.int .u8 105), (.int .u8 106), (.int .u8 107), (.int .u8 108), (.int .u8 109), (.int .u8 110), (.int .u8 111), (.int .u8 112), (.int .u8 113), (.int .u8 114), (.int .u8 115), (.int .u8 116), (.int .u8 117), (.int .u8 118), (.int .u8 119), (.int .u8 120), (.int .u8 121), (.int .u8 122), (.int .u8 48), (.int .u8 49), (.int .u8 50), (.int .u8 51), (.int .u8 52), (.int .u8 53), (.int .u8 54), (.int .u8 55), (.int .u8 56), (.int .u8 57), (.int .u8 43), (.int .u8 47)], rfl, rfl, ⟨[(.int .u8 70)], [(.int .u8 71), (.int .u8 72), (.int .u8 73), (.int .u8 74), (.int .u8 75), (.int .u8 76), (.int .u8 77), (.int .u8 78), (.int .u8 79), (.int .u8 80), (.int .u8 81), (.int .u8 82), (.int .u8 83), (.int .u8 84), (.int .u8 85), (.int .u8 86), (.int .u8 87), (.int .u8 88), (.int .u8 89), (.int .u8 90), (.int .u8 97), (.int .u8 98), (.int .u8 99), (.int .u8 100), (.int .u8 101), (.int .u8 102), (.int .u8 103), (.int .u8 104), (.int .u8 105), (.int .u8 106), (.int .u8 107), (.int .u8 108), (.int .u8 109), (.int .u8 110), (.int .u8 111), (.int .u8 112), (.int .u8 113), (.int .u8 114), (.int .u8 115), (.int .u8 116), (.int .u8 117), (.int .u8 118), (.int .u8 119), (.int .u8 120), (.int .u8 121), (.int .u8 122), (.int .u8 48), (.int .u8 49), (.int .u8 50), (.int .u8 51), (.int .u8 52), (.int .u8 53), (.int .u8 54), (.int .u8 55), (.int .u8 56), (.int .u8 57), (.int .u8 43), (.int .u8 47)], rfl, rfl, ⟨[(.int .u8 71)], [(.int .u8 72), (.int .u8 73), (.int .u8 74), (.int .u8 75), (.int .u8 76), (.int .u8 77), (.int .u8 78), (.int .u8 79), (.int .u8 80), (.int .u8 81), (.int .u8 82), (.int .u8 83), (.int .u8 84), (.int .u8 85), (.int .u8 86), (.int .u8 87), (.int .u8 88), (.int .u8 89), (.int .u8 90), (.int .u8 97), (.int .u8 98), (.int .u8 99), (.int .u8 100), (.int .u8 101), (.int .u8 102), (.int .u8 103), (.int .u8 104), (.int .u8 105), (.int .u8 106), (.int .u8 107), (.int .u8 108), (.int .u8 109), (.int .u8 110), (.int .u8 111), (.int .u8 112), (.int .u8 113), (.int .u8 114), (.int .u8 115), (.int .u8 116), (.int .u8 117), (.int .u8 118), (.int .u8 119), (.int .u8 120), (.int .u8 121), (.int .u8 122), (.int .u8 48), (.int .u8 49), (.int .u8 50), (.int .u8 51), (.int .u8 52), (.int .u8 53), (.int .u8 54), (.int .u8 55), (.int .u8 56), (.int .u8 57), (.int .u8 43), (.int .u8 47)], rfl, rfl, ⟨[(.int .u8 72)], [(.int .u8 73), (.int .u8 74), (.int .u8 75), (.int .u8 76), (.int .u8 77), (.int .u8 78), (.int .u8 79), (.int .u8 80), (.int .u8 81), (.int .u8 82), (.int .u8 83), (.int .u8 84), (.int .u8 85), (.int .u8 86), (.int .u8 87), (.int .u8 88), (.int .u8 89), (.int .u8 90), (.int .u8 97), (.int .u8 98), (.int .u8 99), (.int .u8 100), (.int .u8 101), (.int .u8 102), (.int .u8 103), (.int .u8 104), (.int .u8 105), (.int .u8 106), (.int .u8 107), (.int .u8 108), (.int .u8 109), (.int .u8 110), (.int .u8 111), (.int .u8 112), (.int .u8 113), (.int .u8 114), (.int .u8 115), (.int .u8 116), (.int .u8 117), (.int .u8 118), (.int .u8 119), (.int .u8 120), (.int .u8 121), (.int .u8 122), (.int .u8 48), (.int .u8 49), (.int .u8 50), (.int .u8 51), (.int .u8 52), (.int .u8 53), (.int .u8 54), (.int .u8 55), (.int .u8 56), (.int .u8 57), (.int .u8 43), (.int .u8 47)], rfl, rfl, ⟨[(.int .u8 73)], [(.int .u8 74), (.int .u8 75), (.int .u8 76), (.int .u8 77), (.int .u8 78), (.int .u8 79), (.int .u8 80), (.int .u8 81), (.int .u8 82), (.int .u8 83), (.int .u8 84), (.int .u8 85), (.int .u8 86), (.int .u8 87), (.int .u8 88), (.int .u8 89), (.int .u8 90), (.int .u8 97), (.int .u8 98), (.int .u8 99), (.int .u8 100), (.int .u8 101), (.int .u8 102), (.int .u8 103), (.int .u8 104), (.int .u8 105), (.int .u8 106), (.int .u8 107), (.int .u8 108), (.int .u8 109), (.int .u8 110), (.int .u8 111), (.int .u8 112), (.int .u8 113), (.int .u8 114), (.int .u8 115), (.int .u8 116), (.int .u8 117), (.int .u8 118), (.int .u8 119), (.int .u8 120), (.int .u8 121), (.int .u8 122), (.int .u8 48), (.int .u8 49), (.int .u8 50), (.int .u8 51), (.int .u8 52), (.int .u8 53), (.int .u8 54), (.int .u8 55), (.int .u8 56), (.int .u8 57), (.int .u8 43), (.int .u8 47)], rfl, rfl, ⟨[(.int .u8 74)], [(.int .u8 75), (.int .u8 76), (.int .u8 77), (.int .u8 78), (.int .u8 79), (.int .u8 80), (.int .u8 81), (.int .u8 82), (.int .u8 83), (.int .u8 84), (.int .u8 85), (.int .u8 86), (.int .u8 87), (.int .u8 88), (.int .u8 89), (.int .u8 90), (.int .u8 97), (.int .u8 98), (.int .u8 99), (.int .u8 100), (.int .u8 101), (.int .u8 102), (.int .u8 103), (.int .u8 104), (.int .u8 105), (.int .u8 106), (.int .u8 107), (.int .u8 108), (.int .u8 109), (.int .u8 110), (.int .u8 111), (.int .u8 112), (.int .u8 113), (.int .u8 114), (.int .u8 115), (.int .u8 116), (.int .u8 117), (.int .u8 118), (.int .u8 119), (.int .u8 120), (.int .u8 121), (.int .u8 122), (.int .u8 48), (.int .u8 49), (.int .u8 50), (.int .u8 51), (.int .u8 52), (.int .u8 53), (.int .u8 54), (.int .u8 55), (.int .u8 56), (.int .u8 57), (.int .u8 43), (.int .u8 47)], rfl, rfl, ⟨[(.int .u8 75)], [(.int .u8 76), (.int .u8 77), (.int .u8 78), (.int .u8 79), (.int .u8 80), (.int .u8 81), (.int .u8 82), (.int .u8 83), (.int .u8 84), (.int .u8 85), (.int .u8 86), (.int .u8 87), (.int .u8 88), (.int .u8 89), (.int .u8 90), (.int .u8 97), (.int .u8 98), (.int .u8 99), (.int .u8 100), (.int .u8 101), (.int .u8 102), (.int .u8 103), (.int .u8 104), (.int .u8 105), (.int .u8 106), (.int .u8 107), (.int .u8 108), (.int .u8 109), (.int .u8 110), (.int .u8 111), (.int .u8 112), (.int .u8 113), (.int .u8 114), (.int .u8 115), (.int .u8 116), (.int .u8 117), (.int .u8 118), (.int .u8 119), (.int .u8 120), (.int .u8 121), (.int .u8 122), (.int .u8 48), (.int .u8 49), (.int .u8 50), (.int .u8 51), (.int .u8 52), (.int .u8 53), (.int .u8 54), (.int .u8 55), (.int .u8 56), (.int .u8 57), (.int .u8 43), (.int .u8 47)], rfl, rfl, ⟨[(.int .u8 76)], [(.int .u8 77), (.int .u8 78), (.int .u8 79), (.int .u8 80), (.int .u8 81), (.int .u8 82), (.int .u8 83), (.int .u8 84), (.int .u8 85), (.int .u8 86), (.int .u8 87), (.int .u8 88), (.int .u8 89), (.int .u8 90), (.int .u8 97), (.int .u8 98), (.int .u8 99), (.int .u8 100), (.int .u8 101), (.int .u8 102), (.int .u8 103), (.int .u8 104), (.int .u8 105), (.int .u8 106), (.int .u8 107), (.int .u8 108), (.int .u8 109), (.int .u8 110), (.int .u8 111), (.int .u8 112), (.int .u8 113), (.int .u8 114), (.int .u8 115), (.int .u8 116), (.int .u8 117), (.int .u8 118), (.int .u8 119), (.int .u8 120), (.int .u8 121), (.int .u8 122), (.int .u8 48), (.int .u8 49), (.int .u8 50), (.int .u8 51), (.int .u8 52), (.int .u8 53), (.int .u8 54), (.int .u8 55), (.int .u8 56), (.int .u8 57), (.int .u8 43), (.int .u8 47)], rfl, rfl, ⟨[(.int .u8 77)], [(.int .u8 78), (.int .u8 79), (.int .u8 80), (.int .u8 81), (.int .u8 82), (.int .u8 83), (.int .u8 84), (.int .u8 85), (.int .u8 86), (.int .u8 87), (.int .u8 88), (.int .u8 89), (.int .u8 90), (.int .u8 97), (.int .u8 98), (.int .u8 99), (.int .u8 100), (.int .u8 101), (.int .u8 102), (.int .u8 103), (.int .u8 104), (.int .u8 105), (.int .u8 106), (.int .u8 107), (.int .u8 108), (.int .u8 109), (.int .u8 110), (.int .u8 111), (.int .u8 112), (.int .u8 113), (.int .u8 114), (.int .u8 115), (.int .u8 116), (.int .u8 117), (.int .u8 118), (.int .u8 119), (.int .u8 120), (.int .u8 121), (.int .u8 122), (.int .u8 48), (.int .u8 49), (.int .u8 50), (.int .u8 51), (.int .u8 52), (.int .u8 53), (.int .u8 54), (.int .u8 55), (.int .u8 56), (.int .u8 57), (.int .u8 43), (.int .u8 47)], rfl, rfl, ⟨[(.int .u8 78)], [(.int .u8 79), (.int .u8 80), (.int .u8 81), (.int .u8 82), (.int .u8 83), (.int .u8 84), (.int .u8 85), (.int .u8 86), (.int .u8 87), (.int .u8 88), (.int .u8 89), (.int .u8 90), (.int .u8 97), (.int .u8 98), (.int .u8 99), (.int .u8 100), (.int .u8 101), (.int .u8 102), (.int .u8 103), (.int .u8 104), (.int .u8 105), (.int .u8 106), (.int .u8 107), (.int .u8 108), (.int .u8 109), (.int .u8 110), (.int .u8 111), (.int .u8 112), (.int .u8 113), (.int .u8 114), (.int .u8 115), (.int .u8 116), (.int .u8 117), (.int .u8 118), (.int .u8 119), (.int .u8 120), (.int .u8 121), (.int .u8 122), (.int .u8 48), (.int .u8 49), (.int .u8 50), (.int .u8 51), (.int .u8 52), (.int .u8 53), (.int .u8 54), (.int .u8 55), (.int .u8 56), (.int .u8 57), (.int .u8 43), (.int .u8 47)], rfl, rfl, ⟨[(.int .u8 79)], [(.int .u8 80), (.int .u8 81), (.int .u8 82), (.int .u8 83), (.int .u8 84), (.int .u8 85), (.int .u8 86), (.int .u8 87), (.int .u8 88), (.int .u8 89), (.int .u8 90), (.int .u8 97), (.int .u8 98), (.int .u8 99), (.int .u8 100), (.int .u8 101), (.int .u8 102), (.int .u8 103), (.int .u8 104), (.int .u8 105), (.int .u8 106), (.int .u8 107), (.int .u8 108), (.int .u8 109), (.int .u8 110), (.int .u8 111), (.int .u8 112), (.int .u8 113), (.int .u8 114), (.int .u8 115), (.int .u8 116), (.int .u8 117), (.int .u8 118), (.int .u8 119), (.int .u8 120), (.int .u8 121), (.int .u8 122), (.int .u8 48), (.int .u8 49), (.int .u8 50), (.int .u8 51), (.int .u8 52), (.int .u8 53), (.int .u8 54), (.int .u8 55), (.int .u8 56), (.int .u8 57), (.int .u8 43), (.int .u8 47)], rfl, rfl, ⟨[(.int .u8 80)], [(.int .u8 81), (.int .u8 82), (.int .u8 83), (.int .u8 84), (.int .u8 85), (.int .u8 86), (.int .u8 87), (.int .u8 88), (.int .u8 89), (.int .u8 90), (.int .u8 97), (.int .u8 98), (.int .u8 99), (.int .u8 100), (.int .u8 101), (.int .u8 102), (.int .u8 103), (.int .u8 104), (.int .u8 105), (.int .u8 106), (.int .u8 107), (.int .u8 108), (.int .u8 109), (.int .u8 110), (.int .u8 111), (.int .u8 112), (.int .u8 113), (.int .u8 114), (.int .u8 115), (.int .u8 116), (.int .u8 117), (.int .u8 118), (.int .u8 119), (.int .u8 120), (.int .u8 121), (.int .u8 122), (.int .u8 48), (.int .u8 49), (.int .u8 50), (.int .u8 51), (.int .u8 52), (.int .u8 53), (.int .u8 54), (.int .u8 55), (.int .u8 56), (.int .u8 57), (.int .u8 43), (.int .u8 47)], rfl, rfl, ⟨[(.int .u8 81)], [(.int .u8 82), (.int .u8 83), (.int .u8 84), (.int .u8 85), (.int .u8 86), (.int .u8 87), (.int .u8 88), (.int .u8 89), (.int .u8 90), (.int .u8 97), (.int .u8 98), (.int .u8 99), (.int .u8 100), (.int .u8 101), (.int .u8 102), (.int .u8 103), (.int .u8 104), (.int .u8 105), (.int .u8 106), (.int .u8 107), (.int .u8 108), (.int .u8 109), (.int .u8 110), (.int .u8 111), (.int .u8 112), (.int .u8 113), (.int .u8 114), (.int .u8 115), (.int .u8 116), (.int .u8 117), (.int .u8 118), (.int .u8 119), (.int .u8 120), (.int .u8 121), (.int .u8 122), (.int .u8 48), (.int .u8 49), (.int .u8 50), (.int .u8 51), (.int .u8 52), (.int .u8 53), (.int .u8 54), (.int .u8 55), (.int .u8 56), (.int .u8 57), (.int .u8 43), (.int .u8 47)], rfl, rfl, ⟨[(.int .u8 82)], [(.int .u8 83), (.int .u8 84), (.int .u8 85), (.int .u8 86), (.int .u8 87), (.int .u8 88), (.int .u8 89), (.int .u8 90), (.int .u8 97), (.int .u8 98), (.int .u8 99), (.int .u8 100), (.int .u8 101), (.int .u8 102), (.int .u8 103), (.int .u8 104), (.int .u8 105), (.int .u8 106), (.int .u8 107), (.int .u8 108), (.int .u8 109), (.int .u8 110), (.int .u8 111), (.int .u8 112), (.int .u8 113), (.int .u8 114), (.int .u8 115), (.int .u8 116), (.int .u8 117), (.int .u8 118), (.int .u8 119), (.int .u8 120), (.int .u8 121), (.int .u8 122), (.int .u8 48), (.int .u8 49), (.int .u8 50), (.int .u8 51), (.int .u8 52), (.int .u8 53), (.int .u8 54), (.int .u8 55), (.int .u8 56), (.int .u8 57), (.int .u8 43), (.int .u8 47)], rfl, rfl, ⟨[(.int .u8 83)], [(.int .u8 84), (.int .u8 85), (.int .u8 86), (.int .u8 87), (.int .u8 88), (.int .u8 89), (.int .u8 90), (.int .u8 97), (.int .u8 98), (.int .u8 99), (.int .u8 100), (.int .u8 101), (.int .u8 102), (.int .u8 103), (.int .u8 104), (.int .u8 105), (.int .u8 106), (.int .u8 107), (.int .u8 108), (.int .u8 109), (.int .u8 110), (.int .u8 111), (.int .u8 112), (.int .u8 113), (.int .u8 114), (.int .u8 115), (.int .u8 116), (.int .u8 117), (.int .u8 118), (.int .u8 119), (.int .u8 120), (.int .u8 121), (.int .u8 122), (.int .u8 48), (.int .u8 49), (.int .u8 50), (.int .u8 51), (.int .u8 52), (.int .u8 53), (.int .u8 54), (.int .u8 55), (.int .u8 56), (.int .u8 57), (.int .u8 43), (.int .u8 47)], rfl, rfl, ⟨[(.int .u8 84)], [(.int .u8 85), (.int .u8 86), (.int .u8 87), (.int .u8 88), (.int .u8 89), (.int .u8 90), (.int .u8 97), (.int .u8 98), (.int .u8 99), (.int .u8 100), (.int .u8 101), (.int .u8 102), (.int .u8 103), (.int .u8 104), (.int .u8 105), (.int .u8 106), (.int .u8 107), (.int .u8 108), (.int .u8 109), (.int .u8 110), (.int .u8 111), (.int .u8 112), (.int .u8 113), (.int .u8 114), (.int .u8 115), (.int .u8 116), (.int .u8 117), (.int .u8 118), (.int .u8 119), (.int .u8 120), (.int .u8 121), (.int .u8 122), (.int .u8 48), (.int .u8 49), (.int .u8 50), (.int .u8 51), (.int .u8 52), (.int .u8 53), (.int .u8 54), (.int .u8 55), (.int .u8 56), (.int .u8 57), (.int .u8 43), (.int .u8 47)], rfl, rfl, ⟨[(.int .u8 85)], [(.int .u8 86), (.int .u8 87), (.int .u8 88), (.int .u8 89), (.int .u8 90), (.int .u8 97), (.int .u8 98), (.int .u8 99), (.int .u8 100), (.int .u8 101), (.int .u8 102), (.int .u8 103), (.int .u8 104), (.int .u8 105), (.int .u8 106), (.int .u8 107), (.int .u8 108), (.int .u8 109), (.int .u8 110), (.int .u8 111), (.int .u8 112), (.int .u8 113), (.int .u8 114), (.int .u8 115), (.int .u8 116), (.int .u8 117), (.int .u8 118), (.int .u8 119), (.int .u8 120), (.int .u8 121), (.int .u8 122), (.int .u8 48), (.int .u8 49), (.int .u8 50), (.int .u8 51), (.int .u8 52), (.int .u8 53), (.int .u8 54), (.int .u8 55), (.int .u8 56), (.int .u8 57), (.int .u8 43), (.int .u8 47)], rfl, rfl, ⟨[(.int .u8 86)], [(.int .u8 87), (.int .u8 88), (.int .u8 89), (.int .u8 90), (.int .u8 97), (.int .u8 98), (.int .u8 99), (.int .u8 100), (.int .u8 101), (.int .u8 102), (.int .u8 103), (.int .u8 104), (.int .u8 105), (.int .u8 106), (.int .u8 107), (.int .u8 108), (.int .u8 109), (.int .u8 110), (.int .u8 111), (.int .u8 112), (.int .u8 113), (.int .u8 114), (.int .u8 115), (.int .u8 116), (.int .u8 117), (.int .u8 118), (.int .u8 119), (.int .u8 120), (.int .u8 121), (.int .u8 122), (.int .u8 48), (.int .u8 49), (.int .u8 50), (.int .u8 51), (.int .u8 52), (.int .u8 53), (.int .u8 54), (.int .u8 55), (.int .u8 56), (.int .u8 57), (.int .u8 43), (.int .u8 47)], rfl, rfl, ⟨[(.int .u8 87)], [(.int .u8 88), (.int .u8 89), (.int .u8 90), (.int .u8 97), (.int .u8 98), (.int .u8 99), (.int .u8 100), (.int .u8 101), (.int .u8 102), (.int .u8 103), (.int .u8 104), (.int .u8 105), (.int .u8 106), (.int .u8 107), (.int .u8 108), (.int .u8 109), (.int .u8 110), (.int .u8 111), (.int .u8 112), (.int .u8 113), (.int .u8 114), (.int .u8 115), (.int .u8 116), (.int .u8 117), (.int .u8 118), (.int .u8 119), (.int .u8 120), (.int .u8 121), (.int .u8 122), (.int .u8 48), (.int .u8 49), (.int .u8 50), (.int .u8 51), (.int .u8 52), (.int .u8 53), (.int .u8 54), (.int .u8 55), (.int .u8 56), (.int .u8 57), (.int .u8 43), (.int .u8 47)], rfl, rfl, ⟨[(.int .u8 88)], [(.int .u8 89), (.int .u8 90), (.int .u8 97), (.int .u8 98), (.int .u8 99), (.int .u8 100), (.int .u8 101), (.int .u8 102), (.int .u8 103), (.int .u8 104), (.int .u8 105), (.int .u8 106), (.int .u8 107), (.int .u8 108), (.int .u8 109), (.int .u8 110), (.int .u8 111), (.int .u8 112), (.int .u8 113), (.int .u8 114), (.int .u8 115), (.int .u8 116), (.int .u8 117), (.int .u8 118), (.int .u8 119), (.int .u8 120), (.int .u8 121), (.int .u8 122), (.int .u8 48), (.int .u8 49), (.int .u8 50), (.int .u8 51), (.int .u8 52), (.int .u8 53), (.int .u8 54), (.int .u8 55), (.int .u8 56), (.int .u8 57), (.int .u8 43), (.int .u8 47)], rfl, rfl, ⟨[(.int .u8 89)], [(.int .u8 90), (.int .u8 97), (.int .u8 98), (.int .u8 99), (.int .u8 100), (.int .u8 101), (.int .u8 102), (.int .u8 103), (.int .u8 104), (.int .u8 105), (.int .u8 106), (.int .u8 107), (.int .u8 108), (.int .u8 109), (.int .u8 110), (.int .u8 111), (.int .u8 112), (.int .u8 113), (.int .u8 114), (.int .u8 115), (.int .u8 116), (.int .u8 117), (.int .u8 118), (.int .u8 119), (.int .u8 120), (.int .u8 121), (.int .u8 122), (.int .u8 48), (.int .u8 49), (.int .u8 50), (.int .u8 51), (.int .u8 52), (.int .u8 53), (.int .u8 54), (.int .u8 55), (.int .u8 56), (.int .u8 57), (.int .u8 43), (.int .u8 47)], rfl, rfl, ⟨[(.int .u8 90)], [(.int .u8 97), (.int .u8 98), (.int .u8 99), (.int .u8 100), (.int .u8 101), (.int .u8 102), (.int .u8 103), (.int .u8 104), (.int .u8 105), (.int .u8 106), (.int .u8 107), (.int .u8 108), (.int .u8 109), (.int .u8 110), (.int .u8 111), (.int .u8 112), (.int .u8 113), (.int .u8 114), (.int .u8 115), (.int .u8 116), (.int .u8 117), (.int .u8 118), (.int .u8 119), (.int .u8 120), (.int .u8 121), (.int .u8 122), (.int .u8 48), (.int .u8 49), (.int .u8 50), (.int .u8 51), (.int .u8 52), (.int .u8 53), (.int .u8 54), (.int .u8 55), (.int .u8 56), (.int .u8 57), (.int .u8 43), (.int .u8 47)], rfl, rfl, ⟨[(.int .u8 97)], [(.int .u8 98), (.int .u8 99), (.int .u8 100), (.int .u8 101), (.int .u8 102), (.int .u8 103), (.int .u8 104), (.int .u8 105), (.int .u8 106), (.int .u8 107), (.int .u8 108), (.int .u8 109), (.int .u8 110), (.int .u8 111), (.int .u8 112), (.int .u8 113), (.int .u8 114), (.int .u8 115), (.int .u8 116), (.int .u8 117), (.int .u8 118), (.int .u8 119), (.int .u8 120), (.int .u8 121), (.int .u8 122), (.int .u8 48), (.int .u8 49), (.int .u8 50), (.int .u8 51), (.int .u8 52), (.int .u8 53), (.int .u8 54), (.int .u8 55), (.int .u8 56), (.int .u8 57), (.int .u8 43), (.int .u8 47)], rfl, rfl, ⟨[(.int .u8 98)], [(.int .u8 99), (.int .u8 100), (.int .u8 101), (.int .u8 102), (.int .u8 103), (.int .u8 104), (.int .u8 105), (.int .u8 106), (.int .u8 107), (.int .u8 108), (.int .u8 109), (.int .u8 110), (.int .u8 111), (.int .u8 112), (.int .u8 113), (.int .u8 114), (.int .u8 115), (.int .u8 116), (.int .u8 117), (.int .u8 118), (.int .u8 119), (.int .u8 120), (.int .u8 121), (.int .u8 122), (.int .u8 48), (.int .u8 49), (.int .u8 50), (.int .u8 51), (.int .u8 52), (.int .u8 53), (.int .u8 54), (.int .u8 55), (.int .u8 56), (.int .u8 57), (.int .u8 43), (.int .u8 47)], rfl, rfl, ⟨[(.int .u8 99)], [(.int .u8 100), (.int .u8 101), (.int .u8 102), (.int .u8 103), (.int .u8 104), (.int .u8 105), (.int .u8 106), (.int .u8 107), (.int .u8 108), (.int .u8 109), (.int .u8 110), (.int .u8 111), (.int .u8 112), (.int .u8 113), (.int .u8 114), (.int .u8 115), (.int .u8 116), (.int .u8 117), (.int .u8 118), (.int .u8 119), (.int .u8 120), (.int .u8 121), (.int .u8 122), (.int .u8 48), (.int .u8 49), (.int .u8 50), (.int .u8 51), (.int .u8 52), (.int .u8 53), (.int .u8 54), (.int .u8 55), (.int .u8 56), (.int .u8 57), (.int .u8 43), (.int .u8 47)], rfl, rfl, ⟨[(.int .u8 100)], [(.int .u8 101), (.int .u8 102), (.int .u8 103), (.int .u8 104), (.int .u8 105), (.int .u8 106), (.int .u8 107), (.int .u8 108), (.int .u8 109), (.int .u8 110), (.int .u8 111), (.int .u8 112), (.int .u8 113), (.int .u8 114), (.int .u8 115), (.int .u8 116), (.int .u8 117), (.int .u8 118), (.int .u8 119), (.int .u8 120), (.int .u8 121), (.int .u8 122), (.int .u8 48), (.int .u8 49), (.int .u8 50), (.int .u8 51), (.int .u8 52), (.int .u8 53), (.int .u8 54), (.int .u8 55), (.int .u8 56), (.int .u8 57), (.int .u8 43), (.int .u8 47)], rfl, rfl, ⟨[(.int .u8 101)], [(.int .u8 102), (.int .u8 103), (.int .u8 104), (.int .u8 105), (.int .u8 106), (.int .u8 107), (.int .u8 108), (.int .u8 109), (.int .u8 110), (.int .u8 111), (.int .u8 112), (.int .u8 113), (.int .u8 114), (.int .u8 115), (.int .u8 116), (.int .u8 117), (.int .u8 118), (.int .u8 119), (.int .u8 120), (.int .u8 121), (.int .u8 122), (.int .u8 48), (.int .u8 49), (.int .u8 50), (.int .u8 51), (.int .u8 52), (.int .u8 53), (.int .u8 54), (.int .u8 55), (.int .u8 56), (.int .u8 57), (.int .u8 43), (.int .u8 47)], rfl, rfl, ⟨[(.int .u8 102)], [(.int .u8 103), (.int .u8 104), (.int .u8 105), (.int .u8 106), (.int .u8 107), (.int .u8 108), (.int .u8 109), (.int .u8 110), (.int .u8 111), (.int .u8 112), (.int .u8 113), (.int .u8 114), (.int .u8 115), (.int .u8 116), (.int .u8 117), (.int .u8 118), (.int .u8 119), (.int .u8 120), (.int .u8 121), (.int .u8 122), (.int .u8 48), (.int .u8 49), (.int .u8 50), (.int .u8 51), (.int .u8 52), (.int .u8 53), (.int .u8 54), (.int .u8 55), (.int .u8 56), (.int .u8 57), (.int .u8 43), (.int .u8 47)], rfl, rfl, ⟨[(.int .u8 103)], [(.int .u8 104), (.int .u8 105), (.int .u8 106), (.int .u8 107), (.int .u8 108), (.int .u8 109), (.int .u8 110), (.int .u8 111), (.int .u8 112), (.int .u8 113), (.int .u8 114), (.int .u8 115), (.int .u8 116), (.int .u8 117), (.int .u8 118), (.int .u8 119), (.int .u8 120), (.int .u8 121), (.int .u8 122), (.int .u8 48), (.int .u8 49), (.int .u8 50), (.int .u8 51), (.int .u8 52), (.int .u8 53), (.int .u8 54), (.int .u8 55), (.int .u8 56), (.int .u8 57), (.int .u8 43), (.int .u8 47)], rfl, rfl, ⟨[(.int .u8 104)], [(.int .u8 105), (.int .u8 106), (.int .u8 107), (.int .u8 108), (.int .u8 109), (.int .u8 110), (.int .u8 111), (.int .u8 112), (.int .u8 113), (.int .u8 114), (.int .u8 115), (.int .u8 116), (.int .u8 117), (.int .u8 118), (.int .u8 119), (.int .u8 120), (.int .u8 121), (.int .u8 122), (.int .u8 48), (.int .u8 49), (.int .u8 50), (.int .u8 51), (.int .u8 52), (.int .u8 53), (.int .u8 54), (.int .u8 55), (.int .u8 56), (.int .u8 57), (.int .u8 43), (.int .u8 47)], rfl, rfl, ⟨[(.int .u8 105)], [(.int .u8 106), (.int .u8 107), (.int .u8 108), (.int .u8 109), (.int .u8 110), (.int .u8 111), (.int .u8 112), (.int .u8 113), (.int .u8 114), (.int .u8 115), (.int .u8 116), (.int .u8 117), (.int .u8 118), (.int .u8 119), (.int .u8 120), (.int .u8 121), (.int .u8 122), (.int .u8 48), (.int .u8 49), (.int .u8 50), (.int .u8 51), (.int .u8 52), (.int .u8 53), (.int .u8 54), (.int .u8 55), (.int .u8 56), (.int .u8 57), (.int .u8 43), (.int .u8 47)], rfl, rfl, ⟨[(.int .u8 106)], [(.int .u8 107), (.int .u8 108), (.int .u8 109), (.int .u8 110), (.int .u8 111), (.int .u8 112), (.int .u8 113), (.int .u8 114), (.int .u8 115), (.int .u8 116), (.int .u8 117), (.int .u8 118), (.int .u8 119), (.int .u8 120), (.int .u8 121), (.int .u8 122), (.int .u8 48), (.int .u8 49), (.int .u8 50), (.int .u8 51), (.int .u8 52), (.int .u8 53), (.int .u8 54), (.int .u8 55), (.int .u8 56), (.int .u8 57), (.int .u8 43), (.int .u8 47)], rfl, rfl, ⟨[(.int .u8 107)], [(.int .u8 108), (.int .u8 109), (.int .u8 110), (.int .u8 111), (.int .u8 112), (.int .u8 113), (.int .u8 114), (.int .u8 115), (.int .u8 116), (.int .u8 117), (.int .u8 118), (.int .u8 119), (.int .u8 120), (.int .u8 121), (.int .u8 122), (.int .u8 48), (.int .u8 49), (.int .u8 50), (.int .u8 51), (.int .u8 52), (.int .u8 53), (.int .u8 54), (.int .u8 55), (.int .u8 56), (.int .u8 57), (.int .u8 43), (.int .u8 47)], rfl, rfl, ⟨[(.int .u8 108)], [(.int .u8 109), (.int .u8 110), (.int .u8 111), (.int .u8 112), (.int .u8 113), (.int .u8 114), (.int .u8 115), (.int .u8 116), (.int .u8 117), (.int .u8 118), (.int .u8 119), (.int .u8 120), (.int .u8 121), (.int .u8 122), (.int .u8 48), (.int .u8 49), (.int .u8 50), (.int .u8 51), (.int .u8 52), (.int .u8 53), (.int .u8 54), (.int .u8 55), (.int .u8 56), (.int .u8 57), (.int .u8 43), (.int .u8 47)], rfl, rfl, ⟨[(.int .u8 109)], [(.int .u8 110), (.int .u8 111), (.int .u8 112), (.int .u8 113), (.int .u8 114), (.int .u8 115), (.int .u8 116), (.int .u8 117), (.int .u8 118), (.int .u8 119), (.int .u8 120), (.int .u8 121), (.int .u8 122), (.int .u8 48), (.int .u8 49), (.int .u8 50), (.int .u8 51), (.int .u8 52), (.int .u8 53), (.int .u8 54), (.int .u8 55), (.int .u8 56), (.int .u8 57), (.int .u8 43), (.int .u8 47)], rfl, rfl, ⟨[(.int .u8 110)], [(.int .u8 111), (.int .u8 112), (.int .u8 113), (.int .u8 114), (.int .u8 115), (.int .u8 116), (.int .u8 117), (.int .u8 118), (.int .u8 119), (.int .u8 120), (.int .u8 121), (.int .u8 122), (.int .u8 48), (.int .u8 49), (.int .u8 50), (.int .u8 51), (.int .u8 52), (.int .u8 53), (.int .u8 54), (.int .u8 55), (.int .u8 56), (.int .u8 57), (.int .u8 43), (.int .u8 47)], rfl, rfl, ⟨[(.int .u8 111)], [(.int .u8 112), (.int .u8 113), (.int .u8 114), (.int .u8 115), (.int .u8 116), (.int .u8 117), (.int .u8 118), (.int .u8 119), (.int .u8 120), (.int .u8 121), (.int .u8 122), (.int .u8 48), (.int .u8 49), (.int .u8 50), (.int .u8 51), (.int .u8 52), (.int .u8 53), (.int .u8 54), (.int .u8 55), (.int .u8 56), (.int .u8 57), (.int .u8 43), (.int .u8 47)], rfl, rfl, ⟨[(.int .u8 112)], [(.int .u8 113), (.int .u8 114), (.int .u8 115), (.int .u8 116), (.int .u8 117), (.int .u8 118), (.int .u8 119), (.int .u8 120), (.int .u8 121), (.int .u8 122), (.int .u8 48), (.int .u8 49), (.int .u8 50), (.int .u8 51), (.int .u8 52), (.int .u8 53), (.int .u8 54), (.int .u8 55), (.int .u8 56), (.int .u8 57), (.int .u8 43), (.int .u8 47)], rfl, rfl, ⟨[(.int .u8 113)], [(.int .u8 114), (.int .u8 115), (.int .u8 116), (.int .u8 117), (.int .u8 118), (.int .u8 119), (.int .u8 120), (.int .u8 121), (.int .u8 122), (.int .u8 48), (.int .u8 49), (.int .u8 50), (.int .u8 51), (.int .u8 52), (.int .u8 53), (.int .u8 54), (.int .u8 55), (.int .u8 56), (.int .u8 57), (.int .u8 43), (.int .u8 47)], rfl, rfl, ⟨[(.int .u8 114)], [(.int .u8 115), (.int .u8 116), (.int .u8 117), (.int .u8 118), (.int .u8 119), (.int .u8 120), (.int .u8 121), (.int .u8 122), (.int .u8 48), (.int .u8 49), (.int .u8 50), (.int .u8 51), (.int .u8 52), (.int .u8 53), (.int .u8 54), (.int .u8 55), (.int .u8 56), (.int .u8 57), (.int .u8 43), (.int .u8 47)], rfl, rfl, ⟨[(.int .u8 115)], [(.int .u8 116), (.int .u8 117), (.int .u8 118), (.int .u8 119), (.int .u8 120), (.int .u8 121), (.int .u8 122), (.int .u8 48), (.int .u8 49), (.int .u8 50), (.int .u8 51), (.int .u8 52), (.int .u8 53), (.int .u8 54), (.int .u8 55), (.int .u8 56), (.int .u8 57), (.int .u8 43), (.int .u8 47)], rfl, rfl, ⟨[(.int .u8 116)], [(.int .u8 117), (.int .u8 118), (.int .u8 119), (.int .u8 120), (.int .u8 121), (.int .u8 122), (.int .u8 48), (.int .u8 49), (.int .u8 50), (.int .u8 51), (.int .u8 52), (.int .u8 53), (.int .u8 54), (.int .u8 55), (.int .u8 56), (.int .u8 57), (.int .u8 43), (.int .u8 47)], rfl, rfl, ⟨[(.int .u8 117)], [(.int .u8 118), (.int .u8 119), (.int .u8 120), (.int .u8 121), (.int .u8 122), (.int .u8 48), (.int .u8 49), (.int .u8 50), (.int .u8 51), (.int .u8 52), (.int .u8 53), (.int .u8 54), (.int .u8 55), (.int .u8 56), (.int .u8 57), (.int .u8 43), (.int .u8 47)], rfl, rfl, ⟨[(.int .u8 118)], [(.int .u8 119), (.int .u8 120), (.int .u8 121), (.int .u8 122), (.int .u8 48), (.int .u8 49), (.int .u8 50), (.int .u8 51), (.int .u8 52), (.int .u8 53), (.int .u8 54), (.int .u8 55), (.int .u8 56), (.int .u8 57), (.int .u8 43), (.int .u8 47)], rfl, rfl, ⟨[(.int .u8 119)], [(.int .u8 120), (.int .u8 121), (.int .u8 122), (.int .u8 48), (.int .u8 49), (.int .u8 50), (.int .u8 51), (.int .u8 52), (.int .u8 53), (.int .u8 54), (.int .u8 55), (.int .u8 56), (.int .u8 57), (.int .u8 43), (.int .u8 47)], rfl, rfl, ⟨[(.int .u8 120)], [(.int .u8 121), (.int .u8 122), (.int .u8 48), (.int .u8 49), (.int .u8 50), (.int .u8 51), (.int .u8 52), (.int .u8 53), (.int .u8 54), (.int .u8 55), (.int .u8 56), (.int .u8 57), (.int .u8 43), (.int .u8 47)], rfl, rfl, ⟨[(.int .u8 121)], [(.int .u8 122), (.int .u8 48), (.int .u8 49), (.int .u8 50), (.int .u8 51), (.int .u8 52), (.int .u8 53), (.int .u8 54), (.int .u8 55), (.int .u8 56), (.int .u8 57), (.int .u8 43), (.int .u8 47)], rfl, rfl, ⟨[(.int .u8 122)], [(.int .u8 48), (.int .u8 49), (.int .u8 50), (.int .u8 51), (.int .u8 52), (.int .u8 53), (.int .u8 54), (.int .u8 55), (.int .u8 56), (.int .u8 57), (.int .u8 43), (.int .u8 47)], rfl, rfl, ⟨[(.int .u8 48)], [(.int .u8 49), (.int .u8 50), (.int .u8 51), (.int .u8 52), (.int .u8 53), (.int .u8 54), (.int .u8 55), (.int .u8 56), (.int .u8 57), (.int .u8 43), (.int .u8 47)], rfl, rfl, ⟨[(.int .u8 49)], [(.int .u8 50), (.int .u8 51), (.int .u8 52), (.int .u8 53), (.int .u8 54), (.int .u8 55), (.int .u8 56), (.int .u8 57), (.int .u8 43), (.int .u8 47)], rfl, rfl, ⟨[(.int .u8 50)], [(.int .u8 51), (.int .u8 52), (.int .u8 53), (.int .u8 54), (.int .u8 55), (.int .u8 56), (.int .u8 57), (.int .u8 43), (.int .u8 47)], rfl, rfl, ⟨[(.int .u8 51)], [(.int .u8 52), (.int .u8 53), (.int .u8 54), (.int .u8 55), (.int .u8 56), (.int .u8 57), (.int .u8 43), (.int .u8 47)], rfl, rfl, ⟨[(.int .u8 52)], [(.int .u8 53), (.int .u8 54), (.int .u8 55), (.int .u8 56), (.int .u8 57), (.int .u8 43), (.int .u8 47)], rfl, rfl, ⟨[(.int .u8 53)], [(.int .u8 54), (.int .u8 55), (.int .u8 56), (.int .u8 57), (.int .u8 43), (.int .u8 47)], rfl, rfl, ⟨[(.int .u8 54)], [(.int .u8 55), (.int .u8 56), (.int .u8 57), (.int .u8 43), (.int .u8 47)], rfl, rfl, ⟨[(.int .u8 55)], [(.int .u8 56), (.int .u8 57), (.int .u8 43), (.int .u8 47)], rfl, rfl, ⟨[(.int .u8 56)], [(.int .u8 57), (.int .u8 43), (.int .u8 47)], rfl, rfl, ⟨[(.int .u8 57)], [(.int .u8 43), (.int .u8 47)], rfl, rfl, ⟨[(.int .u8 43)], [(.int .u8 47)], rfl, rfl, ⟨[(.int .u8 47)], [], rfl, rfl, rfl⟩⟩⟩⟩⟩⟩⟩⟩⟩⟩⟩⟩⟩⟩⟩⟩⟩⟩⟩⟩⟩⟩⟩⟩⟩⟩⟩⟩⟩⟩⟩⟩⟩⟩⟩⟩⟩⟩⟩⟩⟩⟩⟩⟩⟩⟩⟩⟩⟩⟩⟩⟩⟩⟩⟩⟩⟩⟩⟩⟩⟩⟩⟩⟩ (show 64 ≤ maxLen by decide) (fun h => h)
         have hl72 : ∀ g, blk (some ⟨b65, 0, none⟩) = some g → w0.heap.size ≤ g := loo hbe69 hB60.size
         refine gv_conv8 (t := 22) (e := 5) (a := (some ⟨b65, 0, none⟩)) (cap := 64) (xs := ([(65 : UInt8), (66 : UInt8), (67 : UInt8), (68 : UInt8), (69 : UInt8), (70 : UInt8), (71 : UInt8), (72 : UInt8), (73 : UInt8), (74 : UInt8), (75 : UInt8), (76 : UInt8), (77 : UInt8), (78 : UInt8), (79 : UInt8), (80 : UInt8), (81 : UInt8), (82 : UInt8), (83 : UInt8), (84 : UInt8), (85 : UInt8), (86 : UInt8), (87 : UInt8), (88 : UInt8), (89 : UInt8), (90 : UInt8), (97 : UInt8), (98 : UInt8), (99 : UInt8), (100 : UInt8), (101 : UInt8), (102 : UInt8), (103 : UInt8), (104 : UInt8), (105 : UInt8), (106 : UInt8), (107 : UInt8), (108 : UInt8), (109 : UInt8), (110 : UInt8), (111 : UInt8), (112 : UInt8), (113 : UInt8), (114 : UInt8), (115 : UInt8), (116 : UInt8), (117 : UInt8), (118 : UInt8), (119 : UInt8), (120 : UInt8), (121 : UInt8), (122 : UInt8), (48 : UInt8), (49 : UInt8), (50 : UInt8), (51 : UInt8), (52 : UInt8), (53 : UInt8), (54 : UInt8), (55 : UInt8), (56 : UInt8), (57 : UInt8), (43 : UInt8), (47 : UInt8)] : List UInt8)) (by kernel_rfl) (by kernel_rfl) Tryd.underlying22 Tryd.underlying5 ho71 rfl ?_
         intro w76 hg77 hr78 hz79
         have hx80 : ∀ k, blk (some ⟨b65, 0, none⟩) = some k → k < w76.heap.size := fun k hk => by rw [hz79]; exact (fun k (hk : blk (some ⟨b65, 0, none⟩) = some k) => ho71.lt k hk) k hk
         refine gv_pureN 4 [35, 36, 37, 38] [(35, (.string s_0)), (38, (.int .i64 (IntKind.i64.wrap (s43.2 + s58.2.2))))] (by kernel_rfl) ?_
         refine bindE h4 ?_; clear h4; intro x81 hx82 h4
         refine gv_sindex (t := 9) (s := s_0) (kk := .i64) (i := (IntKind.i64.wrap (s43.2 + s58.2.2))) x81 [] (fun e => by cases e) rfl rfl rfl (by kernel_rfl) (by kernel_rfl) Tryd.underlying9 hx82 rfl ?_
         refine bindE h4 ?_; clear h4; intro r83 hr84 h4
         refine gv_call0 (by kernel_rfl) rfl (by kernel_rfl) enters39 (bytes_IndexByte_ok fuel (some ⟨b65, 0, none⟩) 64 ([(65 : UInt8), (66 : UInt8), (67 : UInt8), (68 : UInt8), (69 : UInt8), (70 : UInt8), (71 : UInt8), (72 : UInt8), (73 : UInt8), (74 : UInt8), (75 : UInt8), (76 : UInt8), (77 : UInt8), (78 : UInt8), (79 : UInt8), (80 : UInt8), (81 : UInt8), (82 : UInt8), (83 : UInt8), (84 : UInt8), (85 : UInt8), (86 : UInt8), (87 : UInt8), (88 : UInt8), (89 : UInt8), (90 : UInt8), (97 : UInt8), (98 : UInt8), (99 : UInt8), (100 : UInt8), (101 : UInt8), (102 : UInt8), (103 : UInt8), (104 : UInt8), (105 : UInt8), (106 : UInt8), (107 : UInt8), (108 : UInt8), (109 : UInt8), (110 : UInt8), (111 : UInt8), (112 : UInt8), (113 : UInt8), (114 : UInt8), (115 : UInt8), (116 : UInt8), (117 : UInt8), (118 : UInt8), (119 : UInt8), (120 : UInt8), (121 : UInt8), (122 : UInt8), (48 : UInt8), (49 : UInt8), (50 : UInt8), (51 : UInt8), (52 : UInt8), (53 : UInt8), (54 : UInt8), (55 : UInt8), (56 : UInt8), (57 : UInt8), (43 : UInt8), (47 : UInt8)] : List UInt8) x81 w76 (fun k => (fun k => blk (some ⟨b65, 0, none⟩) = some k) k) (fun k hk => hx80 k hk) (hr78.wide (fun k hk => hk)) r83 hr84) ?_
         rintro v87 w85 ⟨hg86, rfl⟩
         have hz88 := (nt (nt (nt hz61 hg67.size) hg77.size) hg86.size)
         clear hr84 hx82 hx80 hz79 hr78 ho71 hz70 hb68 hc64 hz61
         refine gv_pureN 1 [9] [(9, (.int .i64 r83))] (by kernel_rfl) ?_
         refine gv_nil <| gv_seq <| gv_seq <| gv_region <| gv_pureN 2 [41, 42] [(42, (.bool (decide (r83 < 0))))] (by kernel_rfl) ?_
         refine gv_nil <| gv_cond (b := (decide (r83 < 0))) (by kernel_rfl) (fun hc89 => ?_) (fun hc89 => ?_)
         ·replace h4 := ite_t hc89 h4
          refine gv_cexit <| gv_exit rfl ?_
          have e := sj h4; subst e
          replace h3 := congrArg some (hR4 _ rfl)
          have e := sj h3; subst e
          refine gv_goal fun a hd hs hok => ?_
          have hB90 := bg hB60 hg67 nb
          have hB91 := bg hB90 hg77 hl72
          have hB92 := bg hB91 hg86 nb
          have hz93 := hz88
          have ap94 : ∀ g, blk (some ⟨b65, 0, none⟩) = some g → ¬ (· = b1) g := fun g e hx => nl ((lowo hbe69) g e) ((ltb hb62) _ hx)
          have hk95 := ((hb62.grown hg67 nb).grown hg77 ap94).grown hg86 nb
          have ap96 : ∀ g, blk (some ⟨b65, 0, none⟩) = some g → ¬ (fun k => blk a48 = some k) g := fun g e hx => nl ((lowo hbe69) g e) ((fun k (hk : blk a48 = some k) => hk63.lt k hk) _ hx)
          have hk97 := ((hk63.grown hg67 (fun _ h => h.elim) nb).grown hg77 (fun _ h => h.elim) (rdnn ap96)).grown hg86 (fun _ h => h.elim) nb
          exact ⟨hB92, hz93, hk95, hk97, hd, hs, ok_pick [0, 3, 4, 5, 6, 7] hok (by kernel_rfl)⟩
         ·replace h4 := ite_f hc89 h4
          refine gv_skip <| gv_region <| gv_pureN 5 [43, 44, 45, 46, 47] [(43, (.int .i64 s58.1)), (44, (.int .i64 r83)), (47, (.int .i64 (IntKind.i64.wrap (18 - (IntKind.i64.wrap (6 * s58.2.2))))))] (by kernel_rfl) ?_
          refine bindE h4 ?_; clear h4; intro _ hx98 h4
          refine gv_shift .shl (t := 3) (kk := .i64) (ky := .i64) (x := r83) (y := (IntKind.i64.wrap (18 - (IntKind.i64.wrap (6 * s58.2.2))))) (shlI .i64 r83 (IntKind.i64.wrap (18 - (IntKind.i64.wrap (6 * s58.2.2))))) [] (fun e => by cases e) rfl rfl rfl (by kernel_rfl) (by kernel_rfl) (nn_spec hx98) (.inl ⟨rfl, rfl⟩) rfl ?_
          refine gv_pureN 4 [6, 7, 49, 50] [(6, (.int .i64 (bwOr .i64 s58.1 (shlI .i64 r83 (IntKind.i64.wrap (18 - (IntKind.i64.wrap (6 * s58.2.2)))))))), (7, (.int .i64 s58.2.2))] (by kernel_rfl) ?_
          refine bindE h4 ?_; clear h4; intro n99 hn100 h4
          refine gv_name (s := 6) (v := (.int .i64 (bwOr .i64 s58.1 (shlI .i64 r83 (IntKind.i64.wrap (18 - (IntKind.i64.wrap (6 * s58.2.2)))))))) (v' := (.int .i64 n99)) (by kernel_rfl) (congrArg (Value.int .i64) (sj hn100)) ?_
          refine gv_nil <| gv_blk <| gv_region <| gv_pureN 2 [30, 51] [(30, (.int .i64 (IntKind.i64.wrap (s58.2.2 + 1))))] (by kernel_rfl) ?_
          refine gv_nil ?_
          have e := sj h4; subst e
          refine gv_goal fun a hd hs hok => ?_
          have hB101 := bg hB60 hg67 nb
          have hB102 := bg hB101 hg77 hl72
          have hB103 := bg hB102 hg86 nb
          have hz104 := hz88
          have ap105 : ∀ g, blk (some ⟨b65, 0, none⟩) = some g → ¬ (· = b1) g := fun g e hx => nl ((lowo hbe69) g e) ((ltb hb62) _ hx)
          have hk106 := ((hb62.grown hg67 nb).grown hg77 ap105).grown hg86 nb
          have ap107 : ∀ g, blk (some ⟨b65, 0, none⟩) = some g → ¬ (fun k => blk a48 = some k) g := fun g e hx => nl ((lowo hbe69) g e) ((fun k (hk : blk a48 = some k) => hk63.lt k hk) _ hx)
          have hk108 := ((hk63.grown hg67 (fun _ h => h.elim) nb).grown hg77 (fun _ h => h.elim) (rdnn ap107)).grown hg86 (fun _ h => h.elim) nb
          exact ⟨(n99, s58.2.2, (IntKind.i64.wrap (s58.2.2 + 1))), rfl, hB103, hz104, hk106, hk108, hd, hs, ok_pick [0, 3, 4, 5, 6, 7, 30] hok (by kernel_rfl)⟩
        ·replace h4 := ite_f hc64 h4
         refine gv_cexit <| gv_exit rfl ?_
         have e := sj h4; subst e
         replace h3 := congrArg some (hR4 _ rfl)
         have e := sj h3; subst e
         refine gv_goal fun a hd hs hok => ?_
         have hz109 := hz61
         exact ⟨hB60, hz109, hb62, hk63, hd, hs, ok_pick [0, 3, 4, 5, 6, 7] hok (by kernel_rfl)⟩
      ·rintro a w57 ⟨hB110, hz111, hb112, hk113, hd, hs, hok⟩
       refine gv_in ?_ hd hs hok
       clear hd hs hok
       have hz114 := (nt hz47 hz111)
       clear hz111 hc55 hb54 ho50 hz47 hB46
       refine gv_seq <| gv_region <| gv_pureN 8 [52, 53, 54, 55, 56, 57, 58, 59] [(54, (.int .u8 (IntKind.u8.wrap (((j56.1).fdiv (2 ^ 16)))))), (57, (.int .u8 (IntKind.u8.wrap (((j56.1).fdiv (2 ^ 8)))))), (59, (.int .u8 (IntKind.u8.wrap (j56.1))))] (by kernel_rfl) ?_
       refine bindE h2 ?_; clear h2; intro b115 hb116 h2
       have hu117 := u8_spec hb116
       refine bindE h2 ?_; clear h2; intro b118 hb119 h2
       have hu120 := u8_spec hb119
       refine bindE h2 ?_; clear h2; intro b121 hb122 h2
       have hu123 := u8_spec hb122
       refine gv_new0 (fun b => .slice (some ⟨b, 0, none⟩) 3 3) #[(.int .u8 (IntKind.u8.wrap (((j56.1).fdiv (2 ^ 16))))), (.int .u8 (IntKind.u8.wrap (((j56.1).fdiv (2 ^ 8))))), (.int .u8 (IntKind.u8.wrap (j56.1)))] 5 (by kernel_rfl) (by kernel_rfl) ?_
       intro b124 w125 hg126 hb127 hbe128 hz129
       have ho130 : Gv.Own bE 5 w125 (fun _ => False) (some ⟨b124, 0, none⟩) 3 ([b115, b118, b121] : List UInt8) := Box.ownE hb127 ⟨[(.int .u8 (IntKind.u8.wrap (((j56.1).fdiv (2 ^ 16)))))], [(.int .u8 (IntKind.u8.wrap (((j56.1).fdiv (2 ^ 8))))), (.int .u8 (IntKind.u8.wrap (j56.1)))], rfl, (by simp only [bE, flat, hu117]), ⟨[(.int .u8 (IntKind.u8.wrap (((j56.1).fdiv (2 ^ 8)))))], [(.int .u8 (IntKind.u8.wrap (j56.1)))], rfl, (by simp only [bE, flat, hu120]), ⟨[(.int .u8 (IntKind.u8.wrap (j56.1)))], [], rfl, (by simp only [bE, flat, hu123]), rfl⟩⟩⟩ (show 3 ≤ maxLen by decide) (fun h => h)
       have hl131 : ∀ g, blk (some ⟨b124, 0, none⟩) = some g → w0.heap.size ≤ g := loo hbe128 hB110.size
       refine gv_pureN 1 [10] [(10, (.slice (some ⟨b124, 0, none⟩) (List.length ([b115, b118, b121] : List UInt8)) 3))] (by kernel_rfl) ?_
       refine gv_nil <| gv_region <| gv_pureN 3 [61, 62, 63] [(61, (.slice a48 (List.length s43.1) c49)), (62, (.slice (some ⟨b124, 0, none⟩) (List.length ([b115, b118, b121] : List UInt8)) 3)), (63, (.int .i64 j56.2))] (by kernel_rfl) ?_
       refine bindE h2 ?_; clear h2; intro x135 hx136 h2
       refine gv_pop bE (t := 22) (e := 5) (xs := ([b115, b118, b121] : List UInt8)) (a := (some ⟨b124, 0, none⟩)) (cap := 3) (lo := none) (hi := (some (.int .i64 j56.2))) j56.2 x135 (fun e => by cases e) rfl rfl rfl (by kernel_rfl) (by kernel_rfl) Tryd.underlying22 (by kernel_rfl) (.inl ⟨rfl, rfl⟩) (.inr ⟨_, rfl⟩) hx136 (ho130.rd (Y := fun k => blk (some ⟨b124, 0, none⟩) = some k) (fun _ h => h.elim) (fun g e => e)).1 ?_
       have ho137 := ho130.pop hx136
       refine bindE h2 ?_; clear h2; intro l138 hx139 h2
       have hk146 := hk113.grown hg126 (fun _ h => h.elim) nb
       refine gv_append bE (t := 22) (ty := 22) (e := 5) (a := a48) (ax := (some ⟨b124, 0, none⟩)) (cap := c49) (cx := 3) (xs := s43.1) (ys := x135) l138 (X := (fun _ => False)) (Y := (fun k => blk (some ⟨b124, 0, none⟩) = some k)) (by decide) rfl rfl (by kernel_rfl) (by kernel_rfl) Tryd.underlying22 info5 hk146 (ho137.rd (Y := fun k => blk (some ⟨b124, 0, none⟩) = some k) (fun _ h => h.elim) (fun g e => e)) hx139 (.inr fun _ _ _ _ _ h => h) (fun _ h => h.elim) ?_
       intro a140 c141 w142 hg143 ho144 hk145
       refine ⟨(fun e => by cases e), ?_⟩
       have hB148 := bg hB110 hg126 nb
       have hl147 : ∀ g, blk a140 = some g → w0.heap.size ≤ g := blk_step hk145 hl51 hB148.size
       have hk150 := hb112.grown hg126 nb
       have ap149 : ∀ g, blk a140 = some g → ¬ (· = b1) g := blk_neX hk145 ap52 (ltb hk150)
       have ap151 : ¬ (fun k => blk a140 = some k) b1 := fun h => blk_rev hk145 (fun h => (ap53) h) (hk150.lt) h
       have ap153 : ∀ g, blk a48 = some g → ¬ (fun k => blk (some ⟨b124, 0, none⟩) = some k) g := fun g e hx => nl ((lowo hbe128) _ hx) ((fun k (hk : blk a48 = some k) => hk113.lt k hk) g e)
       have ap152 : ∀ g, blk a140 = some g → ¬ (fun k => blk (some ⟨b124, 0, none⟩) = some k) g := blk_neX hk145 ap153 (fun k (hk : blk (some ⟨b124, 0, none⟩) = some k) => ho137.lt k hk)
       have ap155 : ∀ g, blk (some ⟨b124, 0, none⟩) = some g → ¬ (fun k => blk a48 = some k) g := fun g e hx => nl ((lowo hbe128) g e) ((fun k (hk : blk a48 = some k) => hk113.lt k hk) _ hx)
       have ap154 : ∀ g, blk (some ⟨b124, 0, none⟩) = some g → ¬ (fun k => blk a140 = some k) g := fun g e h => blk_rev hk145 (fun h => ((ap155) g e) h) (ho137.lt g e) h
       refine gv_pureN 1 [4] [(4, (.slice a140 (List.length l138) c141))] (by kernel_rfl) ?_
       refine gv_nil <| gv_blk <| gv_region <| gv_pureN 3 [5, 28, 29] [(5, (.int .i64 (IntKind.i64.wrap (s43.2 + 4))))] (by kernel_rfl) ?_
       refine gv_nil ?_
       have e := sj h2; subst e
       refine gv_goal fun a hd hs hok => ?_
       have hB156 := bg hB148 hg143 hl51
       have hz157 := (nt (nt hz114 hg126.size) hg143.size)
       have hk158 := hk150.grown hg143 ap52
       exact ⟨(l138, (IntKind.i64.wrap (s43.2 + 4))), rfl, a140, c141, hB156, hz157, ho144, hl147, ap149, ap151, hk158, hd, hs, ok_pick [0, 3, 4, 5] hok (by kernel_rfl)⟩
     ·replace h2 := ite_f hc55 h2
      refine gv_cexit <| gv_exit rfl ?_
      have e := sj h2; subst e
      replace h1 := congrArg some (hR2 _ rfl)
      have e := sj h1; subst e
      refine gv_goal fun a hd hs hok => ?_
      have hz159 := hz47
      exact ⟨a48, c49, hB46, hz159, ho50, hl51, ap52, ap53, hb54, hd, hs, ok_pick [0, 3, 4] hok (by kernel_rfl)⟩
   ·rintro a w42 ⟨a162, c163, hB160, hz161, ho164, hl165, ap166, ap167, hb168, hd, hs, hok⟩
    refine gv_in ?_ hd hs hok
    clear hd hs hok
    clear hz161 hc26 hn25 hc9 hn8 hz6 hb4 hg3
    refine gv_seq <| gv_seq <| gv_region <| gv_pureN 1 [67] [(67, (.slice a162 (List.length j41) c163))] (by kernel_rfl) ?_
    refine bindE h0 ?_; clear h0; intro r169 hr170 h0
    refine gv_call0 (by kernel_rfl) rfl (by kernel_rfl) enters16 (bytestr_Base64_ok fuel a162 c163 j41 w42 (fun k => (fun k => blk a162 = some k) k) (fun k hk => (fun k (hk : blk a162 = some k) => ho164.lt k hk) k hk) ((ho164.rd (Y := fun k => blk a162 = some k) (fun _ h => h.elim) (fun g e => e)).wide (fun k hk => hk)) r169 hr170) ?_
    rintro v173 w171 ⟨hg172, rfl⟩
    refine gv_pureN 3 [66, 69, 70] [(69, (.string r169.1)), (70, (.agg #[(.int .i64 r169.2.1), (.int .i64 r169.2.2)]))] (by kernel_rfl) ?_
    refine gv_new0 (fun b => .pointer (some ⟨b, 0, none⟩)) #[(.int .i64 0), (.int .i64 0)] 25 (by kernel_rfl) (by kernel_rfl) ?_
    intro b174 w175 hg176 hb177 hbe178 hz179
    refine gv_pureN 1 [11] [(11, (.string r169.1))] (by kernel_rfl) ?_
    refine gv_store0 25 0 (.agg #[(.int .i64 r169.2.1), (.int .i64 r169.2.2)]) #[(.int .i64 r169.2.1), (.int .i64 r169.2.2)] hb177 (by kernel_rfl) (by kernel_rfl) (by kernel_rfl) ?_
    intro w180 hg181 hb182 hz183
    refine gv_nil <| gv_seq <| gv_region <| gv_pureN 3 [71, 72, 73] [(73, (.bool (!(r169.1.toList == s_0.toList))))] (by kernel_rfl) ?_
    refine gv_nil <| gv_cond (b := (!(r169.1.toList == s_0.toList))) (by kernel_rfl) (fun hc184 => ?_) (fun hc184 => ?_)
    ·replace h0 := ite_t hc184 h0
     refine gv_seq <| gv_region <| bindE h0 ?_; clear h0; intro r185 hr186 h0
     refine gv_call0 (by kernel_rfl) rfl (by kernel_rfl) enters38 (bytestr_at_ok fuel 1 (-1) w180  r185 hr186) ?_
     rintro v189 w187 ⟨hg188, rfl⟩
     refine gv_pureN 1 [2] [(2, (.slice none (List.length ([] : List UInt8)) 0))] (by kernel_rfl) ?_
     have hg194 := (grown_trans hg172 hg176)
     have hk195 := hb168.grown hg172 nb
     have lt196 := ltl ((ltb hk195) _ rfl) ((lowb hbe178) _ rfl)
     have hk197 := ((hb168.grown hg194 nb).grown hg181 (rowne (ng lt196))).grown hg188 nb
     refine gv_store0 25 0 (.agg #[(.int .i64 r185.1), (.int .i64 r185.2)]) #[(.int .i64 r185.1), (.int .i64 r185.2)] hk197 (by kernel_rfl) (by kernel_rfl) (by kernel_rfl) ?_
     intro w190 hg191 hb192 hz193
     refine gv_nil <| gv_cret ?_
     have e := sj h0; subst e
     refine gv_ret (gv_done [(.slice none (List.length ([] : List UInt8)) 0), (.agg #[(.int .i64 r185.1), (.int .i64 r185.2)])] rfl ⟨(by kernel_rfl), ⟨⟨b1, 0, none⟩, (by kernel_rfl), run_loadVar_row w190 b1 _ 25 _ _ _ hb192 Tryd.underlying25 rfl (by kernel_rfl)⟩, trivial⟩ ?_)
     have hB198 := bg hB160 hg194 nb
     have hB199 := bg hB160 hg172 nb
     have hlo200 : w0.heap.size ≤ b174 := lob hbe178 hB199.size
     have hB201 := bg hB198 hg181 (rowlo hlo200)
     have hB202 := bg hB201 hg188 nb
     have hlo203 : w0.heap.size ≤ b1 := lob hbe5 hB0.size
     have hB204 := bg hB202 hg191 (rowlo hlo203)
     exact ⟨grown_of_below hB204, none, 0, rfl, (Gv.Own.nil bE 5 w190 (fun _ => False)), (fun _ h => by cases h)⟩
    ·replace h0 := ite_f hc184 h0
     refine gv_skip <| gv_seq <| gv_region <| gv_pureN 3 [2, 75, 76] [(2, (.slice a162 (List.length j41) c163)), (76, (.agg #[(.int .i64 0), (.int .i64 0)]))] (by kernel_rfl) ?_
     have hg209 := (grown_trans hg172 hg176)
     have hk210 := hb168.grown hg172 nb
     have lt211 := ltl ((ltb hk210) _ rfl) ((lowb hbe178) _ rfl)
     have hk212 := (hb168.grown hg209 nb).grown hg181 (rowne (ng lt211))
     refine gv_store0 25 0 (.agg #[(.int .i64 0), (.int .i64 0)]) #[(.int .i64 0), (.int .i64 0)] hk212 (by kernel_rfl) (by kernel_rfl) (by kernel_rfl) ?_
     intro w205 hg206 hb207 hz208
     clear hz208 hk212 lt211 hk210 hg209 hc184 hz183 hb182 hz179 hb177 hr170 hb168
     refine gv_nil <| gv_cret ?_
     have e := sj h0; subst e
     refine gv_ret (gv_done [(.slice a162 (List.length j41) c163), (.agg #[(.int .i64 0), (.int .i64 0)])] rfl ⟨(by kernel_rfl), ⟨⟨b1, 0, none⟩, (by kernel_rfl), run_loadVar_row w205 b1 _ 25 _ _ _ hb207 Tryd.underlying25 rfl (by kernel_rfl)⟩, trivial⟩ ?_)
     have hg213 := (grown_trans hg172 hg176)
     have hB214 := bg hB160 hg213 nb
     have hB215 := bg hB160 hg172 nb
     have hlo216 : w0.heap.size ≤ b174 := lob hbe178 hB215.size
     have hB217 := bg hB214 hg181 (rowlo hlo216)
     have hlo218 : w0.heap.size ≤ b1 := lob hbe5 hB0.size
     have hB219 := bg hB217 hg206 (rowlo hlo218)
     have hk220 := ho164.grown hg172 (fun _ h => h.elim) nb
     have ap221 : ¬ (fun k => blk a162 = some k) b174 := fun hx => nl ((lowb hbe178) _ rfl) ((fun k (hk : blk a162 = some k) => hk220.lt k hk) _ hx)
     have hk222 := ((ho164.grown hg213 (fun _ h => h.elim) nb).grown hg181 (fun _ h => h.elim) (rdnn (rowne ap221))).grown hg206 (fun _ h => h.elim) (rdnn (rowne ap167))
     exact ⟨grown_of_below hB219, a162, c163, rfl, hk222, hl165⟩

theorem utf8_word_string_ok (fuel : Nat) (s_0 : ByteArray) (w0 : World)  (r0 : Int) (h0 : utf8_word_string fuel s_0 = some r0) :
    Calls Tryd.prog 61 ([(.string s_0)] : List Value).toArray w0 (Ret fun v w' => w0.grownBy w' none ∧ v = tup [(.int .u64 r0)]) := by
 have hB0 : Below w0.heap.size w0 w0 := Below.refl _ _
 unfold utf8_word_string at h0
 refine calls_run Tryd.func61 rfl Tryd.ntmps61 (by kernel_rfl) ?_
 refine gv_sub [0] (σ' := [(0, (.string s_0))]) (by kernel_rfl) ?_
 refine gv_seq <| gv_region <| gv_pureN 1 [2] [] (by kernel_rfl) ?_
 refine gv_nil <| gv_seq <| gv_cond (b := false) (by kernel_rfl) (fun hc => ?_) (fun hc => ?_)
 ·cases hc
 clear hc
 refine gv_skip <| gv_seq <| gv_drawA (by kernel_rfl) ?_
 intro w1 hg2
 refine gv_pre [0, 1, 3, 4, 8, 9, 13, 14, 18, 19, 23, 24, 28, 29, 33, 34] (bA 39 [0, 1, 3, 4, 8, 9, 13, 14, 18, 19, 23, 24, 28, 29, 33, 34]) 23 (by kernel_rfl) (by kernel_rfl) ?_
 refine gv_pureN 1 [21] [(21, (.string s_0))] (by kernel_rfl) ?_
 refine bindE h0 ?_; clear h0; intro x3 hx4 h0
 refine gv_sindex (t := 9) (s := s_0) (kk := .i64) (i := 0) x3 [] (fun e => by cases e) rfl rfl rfl (by kernel_rfl) (by kernel_rfl) Tryd.underlying9 hx4 rfl ?_
 refine gv_pureN 1 [24] [(24, (.string s_0))] (by kernel_rfl) ?_
 refine bindE h0 ?_; clear h0; intro x5 hx6 h0
 refine gv_sindex (t := 9) (s := s_0) (kk := .i64) (i := 1) x5 [] (fun e => by cases e) rfl rfl rfl (by kernel_rfl) (by kernel_rfl) Tryd.underlying9 hx6 rfl ?_
 refine gv_pureN 1 [29] [(29, (.string s_0))] (by kernel_rfl) ?_
 refine bindE h0 ?_; clear h0; intro x7 hx8 h0
 refine gv_sindex (t := 9) (s := s_0) (kk := .i64) (i := 2) x7 [] (fun e => by cases e) rfl rfl rfl (by kernel_rfl) (by kernel_rfl) Tryd.underlying9 hx8 rfl ?_
 refine gv_pureN 1 [34] [(34, (.string s_0))] (by kernel_rfl) ?_
 refine bindE h0 ?_; clear h0; intro x9 hx10 h0
 refine gv_sindex (t := 9) (s := s_0) (kk := .i64) (i := 3) x9 [] (fun e => by cases e) rfl rfl rfl (by kernel_rfl) (by kernel_rfl) Tryd.underlying9 hx10 rfl ?_
 refine gv_pureN 1 [39] [(39, (.string s_0))] (by kernel_rfl) ?_
 refine bindE h0 ?_; clear h0; intro x11 hx12 h0
 refine gv_sindex (t := 9) (s := s_0) (kk := .i64) (i := 4) x11 [] (fun e => by cases e) rfl rfl rfl (by kernel_rfl) (by kernel_rfl) Tryd.underlying9 hx12 rfl ?_
 refine gv_pureN 1 [44] [(44, (.string s_0))] (by kernel_rfl) ?_
 refine bindE h0 ?_; clear h0; intro x13 hx14 h0
 refine gv_sindex (t := 9) (s := s_0) (kk := .i64) (i := 5) x13 [] (fun e => by cases e) rfl rfl rfl (by kernel_rfl) (by kernel_rfl) Tryd.underlying9 hx14 rfl ?_
 refine gv_pureN 1 [49] [(49, (.string s_0))] (by kernel_rfl) ?_
 refine gv_sub [0, 22, 25, 30, 35, 40, 45, 49] (σ' := [(0, (.string s_0)), (22, (.int .u8 x3)), (25, (.int .u8 x5)), (30, (.int .u8 x7)), (35, (.int .u8 x9)), (40, (.int .u8 x11)), (45, (.int .u8 x13)), (49, (.string s_0))]) (by kernel_rfl) ?_
 refine bindE h0 ?_; clear h0; intro x15 hx16 h0
 refine gv_sindex (t := 9) (s := s_0) (kk := .i64) (i := 6) x15 [] (fun e => by cases e) rfl rfl rfl (by kernel_rfl) (by kernel_rfl) Tryd.underlying9 hx16 rfl ?_
 refine gv_pureN 1 [54] [(54, (.string s_0))] (by kernel_rfl) ?_
 refine bindE h0 ?_; clear h0; intro x17 hx18 h0
 refine gv_sindex (t := 9) (s := s_0) (kk := .i64) (i := 7) x17 [] (fun e => by cases e) rfl rfl rfl (by kernel_rfl) (by kernel_rfl) Tryd.underlying9 hx18 rfl ?_
 refine gv_nil <| gv_goA ?_
 refine gv_stage (Cls w1 []) [0, 1, 2, 3, 4, 5, 6, 7, 8, 9, 10, 11, 12, 13, 14, 15, 16, 17, 18, 19, 20, 21, 22, 23, 24, 25, 26, 27, 28, 29, 30, 31, 32, 33, 34, 35, 36] [(2, some true), (5, some true), (6, some true), (7, some true), (10, some true), (11, some true), (12, some true), (15, some true), (16, some true), (17, some true), (20, some true), (21, some true), (22, some true), (25, some true), (26, some true), (27, some true), (30, some true), (31, some true), (32, some true), (35, some true), (36, some true)] (bA 39 [0, 1, 2, 3, 4, 5, 6, 7, 8, 9, 10, 11, 12, 13, 14, 15, 16, 17, 18, 19, 20, 21, 22, 23, 24, 25, 26, 27, 28, 29, 30, 31, 32, 33, 34, 35, 36]) 2 (by kernel_rfl) (by kernel_rfl) (Cls.refl _ _) ?_
 have hC19 := Cls.refl w1 []
 refine gv_pureN 21 [23, 26, 27, 28, 31, 32, 33, 36, 37, 38, 41, 42, 43, 46, 47, 48, 51, 52, 53, 56, 57] [(53, (.int .u64 (bwOr .u64 (bwOr .u64 (bwOr .u64 (bwOr .u64 (bwOr .u64 (bwOr .u64 (IntKind.u64.wrap (x3)) (IntKind.u64.wrap ((IntKind.u64.wrap (x5)) * 2 ^ 8))) (IntKind.u64.wrap ((IntKind.u64.wrap (x7)) * 2 ^ 16))) (IntKind.u64.wrap ((IntKind.u64.wrap (x9)) * 2 ^ 24))) (IntKind.u64.wrap ((IntKind.u64.wrap (x11)) * 2 ^ 32))) (IntKind.u64.wrap ((IntKind.u64.wrap (x13)) * 2 ^ 40))) (IntKind.u64.wrap ((IntKind.u64.wrap (x15)) * 2 ^ 48))))), (57, (.int .u64 (IntKind.u64.wrap ((IntKind.u64.wrap (x17)) * 2 ^ 56))))] (by kernel_rfl) ?_
 refine gv_nil <| gv_goA ?_
 refine gv_pre [37, 38] (bA 39 [0, 1, 2, 3, 4, 5, 6, 7, 8, 9, 10, 11, 12, 13, 14, 15, 16, 17, 18, 19, 20, 21, 22, 23, 24, 25, 26, 27, 28, 29, 30, 31, 32, 33, 34, 35, 36, 37, 38]) 0 (by kernel_rfl) (by kernel_rfl) ?_
 refine gv_pureN 2 [2, 58] [(2, (.int .u64 (bwOr .u64 (bwOr .u64 (bwOr .u64 (bwOr .u64 (bwOr .u64 (bwOr .u64 (bwOr .u64 (IntKind.u64.wrap (x3)) (IntKind.u64.wrap ((IntKind.u64.wrap (x5)) * 2 ^ 8))) (IntKind.u64.wrap ((IntKind.u64.wrap (x7)) * 2 ^ 16))) (IntKind.u64.wrap ((IntKind.u64.wrap (x9)) * 2 ^ 24))) (IntKind.u64.wrap ((IntKind.u64.wrap (x11)) * 2 ^ 32))) (IntKind.u64.wrap ((IntKind.u64.wrap (x13)) * 2 ^ 40))) (IntKind.u64.wrap ((IntKind.u64.wrap (x15)) * 2 ^ 48))) (IntKind.u64.wrap ((IntKind.u64.wrap (x17)) * 2 ^ 56)))))] (by kernel_rfl) ?_
 refine bindE h0 ?_; clear h0; intro n20 hn21 h0
 refine gv_name (s := 2) (v := (.int .u64 (bwOr .u64 (bwOr .u64 (bwOr .u64 (bwOr .u64 (bwOr .u64 (bwOr .u64 (bwOr .u64 (IntKind.u64.wrap (x3)) (IntKind.u64.wrap ((IntKind.u64.wrap (x5)) * 2 ^ 8))) (IntKind.u64.wrap ((IntKind.u64.wrap (x7)) * 2 ^ 16))) (IntKind.u64.wrap ((IntKind.u64.wrap (x9)) * 2 ^ 24))) (IntKind.u64.wrap ((IntKind.u64.wrap (x11)) * 2 ^ 32))) (IntKind.u64.wrap ((IntKind.u64.wrap (x13)) * 2 ^ 40))) (IntKind.u64.wrap ((IntKind.u64.wrap (x15)) * 2 ^ 48))) (IntKind.u64.wrap ((IntKind.u64.wrap (x17)) * 2 ^ 56))))) (v' := (.int .u64 n20)) (by kernel_rfl) (congrArg (Value.int .u64) (sj hn21)) ?_
 refine gv_nil <| gv_goA ?_
 refine gv_stageE (by kernel_rfl) ?_
 refine gv_cret ?_
 have e := sj h0; subst e
 refine gv_ret (gv_done [(.int .u64 n20)] rfl ⟨(by kernel_rfl), trivial⟩ ?_)
 have hB22 := bg hB0 hg2 nb
 exact ⟨grown_of_below hB22, rfl⟩

theorem utf8_ValidString_ok (fuel : Nat) (s_0 : ByteArray) (w0 : World) (X0 : Nat → Prop) (hX0 : ∀ k, X0 k → k < w0.heap.size) (hG0 : Rd bE w0 X0 (some ⟨0, 0, none⟩) 256 utf8First) (hG1 : Rd (prE (iE .u8) (iE .u8)) w0 X0 (some ⟨1, 0, none⟩) 16 utf8Acc) (r0 : Bool) (h0 : utf8_ValidString fuel s_0 = some r0) :
    Calls Tryd.prog 42 ([(.string s_0)] : List Value).toArray w0 (Ret fun v w' => w0.grownBy w' none ∧ v = tup [(.bool r0)]) := by
 have hB0 : Below w0.heap.size w0 w0 := Below.refl _ _
 unfold utf8_ValidString at h0
 refine calls_run Tryd.func42 rfl Tryd.ntmps42 (by kernel_rfl) ?_
 refine gv_sub [0] (σ' := [(0, (.string s_0))]) (by kernel_rfl) ?_
 refine gv_seq <| gv_region <| gv_pureN 1 [2] [] (by kernel_rfl) ?_
 refine gv_nil <| gv_seq <| bindE h0 ?_; clear h0; intro j1 h1 h0
 refine gv_cut_code (J := fun a w3 => ∃ s2 : Unit, j1 = .inl s2 ∧ Below w0.heap.size w0 w3 ∧ w0.heap.size ≤ w3.heap.size ∧ a.defers = [] ∧ a.tmps.size = 169 ∧ Ok [] a.tmps) ?_ ?_
 ·skip
  refine gv_block <| gv_loop (A := fun (s4 : ByteArray) a w5 => Below w0.heap.size w0 w5 ∧ w0.heap.size ≤ w5.heap.size ∧ a.defers = [] ∧ a.tmps.size = 169 ∧ Ok [(0, (.string s4))] a.tmps) h1 ?_ ?_
  ·intro a hd hs hok
   exact ⟨hB0, (Nat.le_refl _), hd, hs, ok_pick [0] hok (by kernel_rfl)⟩
  ·rintro s4 r2 h2 hR2 a w5 ⟨hB6, hz7, hd, hs, hok⟩
   refine gv_in ?_ hd hs hok
   clear hd hs hok
   refine gv_seq <| gv_seq <| gv_region <| gv_pureN 3 [7, 8, 9] [(9, (.bool (decide (((ByteArray.size s4 : Nat) : Int) > 0))))] (by kernel_rfl) ?_
   refine gv_nil <| gv_cond (b := (decide (((ByteArray.size s4 : Nat) : Int) > 0))) (by kernel_rfl) (fun hc8 => ?_) (fun hc8 => ?_)
   ·replace h2 := ite_t hc8 h2
    refine gv_skip <| gv_block <| gv_seq <| gv_region <| gv_pureN 1 [10] [(10, (.string s4))] (by kernel_rfl) ?_
    refine bindE h2 ?_; clear h2; intro x9 hx10 h2
    refine gv_sindex (t := 9) (s := s4) (kk := .i64) (i := 0) x9 [] (fun e => by cases e) rfl rfl rfl (by kernel_rfl) (by kernel_rfl) Tryd.underlying9 hx10 rfl ?_
    refine gv_pureN 1 [3] [(3, (.int .u8 x9))] (by kernel_rfl) ?_
    refine gv_nil <| gv_seq <| gv_seq <| gv_region <| gv_pureN 2 [12, 13] [(13, (.bool (decide (x9 < 128))))] (by kernel_rfl) ?_
    refine gv_nil <| gv_cond (b := (decide (x9 < 128))) (by kernel_rfl) (fun hc11 => ?_) (fun hc11 => ?_)
    ·replace h2 := ite_t hc11 h2
     refine gv_seq <| gv_region <| gv_pureN 1 [14] [(14, (.string s4))] (by kernel_rfl) ?_
     refine bindE h2 ?_; clear h2; intro x12 hx13 h2
     refine gv_ssub (t := 9) (s := s4) (lo := (some (.int .i64 1))) (hi := none) 1 ((ByteArray.size s4 : Nat) : Int) x12 [] (fun e => by cases e) rfl rfl rfl (by kernel_rfl) (by kernel_rfl) Tryd.underlying9 (.inr ⟨_, rfl⟩) (.inl ⟨rfl, rfl⟩) hx13 rfl ?_
     refine gv_pureN 1 [0] [(0, (.string x12))] (by kernel_rfl) ?_
     refine gv_nil <| gv_seq <| gv_seq <| gv_region <| bindE h2 ?_; clear h2; intro j14 h3 h2
     refine gv_cut_ops (J := fun a w15 => Below w0.heap.size w0 w15 ∧ w5.heap.size ≤ w15.heap.size ∧ a.defers = [] ∧ a.tmps.size = 169 ∧ Ok [(0, (.string x12)), (24, (.bool j14))] a.tmps) ?_ ?_
     ·skip
      refine gv_pureN 4 [16, 17, 18, 19] [(19, (.bool (decide (((ByteArray.size x12 : Nat) : Int) > 8))))] (by kernel_rfl) ?_
      refine gv_split (s := 19) (g := (decide (((ByteArray.size x12 : Nat) : Int) > 8))) (by kernel_rfl) (fun hc16 => ?_) (fun hc16 => ?_)
      ·skip
       replace h3 := ite_t hc16 h3
       refine gv_pureN 1 [20] [(20, (.string x12))] (by kernel_rfl) ?_
       refine bindE h3 ?_; clear h3; intro r17 hr18 h3
       refine gv_call0 (by kernel_rfl) rfl (by kernel_rfl) enters61 (utf8_word_string_ok fuel x12 w5  r17 hr18) ?_
       rintro v21 w19 ⟨hg20, rfl⟩
       refine gv_pureN 3 [22, 23, 24] [(24, (.bool ((bwAnd .u64 r17 9259542123273814144) == 0)))] (by kernel_rfl) ?_
       refine gv_nil ?_
       have e := sj h3; subst e
       refine gv_goal fun a hd hs hok => ?_
       have hB22 := bg hB6 hg20 nb
       have hz23 := hg20.size
       exact ⟨hB22, hz23, hd, hs, ok_pick [0, 24] hok (by kernel_rfl)⟩
      ·skip
       replace h3 := ite_f hc16 h3
       refine gv_pureN 5 [20, 21, 22, 23, 24] [(24, (.bool false))] (by kernel_rfl) ?_
       refine gv_nil ?_
       have e := sj h3; subst e
       refine gv_goal fun a hd hs hok => ?_
       exact ⟨hB6, (Nat.le_refl _), hd, hs, ok_pick [0, 24] hok (by kernel_rfl)⟩
     ·rintro a w15 ⟨hB24, hz25, hd, hs, hok⟩
      refine gv_in ?_ hd hs hok
      clear hd hs hok
      have hz26 := (nt hz7 hz25)
      clear hz25 hx13 hc11 hx10 hc8 hz7 hB6
      refine bindE h2 ?_; clear h2; intro j27 h3 h2
      refine gv_cut_code (J := fun a w28 => Below w0.heap.size w0 w28 ∧ w15.heap.size ≤ w28.heap.size ∧ a.defers = [] ∧ a.tmps.size = 169 ∧ Ok [(0, (.string j27))] a.tmps) ?_ ?_
      ·skip
       refine gv_cond (b := j14) (by kernel_rfl) (fun hc29 => ?_) (fun hc29 => ?_)
       ·replace h3 := ite_t hc29 h3
        refine gv_seq <| gv_region <| gv_pureN 1 [25] [(25, (.string x12))] (by kernel_rfl) ?_
        refine bindE h3 ?_; clear h3; intro x30 hx31 h3
        refine gv_ssub (t := 9) (s := x12) (lo := (some (.int .i64 8))) (hi := none) 8 ((ByteArray.size x12 : Nat) : Int) x30 [] (fun e => by cases e) rfl rfl rfl (by kernel_rfl) (by kernel_rfl) Tryd.underlying9 (.inr ⟨_, rfl⟩) (.inl ⟨rfl, rfl⟩) hx31 rfl ?_
        refine gv_pureN 1 [0] [(0, (.string x30))] (by kernel_rfl) ?_
        refine gv_nil <| gv_seq <| bindE h3 ?_; clear h3; intro j32 h4 h3
        refine gv_cut_code (J := fun a w33 => Below w0.heap.size w0 w33 ∧ w15.heap.size ≤ w33.heap.size ∧ a.defers = [] ∧ a.tmps.size = 169 ∧ Ok [(0, (.string x30)), (39, (.bool j32))] a.tmps) ?_ ?_
        ·skip
         refine gv_drawA (by kernel_rfl) ?_
         intro w34 hg35
         refine gv_pre [0, 1, 2, 3, 4, 6, 7] (bA 13 [0, 1, 2, 3, 4, 6, 7]) 6 (by kernel_rfl) (by kernel_rfl) ?_
         refine gv_pureN 4 [27, 28, 29, 30] [(30, (.bool (decide (((ByteArray.size x30 : Nat) : Int) > 16))))] (by kernel_rfl) ?_
         refine gv_split (s := 30) (g := (decide (((ByteArray.size x30 : Nat) : Int) > 16))) (by kernel_rfl) (fun hc36 => ?_) (fun hc36 => ?_)
         ·skip
          replace h4 := ite_t hc36 h4
          refine gv_pureN 2 [31, 33] [(31, (.string x30)), (33, (.string x30))] (by kernel_rfl) ?_
          refine bindE h4 ?_; clear h4; intro x37 hx38 h4
          refine gv_ssub (t := 9) (s := x30) (lo := (some (.int .i64 8))) (hi := none) 8 ((ByteArray.size x30 : Nat) : Int) x37 [] (fun e => by cases e) rfl rfl rfl (by kernel_rfl) (by kernel_rfl) Tryd.underlying9 (.inr ⟨_, rfl⟩) (.inl ⟨rfl, rfl⟩) hx38 rfl ?_
          refine gv_nil <| gv_goA ?_
          refine gv_stage (fun _ => True) [0, 1, 2, 3, 4, 5, 6, 7] [(5, some false)] (bA 13 [0, 1, 2, 3, 4, 5, 6, 7]) 5 (by kernel_rfl) (by kernel_rfl) trivial ?_
          refine bindE h4 ?_; clear h4; intro r39 hr40 h4
          refine gv_call (f := 61) (vs := [(.string x30)]) (cap := []) _ (by decide) rfl rfl rfl (by kernel_rfl) (by kernel_rfl) enters61 (utf8_word_string_ok fuel x30 w34  r39 hr40) ?_
          rintro v43 w41 ⟨hg42, rfl⟩
          refine ⟨(fun _ => trivial), ?_⟩
          refine gv_nil <| gv_goA ?_
          refine gv_stage (fun _ => True) [0, 1, 2, 3, 4, 5, 6, 7, 8] [(8, some false)] (bA 13 [0, 1, 2, 3, 4, 5, 6, 7, 8]) 4 (by kernel_rfl) (by kernel_rfl) trivial ?_
          refine bindE h4 ?_; clear h4; intro r44 hr45 h4
          refine gv_call (f := 61) (vs := [(.string x37)]) (cap := []) _ (by decide) rfl rfl rfl (by kernel_rfl) (by kernel_rfl) enters61 (utf8_word_string_ok fuel x37 w41  r44 hr45) ?_
          rintro v48 w46 ⟨hg47, rfl⟩
          refine ⟨(fun _ => trivial), ?_⟩
          refine gv_nil <| gv_goA ?_
          refine gv_pre [9, 10, 11, 12] (bA 13 [0, 1, 2, 3, 4, 5, 6, 7, 8, 9, 10, 11, 12]) 0 (by kernel_rfl) (by kernel_rfl) ?_
          refine gv_pureN 4 [36, 37, 38, 39] [(39, (.bool ((bwAnd .u64 (bwOr .u64 r39 r44) 9259542123273814144) == 0)))] (by kernel_rfl) ?_
          refine gv_nil <| gv_goA ?_
          refine gv_stageE (by kernel_rfl) ?_
          have e := sj h4; subst e
          refine gv_goal fun a hd hs hok => ?_
          have hg49 := (grown_trans (grown_trans hg35 hg42) hg47)
          have hB50 := bg hB24 hg49 nb
          have hz51 := (nt (nt hg35.size hg42.size) hg47.size)
          exact ⟨hB50, hz51, hd, hs, ok_pick [0, 39] hok (by kernel_rfl)⟩
         ·skip
          replace h4 := ite_f hc36 h4
          refine gv_pureN 3 [31, 33, 34] [(31, undef), (34, undef)] (by kernel_rfl) ?_
          refine gv_nil <| gv_goA ?_
          refine gv_stage (fun _ => True) [0, 1, 2, 3, 4, 5, 6, 7] [(5, some false)] (bA 13 [0, 1, 2, 3, 4, 5, 6, 7]) 5 (by kernel_rfl) (by kernel_rfl) trivial ?_
          refine gv_pureNC trivial 1 [32] [(32, undef)] (by kernel_rfl) ?_
          refine gv_nil <| gv_goA ?_
          refine gv_stage (fun _ => True) [0, 1, 2, 3, 4, 5, 6, 7, 8] [(8, some false)] (bA 13 [0, 1, 2, 3, 4, 5, 6, 7, 8]) 4 (by kernel_rfl) (by kernel_rfl) trivial ?_
          refine gv_pureNC trivial 1 [35] [(35, undef)] (by kernel_rfl) ?_
          refine gv_nil <| gv_goA ?_
          refine gv_pre [9, 10, 11, 12] (bA 13 [0, 1, 2, 3, 4, 5, 6, 7, 8, 9, 10, 11, 12]) 0 (by kernel_rfl) (by kernel_rfl) ?_
          refine gv_pureN 4 [36, 37, 38, 39] [(39, (.bool false))] (by kernel_rfl) ?_
          refine gv_nil <| gv_goA ?_
          refine gv_stageE (by kernel_rfl) ?_
          have e := sj h4; subst e
          refine gv_goal fun a hd hs hok => ?_
          have hB52 := bg hB24 hg35 nb
          have hz53 := hg35.size
          exact ⟨hB52, hz53, hd, hs, ok_pick [0, 39] hok (by kernel_rfl)⟩
        ·rintro a w33 ⟨hB54, hz55, hd, hs, hok⟩
         refine gv_in ?_ hd hs hok
         clear hd hs hok
         refine gv_cond (b := j32) (by kernel_rfl) (fun hc56 => ?_) (fun hc56 => ?_)
         ·replace h3 := ite_t hc56 h3
          refine gv_seq <| gv_region <| gv_pureN 1 [40] [(40, (.string x30))] (by kernel_rfl) ?_
          refine bindE h3 ?_; clear h3; intro x57 hx58 h3
          refine gv_ssub (t := 9) (s := x30) (lo := (some (.int .i64 16))) (hi := none) 16 ((ByteArray.size x30 : Nat) : Int) x57 [] (fun e => by cases e) rfl rfl rfl (by kernel_rfl) (by kernel_rfl) Tryd.underlying9 (.inr ⟨_, rfl⟩) (.inl ⟨rfl, rfl⟩) hx58 rfl ?_
          refine gv_pureN 1 [0] [(0, (.string x57))] (by kernel_rfl) ?_
          refine gv_nil <| bindE h3 ?_; clear h3; intro j59 h4 h3
          refine gv_cut_code (J := fun a w60 => Below w0.heap.size w0 w60 ∧ w33.heap.size ≤ w60.heap.size ∧ a.defers = [] ∧ a.tmps.size = 169 ∧ Ok [(0, (.string j59))] a.tmps) ?_ ?_
          ·skip
           refine gv_block <| gv_loop (A := fun (s61 : ByteArray) a w62 => Below w0.heap.size w0 w62 ∧ w33.heap.size ≤ w62.heap.size ∧ a.defers = [] ∧ a.tmps.size = 169 ∧ Ok [(0, (.string s61))] a.tmps) h4 ?_ ?_
           ·intro a hd hs hok
            exact ⟨hB54, (Nat.le_refl _), hd, hs, ok_pick [0] hok (by kernel_rfl)⟩
           ·rintro s61 r5 h5 hR5 a w62 ⟨hB63, hz64, hd, hs, hok⟩
            refine gv_in ?_ hd hs hok
            clear hd hs hok
            clear hx58 hc56 hB54 hx31 hc29 hB24
            refine gv_seq <| gv_seq <| bindE h5 ?_; clear h5; intro j65 h6 h5
            refine gv_cut_code (J := fun a w66 => Below w0.heap.size w0 w66 ∧ w62.heap.size ≤ w66.heap.size ∧ a.defers = [] ∧ a.tmps.size = 169 ∧ Ok [(0, (.string s61)), (62, (.bool j65))] a.tmps) ?_ ?_
            ·skip
             refine gv_drawA (by kernel_rfl) ?_
             intro w67 hg68
             refine gv_pre [0, 1, 2, 3, 4, 6, 7, 10, 11, 13, 14] (bA 21 [0, 1, 2, 3, 4, 6, 7, 10, 11, 13, 14]) 10 (by kernel_rfl) (by kernel_rfl) ?_
             refine gv_pureN 4 [42, 43, 44, 45] [(45, (.bool (decide (((ByteArray.size s61 : Nat) : Int) > 32))))] (by kernel_rfl) ?_
             refine gv_split (s := 45) (g := (decide (((ByteArray.size s61 : Nat) : Int) > 32))) (by kernel_rfl) (fun hc69 => ?_) (fun hc69 => ?_)
             ·skip
              replace h6 := ite_t hc69 h6
              refine gv_pureN 2 [46, 48] [(46, (.string s61)), (48, (.string s61))] (by kernel_rfl) ?_
              refine bindE h6 ?_; clear h6; intro x70 hx71 h6
              refine gv_ssub (t := 9) (s := s61) (lo := (some (.int .i64 8))) (hi := none) 8 ((ByteArray.size s61 : Nat) : Int) x70 [] (fun e => by cases e) rfl rfl rfl (by kernel_rfl) (by kernel_rfl) Tryd.underlying9 (.inr ⟨_, rfl⟩) (.inl ⟨rfl, rfl⟩) hx71 rfl ?_
              refine gv_pureN 1 [52] [(52, (.string s61))] (by kernel_rfl) ?_
              refine bindE h6 ?_; clear h6; intro x72 hx73 h6
              refine gv_ssub (t := 9) (s := s61) (lo := (some (.int .i64 16))) (hi := none) 16 ((ByteArray.size s61 : Nat) : Int) x72 [] (fun e => by cases e) rfl rfl rfl (by kernel_rfl) (by kernel_rfl) Tryd.underlying9 (.inr ⟨_, rfl⟩) (.inl ⟨rfl, rfl⟩) hx73 rfl ?_
              refine gv_pureN 1 [55] [(55, (.string s61))] (by kernel_rfl) ?_
              refine bindE h6 ?_; clear h6; intro x74 hx75 h6
              refine gv_ssub (t := 9) (s := s61) (lo := (some (.int .i64 24))) (hi := none) 24 ((ByteArray.size s61 : Nat) : Int) x74 [] (fun e => by cases e) rfl rfl rfl (by kernel_rfl) (by kernel_rfl) Tryd.underlying9 (.inr ⟨_, rfl⟩) (.inl ⟨rfl, rfl⟩) hx75 rfl ?_
              refine gv_nil <| gv_goA ?_
              refine gv_stage (fun _ => True) [0, 1, 2, 3, 4, 5, 6, 7, 10, 11, 13, 14] [(5, some false)] (bA 21 [0, 1, 2, 3, 4, 5, 6, 7, 10, 11, 13, 14]) 9 (by kernel_rfl) (by kernel_rfl) trivial ?_
              refine bindE h6 ?_; clear h6; intro r76 hr77 h6
              refine gv_call (f := 61) (vs := [(.string s61)]) (cap := []) _ (by decide) rfl rfl rfl (by kernel_rfl) (by kernel_rfl) enters61 (utf8_word_string_ok fuel s61 w67  r76 hr77) ?_
              rintro v80 w78 ⟨hg79, rfl⟩
              refine ⟨(fun _ => trivial), ?_⟩
              refine gv_nil <| gv_goA ?_
              refine gv_stage (fun _ => True) [0, 1, 2, 3, 4, 5, 6, 7, 8, 10, 11, 13, 14] [(8, some false)] (bA 21 [0, 1, 2, 3, 4, 5, 6, 7, 8, 10, 11, 13, 14]) 8 (by kernel_rfl) (by kernel_rfl) trivial ?_
              refine bindE h6 ?_; clear h6; intro r81 hr82 h6
              refine gv_call (f := 61) (vs := [(.string x70)]) (cap := []) _ (by decide) rfl rfl rfl (by kernel_rfl) (by kernel_rfl) enters61 (utf8_word_string_ok fuel x70 w78  r81 hr82) ?_
              rintro v85 w83 ⟨hg84, rfl⟩
              refine ⟨(fun _ => trivial), ?_⟩
              refine gv_nil <| gv_goA ?_
              refine gv_pre [9] (bA 21 [0, 1, 2, 3, 4, 5, 6, 7, 8, 9, 10, 11, 13, 14]) 7 (by kernel_rfl) (by kernel_rfl) ?_
              refine gv_pureN 1 [51] [(51, (.int .u64 (bwOr .u64 r76 r81)))] (by kernel_rfl) ?_
              refine gv_nil <| gv_goA ?_
              refine gv_stage (fun _ => True) [0, 1, 2, 3, 4, 5, 6, 7, 8, 9, 10, 11, 12, 13, 14] [(12, some false)] (bA 21 [0, 1, 2, 3, 4, 5, 6, 7, 8, 9, 10, 11, 12, 13, 14]) 6 (by kernel_rfl) (by kernel_rfl) trivial ?_
              refine bindE h6 ?_; clear h6; intro r86 hr87 h6
              refine gv_call (f := 61) (vs := [(.string x72)]) (cap := []) _ (by decide) rfl rfl rfl (by kernel_rfl) (by kernel_rfl) enters61 (utf8_word_string_ok fuel x72 w83  r86 hr87) ?_
              rintro v90 w88 ⟨hg89, rfl⟩
              refine ⟨(fun _ => trivial), ?_⟩
              have hz91 := (nt (nt hg68.size hg79.size) hg84.size)
              clear hr87 hr82 hr77 hx75 hx73 hx71 hc69
              refine gv_nil <| gv_goA ?_
              refine gv_stage (fun _ => True) [0, 1, 2, 3, 4, 5, 6, 7, 8, 9, 10, 11, 12, 13, 14, 15] [(15, some false)] (bA 21 [0, 1, 2, 3, 4, 5, 6, 7, 8, 9, 10, 11, 12, 13, 14, 15]) 5 (by kernel_rfl) (by kernel_rfl) trivial ?_
              refine bindE h6 ?_; clear h6; intro r92 hr93 h6
              refine gv_call (f := 61) (vs := [(.string x74)]) (cap := []) _ (by decide) rfl rfl rfl (by kernel_rfl) (by kernel_rfl) enters61 (utf8_word_string_ok fuel x74 w88  r92 hr93) ?_
              rintro v96 w94 ⟨hg95, rfl⟩
              refine ⟨(fun _ => trivial), ?_⟩
              refine gv_nil <| gv_goA ?_
              refine gv_pre [16, 17, 18, 19, 20] (bA 21 [0, 1, 2, 3, 4, 5, 6, 7, 8, 9, 10, 11, 12, 13, 14, 15, 16, 17, 18, 19, 20]) 0 (by kernel_rfl) (by kernel_rfl) ?_
              refine gv_pureN 5 [58, 59, 60, 61, 62] [(62, (.bool ((bwAnd .u64 (bwOr .u64 (bwOr .u64 r76 r81) (bwOr .u64 r86 r92)) 9259542123273814144) == 0)))] (by kernel_rfl) ?_
              refine gv_nil <| gv_goA ?_
              refine gv_stageE (by kernel_rfl) ?_
              have e := sj h6; subst e
              refine gv_goal fun a hd hs hok => ?_
              have hg97 := (grown_trans (grown_trans (grown_trans (grown_trans hg68 hg79) hg84) hg89) hg95)
              have hB98 := bg hB63 hg97 nb
              have hz99 := (nt (nt hz91 hg89.size) hg95.size)
              exact ⟨hB98, hz99, hd, hs, ok_pick [0, 62] hok (by kernel_rfl)⟩
             ·skip
              replace h6 := ite_f hc69 h6
              refine gv_pureN 7 [46, 48, 49, 52, 53, 55, 56] [(46, undef), (49, undef), (53, undef), (56, undef)] (by kernel_rfl) ?_
              refine gv_nil <| gv_goA ?_
              refine gv_stage (fun _ => True) [0, 1, 2, 3, 4, 5, 6, 7, 10, 11, 13, 14] [(5, some false)] (bA 21 [0, 1, 2, 3, 4, 5, 6, 7, 10, 11, 13, 14]) 9 (by kernel_rfl) (by kernel_rfl) trivial ?_
              refine gv_pureNC trivial 1 [47] [(47, undef)] (by kernel_rfl) ?_
              refine gv_nil <| gv_goA ?_
              refine gv_stage (fun _ => True) [0, 1, 2, 3, 4, 5, 6, 7, 8, 10, 11, 13, 14] [(8, some false)] (bA 21 [0, 1, 2, 3, 4, 5, 6, 7, 8, 10, 11, 13, 14]) 8 (by kernel_rfl) (by kernel_rfl) trivial ?_
              refine gv_pureNC trivial 1 [50] [(50, undef)] (by kernel_rfl) ?_
              refine gv_nil <| gv_goA ?_
              refine gv_pre [9] (bA 21 [0, 1, 2, 3, 4, 5, 6, 7, 8, 9, 10, 11, 13, 14]) 7 (by kernel_rfl) (by kernel_rfl) ?_
              refine gv_pureN 1 [51] [(51, undef)] (by kernel_rfl) ?_
              refine gv_nil <| gv_goA ?_
              refine gv_stage (fun _ => True) [0, 1, 2, 3, 4, 5, 6, 7, 8, 9, 10, 11, 12, 13, 14] [(12, some false)] (bA 21 [0, 1, 2, 3, 4, 5, 6, 7, 8, 9, 10, 11, 12, 13, 14]) 6 (by kernel_rfl) (by kernel_rfl) trivial ?_
              refine gv_pureNC trivial 1 [54] [(54, undef)] (by kernel_rfl) ?_
              refine gv_nil <| gv_goA ?_
              refine gv_stage (fun _ => True) [0, 1, 2, 3, 4, 5, 6, 7, 8, 9, 10, 11, 12, 13, 14, 15] [(15, some false)] (bA 21 [0, 1, 2, 3, 4, 5, 6, 7, 8, 9, 10, 11, 12, 13, 14, 15]) 5 (by kernel_rfl) (by kernel_rfl) trivial ?_
              refine gv_pureNC trivial 1 [57] [(57, undef)] (by kernel_rfl) ?_
              refine gv_nil <| gv_goA ?_
              refine gv_pre [16, 17, 18, 19, 20] (bA 21 [0, 1, 2, 3, 4, 5, 6, 7, 8, 9, 10, 11, 12, 13, 14, 15, 16, 17, 18, 19, 20]) 0 (by kernel_rfl) (by kernel_rfl) ?_
              refine gv_pureN 5 [58, 59, 60, 61, 62] [(62, (.bool false))] (by kernel_rfl) ?_
              refine gv_nil <| gv_goA ?_
              refine gv_stageE (by kernel_rfl) ?_
              have e := sj h6; subst e
              refine gv_goal fun a hd hs hok => ?_
              have hB100 := bg hB63 hg68 nb
              have hz101 := hg68.size
              exact ⟨hB100, hz101, hd, hs, ok_pick [0, 62] hok (by kernel_rfl)⟩
            ·rintro a w66 ⟨hB102, hz103, hd, hs, hok⟩
             refine gv_in ?_ hd hs hok
             clear hd hs hok
             have hz104 := (nt hz64 hz103)
             refine gv_cond (b := j65) (by kernel_rfl) (fun hc105 => ?_) (fun hc105 => ?_)
             ·replace h5 := ite_t hc105 h5
              refine gv_skip <| gv_block <| gv_region <| gv_pureN 1 [63] [(63, (.string s61))] (by kernel_rfl) ?_
              refine bindE h5 ?_; clear h5; intro x106 hx107 h5
              refine gv_ssub (t := 9) (s := s61) (lo := (some (.int .i64 32))) (hi := none) 32 ((ByteArray.size s61 : Nat) : Int) x106 [] (fun e => by cases e) rfl rfl rfl (by kernel_rfl) (by kernel_rfl) Tryd.underlying9 (.inr ⟨_, rfl⟩) (.inl ⟨rfl, rfl⟩) hx107 rfl ?_
              refine gv_pureN 1 [0] [(0, (.string x106))] (by kernel_rfl) ?_
              refine gv_nil <| gv_blk ?_
              have e := sj h5; subst e
              refine gv_goal fun a hd hs hok => ?_
              have hz108 := hz104
              exact ⟨x106, rfl, hB102, hz108, hd, hs, ok_pick [0] hok (by kernel_rfl)⟩
             ·replace h5 := ite_f hc105 h5
              refine gv_cexit <| gv_exit rfl ?_
              have e := sj h5; subst e
              replace h4 := congrArg some (hR5 _ rfl)
              have e := sj h4; subst e
              refine gv_goal fun a hd hs hok => ?_
              have hz109 := hz104
              exact ⟨hB102, hz109, hd, hs, ok_pick [0] hok (by kernel_rfl)⟩
          ·rintro a w60 ⟨hB110, hz111, hd, hs, hok⟩
           refine gv_in ?_ hd hs hok
           clear hd hs hok
           have hz112 := (nt hz55 hz111)
           clear hz111 hx58 hc56 hz55 hB54 hx31 hc29 hB24
           have e := sj h3; subst e
           refine gv_goal fun a hd hs hok => ?_
           have hz113 := hz112
           exact ⟨hB110, hz113, hd, hs, ok_pick [0] hok (by kernel_rfl)⟩
         ·replace h3 := ite_f hc56 h3
          refine gv_skip ?_
          have e := sj h3; subst e
          refine gv_goal fun a hd hs hok => ?_
          have hz114 := hz55
          exact ⟨hB54, hz114, hd, hs, ok_pick [0] hok (by kernel_rfl)⟩
       ·replace h3 := ite_f hc29 h3
        refine gv_skip ?_
        have e := sj h3; subst e
        refine gv_goal fun a hd hs hok => ?_
        exact ⟨hB24, (Nat.le_refl _), hd, hs, ok_pick [0] hok (by kernel_rfl)⟩
      ·rintro a w28 ⟨hB115, hz116, hd, hs, hok⟩
       refine gv_in ?_ hd hs hok
       clear hd hs hok
       have hz117 := (nt hz26 hz116)
       refine gv_cexit <| gv_exit rfl ?_
       have e := sj h2; subst e
       refine gv_goal fun a hd hs hok => ?_
       have hz118 := hz117
       exact ⟨j27, rfl, hB115, hz118, hd, hs, ok_pick [0] hok (by kernel_rfl)⟩
    ·replace h2 := ite_f hc11 h2
     refine gv_skip <| gv_seq <| gv_region <| gv_pureN 1 [65] [(65, (.int .u8 x9))] (by kernel_rfl) ?_
     refine bindE h2 ?_; clear h2; intro x119 hx120 h2
     refine gv_idxarr (t := 93) (e := 5) (A := ⟨0, 0, none⟩) (len := 256) (kk := .u8) (i := x9) (sz := 1) [] (fun e => by cases e) rfl rfl rfl (by kernel_rfl) (by kernel_rfl) Tryd.underlying93 (by kernel_rfl) (idx_spec hx120).1 (by have e := (idx_spec hx120).2.1; rw [utf8First_len] at e; exact e) rfl ?_
     refine gv_load (t := 5) (A := (elemAddr (some ⟨0, 0, none⟩) ((x9 : Int).toNat * 1))) (.int .u8 ((x119).toNat : Int)) [] (fun e => by cases e) rfl rfl rfl (by kernel_rfl) (by kernel_rfl) (by kernel_rfl) (inw0 ((hG0.below hB6 hX0).cell hx120)) rfl ?_
     refine gv_pureN 1 [4] [(4, (.int .u8 ((x119).toNat : Int)))] (by kernel_rfl) ?_
     refine gv_nil <| gv_seq <| gv_region <| gv_pureN 4 [5, 68, 69, 70] [(5, (.int .i64 (IntKind.i64.wrap ((bwAnd .u8 ((x119).toNat : Int) 7)))))] (by kernel_rfl) ?_
     refine bindE h2 ?_; clear h2; intro n121 hn122 h2
     refine gv_name (s := 5) (v := (.int .i64 (IntKind.i64.wrap ((bwAnd .u8 ((x119).toNat : Int) 7))))) (v' := (.int .i64 n121)) (by kernel_rfl) (congrArg (Value.int .i64) (sj hn122)) ?_
     refine gv_nil <| gv_seq <| gv_region <| gv_pureN 2 [71, 72] [(72, (.int .u8 ((((x119).toNat : Int)).fdiv (2 ^ 4))))] (by kernel_rfl) ?_
     refine bindE h2 ?_; clear h2; intro x123 hx124 h2
     refine gv_idxarr (t := 96) (e := 95) (A := ⟨1, 0, none⟩) (len := 16) (kk := .u8) (i := ((((x119).toNat : Int)).fdiv (2 ^ 4))) (sz := 2) [] (fun e => by cases e) rfl rfl rfl (by kernel_rfl) (by kernel_rfl) Tryd.underlying96 (by kernel_rfl) (idx_spec hx124).1 (by have e := (idx_spec hx124).2.1; rw [utf8Acc_len] at e; exact e) rfl ?_
     obtain ⟨_, ⟨_, _, rfl, rfl, rfl⟩, hc125⟩ := hG1.cellsK hx124
     refine gv_loadAgg (t := 95) (A := (elemAddr (some ⟨1, 0, none⟩) ((((((x119).toNat : Int)).fdiv (2 ^ 4)) : Int).toNat * 2))) #[(.int .u8 x123.1), (.int .u8 x123.2)] [] (fun e => by cases e) rfl rfl rfl (by kernel_rfl) (by kernel_rfl) (by kernel_rfl) (by kernel_rfl) (inw0 (hc125 w5 (fun k hk => hB6.block k (hX0 k hk)))) rfl ?_
     refine gv_new0 (fun b => .pointer (some ⟨b, 0, none⟩)) #[(.int .u8 0), (.int .u8 0)] 95 (by kernel_rfl) (by kernel_rfl) ?_
     intro b126 w127 hg128 hb129 hbe130 hz131
     refine gv_sub [0, 5, 6, 74] (σ' := [(0, (.string s4)), (5, (.int .i64 n121)), (6, (bp b126)), (74, (.agg #[(.int .u8 x123.1), (.int .u8 x123.2)]))]) (by kernel_rfl) ?_
     refine gv_store0 95 0 (.agg #[(.int .u8 x123.1), (.int .u8 x123.2)]) #[(.int .u8 x123.1), (.int .u8 x123.2)] hb129 (by kernel_rfl) (by kernel_rfl) (by kernel_rfl) ?_
     intro w132 hg133 hb134 hz135
     refine gv_nil <| gv_seq <| gv_region <| gv_pureN 1 [75] [(75, (.int .i64 n121))] (by kernel_rfl) ?_
     refine gv_nil <| gv_block <| gv_seq <| gv_region <| gv_pureN 2 [76, 77] [(76, (.bool (n121 == 2)))] (by kernel_rfl) ?_
     refine gv_nil <| bindE h2 ?_; clear h2; intro j136 h3 h2
     refine gv_cut_code (J := fun a w138 => ∃ s137 : ByteArray, j136 = .inl s137 ∧ Below w0.heap.size w0 w138 ∧ w132.heap.size ≤ w138.heap.size ∧ a.defers = [] ∧ a.tmps.size = 169 ∧ Ok [(0, (.string s137))] a.tmps) ?_ ?_
     ·skip
      refine gv_cond (b := (n121 == 2)) (by kernel_rfl) (fun hc139 => ?_) (fun hc139 => ?_)
      ·replace h3 := ite_t hc139 h3
       refine gv_seq <| gv_seq <| bindE h3 ?_; clear h3; intro j140 h4 h3
       refine gv_cut_code (J := fun a w141 => Below w0.heap.size w0 w141 ∧ w132.heap.size ≤ w141.heap.size ∧ a.defers = [] ∧ a.tmps.size = 169 ∧ Ok [(0, (.string s4)), (94, (.bool j140))] a.tmps) ?_ ?_
       ·skip
        refine gv_drawA (by kernel_rfl) ?_
        intro w142 hg143
        refine gv_pre [0, 1, 2, 3, 4, 5, 6] (bA 17 [0, 1, 2, 3, 4, 5, 6]) 10 (by kernel_rfl) (by kernel_rfl) ?_
        refine gv_pureN 4 [78, 79, 80, 81] [(81, (.bool (decide (((ByteArray.size s4 : Nat) : Int) < 2))))] (by kernel_rfl) ?_
        refine gv_split (s := 81) (g := (decide (((ByteArray.size s4 : Nat) : Int) < 2))) (by kernel_rfl) (fun hc144 => ?_) (fun hc144 => ?_)
        ·skip
         replace h4 := ite_t hc144 h4
         refine gv_pureN 3 [82, 83, 84] [(83, undef), (84, undef)] (by kernel_rfl) ?_
         refine gv_nil <| gv_goA ?_
         refine gv_stage (Cls w142 []) [0, 1, 2, 3, 4, 5, 6, 7] [(7, some true)] (bA 17 [0, 1, 2, 3, 4, 5, 6, 7]) 9 (by kernel_rfl) (by kernel_rfl) (Cls.refl _ _) ?_
         have hC145 := Cls.refl w142 []
         refine gv_pureN 1 [85] [(85, undef)] (by kernel_rfl) ?_
         refine gv_nil <| gv_goA ?_
         refine gv_pre [8, 9, 10, 11, 13, 14] (bA 17 [0, 1, 2, 3, 4, 5, 6, 7, 8, 9, 10, 11, 13, 14]) 3 (by kernel_rfl) (by kernel_rfl) ?_
         refine gv_pureN 6 [86, 87, 88, 89, 91, 92] [(88, (.bool true)), (89, undef), (92, undef)] (by kernel_rfl) ?_
         refine gv_nil <| gv_goA ?_
         refine gv_stage (Cls w142 []) [0, 1, 2, 3, 4, 5, 6, 7, 8, 9, 10, 11, 12, 13, 14] [(12, some true)] (bA 17 [0, 1, 2, 3, 4, 5, 6, 7, 8, 9, 10, 11, 12, 13, 14]) 2 (by kernel_rfl) (by kernel_rfl) (Cls.refl _ _) ?_
         have hC146 := Cls.refl w142 []
         refine gv_pureN 1 [90] [(90, undef)] (by kernel_rfl) ?_
         refine gv_nil <| gv_goA ?_
         refine gv_pre [15, 16] (bA 17 [0, 1, 2, 3, 4, 5, 6, 7, 8, 9, 10, 11, 12, 13, 14, 15, 16]) 0 (by kernel_rfl) (by kernel_rfl) ?_
         refine gv_pureN 2 [93, 94] [(94, (.bool true))] (by kernel_rfl) ?_
         refine gv_nil <| gv_goA ?_
         refine gv_stageE (by kernel_rfl) ?_
         have e := sj h4; subst e
         refine gv_goal fun a hd hs hok => ?_
         have hB147 := bg hB6 hg128 nb
         have hlo148 : w0.heap.size ≤ b126 := lob hbe130 hB6.size
         have hB149 := bg hB147 hg133 (rowlo hlo148)
         have hB150 := bg hB149 hg143 nb
         have hz151 := hg143.size
         exact ⟨hB150, hz151, hd, hs, ok_pick [0, 94] hok (by kernel_rfl)⟩
        ·skip
         replace h4 := ite_f hc144 h4
         refine gv_pureN 1 [82] [(82, (.string s4))] (by kernel_rfl) ?_
         refine bindE h4 ?_; clear h4; intro x152 hx153 h4
         refine gv_sindex (t := 9) (s := s4) (kk := .i64) (i := 1) x152 [] (fun e => by cases e) rfl rfl rfl (by kernel_rfl) (by kernel_rfl) Tryd.underlying9 hx153 rfl ?_
         refine gv_pureN 1 [84] [(84, (bp b126))] (by kernel_rfl) ?_
         refine gv_nil <| gv_goA ?_
         refine gv_stage (Cls w142 []) [0, 1, 2, 3, 4, 5, 6, 7] [(7, some true)] (bA 17 [0, 1, 2, 3, 4, 5, 6, 7]) 9 (by kernel_rfl) (by kernel_rfl) (Cls.refl _ _) ?_
         have hC154 := Cls.refl w142 []
         have hk155 := hb134.grown hg143 nb
         refine gv_load (t := 5) (A := ⟨b126, 0, none⟩) (.int .u8 x123.1) [] (fun e => by cases e) rfl rfl rfl (by kernel_rfl) (by kernel_rfl) (by kernel_rfl) (inw1 fun w' hC' => ((hC'.box hk155 nm_nil).cell 0 rfl)) rfl ?_
         refine gv_nil <| gv_goA ?_
         refine gv_pre [8, 9, 10, 11, 13, 14] (bA 17 [0, 1, 2, 3, 4, 5, 6, 7, 8, 9, 10, 11, 13, 14]) 3 (by kernel_rfl) (by kernel_rfl) ?_
         refine gv_pureN 3 [86, 87, 88] [(88, (.bool (decide (x152 < x123.1))))] (by kernel_rfl) ?_
         refine gv_split (s := 88) (g := (decide (x152 < x123.1))) (by kernel_rfl) (fun hc156 => ?_) (fun hc156 => ?_)
         ·skip
          replace h4 := ite_t hc156 h4
          refine gv_pureN 3 [89, 91, 92] [(89, undef), (92, undef)] (by kernel_rfl) ?_
          refine gv_nil <| gv_goA ?_
          refine gv_stage (Cls w142 []) [0, 1, 2, 3, 4, 5, 6, 7, 8, 9, 10, 11, 12, 13, 14] [(12, some true)] (bA 17 [0, 1, 2, 3, 4, 5, 6, 7, 8, 9, 10, 11, 12, 13, 14]) 2 (by kernel_rfl) (by kernel_rfl) (Cls.refl _ _) ?_
          have hC157 := Cls.refl w142 []
          refine gv_pureN 1 [90] [(90, undef)] (by kernel_rfl) ?_
          refine gv_nil <| gv_goA ?_
          refine gv_pre [15, 16] (bA 17 [0, 1, 2, 3, 4, 5, 6, 7, 8, 9, 10, 11, 12, 13, 14, 15, 16]) 0 (by kernel_rfl) (by kernel_rfl) ?_
          refine gv_pureN 2 [93, 94] [(94, (.bool true))] (by kernel_rfl) ?_
          refine gv_nil <| gv_goA ?_
          refine gv_stageE (by kernel_rfl) ?_
          have e := sj h4; subst e
          refine gv_goal fun a hd hs hok => ?_
          have hB158 := bg hB6 hg128 nb
          have hlo159 : w0.heap.size ≤ b126 := lob hbe130 hB6.size
          have hB160 := bg hB158 hg133 (rowlo hlo159)
          have hB161 := bg hB160 hg143 nb
          have hz162 := hg143.size
          exact ⟨hB161, hz162, hd, hs, ok_pick [0, 94] hok (by kernel_rfl)⟩
         ·skip
          replace h4 := ite_f hc156 h4
          refine gv_pureN 2 [89, 91] [(89, (.pointer (some ⟨b126, 1, none⟩))), (91, (.string s4))] (by kernel_rfl) ?_
          refine bindE h4 ?_; clear h4; intro x163 hx164 h4
          refine gv_sindex (t := 9) (s := s4) (kk := .i64) (i := 1) x163 [] (fun e => by cases e) rfl rfl rfl (by kernel_rfl) (by kernel_rfl) Tryd.underlying9 hx164 rfl ?_
          refine gv_nil <| gv_goA ?_
          refine gv_stage (Cls w142 []) [0, 1, 2, 3, 4, 5, 6, 7, 8, 9, 10, 11, 12, 13, 14] [(12, some true)] (bA 17 [0, 1, 2, 3, 4, 5, 6, 7, 8, 9, 10, 11, 12, 13, 14]) 2 (by kernel_rfl) (by kernel_rfl) (Cls.refl _ _) ?_
          have hC165 := Cls.refl w142 []
          refine gv_load (t := 5) (A := ⟨b126, 1, none⟩) (.int .u8 x123.2) [] (fun e => by cases e) rfl rfl rfl (by kernel_rfl) (by kernel_rfl) (by kernel_rfl) (inw1 fun w' hC' => ((hC'.box hk155 nm_nil).cell 1 rfl)) rfl ?_
          refine gv_nil <| gv_goA ?_
          refine gv_pre [15, 16] (bA 17 [0, 1, 2, 3, 4, 5, 6, 7, 8, 9, 10, 11, 12, 13, 14, 15, 16]) 0 (by kernel_rfl) (by kernel_rfl) ?_
          refine gv_pureN 2 [93, 94] [(94, (.bool (decide (x123.2 < x163))))] (by kernel_rfl) ?_
          refine gv_nil <| gv_goA ?_
          refine gv_stageE (by kernel_rfl) ?_
          have e := sj h4; subst e
          refine gv_goal fun a hd hs hok => ?_
          have hB166 := bg hB6 hg128 nb
          have hlo167 : w0.heap.size ≤ b126 := lob hbe130 hB6.size
          have hB168 := bg hB166 hg133 (rowlo hlo167)
          have hB169 := bg hB168 hg143 nb
          have hz170 := hg143.size
          exact ⟨hB169, hz170, hd, hs, ok_pick [0, 94] hok (by kernel_rfl)⟩
       ·rintro a w141 ⟨hB171, hz172, hd, hs, hok⟩
        refine gv_in ?_ hd hs hok
        clear hd hs hok
        have hz173 := (nt (nt hz7 hg128.size) hg133.size)
        clear hc139 hz135 hb134 hg133 hz131 hbe130 hb129 hg128 hc125 hx124 hn122 hx120 hc11 hx10 hc8 hz7 hB6
        refine gv_cond (b := j140) (by kernel_rfl) (fun hc174 => ?_) (fun hc174 => ?_)
        ·replace h3 := ite_t hc174 h3
         refine gv_seq <| gv_region <| gv_pureN 1 [2] [(2, (.bool false))] (by kernel_rfl) ?_
         refine gv_nil <| gv_cret ?_
         have e := sj h3; subst e
         replace h2 := cont_inr h2
         have e := sj h2; subst e
         replace h1 := congrArg some (hR2 _ rfl)
         have e := sj h1; subst e
         replace h0 := cont_inr h0
         have e := sj h0; subst e
         refine gv_ret (gv_done [(.bool false)] rfl ⟨(by kernel_rfl), trivial⟩ ?_)
         exact ⟨grown_of_below hB171, rfl⟩
        ·replace h3 := ite_f hc174 h3
         refine gv_skip <| gv_region <| gv_pureN 1 [95] [(95, (.string s4))] (by kernel_rfl) ?_
         refine bindE h3 ?_; clear h3; intro x175 hx176 h3
         refine gv_ssub (t := 9) (s := s4) (lo := (some (.int .i64 2))) (hi := none) 2 ((ByteArray.size s4 : Nat) : Int) x175 [] (fun e => by cases e) rfl rfl rfl (by kernel_rfl) (by kernel_rfl) Tryd.underlying9 (.inr ⟨_, rfl⟩) (.inl ⟨rfl, rfl⟩) hx176 rfl ?_
         refine gv_pureN 1 [0] [(0, (.string x175))] (by kernel_rfl) ?_
         refine gv_nil ?_
         have e := sj h3; subst e
         refine gv_goal fun a hd hs hok => ?_
         have hz177 := hz172
         exact ⟨x175, rfl, hB171, hz177, hd, hs, ok_pick [0] hok (by kernel_rfl)⟩
      ·replace h3 := ite_f hc139 h3
       refine gv_seq <| gv_region <| gv_pureN 2 [97, 98] [(97, (.bool (n121 == 3)))] (by kernel_rfl) ?_
       refine gv_nil <| gv_cond (b := (n121 == 3)) (by kernel_rfl) (fun hc178 => ?_) (fun hc178 => ?_)
       ·replace h3 := ite_t hc178 h3
        refine gv_seq <| gv_seq <| bindE h3 ?_; clear h3; intro j179 h4 h3
        refine gv_cut_code (J := fun a w180 => Below w0.heap.size w0 w180 ∧ w132.heap.size ≤ w180.heap.size ∧ a.defers = [] ∧ a.tmps.size = 169 ∧ Ok [(0, (.string s4)), (125, (.bool j179))] a.tmps) ?_ ?_
        ·skip
         refine gv_drawA (by kernel_rfl) ?_
         intro w181 hg182
         refine gv_pre [0, 1, 2, 3, 4, 5, 6] (bA 27 [0, 1, 2, 3, 4, 5, 6]) 20 (by kernel_rfl) (by kernel_rfl) ?_
         refine gv_pureN 4 [99, 100, 101, 102] [(102, (.bool (decide (((ByteArray.size s4 : Nat) : Int) < 3))))] (by kernel_rfl) ?_
         refine gv_split (s := 102) (g := (decide (((ByteArray.size s4 : Nat) : Int) < 3))) (by kernel_rfl) (fun hc183 => ?_) (fun hc183 => ?_)
         ·skip
          replace h4 := ite_t hc183 h4
          refine gv_pureN 3 [103, 104, 105] [(104, undef), (105, undef)] (by kernel_rfl) ?_
          refine gv_nil <| gv_goA ?_
          refine gv_stage (Cls w181 []) [0, 1, 2, 3, 4, 5, 6, 7] [(7, some true)] (bA 27 [0, 1, 2, 3, 4, 5, 6, 7]) 19 (by kernel_rfl) (by kernel_rfl) (Cls.refl _ _) ?_
          have hC184 := Cls.refl w181 []
          refine gv_pureN 1 [106] [(106, undef)] (by kernel_rfl) ?_
          refine gv_nil <| gv_goA ?_
          refine gv_pre [8, 9, 10, 11, 13, 14] (bA 27 [0, 1, 2, 3, 4, 5, 6, 7, 8, 9, 10, 11, 13, 14]) 13 (by kernel_rfl) (by kernel_rfl) ?_
          refine gv_pureN 6 [107, 108, 109, 110, 112, 113] [(109, (.bool true)), (110, undef), (113, undef)] (by kernel_rfl) ?_
          refine gv_nil <| gv_goA ?_
          refine gv_stage (Cls w181 []) [0, 1, 2, 3, 4, 5, 6, 7, 8, 9, 10, 11, 12, 13, 14] [(12, some true)] (bA 27 [0, 1, 2, 3, 4, 5, 6, 7, 8, 9, 10, 11, 12, 13, 14]) 12 (by kernel_rfl) (by kernel_rfl) (Cls.refl _ _) ?_
          have hC185 := Cls.refl w181 []
          refine gv_pureN 1 [111] [(111, undef)] (by kernel_rfl) ?_
          refine gv_nil <| gv_goA ?_
          refine gv_pre [15, 16, 17, 18, 19, 20, 21, 22, 23, 24, 25, 26] (bA 27 [0, 1, 2, 3, 4, 5, 6, 7, 8, 9, 10, 11, 12, 13, 14, 15, 16, 17, 18, 19, 20, 21, 22, 23, 24, 25, 26]) 0 (by kernel_rfl) (by kernel_rfl) ?_
          refine gv_pureN 12 [114, 115, 116, 117, 118, 119, 120, 121, 122, 123, 124, 125] [(125, (.bool true))] (by kernel_rfl) ?_
          refine gv_nil <| gv_goA ?_
          refine gv_stageE (by kernel_rfl) ?_
          have e := sj h4; subst e
          refine gv_goal fun a hd hs hok => ?_
          have hB186 := bg hB6 hg128 nb
          have hlo187 : w0.heap.size ≤ b126 := lob hbe130 hB6.size
          have hB188 := bg hB186 hg133 (rowlo hlo187)
          have hB189 := bg hB188 hg182 nb
          have hz190 := hg182.size
          exact ⟨hB189, hz190, hd, hs, ok_pick [0, 125] hok (by kernel_rfl)⟩
         ·skip
          replace h4 := ite_f hc183 h4
          refine gv_pureN 1 [103] [(103, (.string s4))] (by kernel_rfl) ?_
          refine bindE h4 ?_; clear h4; intro x191 hx192 h4
          refine gv_sindex (t := 9) (s := s4) (kk := .i64) (i := 1) x191 [] (fun e => by cases e) rfl rfl rfl (by kernel_rfl) (by kernel_rfl) Tryd.underlying9 hx192 rfl ?_
          refine gv_pureN 1 [105] [(105, (bp b126))] (by kernel_rfl) ?_
          refine gv_nil <| gv_goA ?_
          refine gv_stage (Cls w181 []) [0, 1, 2, 3, 4, 5, 6, 7] [(7, some true)] (bA 27 [0, 1, 2, 3, 4, 5, 6, 7]) 19 (by kernel_rfl) (by kernel_rfl) (Cls.refl _ _) ?_
          have hC193 := Cls.refl w181 []
          have hk194 := hb134.grown hg182 nb
          refine gv_load (t := 5) (A := ⟨b126, 0, none⟩) (.int .u8 x123.1) [] (fun e => by cases e) rfl rfl rfl (by kernel_rfl) (by kernel_rfl) (by kernel_rfl) (inw1 fun w' hC' => ((hC'.box hk194 nm_nil).cell 0 rfl)) rfl ?_
          refine gv_nil <| gv_goA ?_
          refine gv_pre [8, 9, 10, 11, 13, 14] (bA 27 [0, 1, 2, 3, 4, 5, 6, 7, 8, 9, 10, 11, 13, 14]) 13 (by kernel_rfl) (by kernel_rfl) ?_
          refine gv_pureN 3 [107, 108, 109] [(109, (.bool (decide (x191 < x123.1))))] (by kernel_rfl) ?_
          refine gv_split (s := 109) (g := (decide (x191 < x123.1))) (by kernel_rfl) (fun hc195 => ?_) (fun hc195 => ?_)
          ·skip
           replace h4 := ite_t hc195 h4
           refine gv_pureN 3 [110, 112, 113] [(110, undef), (113, undef)] (by kernel_rfl) ?_
           refine gv_nil <| gv_goA ?_
           refine gv_stage (Cls w181 []) [0, 1, 2, 3, 4, 5, 6, 7, 8, 9, 10, 11, 12, 13, 14] [(12, some true)] (bA 27 [0, 1, 2, 3, 4, 5, 6, 7, 8, 9, 10, 11, 12, 13, 14]) 12 (by kernel_rfl) (by kernel_rfl) (Cls.refl _ _) ?_
           have hC196 := Cls.refl w181 []
           refine gv_pureN 1 [111] [(111, undef)] (by kernel_rfl) ?_
           refine gv_nil <| gv_goA ?_
           refine gv_pre [15, 16, 17, 18, 19, 20, 21, 22, 23, 24, 25, 26] (bA 27 [0, 1, 2, 3, 4, 5, 6, 7, 8, 9, 10, 11, 12, 13, 14, 15, 16, 17, 18, 19, 20, 21, 22, 23, 24, 25, 26]) 0 (by kernel_rfl) (by kernel_rfl) ?_
           refine gv_pureN 12 [114, 115, 116, 117, 118, 119, 120, 121, 122, 123, 124, 125] [(125, (.bool true))] (by kernel_rfl) ?_
           refine gv_nil <| gv_goA ?_
           refine gv_stageE (by kernel_rfl) ?_
           have e := sj h4; subst e
           refine gv_goal fun a hd hs hok => ?_
           have hB197 := bg hB6 hg128 nb
           have hlo198 : w0.heap.size ≤ b126 := lob hbe130 hB6.size
           have hB199 := bg hB197 hg133 (rowlo hlo198)
           have hB200 := bg hB199 hg182 nb
           have hz201 := hg182.size
           exact ⟨hB200, hz201, hd, hs, ok_pick [0, 125] hok (by kernel_rfl)⟩
          ·skip
           replace h4 := ite_f hc195 h4
           refine gv_pureN 2 [110, 112] [(110, (.pointer (some ⟨b126, 1, none⟩))), (112, (.string s4))] (by kernel_rfl) ?_
           refine bindE h4 ?_; clear h4; intro x202 hx203 h4
           refine gv_sindex (t := 9) (s := s4) (kk := .i64) (i := 1) x202 [] (fun e => by cases e) rfl rfl rfl (by kernel_rfl) (by kernel_rfl) Tryd.underlying9 hx203 rfl ?_
           refine gv_nil <| gv_goA ?_
           refine gv_stage (Cls w181 []) [0, 1, 2, 3, 4, 5, 6, 7, 8, 9, 10, 11, 12, 13, 14] [(12, some true)] (bA 27 [0, 1, 2, 3, 4, 5, 6, 7, 8, 9, 10, 11, 12, 13, 14]) 12 (by kernel_rfl) (by kernel_rfl) (Cls.refl _ _) ?_
           have hC204 := Cls.refl w181 []
           refine gv_load (t := 5) (A := ⟨b126, 1, none⟩) (.int .u8 x123.2) [] (fun e => by cases e) rfl rfl rfl (by kernel_rfl) (by kernel_rfl) (by kernel_rfl) (inw1 fun w' hC' => ((hC'.box hk194 nm_nil).cell 1 rfl)) rfl ?_
           refine gv_nil <| gv_goA ?_
           refine gv_pre [15, 16, 17, 18, 19, 20, 21, 22, 23, 24, 25, 26] (bA 27 [0, 1, 2, 3, 4, 5, 6, 7, 8, 9, 10, 11, 12, 13, 14, 15, 16, 17, 18, 19, 20, 21, 22, 23, 24, 25, 26]) 0 (by kernel_rfl) (by kernel_rfl) ?_
           refine gv_pureN 3 [114, 115, 116] [(116, (.bool (decide (x123.2 < x202))))] (by kernel_rfl) ?_
           refine gv_sub [0, 116] (σ' := [(0, (.string s4)), (116, (.bool (decide (x123.2 < x202))))]) (by kernel_rfl) ?_
           refine gv_split (s := 116) (g := (decide (x123.2 < x202))) (by kernel_rfl) (fun hc205 => ?_) (fun hc205 => ?_)
           ·skip
            replace h4 := ite_t hc205 h4
            refine gv_pureN 9 [117, 118, 119, 120, 121, 122, 123, 124, 125] [(125, (.bool true))] (by kernel_rfl) ?_
            refine gv_nil <| gv_goA ?_
            refine gv_stageE (by kernel_rfl) ?_
            have e := sj h4; subst e
            refine gv_goal fun a hd hs hok => ?_
            have hB206 := bg hB6 hg128 nb
            have hlo207 : w0.heap.size ≤ b126 := lob hbe130 hB6.size
            have hB208 := bg hB206 hg133 (rowlo hlo207)
            have hB209 := bg hB208 hg182 nb
            have hz210 := hg182.size
            exact ⟨hB209, hz210, hd, hs, ok_pick [0, 125] hok (by kernel_rfl)⟩
           ·skip
            replace h4 := ite_f hc205 h4
            refine gv_pureN 1 [117] [(117, (.string s4))] (by kernel_rfl) ?_
            refine bindE h4 ?_; clear h4; intro x211 hx212 h4
            refine gv_sindex (t := 9) (s := s4) (kk := .i64) (i := 2) x211 [] (fun e => by cases e) rfl rfl rfl (by kernel_rfl) (by kernel_rfl) Tryd.underlying9 hx212 rfl ?_
            refine gv_pureN 3 [119, 120, 121] [(121, (.bool (decide (x211 < 128))))] (by kernel_rfl) ?_
            refine gv_split (s := 121) (g := (decide (x211 < 128))) (by kernel_rfl) (fun hc213 => ?_) (fun hc213 => ?_)
            ·skip
             replace h4 := ite_t hc213 h4
             refine gv_pureN 4 [122, 123, 124, 125] [(125, (.bool true))] (by kernel_rfl) ?_
             refine gv_nil <| gv_goA ?_
             refine gv_stageE (by kernel_rfl) ?_
             have e := sj h4; subst e
             refine gv_goal fun a hd hs hok => ?_
             have hB214 := bg hB6 hg128 nb
             have hlo215 : w0.heap.size ≤ b126 := lob hbe130 hB6.size
             have hB216 := bg hB214 hg133 (rowlo hlo215)
             have hB217 := bg hB216 hg182 nb
             have hz218 := hg182.size
             exact ⟨hB217, hz218, hd, hs, ok_pick [0, 125] hok (by kernel_rfl)⟩
            ·skip
             replace h4 := ite_f hc213 h4
             refine gv_pureN 1 [122] [(122, (.string s4))] (by kernel_rfl) ?_
             refine bindE h4 ?_; clear h4; intro x219 hx220 h4
             refine gv_sindex (t := 9) (s := s4) (kk := .i64) (i := 2) x219 [] (fun e => by cases e) rfl rfl rfl (by kernel_rfl) (by kernel_rfl) Tryd.underlying9 hx220 rfl ?_
             refine gv_pureN 2 [124, 125] [(125, (.bool (decide (191 < x219))))] (by kernel_rfl) ?_
             refine gv_nil <| gv_goA ?_
             refine gv_stageE (by kernel_rfl) ?_
             have e := sj h4; subst e
             refine gv_goal fun a hd hs hok => ?_
             have hB221 := bg hB6 hg128 nb
             have hlo222 : w0.heap.size ≤ b126 := lob hbe130 hB6.size
             have hB223 := bg hB221 hg133 (rowlo hlo222)
             have hB224 := bg hB223 hg182 nb
             have hz225 := hg182.size
             exact ⟨hB224, hz225, hd, hs, ok_pick [0, 125] hok (by kernel_rfl)⟩
        ·rintro a w180 ⟨hB226, hz227, hd, hs, hok⟩
         refine gv_in ?_ hd hs hok
         clear hd hs hok
         have hz228 := (nt (nt hz7 hg128.size) hg133.size)
         clear hc178 hc139 hz135 hb134 hg133 hz131 hbe130 hb129 hg128 hc125 hx124 hn122 hx120 hc11 hx10 hc8 hz7 hB6
         refine gv_cond (b := j179) (by kernel_rfl) (fun hc229 => ?_) (fun hc229 => ?_)
         ·replace h3 := ite_t hc229 h3
          refine gv_seq <| gv_region <| gv_pureN 1 [2] [(2, (.bool false))] (by kernel_rfl) ?_
          refine gv_nil <| gv_cret ?_
          have e := sj h3; subst e
          replace h2 := cont_inr h2
          have e := sj h2; subst e
          replace h1 := congrArg some (hR2 _ rfl)
          have e := sj h1; subst e
          replace h0 := cont_inr h0
          have e := sj h0; subst e
          refine gv_ret (gv_done [(.bool false)] rfl ⟨(by kernel_rfl), trivial⟩ ?_)
          exact ⟨grown_of_below hB226, rfl⟩
         ·replace h3 := ite_f hc229 h3
          refine gv_skip <| gv_region <| gv_pureN 1 [126] [(126, (.string s4))] (by kernel_rfl) ?_
          refine bindE h3 ?_; clear h3; intro x230 hx231 h3
          refine gv_ssub (t := 9) (s := s4) (lo := (some (.int .i64 3))) (hi := none) 3 ((ByteArray.size s4 : Nat) : Int) x230 [] (fun e => by cases e) rfl rfl rfl (by kernel_rfl) (by kernel_rfl) Tryd.underlying9 (.inr ⟨_, rfl⟩) (.inl ⟨rfl, rfl⟩) hx231 rfl ?_
          refine gv_pureN 1 [0] [(0, (.string x230))] (by kernel_rfl) ?_
          refine gv_nil ?_
          have e := sj h3; subst e
          refine gv_goal fun a hd hs hok => ?_
          have hz232 := hz227
          exact ⟨x230, rfl, hB226, hz232, hd, hs, ok_pick [0] hok (by kernel_rfl)⟩
       ·replace h3 := ite_f hc178 h3
        refine gv_seq <| gv_region <| gv_pureN 2 [128, 129] [(128, (.bool (n121 == 4)))] (by kernel_rfl) ?_
        refine gv_nil <| gv_cond (b := (n121 == 4)) (by kernel_rfl) (fun hc233 => ?_) (fun hc233 => ?_)
        ·replace h3 := ite_t hc233 h3
         refine gv_seq <| gv_seq <| bindE h3 ?_; clear h3; intro j234 h4 h3
         refine gv_cut_code (J := fun a w235 => Below w0.heap.size w0 w235 ∧ w132.heap.size ≤ w235.heap.size ∧ a.defers = [] ∧ a.tmps.size = 169 ∧ Ok [(0, (.string s4)), (166, (.bool j234))] a.tmps) ?_ ?_
         ·skip
          refine gv_drawA (by kernel_rfl) ?_
          intro w236 hg237
          refine gv_pre [0, 1, 2, 3, 4, 5, 6] (bA 37 [0, 1, 2, 3, 4, 5, 6]) 30 (by kernel_rfl) (by kernel_rfl) ?_
          refine gv_pureN 4 [130, 131, 132, 133] [(133, (.bool (decide (((ByteArray.size s4 : Nat) : Int) < 4))))] (by kernel_rfl) ?_
          refine gv_split (s := 133) (g := (decide (((ByteArray.size s4 : Nat) : Int) < 4))) (by kernel_rfl) (fun hc238 => ?_) (fun hc238 => ?_)
          ·skip
           replace h4 := ite_t hc238 h4
           refine gv_pureN 3 [134, 135, 136] [(135, undef), (136, undef)] (by kernel_rfl) ?_
           refine gv_nil <| gv_goA ?_
           refine gv_stage (Cls w236 []) [0, 1, 2, 3, 4, 5, 6, 7] [(7, some true)] (bA 37 [0, 1, 2, 3, 4, 5, 6, 7]) 29 (by kernel_rfl) (by kernel_rfl) (Cls.refl _ _) ?_
           have hC239 := Cls.refl w236 []
           refine gv_pureN 1 [137] [(137, undef)] (by kernel_rfl) ?_
           refine gv_nil <| gv_goA ?_
           refine gv_pre [8, 9, 10, 11, 13, 14] (bA 37 [0, 1, 2, 3, 4, 5, 6, 7, 8, 9, 10, 11, 13, 14]) 23 (by kernel_rfl) (by kernel_rfl) ?_
           refine gv_pureN 6 [138, 139, 140, 141, 143, 144] [(140, (.bool true)), (141, undef), (144, undef)] (by kernel_rfl) ?_
           refine gv_nil <| gv_goA ?_
           refine gv_stage (Cls w236 []) [0, 1, 2, 3, 4, 5, 6, 7, 8, 9, 10, 11, 12, 13, 14] [(12, some true)] (bA 37 [0, 1, 2, 3, 4, 5, 6, 7, 8, 9, 10, 11, 12, 13, 14]) 22 (by kernel_rfl) (by kernel_rfl) (Cls.refl _ _) ?_
           have hC240 := Cls.refl w236 []
           refine gv_pureN 1 [142] [(142, undef)] (by kernel_rfl) ?_
           refine gv_nil <| gv_goA ?_
           refine gv_pre [15, 16, 17, 18, 19, 20, 21, 22, 23, 24, 25, 26, 27, 28, 29, 30, 31, 32, 33, 34, 35, 36] (bA 37 [0, 1, 2, 3, 4, 5, 6, 7, 8, 9, 10, 11, 12, 13, 14, 15, 16, 17, 18, 19, 20, 21, 22, 23, 24, 25, 26, 27, 28, 29, 30, 31, 32, 33, 34, 35, 36]) 0 (by kernel_rfl) (by kernel_rfl) ?_
           refine gv_pureN 22 [145, 146, 147, 148, 149, 150, 151, 152, 153, 154, 155, 156, 157, 158, 159, 160, 161, 162, 163, 164, 165, 166] [(166, (.bool true))] (by kernel_rfl) ?_
           refine gv_nil <| gv_goA ?_
           refine gv_stageE (by kernel_rfl) ?_
           have e := sj h4; subst e
           refine gv_goal fun a hd hs hok => ?_
           have hB241 := bg hB6 hg128 nb
           have hlo242 : w0.heap.size ≤ b126 := lob hbe130 hB6.size
           have hB243 := bg hB241 hg133 (rowlo hlo242)
           have hB244 := bg hB243 hg237 nb
           have hz245 := hg237.size
           exact ⟨hB244, hz245, hd, hs, ok_pick [0, 166] hok (by kernel_rfl)⟩
          ·skip
           replace h4 := ite_f hc238 h4
           refine gv_pureN 1 [134] [(134, (.string s4))] (by kernel_rfl) ?_
           refine bindE h4 ?_; clear h4; intro x246 hx247 h4
           refine gv_sindex (t := 9) (s := s4) (kk := .i64) (i := 1) x246 [] (fun e => by cases e) rfl rfl rfl (by kernel_rfl) (by kernel_rfl) Tryd.underlying9 hx247 rfl ?_
           refine gv_pureN 1 [136] [(136, (bp b126))] (by kernel_rfl) ?_
           refine gv_nil <| gv_goA ?_
           refine gv_stage (Cls w236 []) [0, 1, 2, 3, 4, 5, 6, 7] [(7, some true)] (bA 37 [0, 1, 2, 3, 4, 5, 6, 7]) 29 (by kernel_rfl) (by kernel_rfl) (Cls.refl _ _) ?_
           have hC248 := Cls.refl w236 []
           have hk249 := hb134.grown hg237 nb
           refine gv_load (t := 5) (A := ⟨b126, 0, none⟩) (.int .u8 x123.1) [] (fun e => by cases e) rfl rfl rfl (by kernel_rfl) (by kernel_rfl) (by kernel_rfl) (inw1 fun w' hC' => ((hC'.box hk249 nm_nil).cell 0 rfl)) rfl ?_
           refine gv_nil <| gv_goA ?_
           refine gv_pre [8, 9, 10, 11, 13, 14] (bA 37 [0, 1, 2, 3, 4, 5, 6, 7, 8, 9, 10, 11, 13, 14]) 23 (by kernel_rfl) (by kernel_rfl) ?_
           refine gv_pureN 3 [138, 139, 140] [(140, (.bool (decide (x246 < x123.1))))] (by kernel_rfl) ?_
           refine gv_split (s := 140) (g := (decide (x246 < x123.1))) (by kernel_rfl) (fun hc250 => ?_) (fun hc250 => ?_)
           ·skip
            replace h4 := ite_t hc250 h4
            refine gv_pureN 3 [141, 143, 144] [(141, undef), (144, undef)] (by kernel_rfl) ?_
            refine gv_nil <| gv_goA ?_
            refine gv_stage (Cls w236 []) [0, 1, 2, 3, 4, 5, 6, 7, 8, 9, 10, 11, 12, 13, 14] [(12, some true)] (bA 37 [0, 1, 2, 3, 4, 5, 6, 7, 8, 9, 10, 11, 12, 13, 14]) 22 (by kernel_rfl) (by kernel_rfl) (Cls.refl _ _) ?_
            have hC251 := Cls.refl w236 []
            refine gv_pureN 1 [142] [(142, undef)] (by kernel_rfl) ?_
            refine gv_nil <| gv_goA ?_
            refine gv_pre [15, 16, 17, 18, 19, 20, 21, 22, 23, 24, 25, 26, 27, 28, 29, 30, 31, 32, 33, 34, 35, 36] (bA 37 [0, 1, 2, 3, 4, 5, 6, 7, 8, 9, 10, 11, 12, 13, 14, 15, 16, 17, 18, 19, 20, 21, 22, 23, 24, 25, 26, 27, 28, 29, 30, 31, 32, 33, 34, 35, 36]) 0 (by kernel_rfl) (by kernel_rfl) ?_
            refine gv_pureN 22 [145, 146, 147, 148, 149, 150, 151, 152, 153, 154, 155, 156, 157, 158, 159, 160, 161, 162, 163, 164, 165, 166] [(166, (.bool true))] (by kernel_rfl) ?_
            refine gv_sub [0, 166] (σ' := [(0, (.string s4)), (166, (.bool true))]) (by kernel_rfl) ?_
            refine gv_nil <| gv_goA ?_
            refine gv_stageE (by kernel_rfl) ?_
            have e := sj h4; subst e
            refine gv_goal fun a hd hs hok => ?_
            have hB252 := bg hB6 hg128 nb
            have hlo253 : w0.heap.size ≤ b126 := lob hbe130 hB6.size
            have hB254 := bg hB252 hg133 (rowlo hlo253)
            have hB255 := bg hB254 hg237 nb
            have hz256 := hg237.size
            exact ⟨hB255, hz256, hd, hs, ok_pick [0, 166] hok (by kernel_rfl)⟩
           ·skip
            replace h4 := ite_f hc250 h4
            refine gv_pureN 2 [141, 143] [(141, (.pointer (some ⟨b126, 1, none⟩))), (143, (.string s4))] (by kernel_rfl) ?_
            refine bindE h4 ?_; clear h4; intro x257 hx258 h4
            refine gv_sindex (t := 9) (s := s4) (kk := .i64) (i := 1) x257 [] (fun e => by cases e) rfl rfl rfl (by kernel_rfl) (by kernel_rfl) Tryd.underlying9 hx258 rfl ?_
            refine gv_nil <| gv_goA ?_
            refine gv_stage (Cls w236 []) [0, 1, 2, 3, 4, 5, 6, 7, 8, 9, 10, 11, 12, 13, 14] [(12, some true)] (bA 37 [0, 1, 2, 3, 4, 5, 6, 7, 8, 9, 10, 11, 12, 13, 14]) 22 (by kernel_rfl) (by kernel_rfl) (Cls.refl _ _) ?_
            have hC259 := Cls.refl w236 []
            refine gv_load (t := 5) (A := ⟨b126, 1, none⟩) (.int .u8 x123.2) [] (fun e => by cases e) rfl rfl rfl (by kernel_rfl) (by kernel_rfl) (by kernel_rfl) (inw1 fun w' hC' => ((hC'.box hk249 nm_nil).cell 1 rfl)) rfl ?_
            refine gv_nil <| gv_goA ?_
            refine gv_pre [15, 16, 17, 18, 19, 20, 21, 22, 23, 24, 25, 26, 27, 28, 29, 30, 31, 32, 33, 34, 35, 36] (bA 37 [0, 1, 2, 3, 4, 5, 6, 7, 8, 9, 10, 11, 12, 13, 14, 15, 16, 17, 18, 19, 20, 21, 22, 23, 24, 25, 26, 27, 28, 29, 30, 31, 32, 33, 34, 35, 36]) 0 (by kernel_rfl) (by kernel_rfl) ?_
            refine gv_pureN 3 [145, 146, 147] [(147, (.bool (decide (x123.2 < x257))))] (by kernel_rfl) ?_
            refine gv_sub [0, 147] (σ' := [(0, (.string s4)), (147, (.bool (decide (x123.2 < x257))))]) (by kernel_rfl) ?_
            refine gv_split (s := 147) (g := (decide (x123.2 < x257))) (by kernel_rfl) (fun hc260 => ?_) (fun hc260 => ?_)
            ·skip
             replace h4 := ite_t hc260 h4
             refine gv_pureN 19 [148, 149, 150, 151, 152, 153, 154, 155, 156, 157, 158, 159, 160, 161, 162, 163, 164, 165, 166] [(166, (.bool true))] (by kernel_rfl) ?_
             refine gv_nil <| gv_goA ?_
             refine gv_stageE (by kernel_rfl) ?_
             have e := sj h4; subst e
             refine gv_goal fun a hd hs hok => ?_
             have hB261 := bg hB6 hg128 nb
             have hlo262 : w0.heap.size ≤ b126 := lob hbe130 hB6.size
             have hB263 := bg hB261 hg133 (rowlo hlo262)
             have hB264 := bg hB263 hg237 nb
             have hz265 := hg237.size
             exact ⟨hB264, hz265, hd, hs, ok_pick [0, 166] hok (by kernel_rfl)⟩
            ·skip
             replace h4 := ite_f hc260 h4
             refine gv_pureN 1 [148] [(148, (.string s4))] (by kernel_rfl) ?_
             refine bindE h4 ?_; clear h4; intro x266 hx267 h4
             refine gv_sindex (t := 9) (s := s4) (kk := .i64) (i := 2) x266 [] (fun e => by cases e) rfl rfl rfl (by kernel_rfl) (by kernel_rfl) Tryd.underlying9 hx267 rfl ?_
             refine gv_pureN 3 [150, 151, 152] [(152, (.bool (decide (x266 < 128))))] (by kernel_rfl) ?_
             refine gv_split (s := 152) (g := (decide (x266 < 128))) (by kernel_rfl) (fun hc268 => ?_) (fun hc268 => ?_)
             ·skip
              replace h4 := ite_t hc268 h4
              refine gv_pureN 14 [153, 154, 155, 156, 157, 158, 159, 160, 161, 162, 163, 164, 165, 166] [(166, (.bool true))] (by kernel_rfl) ?_
              refine gv_nil <| gv_goA ?_
              refine gv_stageE (by kernel_rfl) ?_
              have e := sj h4; subst e
              refine gv_goal fun a hd hs hok => ?_
              have hB269 := bg hB6 hg128 nb
              have hlo270 : w0.heap.size ≤ b126 := lob hbe130 hB6.size
              have hB271 := bg hB269 hg133 (rowlo hlo270)
              have hB272 := bg hB271 hg237 nb
              have hz273 := hg237.size
              exact ⟨hB272, hz273, hd, hs, ok_pick [0, 166] hok (by kernel_rfl)⟩
             ·skip
              replace h4 := ite_f hc268 h4
              refine gv_pureN 1 [153] [(153, (.string s4))] (by kernel_rfl) ?_
              refine bindE h4 ?_; clear h4; intro x274 hx275 h4
              refine gv_sindex (t := 9) (s := s4) (kk := .i64) (i := 2) x274 [] (fun e => by cases e) rfl rfl rfl (by kernel_rfl) (by kernel_rfl) Tryd.underlying9 hx275 rfl ?_
              refine gv_pureN 3 [155, 156, 157] [(157, (.bool (decide (191 < x274))))] (by kernel_rfl) ?_
              refine gv_split (s := 157) (g := (decide (191 < x274))) (by kernel_rfl) (fun hc276 => ?_) (fun hc276 => ?_)
              ·skip
               replace h4 := ite_t hc276 h4
               refine gv_pureN 9 [158, 159, 160, 161, 162, 163, 164, 165, 166] [(166, (.bool true))] (by kernel_rfl) ?_
               refine gv_nil <| gv_goA ?_
               refine gv_stageE (by kernel_rfl) ?_
               have e := sj h4; subst e
               refine gv_goal fun a hd hs hok => ?_
               have hB277 := bg hB6 hg128 nb
               have hlo278 : w0.heap.size ≤ b126 := lob hbe130 hB6.size
               have hB279 := bg hB277 hg133 (rowlo hlo278)
               have hB280 := bg hB279 hg237 nb
               have hz281 := hg237.size
               exact ⟨hB280, hz281, hd, hs, ok_pick [0, 166] hok (by kernel_rfl)⟩
              ·skip
               replace h4 := ite_f hc276 h4
               refine gv_pureN 1 [158] [(158, (.string s4))] (by kernel_rfl) ?_
               refine bindE h4 ?_; clear h4; intro x282 hx283 h4
               refine gv_sindex (t := 9) (s := s4) (kk := .i64) (i := 3) x282 [] (fun e => by cases e) rfl rfl rfl (by kernel_rfl) (by kernel_rfl) Tryd.underlying9 hx283 rfl ?_
               refine gv_pureN 3 [160, 161, 162] [(162, (.bool (decide (x282 < 128))))] (by kernel_rfl) ?_
               refine gv_split (s := 162) (g := (decide (x282 < 128))) (by kernel_rfl) (fun hc284 => ?_) (fun hc284 => ?_)
               ·skip
                replace h4 := ite_t hc284 h4
                refine gv_pureN 4 [163, 164, 165, 166] [(166, (.bool true))] (by kernel_rfl) ?_
                refine gv_nil <| gv_goA ?_
                refine gv_stageE (by kernel_rfl) ?_
                have e := sj h4; subst e
                refine gv_goal fun a hd hs hok => ?_
                have hB285 := bg hB6 hg128 nb
                have hlo286 : w0.heap.size ≤ b126 := lob hbe130 hB6.size
                have hB287 := bg hB285 hg133 (rowlo hlo286)
                have hB288 := bg hB287 hg237 nb
                have hz289 := hg237.size
                exact ⟨hB288, hz289, hd, hs, ok_pick [0, 166] hok (by kernel_rfl)⟩
               ·skip
                replace h4 := ite_f hc284 h4
                refine gv_pureN 1 [163] [(163, (.string s4))] (by kernel_rfl) ?_
                refine bindE h4 ?_; clear h4; intro x290 hx291 h4
                refine gv_sindex (t := 9) (s := s4) (kk := .i64) (i := 3) x290 [] (fun e => by cases e) rfl rfl rfl (by kernel_rfl) (by kernel_rfl) Tryd.underlying9 hx291 rfl ?_
                refine gv_pureN 2 [165, 166] [(166, (.bool (decide (191 < x290))))] (by kernel_rfl) ?_
                refine gv_nil <| gv_goA ?_
                refine gv_stageE (by kernel_rfl) ?_
                have e := sj h4; subst e
                refine gv_goal fun a hd hs hok => ?_
                have hB292 := bg hB6 hg128 nb
                have hlo293 : w0.heap.size ≤ b126 := lob hbe130 hB6.size
                have hB294 := bg hB292 hg133 (rowlo hlo293)
                have hB295 := bg hB294 hg237 nb
                have hz296 := hg237.size
                exact ⟨hB295, hz296, hd, hs, ok_pick [0, 166] hok (by kernel_rfl)⟩
         ·rintro a w235 ⟨hB297, hz298, hd, hs, hok⟩
          refine gv_in ?_ hd hs hok
          clear hd hs hok
          have hz299 := (nt (nt hz7 hg128.size) hg133.size)
          clear hc233 hc178 hc139 hz135 hb134 hg133 hz131 hbe130 hb129 hg128 hc125 hx124 hn122 hx120 hc11 hx10 hc8 hz7 hB6
          refine gv_cond (b := j234) (by kernel_rfl) (fun hc300 => ?_) (fun hc300 => ?_)
          ·replace h3 := ite_t hc300 h3
           refine gv_seq <| gv_region <| gv_pureN 1 [2] [(2, (.bool false))] (by kernel_rfl) ?_
           refine gv_nil <| gv_cret ?_
           have e := sj h3; subst e
           replace h2 := cont_inr h2
           have e := sj h2; subst e
           replace h1 := congrArg some (hR2 _ rfl)
           have e := sj h1; subst e
           replace h0 := cont_inr h0
           have e := sj h0; subst e
           refine gv_ret (gv_done [(.bool false)] rfl ⟨(by kernel_rfl), trivial⟩ ?_)
           exact ⟨grown_of_below hB297, rfl⟩
          ·replace h3 := ite_f hc300 h3
           refine gv_skip <| gv_region <| gv_pureN 1 [167] [(167, (.string s4))] (by kernel_rfl) ?_
           refine bindE h3 ?_; clear h3; intro x301 hx302 h3
           refine gv_ssub (t := 9) (s := s4) (lo := (some (.int .i64 4))) (hi := none) 4 ((ByteArray.size s4 : Nat) : Int) x301 [] (fun e => by cases e) rfl rfl rfl (by kernel_rfl) (by kernel_rfl) Tryd.underlying9 (.inr ⟨_, rfl⟩) (.inl ⟨rfl, rfl⟩) hx302 rfl ?_
           refine gv_pureN 1 [0] [(0, (.string x301))] (by kernel_rfl) ?_
           refine gv_nil ?_
           have e := sj h3; subst e
           refine gv_goal fun a hd hs hok => ?_
           have hz303 := hz298
           exact ⟨x301, rfl, hB297, hz303, hd, hs, ok_pick [0] hok (by kernel_rfl)⟩
        ·replace h3 := ite_f hc233 h3
         refine gv_seq <| gv_region <| gv_pureN 1 [2] [(2, (.bool false))] (by kernel_rfl) ?_
         refine gv_nil <| gv_cret ?_
         have e := sj h3; subst e
         replace h2 := cont_inr h2
         have e := sj h2; subst e
         replace h1 := congrArg some (hR2 _ rfl)
         have e := sj h1; subst e
         replace h0 := cont_inr h0
         have e := sj h0; subst e
         refine gv_ret (gv_done [(.bool false)] rfl ⟨(by kernel_rfl), trivial⟩ ?_)
         have hB304 := bg hB6 hg128 nb
         have hlo305 : w0.heap.size ≤ b126 := lob hbe130 hB6.size
         have hB306 := bg hB304 hg133 (rowlo hlo305)
         exact ⟨grown_of_below hB306, rfl⟩
     ·rintro a w138 ⟨s137, e, hB307, hz308, hd, hs, hok⟩
      subst e
      refine gv_in ?_ hd hs hok
      clear hd hs hok
      replace h2 := cont_inl h2
      have hz309 := (nt (nt (nt hz7 hg128.size) hg133.size) hz308)
      clear hz308 hz135 hb134 hg133 hz131 hbe130 hb129 hg128 hc125 hx124 hn122 hx120 hc11 hx10 hc8 hz7 hB6
      refine gv_blk <| gv_blk ?_
      have e := sj h2; subst e
      refine gv_goal fun a hd hs hok => ?_
      have hz310 := hz309
      exact ⟨s137, rfl, hB307, hz310, hd, hs, ok_pick [0] hok (by kernel_rfl)⟩
   ·replace h2 := ite_f hc8 h2
    refine gv_cexit <| gv_exit rfl ?_
    have e := sj h2; subst e
    replace h1 := congrArg some (hR2 _ rfl)
    have e := sj h1; subst e
    refine gv_goal fun a hd hs hok => ?_
    have hz311 := hz7
    exact ⟨(), rfl, hB6, hz311, hd, hs, ok_pick [] hok (by kernel_rfl)⟩
 ·rintro a w3 ⟨s2, e, hB312, hz313, hd, hs, hok⟩
  subst e
  refine gv_in ?_ hd hs hok
  clear hd hs hok
  replace h0 := cont_inl h0
  refine gv_seq <| gv_region <| gv_pureN 1 [2] [(2, (.bool true))] (by kernel_rfl) ?_
  refine gv_nil <| gv_cret ?_
  have e := sj h0; subst e
  refine gv_ret (gv_done [(.bool true)] rfl ⟨(by kernel_rfl), trivial⟩ ?_)
  exact ⟨grown_of_below hB312, rfl⟩

theorem bytestr_result_ok (fuel : Nat) (pa0_0 : Option Addr) (pc0_0 : Nat) (b_0 : (List UInt8)) (w0 : World) (X0 : Nat → Prop) (hX0 : ∀ k, X0 k → k < w0.heap.size) (hpa0_0 : Rd bE w0 X0 pa0_0 pc0_0 b_0) (r0 : ((List UInt8) × (Int × Int))) (h0 : bytestr_result fuel b_0 = some r0) :
    Calls Tryd.prog 44 ([(.slice pa0_0 (List.length b_0) pc0_0)] : List Value).toArray w0 (Ret fun v w' => w0.grownBy w' none ∧ ∃ (a0_0r : Option Addr) (c0_0r : Nat), ∃ (X0_0r : Nat → Prop), v = tup [(.slice a0_0r (List.length r0.1) c0_0r), (.agg #[(.int .i64 r0.2.1), (.int .i64 r0.2.2)])] ∧ Rd bE w' X0_0r a0_0r c0_0r r0.1 ∧ (∀ k, X0_0r k → k < w'.heap.size ∧ (X0 k ∨ w0.heap.size ≤ k))) := by
 have hB0 : Below w0.heap.size w0 w0 := Below.refl _ _
 unfold bytestr_result at h0
 refine calls_run Tryd.func44 rfl Tryd.ntmps44 (by kernel_rfl) ?_
 refine gv_sub [0] (σ' := [(0, (.slice pa0_0 (List.length b_0) pc0_0))]) (by kernel_rfl) ?_
 refine gv_seq <| gv_region <| gv_pureN 1 [2] [] (by kernel_rfl) ?_
 refine gv_new0 (fun b => .pointer (some ⟨b, 0, none⟩)) #[(.int .i64 0), (.int .i64 0)] 25 (by kernel_rfl) (by kernel_rfl) ?_
 intro b1 w2 hg3 hb4 hbe5 hz6
 refine gv_nil <| gv_seq <| gv_seq <| gv_region <| gv_pureN 3 [4, 5, 6] [(6, (.bool (decide (((List.length b_0 : Nat) : Int) > 4000))))] (by kernel_rfl) ?_
 refine gv_nil <| gv_cond (b := (decide (((List.length b_0 : Nat) : Int) > 4000))) (by kernel_rfl) (fun hc7 => ?_) (fun hc7 => ?_)
 ·replace h0 := ite_t hc7 h0
  refine gv_seq <| gv_region <| bindE h0 ?_; clear h0; intro r8 hr9 h0
  refine gv_call0 (by kernel_rfl) rfl (by kernel_rfl) enters38 (bytestr_at_ok fuel 3 (-1) w2  r8 hr9) ?_
  rintro v12 w10 ⟨hg11, rfl⟩
  refine gv_pureN 1 [2] [(2, (.slice none (List.length ([] : List UInt8)) 0))] (by kernel_rfl) ?_
  have hk17 := hb4.grown hg11 nb
  refine gv_store0 25 0 (.agg #[(.int .i64 r8.1), (.int .i64 r8.2)]) #[(.int .i64 r8.1), (.int .i64 r8.2)] hk17 (by kernel_rfl) (by kernel_rfl) (by kernel_rfl) ?_
  intro w13 hg14 hb15 hz16
  refine gv_nil <| gv_cret ?_
  have e := sj h0; subst e
  refine gv_ret (gv_done [(.slice none (List.length ([] : List UInt8)) 0), (.agg #[(.int .i64 r8.1), (.int .i64 r8.2)])] rfl ⟨(by kernel_rfl), ⟨⟨b1, 0, none⟩, (by kernel_rfl), run_loadVar_row w13 b1 _ 25 _ _ _ hb15 Tryd.underlying25 rfl (by kernel_rfl)⟩, trivial⟩ ?_)
  have hg18 := (grown_trans hg3 hg11)
  have hB19 := bg hB0 hg18 nb
  have hlo20 : w0.heap.size ≤ b1 := lob hbe5 hB0.size
  have hB21 := bg hB19 hg14 (rowlo hlo20)
  exact ⟨grown_of_below hB21, none, 0, (fun _ => False), rfl, (Rd.nil bE w13 (fun _ => False) none 0), (fun k hk => ⟨(fun _ h => h.elim) k hk, (fun _ h => h.elim) k hk⟩)⟩
 ·replace h0 := ite_f hc7 h0
  refine gv_skip <| gv_seq <| gv_region <| gv_pureN 3 [2, 8, 9] [(2, (.slice pa0_0 (List.length b_0) pc0_0)), (9, (.agg #[(.int .i64 0), (.int .i64 0)]))] (by kernel_rfl) ?_
  refine gv_store0 25 0 (.agg #[(.int .i64 0), (.int .i64 0)]) #[(.int .i64 0), (.int .i64 0)] hb4 (by kernel_rfl) (by kernel_rfl) (by kernel_rfl) ?_
  intro w22 hg23 hb24 hz25
  refine gv_nil <| gv_cret ?_
  have e := sj h0; subst e
  refine gv_ret (gv_done [(.slice pa0_0 (List.length b_0) pc0_0), (.agg #[(.int .i64 0), (.int .i64 0)])] rfl ⟨(by kernel_rfl), ⟨⟨b1, 0, none⟩, (by kernel_rfl), run_loadVar_row w22 b1 _ 25 _ _ _ hb24 Tryd.underlying25 rfl (by kernel_rfl)⟩, trivial⟩ ?_)
  have hB26 := bg hB0 hg3 nb
  have hlo27 : w0.heap.size ≤ b1 := lob hbe5 hB0.size
  have hB28 := bg hB26 hg23 (rowlo hlo27)
  exact ⟨grown_of_below hB28, pa0_0, pc0_0, X0, rfl, (hpa0_0.below hB28 hX0), (fun k hk => ⟨(fun k (hk : X0 k) => ltl (hX0 k hk) hB28.size) k hk, (fun k (hk : X0 k) => Or.inl hk) k hk⟩)⟩

theorem bytestr_Encode_ok (fuel : Nat) (s_0 : ByteArray) (coding_1 : Int) (w0 : World) (X0 : Nat → Prop) (hX0 : ∀ k, X0 k → k < w0.heap.size) (hG0 : Rd bE w0 X0 (some ⟨0, 0, none⟩) 256 utf8First) (hG1 : Rd (prE (iE .u8) (iE .u8)) w0 X0 (some ⟨1, 0, none⟩) 16 utf8Acc) (r0 : ((List UInt8) × (Int × Int))) (h0 : bytestr_Encode fuel s_0 coding_1 = some r0) :
    Calls Tryd.prog 22 ([(.string s_0), (.int .i64 coding_1)] : List Value).toArray w0 (Ret fun v w' => w0.grownBy w' none ∧ ∃ (a0_0r : Option Addr) (c0_0r : Nat), ∃ (X0_0r : Nat → Prop), v = tup [(.slice a0_0r (List.length r0.1) c0_0r), (.agg #[(.int .i64 r0.2.1), (.int .i64 r0.2.2)])] ∧ Rd bE w' X0_0r a0_0r c0_0r r0.1 ∧ (∀ k, X0_0r k → k < w'.heap.size ∧ (X0 k ∨ w0.heap.size ≤ k))) := by
 have hB0 : Below w0.heap.size w0 w0 := Below.refl _ _
 unfold bytestr_Encode at h0
 refine calls_run Tryd.func22 rfl Tryd.ntmps22 (by kernel_rfl) ?_
 refine gv_sub [0, 1] (σ' := [(0, (.string s_0)), (1, (.int .i64 coding_1))]) (by kernel_rfl) ?_
 refine gv_seq <| gv_region <| gv_pureN 1 [4] [] (by kernel_rfl) ?_
 refine gv_new0 (fun b => .pointer (some ⟨b, 0, none⟩)) #[(.int .i64 0), (.int .i64 0)] 25 (by kernel_rfl) (by kernel_rfl) ?_
 intro b1 w2 hg3 hb4 hbe5 hz6
 refine gv_nil <| gv_seq <| gv_block <| gv_seq <| gv_region <| bindE h0 ?_; clear h0; intro j7 h1 h0
 refine gv_cut_ops (J := fun a w8 => Below w0.heap.size w0 w8 ∧ w2.heap.size ≤ w8.heap.size ∧ Box w8 b1 25 #[(.int .i64 0), (.int .i64 0)] ∧ a.defers = [] ∧ a.tmps.size = 96 ∧ Ok [(0, (.string s_0)), (1, (.int .i64 coding_1)), (5, (bp b1)), (12, (.bool j7))] a.tmps) ?_ ?_
 ·skip
  refine gv_pureN 1 [13] [(13, (.string s_0))] (by kernel_rfl) ?_
  refine bindE h1 ?_; clear h1; intro r9 hr10 h1
  have hB11 := bg hB0 hg3 nb
  refine gv_call0 (by kernel_rfl) rfl (by kernel_rfl) enters42 (utf8_ValidString_ok fuel s_0 w2 (fun k => X0 k ∨ X0 k) (fun k hk => (hk).elim (fun h => (fun k (hk : X0 k) => ltl (hX0 k hk) hB11.size) k h) (fun h => (fun k (hk : X0 k) => ltl (hX0 k hk) hB11.size) k h)) ((hG0.below hB11 hX0).wide (fun k hk => (.inl hk))) ((hG1.below hB11 hX0).wide (fun k hk => (.inr hk))) r9 hr10) ?_
  rintro v14 w12 ⟨hg13, rfl⟩
  refine gv_pureN 2 [15, 16] [(16, (.bool (!r9)))] (by kernel_rfl) ?_
  refine gv_split (s := 16) (g := (!r9)) (by kernel_rfl) (fun hc15 => ?_) (fun hc15 => ?_)
  ·skip
   replace h1 := ite_t hc15 h1
   refine gv_pureN 5 [12, 17, 18, 19, 20] [(12, (.bool true))] (by kernel_rfl) ?_
   refine gv_nil ?_
   have e := sj h1; subst e
   refine gv_goal fun a hd hs hok => ?_
   have hB16 := bg hB11 hg13 nb
   have hz17 := hg13.size
   have hk18 := hb4.grown hg13 nb
   exact ⟨hB16, hz17, hk18, hd, hs, ok_pick [0, 1, 5, 12] hok (by kernel_rfl)⟩
  ·skip
   replace h1 := ite_f hc15 h1
   refine gv_pureN 5 [12, 17, 18, 19, 20] [(12, (.bool (decide (((ByteArray.size s_0 : Nat) : Int) > 4000))))] (by kernel_rfl) ?_
   refine bindE h1 ?_; clear h1; intro n19 hn20 h1
   refine gv_name (s := 12) (v := (.bool (decide (((ByteArray.size s_0 : Nat) : Int) > 4000)))) (v' := (.bool n19)) (by kernel_rfl) (congrArg (Value.bool) (sj hn20)) ?_
   refine gv_nil ?_
   have e := sj h1; subst e
   refine gv_goal fun a hd hs hok => ?_
   have hB21 := bg hB11 hg13 nb
   have hz22 := hg13.size
   have hk23 := hb4.grown hg13 nb
   exact ⟨hB21, hz22, hk23, hd, hs, ok_pick [0, 1, 5, 12] hok (by kernel_rfl)⟩
 ·rintro a w8 ⟨hB24, hz25, hb26, hd, hs, hok⟩
  refine gv_in ?_ hd hs hok
  clear hd hs hok
  clear hz25 hz6 hb4 hg3
  refine gv_cond (b := j7) (by kernel_rfl) (fun hc27 => ?_) (fun hc27 => ?_)
  ·replace h0 := ite_t hc27 h0
   refine gv_seq <| gv_region <| bindE h0 ?_; clear h0; intro r28 hr29 h0
   refine gv_call0 (by kernel_rfl) rfl (by kernel_rfl) enters38 (bytestr_at_ok fuel 6 (-1) w8  r28 hr29) ?_
   rintro v32 w30 ⟨hg31, rfl⟩
   refine gv_pureN 1 [4] [(4, (.slice none (List.length ([] : List UInt8)) 0))] (by kernel_rfl) ?_
   have hk37 := hb26.grown hg31 nb
   refine gv_store0 25 0 (.agg #[(.int .i64 r28.1), (.int .i64 r28.2)]) #[(.int .i64 r28.1), (.int .i64 r28.2)] hk37 (by kernel_rfl) (by kernel_rfl) (by kernel_rfl) ?_
   intro w33 hg34 hb35 hz36
   refine gv_nil <| gv_cret ?_
   have e := sj h0; subst e
   refine gv_ret (gv_done [(.slice none (List.length ([] : List UInt8)) 0), (.agg #[(.int .i64 r28.1), (.int .i64 r28.2)])] rfl ⟨(by kernel_rfl), ⟨⟨b1, 0, none⟩, (by kernel_rfl), run_loadVar_row w33 b1 _ 25 _ _ _ hb35 Tryd.underlying25 rfl (by kernel_rfl)⟩, trivial⟩ ?_)
   have hB38 := bg hB24 hg31 nb
   have hlo39 : w0.heap.size ≤ b1 := lob hbe5 hB0.size
   have hB40 := bg hB38 hg34 (rowlo hlo39)
   exact ⟨grown_of_below hB40, none, 0, (fun _ => False), rfl, (Rd.nil bE w33 (fun _ => False) none 0), (fun k hk => ⟨(fun _ h => h.elim) k hk, (fun _ h => h.elim) k hk⟩)⟩
  ·replace h0 := ite_f hc27 h0
   refine gv_seq <| gv_region <| gv_cut_ops (J := fun a w41 => w8 = w41 ∧ a.defers = [] ∧ a.tmps.size = 96 ∧ Ok [(0, (.string s_0)), (1, (.int .i64 coding_1)), (5, (bp b1)), (22, (.bool ((decide (coding_1 < 0)) || (decide (coding_1 > 2)))))] a.tmps) ?_ ?_
   ·skip
    refine gv_pureN 3 [23, 24, 25] [(25, (.bool (decide (coding_1 < 0))))] (by kernel_rfl) ?_
    refine gv_split (s := 25) (g := (decide (coding_1 < 0))) (by kernel_rfl) (fun hc42 => ?_) (fun hc42 => ?_)
    ·skip
     refine gv_pureN 4 [22, 26, 27, 28] [(22, (.bool true))] (by kernel_rfl) ?_
     refine gv_nil <| gv_sub [0, 1, 5, 22] (σ' := [(0, (.string s_0)), (1, (.int .i64 coding_1)), (5, (bp b1)), (22, (.bool true))]) (by kernel_rfl) ?_
     refine gv_goal fun a hd hs hok => ⟨rfl, hd, hs, ?_⟩
     obtain ⟨q0, q1, q5, q22, _⟩ := hok
     exact ⟨q0, q1, q5, (by rw [hc42]; exact q22), trivial⟩
    ·skip
     refine gv_pureN 4 [22, 26, 27, 28] [(22, (.bool (decide (coding_1 > 2))))] (by kernel_rfl) ?_
     refine gv_nil <| gv_sub [0, 1, 5, 22] (σ' := [(0, (.string s_0)), (1, (.int .i64 coding_1)), (5, (bp b1)), (22, (.bool (decide (coding_1 > 2))))]) (by kernel_rfl) ?_
     refine gv_goal fun a hd hs hok => ⟨rfl, hd, hs, ?_⟩
     obtain ⟨q0, q1, q5, q22, _⟩ := hok
     exact ⟨q0, q1, q5, (by rw [hc42]; exact q22), trivial⟩
   ·rintro a w41 ⟨e, hd, hs, hok⟩; subst e
    refine gv_in ?_ hd hs hok
    clear hd hs hok
    refine gv_cond (b := ((decide (coding_1 < 0)) || (decide (coding_1 > 2)))) (by kernel_rfl) (fun hc43 => ?_) (fun hc43 => ?_)
    ·replace h0 := ite_t hc43 h0
     refine gv_seq <| gv_region <| bindE h0 ?_; clear h0; intro r44 hr45 h0
     refine gv_call0 (by kernel_rfl) rfl (by kernel_rfl) enters38 (bytestr_at_ok fuel 5 (-2) w8  r44 hr45) ?_
     rintro v48 w46 ⟨hg47, rfl⟩
     refine gv_pureN 1 [4] [(4, (.slice none (List.length ([] : List UInt8)) 0))] (by kernel_rfl) ?_
     have hk53 := hb26.grown hg47 nb
     refine gv_store0 25 0 (.agg #[(.int .i64 r44.1), (.int .i64 r44.2)]) #[(.int .i64 r44.1), (.int .i64 r44.2)] hk53 (by kernel_rfl) (by kernel_rfl) (by kernel_rfl) ?_
     intro w49 hg50 hb51 hz52
     refine gv_nil <| gv_cret ?_
     have e := sj h0; subst e
     refine gv_ret (gv_done [(.slice none (List.length ([] : List UInt8)) 0), (.agg #[(.int .i64 r44.1), (.int .i64 r44.2)])] rfl ⟨(by kernel_rfl), ⟨⟨b1, 0, none⟩, (by kernel_rfl), run_loadVar_row w49 b1 _ 25 _ _ _ hb51 Tryd.underlying25 rfl (by kernel_rfl)⟩, trivial⟩ ?_)
     have hB54 := bg hB24 hg47 nb
     have hlo55 : w0.heap.size ≤ b1 := lob hbe5 hB0.size
     have hB56 := bg hB54 hg50 (rowlo hlo55)
     exact ⟨grown_of_below hB56, none, 0, (fun _ => False), rfl, (Rd.nil bE w49 (fun _ => False) none 0), (fun k hk => ⟨(fun _ h => h.elim) k hk, (fun _ h => h.elim) k hk⟩)⟩
    ·replace h0 := ite_f hc43 h0
     refine gv_skip <| gv_blk <| gv_seq <| gv_region <| gv_pureN 1 [6] [(6, (.slice none (List.length ([] : List UInt8)) 0))] (by kernel_rfl) ?_
     refine gv_nil <| gv_seq <| gv_region <| gv_pureN 1 [7] [(7, (.int .i64 0))] (by kernel_rfl) ?_
     refine gv_nil <| gv_seq <| gv_seq <| gv_region <| gv_pureN 1 [30] [(30, (.string s_0))] (by kernel_rfl) ?_
     refine gv_range (t := 9) (s := s_0) (by kernel_rfl) (by kernel_rfl) Tryd.underlying9 ?_
     intro b57 w58 hg59 hb60 hbe61 hz62
     refine gv_nil <| bindE h0 ?_; clear h0; intro j63 h1 h0
     refine gv_cut_code (J := fun a w65 => ∃ s64 : ((List UInt8) × (Int × Int)), j63 = .inl s64 ∧ ∃ (a6_0j : Option Addr) (c6_0j : Nat), Below w0.heap.size w0 w65 ∧ w58.heap.size ≤ w65.heap.size ∧ Gv.Own bE 5 w65 (fun _ => False) a6_0j c6_0j s64.1 ∧ (∀ g, blk a6_0j = some g → w0.heap.size ≤ g) ∧ (∀ g, blk a6_0j = some g → ¬ (· = b1) g) ∧ ¬ (fun k => blk a6_0j = some k) b1 ∧ Box w65 b1 25 #[(.int .i64 s64.2.1), (.int .i64 s64.2.2)] ∧ a.defers = [] ∧ a.tmps.size = 96 ∧ Ok [(5, (bp b1)), (6, (.slice a6_0j (List.length s64.1) c6_0j))] a.tmps) ?_ ?_
     ·skip
      refine gv_block <| gv_loop (A := fun (s66 : ((List UInt8) × Int × (Int × Int) × Nat)) a w67 => ∃ (a6_0j : Option Addr) (c6_0j : Nat), Below w0.heap.size w0 w67 ∧ w58.heap.size ≤ w67.heap.size ∧ Gv.Own bE 5 w67 (fun _ => False) a6_0j c6_0j s66.1 ∧ (∀ g, blk a6_0j = some g → w0.heap.size ≤ g) ∧ (∀ g, blk a6_0j = some g → ¬ (· = b1) g) ∧ (∀ g, blk a6_0j = some g → ¬ (· = b57) g) ∧ ¬ (fun k => blk a6_0j = some k) b1 ∧ ¬ (fun k => blk a6_0j = some k) b57 ∧ Box w67 b1 25 #[(.int .i64 s66.2.2.1.1), (.int .i64 s66.2.2.1.2)] ∧ At w67 b57 (.stringIter s_0 s66.2.2.2) ∧ a.defers = [] ∧ a.tmps.size = 96 ∧ Ok [(1, (.int .i64 coding_1)), (5, (bp b1)), (6, (.slice a6_0j (List.length s66.1) c6_0j)), (7, (.int .i64 s66.2.1)), (31, (bp b57))] a.tmps) h1 ?_ ?_
      ·intro a hd hs hok
       have hB68 := bg hB24 hg59 nb
       have hk69 := hb26.grown hg59 nb
       exact ⟨none, 0, hB68, (Nat.le_refl _), (Gv.Own.nil bE 5 w58 (fun _ => False)), (fun _ h => by cases h), (fun _ h => by cases h), (fun _ h => by cases h), (fun h => by cases h), (fun h => by cases h), hk69, hb60, hd, hs, ok_pick [1, 5, 6, 7, 31] hok (by kernel_rfl)⟩
      ·rintro s66 r2 h2 hR2 a w67 ⟨a72, c73, hB70, hz71, ho74, hl75, ap76, ap77, ap78, ap79, hb80, hb81, hd, hs, hok⟩
       refine gv_in ?_ hd hs hok
       clear hd hs hok
       clear hz62 hb60 hg59 hc43 hc27
       refine gv_seq <| gv_region <| gv_next (b := b57) (s := s_0) (pos := s66.2.2.2) (ty := 0) (by kernel_rfl) (by kernel_rfl) hb81 (fun hc82 => ?_) (fun hc82 => ?_)
       ·skip
        replace h2 := ite_t hc82 h2
        intro w83 hg84 hb85 hz86
        have hz87 := (nt hz71 hg84.size)
        clear hz86 hc82 hb81 hz71
        refine gv_pureN 1 [33] [(33, (.bool true))] (by kernel_rfl) ?_
        refine gv_nil <| gv_seq <| gv_cond (b := true) (by kernel_rfl) (fun hc => ?_) (fun hc => ?_)
        rotate_left; · cases hc
        clear hc
        refine gv_skip <| gv_block <| gv_seq <| gv_region <| gv_pureN 2 [9, 34] [(9, (.int .i32 (runeI s_0 s66.2.2.2)))] (by kernel_rfl) ?_
        refine gv_nil <| gv_seq <| gv_block <| gv_seq <| gv_region <| gv_pureN 3 [40, 41, 42] [(40, (.bool (coding_1 == 0)))] (by kernel_rfl) ?_
        refine gv_nil <| bindE h2 ?_; clear h2; intro j88 h3 h2
        refine gv_cut_code (J := fun a w90 => ∃ s89 : ((List UInt8) × (Int × Int)), j88 = .inl s89 ∧ ∃ (a6_0j : Option Addr) (c6_0j : Nat), Below w0.heap.size w0 w90 ∧ w83.heap.size ≤ w90.heap.size ∧ Gv.Own bE 5 w90 (fun _ => False) a6_0j c6_0j s89.1 ∧ (∀ g, blk a6_0j = some g → w0.heap.size ≤ g) ∧ (∀ g, blk a6_0j = some g → ¬ (· = b1) g) ∧ (∀ g, blk a6_0j = some g → ¬ (· = b57) g) ∧ ¬ (fun k => blk a6_0j = some k) b1 ∧ ¬ (fun k => blk a6_0j = some k) b57 ∧ Box w90 b1 25 #[(.int .i64 s89.2.1), (.int .i64 s89.2.2)] ∧ At w90 b57 (.stringIter s_0 (s66.2.2.2 + runeN s_0 s66.2.2.2)) ∧ a.defers = [] ∧ a.tmps.size = 96 ∧ Ok [(1, (.int .i64 coding_1)), (5, (bp b1)), (6, (.slice a6_0j (List.length s89.1) c6_0j)), (7, (.int .i64 s66.2.1)), (31, (bp b57))] a.tmps) ?_ ?_
        ·skip
         refine gv_cond (b := (coding_1 == 0)) (by kernel_rfl) (fun hc91 => ?_) (fun hc91 => ?_)
         ·replace h3 := ite_t hc91 h3
          refine gv_region <| gv_pureN 2 [43, 44] [(43, (.slice a72 (List.length s66.1) c73)), (44, (.int .i32 (runeI s_0 s66.2.2.2)))] (by kernel_rfl) ?_
          refine bindE h3 ?_; clear h3; intro r92 hr93 h3
          have hk94 := ho74.grown hg84 (fun _ h => h.elim) (rdnn (rowne ap79))
          refine gv_call0 (by kernel_rfl) rfl (by kernel_rfl) enters43 (utf8_AppendRune_ok fuel a72 c73 s66.1 (runeI s_0 s66.2.2.2) w83 hk94 r92 hr93) ?_
          rintro v97 w95 ⟨hg96, a98, c99, rfl, ho100, hk101⟩
          have hlo103 : w0.heap.size ≤ b57 := lob hbe61 hB24.size
          have hB104 := bg hB70 hg84 (rowlo hlo103)
          have hl102 : ∀ g, blk a98 = some g → w0.heap.size ≤ g := blkw_step hk101 hl75 hB104.size
          refine gv_pureN 1 [6] [(6, (.slice a98 (List.length r92) c99))] (by kernel_rfl) ?_
          refine gv_nil ?_
          have e := sj h3; subst e
          refine gv_goal fun a hd hs hok => ?_
          have hB105 := bg hB104 hg96 hl75
          have hz106 := hg96.size
          have lt107 := ltl ((ltb hb26) _ rfl) ((lowb hbe61) _ rfl)
          have hk108 := hb80.grown hg84 (rowne (ng lt107))
          have ap109 : ∀ g, blk a98 = some g → ¬ (· = b1) g := blkw_neX hk101 ap76 (ltb hk108)
          have ap110 : ∀ g, blk a98 = some g → ¬ (· = b57) g := blkw_neX hk101 ap77 (ltA hb85)
          have ap111 : ¬ (fun k => blk a98 = some k) b1 := fun h => blkw_rev hk101 (fun h => (ap78) h) (hk108.lt) h
          have ap112 : ¬ (fun k => blk a98 = some k) b57 := fun h => blkw_rev hk101 (fun h => (ap79) h) (hb85.lt) h
          have hk113 := hk108.grown hg96 ap76
          have hk114 := hb85.grown hg96 ap77
          exact ⟨(r92, (s66.2.2.1.1, s66.2.2.1.2)), rfl, a98, c99, hB105, hz106, ho100, hl102, ap109, ap110, ap111, ap112, hk113, hk114, hd, hs, ok_pick [1, 5, 6, 7, 31] hok (by kernel_rfl)⟩
         ·replace h3 := ite_f hc91 h3
          refine gv_seq <| gv_region <| gv_cut_ops (J := fun a w115 => w83 = w115 ∧ a.defers = [] ∧ a.tmps.size = 96 ∧ Ok [(1, (.int .i64 coding_1)), (5, (bp b1)), (6, (.slice a72 (List.length s66.1) c73)), (7, (.int .i64 s66.2.1)), (9, (.int .i32 (runeI s_0 s66.2.2.2))), (31, (bp b57)), (46, (.bool ((coding_1 == 2) && (decide ((runeI s_0 s66.2.2.2) ≥ 65536)))))] a.tmps) ?_ ?_
          ·skip
           refine gv_pureN 3 [47, 48, 49] [(49, (.bool (coding_1 == 2)))] (by kernel_rfl) ?_
           refine gv_split (s := 49) (g := (coding_1 == 2)) (by kernel_rfl) (fun hc116 => ?_) (fun hc116 => ?_)
           ·skip
            refine gv_pureN 4 [46, 50, 51, 52] [(46, (.bool (decide ((runeI s_0 s66.2.2.2) ≥ 65536))))] (by kernel_rfl) ?_
            refine gv_nil <| gv_sub [1, 5, 6, 7, 9, 31, 46] (σ' := [(1, (.int .i64 coding_1)), (5, (bp b1)), (6, (.slice a72 (List.length s66.1) c73)), (7, (.int .i64 s66.2.1)), (9, (.int .i32 (runeI s_0 s66.2.2.2))), (31, (bp b57)), (46, (.bool (decide ((runeI s_0 s66.2.2.2) ≥ 65536))))]) (by kernel_rfl) ?_
            refine gv_goal fun a hd hs hok => ⟨rfl, hd, hs, ?_⟩
            obtain ⟨q1, q5, q6, q7, q9, q31, q46, _⟩ := hok
            exact ⟨q1, q5, q6, q7, q9, q31, (by rw [hc116]; exact q46), trivial⟩
           ·skip
            refine gv_pureN 4 [46, 50, 51, 52] [(46, (.bool false))] (by kernel_rfl) ?_
            refine gv_nil <| gv_sub [1, 5, 6, 7, 9, 31, 46] (σ' := [(1, (.int .i64 coding_1)), (5, (bp b1)), (6, (.slice a72 (List.length s66.1) c73)), (7, (.int .i64 s66.2.1)), (9, (.int .i32 (runeI s_0 s66.2.2.2))), (31, (bp b57)), (46, (.bool false))]) (by kernel_rfl) ?_
            refine gv_goal fun a hd hs hok => ⟨rfl, hd, hs, ?_⟩
            obtain ⟨q1, q5, q6, q7, q9, q31, q46, _⟩ := hok
            exact ⟨q1, q5, q6, q7, q9, q31, (by rw [hc116]; exact q46), trivial⟩
          ·rintro a w115 ⟨e, hd, hs, hok⟩; subst e
           refine gv_in ?_ hd hs hok
           clear hd hs hok
           refine gv_cond (b := ((coding_1 == 2) && (decide ((runeI s_0 s66.2.2.2) ≥ 65536)))) (by kernel_rfl) (fun hc117 => ?_) (fun hc117 => ?_)
           ·replace h3 := ite_t hc117 h3
            refine gv_seq <| gv_region <| gv_pureN 10 [10, 11, 53, 54, 55, 56, 57, 58, 59, 60] [(10, (.int .i32 (IntKind.i32.wrap (55296 + (((IntKind.i32.wrap ((runeI s_0 s66.2.2.2) - 65536))).fdiv (2 ^ 10)))))), (11, (.int .i32 (IntKind.i32.wrap (56320 + (bwAnd .i32 (IntKind.i32.wrap ((runeI s_0 s66.2.2.2) - 65536)) 1023)))))] (by kernel_rfl) ?_
            refine bindE h3 ?_; clear h3; intro n118 hn119 h3
            refine gv_name (s := 10) (v := (.int .i32 (IntKind.i32.wrap (55296 + (((IntKind.i32.wrap ((runeI s_0 s66.2.2.2) - 65536))).fdiv (2 ^ 10)))))) (v' := (.int .i32 n118)) (by kernel_rfl) (congrArg (Value.int .i32) (sj hn119)) ?_
            refine bindE h3 ?_; clear h3; intro n120 hn121 h3
            refine gv_name (s := 11) (v := (.int .i32 (IntKind.i32.wrap (56320 + (bwAnd .i32 (IntKind.i32.wrap ((runeI s_0 s66.2.2.2) - 65536)) 1023))))) (v' := (.int .i32 n120)) (by kernel_rfl) (congrArg (Value.int .i32) (sj hn121)) ?_
            refine gv_nil <| gv_region <| gv_pureN 11 [61, 62, 63, 64, 65, 66, 67, 68, 69, 70, 71] [(61, (.slice a72 (List.length s66.1) c73)), (64, (.int .u8 (IntKind.u8.wrap (((n118).fdiv (2 ^ 8)))))), (66, (.int .u8 (IntKind.u8.wrap (n118)))), (69, (.int .u8 (IntKind.u8.wrap (((n120).fdiv (2 ^ 8)))))), (71, (.int .u8 (IntKind.u8.wrap (n120))))] (by kernel_rfl) ?_
            refine bindE h3 ?_; clear h3; intro b122 hb123 h3
            have hu124 := u8_spec hb123
            refine bindE h3 ?_; clear h3; intro b125 hb126 h3
            have hu127 := u8_spec hb126
            refine bindE h3 ?_; clear h3; intro b128 hb129 h3
            have hu130 := u8_spec hb129
            refine bindE h3 ?_; clear h3; intro b131 hb132 h3
            have hu133 := u8_spec hb132
            refine gv_new0 (fun b => .slice (some ⟨b, 0, none⟩) 4 4) #[(.int .u8 (IntKind.u8.wrap (((n118).fdiv (2 ^ 8))))), (.int .u8 (IntKind.u8.wrap (n118))), (.int .u8 (IntKind.u8.wrap (((n120).fdiv (2 ^ 8))))), (.int .u8 (IntKind.u8.wrap (n120)))] 5 (by kernel_rfl) (by kernel_rfl) ?_
            intro b134 w135 hg136 hb137 hbe138 hz139
            have ho140 : Gv.Own bE 5 w135 (fun _ => False) (some ⟨b134, 0, none⟩) 4 ([b122, b125, b128, b131] : List UInt8) := Box.ownE hb137 ⟨[(.int .u8 (IntKind.u8.wrap (((n118).fdiv (2 ^ 8)))))], [(.int .u8 (IntKind.u8.wrap (n118))), (.int .u8 (IntKind.u8.wrap (((n120).fdiv (2 ^ 8))))), (.int .u8 (IntKind.u8.wrap (n120)))], rfl, (by simp only [bE, flat, hu124]), ⟨[(.int .u8 (IntKind.u8.wrap (n118)))], [(.int .u8 (IntKind.u8.wrap (((n120).fdiv (2 ^ 8))))), (.int .u8 (IntKind.u8.wrap (n120)))], rfl, (by simp only [bE, flat, hu127]), ⟨[(.int .u8 (IntKind.u8.wrap (((n120).fdiv (2 ^ 8)))))], [(.int .u8 (IntKind.u8.wrap (n120)))], rfl, (by simp only [bE, flat, hu130]), ⟨[(.int .u8 (IntKind.u8.wrap (n120)))], [], rfl, (by simp only [bE, flat, hu133]), rfl⟩⟩⟩⟩ (show 4 ≤ maxLen by decide) (fun h => h)
            have hlo145 : w0.heap.size ≤ b57 := lob hbe61 hB24.size
            have hB146 := bg hB70 hg84 (rowlo hlo145)
            have hl141 : ∀ g, blk (some ⟨b134, 0, none⟩) = some g → w0.heap.size ≤ g := loo hbe138 hB146.size
            refine bindE h3 ?_; clear h3; intro l147 hx148 h3
            have hk155 := (ho74.grown hg84 (fun _ h => h.elim) (rdnn (rowne ap79))).grown hg136 (fun _ h => h.elim) nb
            refine gv_append bE (t := 22) (ty := 22) (e := 5) (a := a72) (ax := (some ⟨b134, 0, none⟩)) (cap := c73) (cx := 4) (xs := s66.1) (ys := ([b122, b125, b128, b131] : List UInt8)) l147 (X := (fun _ => False)) (Y := (fun k => blk (some ⟨b134, 0, none⟩) = some k)) (by decide) rfl rfl (by kernel_rfl) (by kernel_rfl) Tryd.underlying22 info5 hk155 (ho140.rd (Y := fun k => blk (some ⟨b134, 0, none⟩) = some k) (fun _ h => h.elim) (fun g e => e)) hx148 (.inr fun _ _ _ _ _ h => h) (fun _ h => h.elim) ?_
            intro a149 c150 w151 hg152 ho153 hk154
            refine ⟨(fun e => by cases e), ?_⟩
            have hB157 := bg hB146 hg136 nb
            have hl156 : ∀ g, blk a149 = some g → w0.heap.size ≤ g := blk_step hk154 hl75 hB157.size
            have lt159 := ltl ((ltb hb26) _ rfl) ((lowb hbe61) _ rfl)
            have hk160 := (hb80.grown hg84 (rowne (ng lt159))).grown hg136 nb
            have ap158 : ∀ g, blk a149 = some g → ¬ (· = b1) g := blk_neX hk154 ap76 (ltb hk160)
            have ap161 : ¬ (fun k => blk a149 = some k) b1 := fun h => blk_rev hk154 (fun h => (ap78) h) (hk160.lt) h
            have hk163 := hb85.grown hg136 nb
            have ap162 : ∀ g, blk a149 = some g → ¬ (· = b57) g := blk_neX hk154 ap77 (ltA hk163)
            have ap164 : ¬ (fun k => blk a149 = some k) b57 := fun h => blk_rev hk154 (fun h => (ap79) h) (hk163.lt) h
            have hk166 := ho74.grown hg84 (fun _ h => h.elim) (rdnn (rowne ap79))
            have ap167 : ∀ g, blk a72 = some g → ¬ (fun k => blk (some ⟨b134, 0, none⟩) = some k) g := fun g e hx => nl ((lowo hbe138) _ hx) ((fun k (hk : blk a72 = some k) => hk166.lt k hk) g e)
            have ap165 : ∀ g, blk a149 = some g → ¬ (fun k => blk (some ⟨b134, 0, none⟩) = some k) g := blk_neX hk154 ap167 (fun k (hk : blk (some ⟨b134, 0, none⟩) = some k) => ho140.lt k hk)
            have ap169 : ∀ g, blk (some ⟨b134, 0, none⟩) = some g → ¬ (fun k => blk a72 = some k) g := fun g e hx => nl ((lowo hbe138) g e) ((fun k (hk : blk a72 = some k) => hk166.lt k hk) _ hx)
            have ap168 : ∀ g, blk (some ⟨b134, 0, none⟩) = some g → ¬ (fun k => blk a149 = some k) g := fun g e h => blk_rev hk154 (fun h => ((ap169) g e) h) (ho140.lt g e) h
            refine gv_pureN 1 [6] [(6, (.slice a149 (List.length l147) c150))] (by kernel_rfl) ?_
            refine gv_nil ?_
            have e := sj h3; subst e
            refine gv_goal fun a hd hs hok => ?_
            have hB170 := bg hB157 hg152 hl75
            have hz171 := (nt hg136.size hg152.size)
            have hk172 := hk160.grown hg152 ap76
            have hk173 := hk163.grown hg152 ap77
            exact ⟨(l147, (s66.2.2.1.1, s66.2.2.1.2)), rfl, a149, c150, hB170, hz171, ho153, hl156, ap158, ap162, ap161, ap164, hk172, hk173, hd, hs, ok_pick [1, 5, 6, 7, 31] hok (by kernel_rfl)⟩
           ·replace h3 := ite_f hc117 h3
            refine gv_seq <| gv_region <| gv_pureN 3 [74, 75, 76] [(74, (.bool (coding_1 == 2)))] (by kernel_rfl) ?_
            refine gv_nil <| gv_cond (b := (coding_1 == 2)) (by kernel_rfl) (fun hc174 => ?_) (fun hc174 => ?_)
            ·replace h3 := ite_t hc174 h3
             refine gv_region <| gv_pureN 6 [77, 78, 79, 80, 81, 82] [(77, (.slice a72 (List.length s66.1) c73)), (80, (.int .u8 (IntKind.u8.wrap ((((runeI s_0 s66.2.2.2)).fdiv (2 ^ 8)))))), (82, (.int .u8 (IntKind.u8.wrap ((runeI s_0 s66.2.2.2)))))] (by kernel_rfl) ?_
             refine bindE h3 ?_; clear h3; intro b175 hb176 h3
             have hu177 := u8_spec hb176
             refine bindE h3 ?_; clear h3; intro b178 hb179 h3
             have hu180 := u8_spec hb179
             refine gv_new0 (fun b => .slice (some ⟨b, 0, none⟩) 2 2) #[(.int .u8 (IntKind.u8.wrap ((((runeI s_0 s66.2.2.2)).fdiv (2 ^ 8))))), (.int .u8 (IntKind.u8.wrap ((runeI s_0 s66.2.2.2))))] 5 (by kernel_rfl) (by kernel_rfl) ?_
             intro b181 w182 hg183 hb184 hbe185 hz186
             have ho187 : Gv.Own bE 5 w182 (fun _ => False) (some ⟨b181, 0, none⟩) 2 ([b175, b178] : List UInt8) := Box.ownE hb184 ⟨[(.int .u8 (IntKind.u8.wrap ((((runeI s_0 s66.2.2.2)).fdiv (2 ^ 8)))))], [(.int .u8 (IntKind.u8.wrap ((runeI s_0 s66.2.2.2))))], rfl, (by simp only [bE, flat, hu177]), ⟨[(.int .u8 (IntKind.u8.wrap ((runeI s_0 s66.2.2.2))))], [], rfl, (by simp only [bE, flat, hu180]), rfl⟩⟩ (show 2 ≤ maxLen by decide) (fun h => h)
             have hlo192 : w0.heap.size ≤ b57 := lob hbe61 hB24.size
             have hB193 := bg hB70 hg84 (rowlo hlo192)
             have hl188 : ∀ g, blk (some ⟨b181, 0, none⟩) = some g → w0.heap.size ≤ g := loo hbe185 hB193.size
             refine bindE h3 ?_; clear h3; intro l194 hx195 h3
             have hk202 := (ho74.grown hg84 (fun _ h => h.elim) (rdnn (rowne ap79))).grown hg183 (fun _ h => h.elim) nb
             refine gv_append bE (t := 22) (ty := 22) (e := 5) (a := a72) (ax := (some ⟨b181, 0, none⟩)) (cap := c73) (cx := 2) (xs := s66.1) (ys := ([b175, b178] : List UInt8)) l194 (X := (fun _ => False)) (Y := (fun k => blk (some ⟨b181, 0, none⟩) = some k)) (by decide) rfl rfl (by kernel_rfl) (by kernel_rfl) Tryd.underlying22 info5 hk202 (ho187.rd (Y := fun k => blk (some ⟨b181, 0, none⟩) = some k) (fun _ h => h.elim) (fun g e => e)) hx195 (.inr fun _ _ _ _ _ h => h) (fun _ h => h.elim) ?_
             intro a196 c197 w198 hg199 ho200 hk201
             refine ⟨(fun e => by cases e), ?_⟩
             have hB204 := bg hB193 hg183 nb
             have hl203 : ∀ g, blk a196 = some g → w0.heap.size ≤ g := blk_step hk201 hl75 hB204.size
             have lt206 := ltl ((ltb hb26) _ rfl) ((lowb hbe61) _ rfl)
             have hk207 := (hb80.grown hg84 (rowne (ng lt206))).grown hg183 nb
             have ap205 : ∀ g, blk a196 = some g → ¬ (· = b1) g := blk_neX hk201 ap76 (ltb hk207)
             have ap208 : ¬ (fun k => blk a196 = some k) b1 := fun h => blk_rev hk201 (fun h => (ap78) h) (hk207.lt) h
             have hk210 := hb85.grown hg183 nb
             have ap209 : ∀ g, blk a196 = some g → ¬ (· = b57) g := blk_neX hk201 ap77 (ltA hk210)
             have ap211 : ¬ (fun k => blk a196 = some k) b57 := fun h => blk_rev hk201 (fun h => (ap79) h) (hk210.lt) h
             have hk213 := ho74.grown hg84 (fun _ h => h.elim) (rdnn (rowne ap79))
             have ap214 : ∀ g, blk a72 = some g → ¬ (fun k => blk (some ⟨b181, 0, none⟩) = some k) g := fun g e hx => nl ((lowo hbe185) _ hx) ((fun k (hk : blk a72 = some k) => hk213.lt k hk) g e)
             have ap212 : ∀ g, blk a196 = some g → ¬ (fun k => blk (some ⟨b181, 0, none⟩) = some k) g := blk_neX hk201 ap214 (fun k (hk : blk (some ⟨b181, 0, none⟩) = some k) => ho187.lt k hk)
             have ap216 : ∀ g, blk (some ⟨b181, 0, none⟩) = some g → ¬ (fun k => blk a72 = some k) g := fun g e hx => nl ((lowo hbe185) g e) ((fun k (hk : blk a72 = some k) => hk213.lt k hk) _ hx)
             have ap215 : ∀ g, blk (some ⟨b181, 0, none⟩) = some g → ¬ (fun k => blk a196 = some k) g := fun g e h => blk_rev hk201 (fun h => ((ap216) g e) h) (ho187.lt g e) h
             refine gv_pureN 1 [6] [(6, (.slice a196 (List.length l194) c197))] (by kernel_rfl) ?_
             refine gv_nil ?_
             have e := sj h3; subst e
             refine gv_goal fun a hd hs hok => ?_
             have hB217 := bg hB204 hg199 hl75
             have hz218 := (nt hg183.size hg199.size)
             have hk219 := hk207.grown hg199 ap76
             have hk220 := hk210.grown hg199 ap77
             exact ⟨(l194, (s66.2.2.1.1, s66.2.2.1.2)), rfl, a196, c197, hB217, hz218, ho200, hl203, ap205, ap209, ap208, ap211, hk219, hk220, hd, hs, ok_pick [1, 5, 6, 7, 31] hok (by kernel_rfl)⟩
            ·replace h3 := ite_f hc174 h3
             refine gv_seq <| gv_region <| gv_pureN 3 [85, 86, 87] [(85, (.bool (decide ((runeI s_0 s66.2.2.2) > 255))))] (by kernel_rfl) ?_
             refine gv_nil <| gv_cond (b := (decide ((runeI s_0 s66.2.2.2) > 255))) (by kernel_rfl) (fun hc221 => ?_) (fun hc221 => ?_)
             ·replace h3 := ite_t hc221 h3
              refine gv_seq <| gv_region <| gv_pureN 1 [88] [(88, (.int .i64 s66.2.1))] (by kernel_rfl) ?_
              refine bindE h3 ?_; clear h3; intro r222 hr223 h3
              refine gv_call0 (by kernel_rfl) rfl (by kernel_rfl) enters38 (bytestr_at_ok fuel 4 s66.2.1 w83  r222 hr223) ?_
              rintro v226 w224 ⟨hg225, rfl⟩
              refine gv_pureN 1 [4] [(4, (.slice none (List.length ([] : List UInt8)) 0))] (by kernel_rfl) ?_
              have lt231 := ltl ((ltb hb26) _ rfl) ((lowb hbe61) _ rfl)
              have hk232 := (hb80.grown hg84 (rowne (ng lt231))).grown hg225 nb
              refine gv_store0 25 0 (.agg #[(.int .i64 r222.1), (.int .i64 r222.2)]) #[(.int .i64 r222.1), (.int .i64 r222.2)] hk232 (by kernel_rfl) (by kernel_rfl) (by kernel_rfl) ?_
              intro w227 hg228 hb229 hz230
              refine gv_nil <| gv_cret ?_
              have e := sj h3; subst e
              replace h2 := cont_inr h2
              have e := sj h2; subst e
              replace h1 := congrArg some (hR2 _ rfl)
              have e := sj h1; subst e
              replace h0 := cont_inr h0
              have e := sj h0; subst e
              refine gv_ret (gv_done [(.slice none (List.length ([] : List UInt8)) 0), (.agg #[(.int .i64 r222.1), (.int .i64 r222.2)])] rfl ⟨(by kernel_rfl), ⟨⟨b1, 0, none⟩, (by kernel_rfl), run_loadVar_row w227 b1 _ 25 _ _ _ hb229 Tryd.underlying25 rfl (by kernel_rfl)⟩, trivial⟩ ?_)
              have hlo233 : w0.heap.size ≤ b57 := lob hbe61 hB24.size
              have hB234 := bg hB70 hg84 (rowlo hlo233)
              have hB235 := bg hB234 hg225 nb
              have hlo236 : w0.heap.size ≤ b1 := lob hbe5 hB0.size
              have hB237 := bg hB235 hg228 (rowlo hlo236)
              exact ⟨grown_of_below hB237, none, 0, (fun _ => False), rfl, (Rd.nil bE w227 (fun _ => False) none 0), (fun k hk => ⟨(fun _ h => h.elim) k hk, (fun _ h => h.elim) k hk⟩)⟩
             ·replace h3 := ite_f hc221 h3
              refine gv_region <| gv_pureN 3 [35, 36, 37] [(35, (.slice a72 (List.length s66.1) c73)), (37, (.int .u8 (IntKind.u8.wrap ((runeI s_0 s66.2.2.2)))))] (by kernel_rfl) ?_
              refine bindE h3 ?_; clear h3; intro b238 hb239 h3
              have hu240 := u8_spec hb239
              refine gv_new0 (fun b => .slice (some ⟨b, 0, none⟩) 1 1) #[(.int .u8 (IntKind.u8.wrap ((runeI s_0 s66.2.2.2))))] 5 (by kernel_rfl) (by kernel_rfl) ?_
              intro b241 w242 hg243 hb244 hbe245 hz246
              have ho247 : Gv.Own bE 5 w242 (fun _ => False) (some ⟨b241, 0, none⟩) 1 ([b238] : List UInt8) := Box.ownE hb244 ⟨[(.int .u8 (IntKind.u8.wrap ((runeI s_0 s66.2.2.2))))], [], rfl, (by simp only [bE, flat, hu240]), rfl⟩ (show 1 ≤ maxLen by decide) (fun h => h)
              have hlo252 : w0.heap.size ≤ b57 := lob hbe61 hB24.size
              have hB253 := bg hB70 hg84 (rowlo hlo252)
              have hl248 : ∀ g, blk (some ⟨b241, 0, none⟩) = some g → w0.heap.size ≤ g := loo hbe245 hB253.size
              clear hz246 hb244 hu240 hb239 hc221 hc174 hc117 hc91 hB70 hB24
              refine bindE h3 ?_; clear h3; intro l254 hx255 h3
              have hk262 := (ho74.grown hg84 (fun _ h => h.elim) (rdnn (rowne ap79))).grown hg243 (fun _ h => h.elim) nb
              refine gv_append bE (t := 22) (ty := 22) (e := 5) (a := a72) (ax := (some ⟨b241, 0, none⟩)) (cap := c73) (cx := 1) (xs := s66.1) (ys := ([b238] : List UInt8)) l254 (X := (fun _ => False)) (Y := (fun k => blk (some ⟨b241, 0, none⟩) = some k)) (by decide) rfl rfl (by kernel_rfl) (by kernel_rfl) Tryd.underlying22 info5 hk262 (ho247.rd (Y := fun k => blk (some ⟨b241, 0, none⟩) = some k) (fun _ h => h.elim) (fun g e => e)) hx255 (.inr fun _ _ _ _ _ h => h) (fun _ h => h.elim) ?_
              intro a256 c257 w258 hg259 ho260 hk261
              refine ⟨(fun e => by cases e), ?_⟩
              have hB264 := bg hB253 hg243 nb
              have hl263 : ∀ g, blk a256 = some g → w0.heap.size ≤ g := blk_step hk261 hl75 hB264.size
              have lt266 := ltl ((ltb hb26) _ rfl) ((lowb hbe61) _ rfl)
              have hk267 := (hb80.grown hg84 (rowne (ng lt266))).grown hg243 nb
              have ap265 : ∀ g, blk a256 = some g → ¬ (· = b1) g := blk_neX hk261 ap76 (ltb hk267)
              have ap268 : ¬ (fun k => blk a256 = some k) b1 := fun h => blk_rev hk261 (fun h => (ap78) h) (hk267.lt) h
              have hk270 := hb85.grown hg243 nb
              have ap269 : ∀ g, blk a256 = some g → ¬ (· = b57) g := blk_neX hk261 ap77 (ltA hk270)
              have ap271 : ¬ (fun k => blk a256 = some k) b57 := fun h => blk_rev hk261 (fun h => (ap79) h) (hk270.lt) h
              have hk273 := ho74.grown hg84 (fun _ h => h.elim) (rdnn (rowne ap79))
              have ap274 : ∀ g, blk a72 = some g → ¬ (fun k => blk (some ⟨b241, 0, none⟩) = some k) g := fun g e hx => nl ((lowo hbe245) _ hx) ((fun k (hk : blk a72 = some k) => hk273.lt k hk) g e)
              have ap272 : ∀ g, blk a256 = some g → ¬ (fun k => blk (some ⟨b241, 0, none⟩) = some k) g := blk_neX hk261 ap274 (fun k (hk : blk (some ⟨b241, 0, none⟩) = some k) => ho247.lt k hk)
              have ap276 : ∀ g, blk (some ⟨b241, 0, none⟩) = some g → ¬ (fun k => blk a72 = some k) g := fun g e hx => nl ((lowo hbe245) g e) ((fun k (hk : blk a72 = some k) => hk273.lt k hk) _ hx)
              have ap275 : ∀ g, blk (some ⟨b241, 0, none⟩) = some g → ¬ (fun k => blk a256 = some k) g := fun g e h => blk_rev hk261 (fun h => ((ap276) g e) h) (ho247.lt g e) h
              refine gv_pureN 1 [6] [(6, (.slice a256 (List.length l254) c257))] (by kernel_rfl) ?_
              refine gv_nil ?_
              have e := sj h3; subst e
              refine gv_goal fun a hd hs hok => ?_
              have hB277 := bg hB264 hg259 hl75
              have hz278 := (nt hg243.size hg259.size)
              have hk279 := hk267.grown hg259 ap76
              have hk280 := hk270.grown hg259 ap77
              exact ⟨(l254, (s66.2.2.1.1, s66.2.2.1.2)), rfl, a256, c257, hB277, hz278, ho260, hl263, ap265, ap269, ap268, ap271, hk279, hk280, hd, hs, ok_pick [1, 5, 6, 7, 31] hok (by kernel_rfl)⟩
        ·rintro a w90 ⟨s89, e, a283, c284, hB281, hz282, ho285, hl286, ap287, ap288, ap289, ap290, hb291, hb292, hd, hs, hok⟩
         subst e
         refine gv_in ?_ hd hs hok
         clear hd hs hok
         replace h2 := cont_inl h2
         have hz293 := (nt hz87 hz282)
         clear hz282 hz87 hb85 hg84 hb80 ap79 ap78 ap77 ap76 hl75 ho74 hB70
         refine gv_blk <| gv_region <| gv_pureN 3 [7, 90, 91] [(7, (.int .i64 (IntKind.i64.wrap (s66.2.1 + 1))))] (by kernel_rfl) ?_
         refine gv_nil <| gv_blk ?_
         have e := sj h2; subst e
         refine gv_goal fun a hd hs hok => ?_
         have hz294 := hz293
         exact ⟨(s89.1, (IntKind.i64.wrap (s66.2.1 + 1)), (s89.2.1, s89.2.2), (s66.2.2.2 + runeN s_0 s66.2.2.2)), rfl, a283, c284, hB281, hz294, ho285, hl286, ap287, ap288, ap289, ap290, hb291, hb292, hd, hs, ok_pick [1, 5, 6, 7, 31] hok (by kernel_rfl)⟩
       ·skip
        replace h2 := ite_f hc82 h2
        refine gv_pureN 1 [33] [(33, (.bool false))] (by kernel_rfl) ?_
        refine gv_nil <| gv_seq <| gv_cond (b := false) (by kernel_rfl) (fun hc => ?_) (fun hc => ?_)
        ·cases hc
        clear hc
        refine gv_cexit <| gv_exit rfl ?_
        have e := sj h2; subst e
        replace h1 := congrArg some (hR2 _ rfl)
        have e := sj h1; subst e
        refine gv_goal fun a hd hs hok => ?_
        have hz295 := hz71
        exact ⟨(s66.1, (s66.2.2.1.1, s66.2.2.1.2)), rfl, a72, c73, hB70, hz295, ho74, hl75, ap76, ap78, hb80, hd, hs, ok_pick [5, 6] hok (by kernel_rfl)⟩
     ·rintro a w65 ⟨s64, e, a298, c299, hB296, hz297, ho300, hl301, ap302, ap303, hb304, hd, hs, hok⟩
      subst e
      refine gv_in ?_ hd hs hok
      clear hd hs hok
      replace h0 := cont_inl h0
      clear hz297 hz62 hbe61 hb60 hg59 hc43 hc27 hb26 hB24
      refine gv_seq <| gv_region <| gv_pureN 1 [92] [(92, (.slice a298 (List.length s64.1) c299))] (by kernel_rfl) ?_
      refine bindE h0 ?_; clear h0; intro r305 hr306 h0
      refine gv_call0 (by kernel_rfl) rfl (by kernel_rfl) enters44 (bytestr_result_ok fuel a298 c299 s64.1 w65 (fun k => (fun k => blk a298 = some k) k) (fun k hk => (fun k (hk : blk a298 = some k) => ho300.lt k hk) k hk) ((ho300.rd (Y := fun k => blk a298 = some k) (fun _ h => h.elim) (fun g e => e)).wide (fun k hk => hk)) r305 hr306) ?_
      rintro v309 w307 ⟨hg308, a310, c311, X313, rfl, ho312, hx314⟩
      have hx315 : ∀ k, X313 k → k < w307.heap.size := fun k hk => (hx314 k hk).1
      have hx316 : ∀ k, X313 k → X0 k ∨ w0.heap.size ≤ k := fun k hk => (hx314 k hk).2.elim (fun h => (fun k (hk : blk a298 = some k) => Or.inr (hl301 k hk)) k h) (fun h => .inr (Nat.le_trans hB296.size h))
      refine gv_pureN 3 [4, 94, 95] [(4, (.slice a310 (List.length r305.1) c311)), (95, (.agg #[(.int .i64 r305.2.1), (.int .i64 r305.2.2)]))] (by kernel_rfl) ?_
      have hk321 := hb304.grown hg308 nb
      refine gv_store0 25 0 (.agg #[(.int .i64 r305.2.1), (.int .i64 r305.2.2)]) #[(.int .i64 r305.2.1), (.int .i64 r305.2.2)] hk321 (by kernel_rfl) (by kernel_rfl) (by kernel_rfl) ?_
      intro w317 hg318 hb319 hz320
      refine gv_nil <| gv_cret ?_
      have e := sj h0; subst e
      refine gv_ret (gv_done [(.slice a310 (List.length r305.1) c311), (.agg #[(.int .i64 r305.2.1), (.int .i64 r305.2.2)])] rfl ⟨(by kernel_rfl), ⟨⟨b1, 0, none⟩, (by kernel_rfl), run_loadVar_row w317 b1 _ 25 _ _ _ hb319 Tryd.underlying25 rfl (by kernel_rfl)⟩, trivial⟩ ?_)
      have hB322 := bg hB296 hg308 nb
      have hlo323 : w0.heap.size ≤ b1 := lob hbe5 hB0.size
      have hB324 := bg hB322 hg318 (rowlo hlo323)
      have ap325 : ¬ X313 b1 := fun h => ((hx314 _ h).2.elim (fun h => (ap303)  h) (fun h => nl h (hb304.lt)))
      have hk326 := ho312.grown hg318 hx315 (rowne ap325)
      have hx327 := ltx hx315 hg318.size
      exact ⟨grown_of_below hB324, a310, c311, X313, rfl, hk326, (fun k hk => ⟨hx327 k hk, hx316 k hk⟩)⟩

theorem law4_BytestrBack_ok (fuel : Nat) (pa0_0 : Option Addr) (pc0_0 : Nat) (b_0 : (List UInt8)) (s_1 : ByteArray) (coding_2 : Int) (mode_3 : Int) (w0 : World) (X0 : Nat → Prop) (hX0 : ∀ k, X0 k → k < w0.heap.size) (hpa0_0 : Rd bE w0 X0 pa0_0 pc0_0 b_0) (hG0 : Rd bE w0 X0 (some ⟨0, 0, none⟩) 256 utf8First) (hG1 : Rd (prE (iE .u8) (iE .u8)) w0 X0 (some ⟨1, 0, none⟩) 16 utf8Acc) (r0 : Bool) (h0 : law4_BytestrBack fuel b_0 s_1 coding_2 mode_3 = some r0) :
    Calls Tryd.prog 6 ([(.slice pa0_0 (List.length b_0) pc0_0), (.string s_1), (.int .i64 coding_2), (.int .i64 mode_3)] : List Value).toArray w0 (Ret fun v w' => w0.grownBy w' none ∧ v = tup [(.bool r0)]) := by
 have hB0 : Below w0.heap.size w0 w0 := Below.refl _ _
 unfold law4_BytestrBack at h0
 refine calls_run Tryd.func6 rfl Tryd.ntmps6 (by kernel_rfl) ?_
 refine gv_sub [0, 1, 2, 3] (σ' := [(0, (.slice pa0_0 (List.length b_0) pc0_0)), (1, (.string s_1)), (2, (.int .i64 coding_2)), (3, (.int .i64 mode_3))]) (by kernel_rfl) ?_
 refine gv_seq <| gv_region <| gv_pureN 1 [8] [] (by kernel_rfl) ?_
 refine gv_nil <| gv_seq <| gv_seq <| gv_region <| bindE h0 ?_; clear h0; intro r1 hr2 h0
 refine gv_call0 (by kernel_rfl) rfl (by kernel_rfl) enters11 (law4_bytesOf_ok fuel  w0 (fun k => X0 k ∨ X0 k) (fun k hk => (hk).elim (fun h => (fun k (hk : X0 k) => ltl (hX0 k hk) hB0.size) k h) (fun h => (fun k (hk : X0 k) => ltl (hX0 k hk) hB0.size) k h)) ((hG0.below hB0 hX0).wide (fun k hk => (.inl hk))) ((hG1.below hB0 hX0).wide (fun k hk => (.inr hk))) r1 hr2) ?_
 rintro v5 w3 ⟨hg4, rfl⟩
 refine gv_pureN 1 [22] [(22, (.bool (!r1)))] (by kernel_rfl) ?_
 refine gv_nil <| gv_cond (b := (!r1)) (by kernel_rfl) (fun hc6 => ?_) (fun hc6 => ?_)
 ·replace h0 := ite_t hc6 h0
  refine gv_seq <| gv_region <| gv_pureN 1 [8] [(8, (.bool false))] (by kernel_rfl) ?_
  refine gv_nil <| gv_cret ?_
  have e := sj h0; subst e
  refine gv_ret (gv_done [(.bool false)] rfl ⟨(by kernel_rfl), trivial⟩ ?_)
  have hB7 := bg hB0 hg4 nb
  exact ⟨grown_of_below hB7, rfl⟩
 ·replace h0 := ite_f hc6 h0
  refine gv_skip <| gv_seq <| gv_region <| gv_pureN 1 [24] [(24, (.slice pa0_0 (List.length b_0) pc0_0))] (by kernel_rfl) ?_
  refine bindE h0 ?_; clear h0; intro r8 hr9 h0
  have hB10 := bg hB0 hg4 nb
  refine gv_call0 (by kernel_rfl) rfl (by kernel_rfl) enters15 (bytestr_Hex_ok fuel pa0_0 pc0_0 b_0 w3 (fun k => X0 k) (fun k hk => (fun k (hk : X0 k) => ltl (hX0 k hk) hB10.size) k hk) ((hpa0_0.below hB10 hX0).wide (fun k hk => hk)) r8 hr9) ?_
  rintro v13 w11 ⟨hg12, rfl⟩
  refine gv_pureN 3 [23, 26, 27] [(26, (.string r8.1)), (27, (.agg #[(.int .i64 r8.2.1), (.int .i64 r8.2.2)]))] (by kernel_rfl) ?_
  refine gv_new0 (fun b => .pointer (some ⟨b, 0, none⟩)) #[(.int .i64 0), (.int .i64 0)] 25 (by kernel_rfl) (by kernel_rfl) ?_
  intro b14 w15 hg16 hb17 hbe18 hz19
  refine gv_pureN 1 [9] [(9, (.string r8.1))] (by kernel_rfl) ?_
  refine gv_store0 25 0 (.agg #[(.int .i64 r8.2.1), (.int .i64 r8.2.2)]) #[(.int .i64 r8.2.1), (.int .i64 r8.2.2)] hb17 (by kernel_rfl) (by kernel_rfl) (by kernel_rfl) ?_
  intro w20 hg21 hb22 hz23
  refine gv_nil <| gv_seq <| gv_region <| gv_pureN 1 [29] [(29, (.slice pa0_0 (List.length b_0) pc0_0))] (by kernel_rfl) ?_
  refine bindE h0 ?_; clear h0; intro r24 hr25 h0
  have hg26 := (grown_trans hg12 hg16)
  have hB27 := bg hB10 hg26 nb
  have hB28 := bg hB10 hg12 nb
  have hlo29 : w0.heap.size ≤ b14 := lob hbe18 hB28.size
  have hB30 := bg hB27 hg21 (rowlo hlo29)
  refine gv_call0 (by kernel_rfl) rfl (by kernel_rfl) enters16 (bytestr_Base64_ok fuel pa0_0 pc0_0 b_0 w20 (fun k => X0 k) (fun k hk => (fun k (hk : X0 k) => ltl (hX0 k hk) hB30.size) k hk) ((hpa0_0.below hB30 hX0).wide (fun k hk => hk)) r24 hr25) ?_
  rintro v33 w31 ⟨hg32, rfl⟩
  refine gv_pureN 3 [28, 31, 32] [(31, (.string r24.1)), (32, (.agg #[(.int .i64 r24.2.1), (.int .i64 r24.2.2)]))] (by kernel_rfl) ?_
  refine gv_new0 (fun b => .pointer (some ⟨b, 0, none⟩)) #[(.int .i64 0), (.int .i64 0)] 25 (by kernel_rfl) (by kernel_rfl) ?_
  intro b34 w35 hg36 hb37 hbe38 hz39
  refine gv_pureN 1 [11] [(11, (.string r24.1))] (by kernel_rfl) ?_
  refine gv_sub [0, 1, 2, 3, 9, 10, 11, 12, 32] (σ' := [(0, (.slice pa0_0 (List.length b_0) pc0_0)), (1, (.string s_1)), (2, (.int .i64 coding_2)), (3, (.int .i64 mode_3)), (9, (.string r8.1)), (10, (bp b14)), (11, (.string r24.1)), (12, (bp b34)), (32, (.agg #[(.int .i64 r24.2.1), (.int .i64 r24.2.2)]))]) (by kernel_rfl) ?_
  refine gv_store0 25 0 (.agg #[(.int .i64 r24.2.1), (.int .i64 r24.2.2)]) #[(.int .i64 r24.2.1), (.int .i64 r24.2.2)] hb37 (by kernel_rfl) (by kernel_rfl) (by kernel_rfl) ?_
  intro w40 hg41 hb42 hz43
  refine gv_nil <| gv_seq <| gv_seq <| gv_region <| gv_pureN 1 [33] [(33, (bp b14))] (by kernel_rfl) ?_
  have hg44 := (grown_trans hg32 hg36)
  have hk45 := hb22.grown hg32 nb
  have lt46 := ltl ((ltb hk45) _ rfl) ((lowb hbe38) _ rfl)
  have hk47 := (hb22.grown hg44 nb).grown hg41 (rowne (ng lt46))
  refine gv_load (t := 3) (A := ⟨b14, 0, none⟩) (.int .i64 r8.2.1) [] (fun e => by cases e) rfl rfl rfl (by kernel_rfl) (by kernel_rfl) (by kernel_rfl) (inw0 (hk47.cell 0 rfl)) rfl ?_
  refine gv_pureN 1 [35] [(35, (.bool (r8.2.1 == 0)))] (by kernel_rfl) ?_
  refine gv_nil <| bindE h0 ?_; clear h0; intro j48 h1 h0
  refine gv_cut_code (J := fun a w50 => ∃ s49 : Unit, j48 = .inl s49 ∧ Below w0.heap.size w0 w50 ∧ w40.heap.size ≤ w50.heap.size ∧ Box w50 b34 25 #[(.int .i64 r24.2.1), (.int .i64 r24.2.2)] ∧ a.defers = [] ∧ a.tmps.size = 107 ∧ Ok [(0, (.slice pa0_0 (List.length b_0) pc0_0)), (1, (.string s_1)), (2, (.int .i64 coding_2)), (3, (.int .i64 mode_3)), (11, (.string r24.1)), (12, (bp b34))] a.tmps) ?_ ?_
  ·skip
   refine gv_cond (b := (r8.2.1 == 0)) (by kernel_rfl) (fun hc51 => ?_) (fun hc51 => ?_)
   ·replace h1 := ite_t hc51 h1
    refine gv_seq <| gv_region <| gv_pureN 1 [37] [(37, (.string r8.1))] (by kernel_rfl) ?_
    refine bindE h1 ?_; clear h1; intro r52 hr53 h1
    refine gv_call0 (by kernel_rfl) rfl (by kernel_rfl) enters17 (bytestr_FromHex_ok fuel r8.1 w40  r52 hr53) ?_
    rintro v56 w54 ⟨hg55, a57, c58, rfl, ho59, hl60⟩
    have hB62 := bg hB30 hg44 nb
    have hB63 := bg hB30 hg32 nb
    have hlo64 : w0.heap.size ≤ b34 := lob hbe38 hB63.size
    have hB65 := bg hB62 hg41 (rowlo hlo64)
    have hl61 : ∀ g, blk a57 = some g → w0.heap.size ≤ g := fun g e => Nat.le_trans hB65.size (hl60 g e)
    clear hB63 hB62 hr53 hc51 hk47 lt46 hk45 hg44 hz43 hg41 hz39 hbe38 hb37 hg36 hg32 hB30 hlo29 hB28 hB27 hg26 hr25 hz23 hb22 hg21 hz19 hbe18 hb17 hg16 hg12 hB10 hr9 hc6 hg4 hr2
    refine gv_pureN 3 [36, 39, 40] [(39, (.slice a57 (List.length r52.1) c58)), (40, (.agg #[(.int .i64 r52.2.1), (.int .i64 r52.2.2)]))] (by kernel_rfl) ?_
    refine gv_new0 (fun b => .pointer (some ⟨b, 0, none⟩)) #[(.int .i64 0), (.int .i64 0)] 25 (by kernel_rfl) (by kernel_rfl) ?_
    intro b66 w67 hg68 hb69 hbe70 hz71
    refine gv_pureN 1 [13] [(13, (.slice a57 (List.length r52.1) c58))] (by kernel_rfl) ?_
    refine gv_store0 25 0 (.agg #[(.int .i64 r52.2.1), (.int .i64 r52.2.2)]) #[(.int .i64 r52.2.1), (.int .i64 r52.2.2)] hb69 (by kernel_rfl) (by kernel_rfl) (by kernel_rfl) ?_
    intro w72 hg73 hb74 hz75
    refine gv_nil <| gv_seq <| gv_region <| bindE h1 ?_; clear h1; intro j76 h2 h1
    refine gv_cut_ops (J := fun a w77 => Below w0.heap.size w0 w77 ∧ w72.heap.size ≤ w77.heap.size ∧ Box w77 b34 25 #[(.int .i64 r24.2.1), (.int .i64 r24.2.2)] ∧ a.defers = [] ∧ a.tmps.size = 107 ∧ Ok [(0, (.slice pa0_0 (List.length b_0) pc0_0)), (1, (.string s_1)), (2, (.int .i64 coding_2)), (3, (.int .i64 mode_3)), (11, (.string r24.1)), (12, (bp b34)), (49, (.bool j76))] a.tmps) ?_ ?_
    ·skip
     refine gv_pureN 1 [41] [(41, (bp b66))] (by kernel_rfl) ?_
     refine gv_load (t := 3) (A := ⟨b66, 0, none⟩) (.int .i64 r52.2.1) [] (fun e => by cases e) rfl rfl rfl (by kernel_rfl) (by kernel_rfl) (by kernel_rfl) (inw0 (hb74.cell 0 rfl)) rfl ?_
     refine gv_pureN 2 [43, 44] [(44, (.bool (r52.2.1 != 0)))] (by kernel_rfl) ?_
     refine gv_split (s := 44) (g := (r52.2.1 != 0)) (by kernel_rfl) (fun hc78 => ?_) (fun hc78 => ?_)
     ·skip
      replace h2 := ite_t hc78 h2
      refine gv_pureN 5 [45, 46, 47, 48, 49] [(49, (.bool true))] (by kernel_rfl) ?_
      refine gv_sub [0, 1, 2, 3, 11, 12, 49] (σ' := [(0, (.slice pa0_0 (List.length b_0) pc0_0)), (1, (.string s_1)), (2, (.int .i64 coding_2)), (3, (.int .i64 mode_3)), (11, (.string r24.1)), (12, (bp b34)), (49, (.bool true))]) (by kernel_rfl) ?_
      refine gv_nil ?_
      have e := sj h2; subst e
      refine gv_goal fun a hd hs hok => ?_
      have hg79 := (grown_trans hg55 hg68)
      have hB80 := bg hB65 hg79 nb
      have hB81 := bg hB65 hg55 nb
      have hlo82 : w0.heap.size ≤ b66 := lob hbe70 hB81.size
      have hB83 := bg hB80 hg73 (rowlo hlo82)
      have hk84 := hb42.grown hg55 nb
      have lt85 := ltl ((ltb hk84) _ rfl) ((lowb hbe70) _ rfl)
      have hk86 := (hb42.grown hg79 nb).grown hg73 (rowne (ng lt85))
      exact ⟨hB83, (Nat.le_refl _), hk86, hd, hs, ok_pick [0, 1, 2, 3, 11, 12, 49] hok (by kernel_rfl)⟩
     ·skip
      replace h2 := ite_f hc78 h2
      refine gv_pureN 2 [45, 46] [(45, (.slice a57 (List.length r52.1) c58)), (46, (.slice pa0_0 (List.length b_0) pc0_0))] (by kernel_rfl) ?_
      refine gv_sub [0, 1, 2, 3, 11, 12, 44, 45, 46] (σ' := [(0, (.slice pa0_0 (List.length b_0) pc0_0)), (1, (.string s_1)), (2, (.int .i64 coding_2)), (3, (.int .i64 mode_3)), (11, (.string r24.1)), (12, (bp b34)), (44, (.bool false)), (45, (.slice a57 (List.length r52.1) c58)), (46, (.slice pa0_0 (List.length b_0) pc0_0))]) (by kernel_rfl) ?_
      refine bindE h2 ?_; clear h2; intro r87 hr88 h2
      have ap89 : ¬ (fun k => blk a57 = some k) b66 := fun hx => nl ((lowb hbe70) _ rfl) ((fun k (hk : blk a57 = some k) => ho59.lt k hk) _ hx)
      have hk90 := (ho59.grown hg68 (fun _ h => h.elim) nb).grown hg73 (fun _ h => h.elim) (rdnn (rowne ap89))
      have hg91 := (grown_trans hg55 hg68)
      have hB92 := bg hB65 hg91 nb
      have hB93 := bg hB65 hg55 nb
      have hlo94 : w0.heap.size ≤ b66 := lob hbe70 hB93.size
      have hB95 := bg hB92 hg73 (rowlo hlo94)
      refine gv_call0 (by kernel_rfl) rfl (by kernel_rfl) enters29 (ref4_SameBytes_ok fuel a57 c58 r52.1 pa0_0 pc0_0 b_0 w72 (fun k => (fun k => blk a57 = some k) k ∨ X0 k) (fun k hk => (hk).elim (fun h => (fun k (hk : blk a57 = some k) => hk90.lt k hk) k h) (fun h => (fun k (hk : X0 k) => ltl (hX0 k hk) hB95.size) k h)) ((hk90.rd (Y := fun k => blk a57 = some k) (fun _ h => h.elim) (fun g e => e)).wide (fun k hk => (.inl hk))) ((hpa0_0.below hB95 hX0).wide (fun k hk => (.inr hk))) r87 hr88) ?_
      rintro v98 w96 ⟨hg97, rfl⟩
      refine gv_pureN 2 [48, 49] [(49, (.bool (!r87)))] (by kernel_rfl) ?_
      refine gv_nil ?_
      have e := sj h2; subst e
      refine gv_goal fun a hd hs hok => ?_
      have hB99 := bg hB95 hg97 nb
      have hz100 := hg97.size
      have hk101 := hb42.grown hg55 nb
      have lt102 := ltl ((ltb hk101) _ rfl) ((lowb hbe70) _ rfl)
      have hk103 := ((hb42.grown hg91 nb).grown hg73 (rowne (ng lt102))).grown hg97 nb
      exact ⟨hB99, hz100, hk103, hd, hs, ok_pick [0, 1, 2, 3, 11, 12, 49] hok (by kernel_rfl)⟩
    ·rintro a w77 ⟨hB104, hz105, hb106, hd, hs, hok⟩
     refine gv_in ?_ hd hs hok
     clear hd hs hok
     have hz107 := (nt (nt (nt hg55.size hg68.size) hg73.size) hz105)
     clear hz105 hz75 hb74 hg73 hz71 hbe70 hb69 hg68 hl61 hB65 hl60 ho59 hg55 hb42
     refine gv_cond (b := j76) (by kernel_rfl) (fun hc108 => ?_) (fun hc108 => ?_)
     ·replace h1 := ite_t hc108 h1
      refine gv_seq <| gv_region <| gv_pureN 1 [8] [(8, (.bool false))] (by kernel_rfl) ?_
      refine gv_nil <| gv_cret ?_
      have e := sj h1; subst e
      replace h0 := cont_inr h0
      have e := sj h0; subst e
      refine gv_ret (gv_done [(.bool false)] rfl ⟨(by kernel_rfl), trivial⟩ ?_)
      exact ⟨grown_of_below hB104, rfl⟩
     ·replace h1 := ite_f hc108 h1
      refine gv_skip ?_
      have e := sj h1; subst e
      refine gv_goal fun a hd hs hok => ?_
      have hz109 := hz107
      exact ⟨(), rfl, hB104, hz109, hb106, hd, hs, ok_pick [0, 1, 2, 3, 11, 12] hok (by kernel_rfl)⟩
   ·replace h1 := ite_f hc51 h1
    refine gv_skip ?_
    have e := sj h1; subst e
    refine gv_goal fun a hd hs hok => ?_
    have hB110 := bg hB30 hg44 nb
    have hB111 := bg hB30 hg32 nb
    have hlo112 : w0.heap.size ≤ b34 := lob hbe38 hB111.size
    have hB113 := bg hB110 hg41 (rowlo hlo112)
    exact ⟨(), rfl, hB113, (Nat.le_refl _), hb42, hd, hs, ok_pick [0, 1, 2, 3, 11, 12] hok (by kernel_rfl)⟩
  ·rintro a w50 ⟨s49, e, hB114, hz115, hb116, hd, hs, hok⟩
   subst e
   refine gv_in ?_ hd hs hok
   clear hd hs hok
   replace h0 := cont_inl h0
   clear hz115 hk47 lt46 hk45 hg44 hz43 hb42 hg41 hz39 hb37 hg36 hlo29 hB28 hB27 hg26 hr25 hz23 hb22 hg21 hz19 hbe18 hb17 hg16 hg12 hB10 hr9 hc6 hg4 hr2
   refine gv_seq <| gv_seq <| gv_region <| gv_pureN 1 [50] [(50, (bp b34))] (by kernel_rfl) ?_
   refine gv_load (t := 3) (A := ⟨b34, 0, none⟩) (.int .i64 r24.2.1) [] (fun e => by cases e) rfl rfl rfl (by kernel_rfl) (by kernel_rfl) (by kernel_rfl) (inw0 (hb116.cell 0 rfl)) rfl ?_
   refine gv_pureN 1 [52] [(52, (.bool (r24.2.1 == 0)))] (by kernel_rfl) ?_
   refine gv_nil <| bindE h0 ?_; clear h0; intro j117 h1 h0
   refine gv_cut_code (J := fun a w119 => ∃ s118 : Unit, j117 = .inl s118 ∧ Below w0.heap.size w0 w119 ∧ w50.heap.size ≤ w119.heap.size ∧ a.defers = [] ∧ a.tmps.size = 107 ∧ Ok [(1, (.string s_1)), (2, (.int .i64 coding_2)), (3, (.int .i64 mode_3))] a.tmps) ?_ ?_
   ·skip
    refine gv_cond (b := (r24.2.1 == 0)) (by kernel_rfl) (fun hc120 => ?_) (fun hc120 => ?_)
    ·replace h1 := ite_t hc120 h1
     refine gv_seq <| gv_region <| gv_pureN 1 [54] [(54, (.string r24.1))] (by kernel_rfl) ?_
     refine bindE h1 ?_; clear h1; intro r121 hr122 h1
     refine gv_call0 (by kernel_rfl) rfl (by kernel_rfl) enters18 (bytestr_FromBase64_ok fuel r24.1 w50  r121 hr122) ?_
     rintro v125 w123 ⟨hg124, a126, c127, rfl, ho128, hl129⟩
     have hl130 : ∀ g, blk a126 = some g → w0.heap.size ≤ g := fun g e => Nat.le_trans hB114.size (hl129 g e)
     refine gv_pureN 3 [53, 56, 57] [(56, (.slice a126 (List.length r121.1) c127)), (57, (.agg #[(.int .i64 r121.2.1), (.int .i64 r121.2.2)]))] (by kernel_rfl) ?_
     refine gv_new0 (fun b => .pointer (some ⟨b, 0, none⟩)) #[(.int .i64 0), (.int .i64 0)] 25 (by kernel_rfl) (by kernel_rfl) ?_
     intro b131 w132 hg133 hb134 hbe135 hz136
     refine gv_pureN 1 [15] [(15, (.slice a126 (List.length r121.1) c127))] (by kernel_rfl) ?_
     refine gv_store0 25 0 (.agg #[(.int .i64 r121.2.1), (.int .i64 r121.2.2)]) #[(.int .i64 r121.2.1), (.int .i64 r121.2.2)] hb134 (by kernel_rfl) (by kernel_rfl) (by kernel_rfl) ?_
     intro w137 hg138 hb139 hz140
     refine gv_nil <| gv_seq <| gv_region <| bindE h1 ?_; clear h1; intro j141 h2 h1
     refine gv_cut_ops (J := fun a w142 => Below w0.heap.size w0 w142 ∧ w137.heap.size ≤ w142.heap.size ∧ a.defers = [] ∧ a.tmps.size = 107 ∧ Ok [(1, (.string s_1)), (2, (.int .i64 coding_2)), (3, (.int .i64 mode_3)), (66, (.bool j141))] a.tmps) ?_ ?_
     ·skip
      refine gv_pureN 1 [58] [(58, (bp b131))] (by kernel_rfl) ?_
      refine gv_load (t := 3) (A := ⟨b131, 0, none⟩) (.int .i64 r121.2.1) [] (fun e => by cases e) rfl rfl rfl (by kernel_rfl) (by kernel_rfl) (by kernel_rfl) (inw0 (hb139.cell 0 rfl)) rfl ?_
      refine gv_pureN 2 [60, 61] [(61, (.bool (r121.2.1 != 0)))] (by kernel_rfl) ?_
      refine gv_split (s := 61) (g := (r121.2.1 != 0)) (by kernel_rfl) (fun hc143 => ?_) (fun hc143 => ?_)
      ·skip
       replace h2 := ite_t hc143 h2
       refine gv_pureN 5 [62, 63, 64, 65, 66] [(66, (.bool true))] (by kernel_rfl) ?_
       refine gv_nil ?_
       have e := sj h2; subst e
       refine gv_goal fun a hd hs hok => ?_
       have hg144 := (grown_trans hg124 hg133)
       have hB145 := bg hB114 hg144 nb
       have hB146 := bg hB114 hg124 nb
       have hlo147 : w0.heap.size ≤ b131 := lob hbe135 hB146.size
       have hB148 := bg hB145 hg138 (rowlo hlo147)
       exact ⟨hB148, (Nat.le_refl _), hd, hs, ok_pick [1, 2, 3, 66] hok (by kernel_rfl)⟩
      ·skip
       replace h2 := ite_f hc143 h2
       refine gv_pureN 2 [62, 63] [(62, (.slice a126 (List.length r121.1) c127)), (63, (.slice pa0_0 (List.length b_0) pc0_0))] (by kernel_rfl) ?_
       refine bindE h2 ?_; clear h2; intro r149 hr150 h2
       have ap151 : ¬ (fun k => blk a126 = some k) b131 := fun hx => nl ((lowb hbe135) _ rfl) ((fun k (hk : blk a126 = some k) => ho128.lt k hk) _ hx)
       have hk152 := (ho128.grown hg133 (fun _ h => h.elim) nb).grown hg138 (fun _ h => h.elim) (rdnn (rowne ap151))
       have hg153 := (grown_trans hg124 hg133)
       have hB154 := bg hB114 hg153 nb
       have hB155 := bg hB114 hg124 nb
       have hlo156 : w0.heap.size ≤ b131 := lob hbe135 hB155.size
       have hB157 := bg hB154 hg138 (rowlo hlo156)
       refine gv_call0 (by kernel_rfl) rfl (by kernel_rfl) enters29 (ref4_SameBytes_ok fuel a126 c127 r121.1 pa0_0 pc0_0 b_0 w137 (fun k => (fun k => blk a126 = some k) k ∨ X0 k) (fun k hk => (hk).elim (fun h => (fun k (hk : blk a126 = some k) => hk152.lt k hk) k h) (fun h => (fun k (hk : X0 k) => ltl (hX0 k hk) hB157.size) k h)) ((hk152.rd (Y := fun k => blk a126 = some k) (fun _ h => h.elim) (fun g e => e)).wide (fun k hk => (.inl hk))) ((hpa0_0.below hB157 hX0).wide (fun k hk => (.inr hk))) r149 hr150) ?_
       rintro v160 w158 ⟨hg159, rfl⟩
       refine gv_pureN 2 [65, 66] [(66, (.bool (!r149)))] (by kernel_rfl) ?_
       refine gv_sub [1, 2, 3, 66] (σ' := [(1, (.string s_1)), (2, (.int .i64 coding_2)), (3, (.int .i64 mode_3)), (66, (.bool (!r149)))]) (by kernel_rfl) ?_
       refine gv_nil ?_
       have e := sj h2; subst e
       refine gv_goal fun a hd hs hok => ?_
       have hB161 := bg hB157 hg159 nb
       have hz162 := hg159.size
       exact ⟨hB161, hz162, hd, hs, ok_pick [1, 2, 3, 66] hok (by kernel_rfl)⟩
     ·rintro a w142 ⟨hB163, hz164, hd, hs, hok⟩
      refine gv_in ?_ hd hs hok
      clear hd hs hok
      have hz165 := (nt (nt (nt hg124.size hg133.size) hg138.size) hz164)
      clear hz164 hz140 hb139 hg138 hz136 hbe135 hb134 hg133 hl130 hl129 ho128 hg124 hr122 hc120 hb116 hB114 hbe38 hg32 hB30
      refine gv_cond (b := j141) (by kernel_rfl) (fun hc166 => ?_) (fun hc166 => ?_)
      ·replace h1 := ite_t hc166 h1
       refine gv_seq <| gv_region <| gv_pureN 1 [8] [(8, (.bool false))] (by kernel_rfl) ?_
       refine gv_nil <| gv_cret ?_
       have e := sj h1; subst e
       replace h0 := cont_inr h0
       have e := sj h0; subst e
       refine gv_ret (gv_done [(.bool false)] rfl ⟨(by kernel_rfl), trivial⟩ ?_)
       exact ⟨grown_of_below hB163, rfl⟩
      ·replace h1 := ite_f hc166 h1
       refine gv_skip ?_
       have e := sj h1; subst e
       refine gv_goal fun a hd hs hok => ?_
       have hz167 := hz165
       exact ⟨(), rfl, hB163, hz167, hd, hs, ok_pick [1, 2, 3] hok (by kernel_rfl)⟩
    ·replace h1 := ite_f hc120 h1
     refine gv_skip ?_
     have e := sj h1; subst e
     refine gv_goal fun a hd hs hok => ?_
     exact ⟨(), rfl, hB114, (Nat.le_refl _), hd, hs, ok_pick [1, 2, 3] hok (by kernel_rfl)⟩
   ·rintro a w119 ⟨s118, e, hB168, hz169, hd, hs, hok⟩
    subst e
    refine gv_in ?_ hd hs hok
    clear hd hs hok
    replace h0 := cont_inl h0
    clear hz169 hb116 hB114 hbe38 hg32 hB30
    refine gv_seq <| gv_region <| gv_pureN 2 [68, 69] [(68, (.string s_1)), (69, (.int .i64 coding_2))] (by kernel_rfl) ?_
    refine bindE h0 ?_; clear h0; intro r170 hr171 h0
    refine gv_call0 (by kernel_rfl) rfl (by kernel_rfl) enters22 (bytestr_Encode_ok fuel s_1 coding_2 w119 (fun k => X0 k ∨ X0 k) (fun k hk => (hk).elim (fun h => (fun k (hk : X0 k) => ltl (hX0 k hk) hB168.size) k h) (fun h => (fun k (hk : X0 k) => ltl (hX0 k hk) hB168.size) k h)) ((hG0.below hB168 hX0).wide (fun k hk => (.inl hk))) ((hG1.below hB168 hX0).wide (fun k hk => (.inr hk))) r170 hr171) ?_
    rintro v174 w172 ⟨hg173, a175, c176, X178, rfl, ho177, hx179⟩
    have hx180 : ∀ k, X178 k → k < w172.heap.size := fun k hk => (hx179 k hk).1
    have hx181 : ∀ k, X178 k → X0 k ∨ w0.heap.size ≤ k := fun k hk => (hx179 k hk).2.elim (fun h => (h).elim (fun h => (fun k (hk : X0 k) => Or.inl hk) k h) (fun h => (fun k (hk : X0 k) => Or.inl hk) k h)) (fun h => .inr (Nat.le_trans hB168.size h))
    refine gv_pureN 3 [67, 71, 72] [(71, (.slice a175 (List.length r170.1) c176)), (72, (.agg #[(.int .i64 r170.2.1), (.int .i64 r170.2.2)]))] (by kernel_rfl) ?_
    refine gv_new0 (fun b => .pointer (some ⟨b, 0, none⟩)) #[(.int .i64 0), (.int .i64 0)] 25 (by kernel_rfl) (by kernel_rfl) ?_
    intro b182 w183 hg184 hb185 hbe186 hz187
    refine gv_pureN 1 [17] [(17, (.slice a175 (List.length r170.1) c176))] (by kernel_rfl) ?_
    refine gv_store0 25 0 (.agg #[(.int .i64 r170.2.1), (.int .i64 r170.2.2)]) #[(.int .i64 r170.2.1), (.int .i64 r170.2.2)] hb185 (by kernel_rfl) (by kernel_rfl) (by kernel_rfl) ?_
    intro w188 hg189 hb190 hz191
    refine gv_nil <| gv_seq <| gv_seq <| gv_region <| bindE h0 ?_; clear h0; intro j192 h1 h0
    refine gv_cut_ops (J := fun a w193 => Below w0.heap.size w0 w193 ∧ w188.heap.size ≤ w193.heap.size ∧ Box w193 b182 25 #[(.int .i64 r170.2.1), (.int .i64 r170.2.2)] ∧ Rd bE w193 X178 a175 c176 r170.1 ∧ a.defers = [] ∧ a.tmps.size = 107 ∧ Ok [(1, (.string s_1)), (2, (.int .i64 coding_2)), (3, (.int .i64 mode_3)), (17, (.slice a175 (List.length r170.1) c176)), (18, (bp b182)), (83, (.bool j192))] a.tmps) ?_ ?_
    ·skip
     refine gv_pureN 1 [73] [(73, (bp b182))] (by kernel_rfl) ?_
     refine gv_load (t := 3) (A := ⟨b182, 0, none⟩) (.int .i64 r170.2.1) [] (fun e => by cases e) rfl rfl rfl (by kernel_rfl) (by kernel_rfl) (by kernel_rfl) (inw0 (hb190.cell 0 rfl)) rfl ?_
     refine gv_pureN 2 [75, 76] [(76, (.bool (r170.2.1 != 0)))] (by kernel_rfl) ?_
     refine gv_split (s := 76) (g := (r170.2.1 != 0)) (by kernel_rfl) (fun hc194 => ?_) (fun hc194 => ?_)
     ·skip
      replace h1 := ite_t hc194 h1
      refine gv_pureN 7 [77, 78, 79, 80, 81, 82, 83] [(83, (.bool true))] (by kernel_rfl) ?_
      refine gv_nil ?_
      have e := sj h1; subst e
      refine gv_goal fun a hd hs hok => ?_
      have hg195 := (grown_trans hg173 hg184)
      have hB196 := bg hB168 hg195 nb
      have hB197 := bg hB168 hg173 nb
      have hlo198 : w0.heap.size ≤ b182 := lob hbe186 hB197.size
      have hB199 := bg hB196 hg189 (rowlo hlo198)
      have ap200 : ¬ X178 b182 := fun hx => nl ((lowb hbe186) _ rfl) (hx180 _ hx)
      have hx201 := ltx hx180 hg184.size
      have hk202 := (ho177.grown hg184 hx180 nb).grown hg189 hx201 (rowne ap200)
      exact ⟨hB199, (Nat.le_refl _), hb190, hk202, hd, hs, ok_pick [1, 2, 3, 17, 18, 83] hok (by kernel_rfl)⟩
     ·skip
      replace h1 := ite_f hc194 h1
      refine gv_pureN 4 [77, 78, 79, 80] [(80, (.bool (decide (mode_3 < 0))))] (by kernel_rfl) ?_
      refine gv_split (s := 80) (g := (decide (mode_3 < 0))) (by kernel_rfl) (fun hc203 => ?_) (fun hc203 => ?_)
      ·skip
       replace h1 := ite_t hc203 h1
       refine gv_pureN 3 [81, 82, 83] [(83, (.bool true))] (by kernel_rfl) ?_
       refine gv_nil ?_
       have e := sj h1; subst e
       refine gv_goal fun a hd hs hok => ?_
       have hg204 := (grown_trans hg173 hg184)
       have hB205 := bg hB168 hg204 nb
       have hB206 := bg hB168 hg173 nb
       have hlo207 : w0.heap.size ≤ b182 := lob hbe186 hB206.size
       have hB208 := bg hB205 hg189 (rowlo hlo207)
       have ap209 : ¬ X178 b182 := fun hx => nl ((lowb hbe186) _ rfl) (hx180 _ hx)
       have hx210 := ltx hx180 hg184.size
       have hk211 := (ho177.grown hg184 hx180 nb).grown hg189 hx210 (rowne ap209)
       exact ⟨hB208, (Nat.le_refl _), hb190, hk211, hd, hs, ok_pick [1, 2, 3, 17, 18, 83] hok (by kernel_rfl)⟩
      ·skip
       replace h1 := ite_f hc203 h1
       refine gv_pureN 3 [81, 82, 83] [(83, (.bool (decide (mode_3 > 2))))] (by kernel_rfl) ?_
       refine gv_nil ?_
       have e := sj h1; subst e
       refine gv_goal fun a hd hs hok => ?_
       have hg212 := (grown_trans hg173 hg184)
       have hB213 := bg hB168 hg212 nb
       have hB214 := bg hB168 hg173 nb
       have hlo215 : w0.heap.size ≤ b182 := lob hbe186 hB214.size
       have hB216 := bg hB213 hg189 (rowlo hlo215)
       have ap217 : ¬ X178 b182 := fun hx => nl ((lowb hbe186) _ rfl) (hx180 _ hx)
       have hx218 := ltx hx180 hg184.size
       have hk219 := (ho177.grown hg184 hx180 nb).grown hg189 hx218 (rowne ap217)
       exact ⟨hB216, (Nat.le_refl _), hb190, hk219, hd, hs, ok_pick [1, 2, 3, 17, 18, 83] hok (by kernel_rfl)⟩
    ·rintro a w193 ⟨hB220, hz221, hb222, hk223, hd, hs, hok⟩
     refine gv_in ?_ hd hs hok
     clear hd hs hok
     clear hz191 hb190 hz187 hb185 hx179 ho177 hr171
     refine gv_cond (b := j192) (by kernel_rfl) (fun hc224 => ?_) (fun hc224 => ?_)
     ·replace h0 := ite_t hc224 h0
      refine gv_seq <| gv_region <| bindE h0 ?_; clear h0; intro j225 h1 h0
      refine gv_cut_ops (J := fun a w226 => Below w0.heap.size w0 w226 ∧ w193.heap.size ≤ w226.heap.size ∧ a.defers = [] ∧ a.tmps.size = 107 ∧ Ok [(8, (.bool j225))] a.tmps) ?_ ?_
      ·skip
       refine gv_pureN 1 [84] [(84, (bp b182))] (by kernel_rfl) ?_
       refine gv_load (t := 3) (A := ⟨b182, 0, none⟩) (.int .i64 r170.2.1) [] (fun e => by cases e) rfl rfl rfl (by kernel_rfl) (by kernel_rfl) (by kernel_rfl) (inw0 (hb222.cell 0 rfl)) rfl ?_
       refine gv_pureN 2 [86, 87] [(87, (.bool (r170.2.1 == 0)))] (by kernel_rfl) ?_
       refine gv_split (s := 87) (g := (r170.2.1 == 0)) (by kernel_rfl) (fun hc227 => ?_) (fun hc227 => ?_)
       ·skip
        replace h1 := ite_t hc227 h1
        refine gv_pureN 5 [8, 88, 89, 90, 91] [(8, (.bool true))] (by kernel_rfl) ?_
        refine gv_nil ?_
        have e := sj h1; subst e
        refine gv_goal fun a hd hs hok => ?_
        exact ⟨hB220, (Nat.le_refl _), hd, hs, ok_pick [8] hok (by kernel_rfl)⟩
       ·skip
        replace h1 := ite_f hc227 h1
        refine gv_pureN 5 [8, 88, 89, 90, 91] [(8, (.bool (((List.length r170.1 : Nat) : Int) == 0)))] (by kernel_rfl) ?_
        refine bindE h1 ?_; clear h1; intro n228 hn229 h1
        refine gv_name (s := 8) (v := (.bool (((List.length r170.1 : Nat) : Int) == 0))) (v' := (.bool n228)) (by kernel_rfl) (congrArg (Value.bool) (sj hn229)) ?_
        refine gv_nil ?_
        have e := sj h1; subst e
        refine gv_goal fun a hd hs hok => ?_
        exact ⟨hB220, (Nat.le_refl _), hd, hs, ok_pick [8] hok (by kernel_rfl)⟩
      ·rintro a w226 ⟨hB230, hz231, hd, hs, hok⟩
       refine gv_in ?_ hd hs hok
       clear hd hs hok
       clear hz231 hc224 hk223 hb222 hz221 hB220 hg189 hbe186 hg184 hx181 hx180 hg173 hB168
       refine gv_cret ?_
       have e := sj h0; subst e
       refine gv_ret (gv_done [(.bool j225)] rfl ⟨(by kernel_rfl), trivial⟩ ?_)
       exact ⟨grown_of_below hB230, rfl⟩
     ·replace h0 := ite_f hc224 h0
      refine gv_skip <| gv_seq <| gv_region <| gv_pureN 3 [93, 94, 95] [(93, (.slice a175 (List.length r170.1) c176)), (94, (.int .i64 coding_2)), (95, (.int .i64 mode_3))] (by kernel_rfl) ?_
      refine bindE h0 ?_; clear h0; intro r232 hr233 h0
      have hx234 := ltx (ltx hx180 hg184.size) hg189.size
      refine gv_call0 (by kernel_rfl) rfl (by kernel_rfl) enters23 (bytestr_Decode_ok fuel a175 c176 r170.1 coding_2 mode_3 w193 (fun k => X178 k ∨ X0 k ∨ X0 k) (fun k hk => (hk).elim (fun h => (fun k hk => ltl (hx234 k hk) hz221) k h) (fun h => (h).elim (fun h => (fun k (hk : X0 k) => ltl (hX0 k hk) hB220.size) k h) (fun h => (fun k (hk : X0 k) => ltl (hX0 k hk) hB220.size) k h))) (hk223.wide (fun k hk => (.inl hk))) ((hG0.below hB220 hX0).wide (fun k hk => (.inr (.inl hk)))) ((hG1.below hB220 hX0).wide (fun k hk => (.inr (.inr hk)))) r232 hr233) ?_
      rintro v237 w235 ⟨hg236, rfl⟩
      refine gv_pureN 3 [92, 97, 98] [(97, (.string r232.1)), (98, (.agg #[(.int .i64 r232.2.1), (.int .i64 r232.2.2)]))] (by kernel_rfl) ?_
      refine gv_new0 (fun b => .pointer (some ⟨b, 0, none⟩)) #[(.int .i64 0), (.int .i64 0)] 25 (by kernel_rfl) (by kernel_rfl) ?_
      intro b238 w239 hg240 hb241 hbe242 hz243
      refine gv_pureN 1 [19] [(19, (.string r232.1))] (by kernel_rfl) ?_
      refine gv_store0 25 0 (.agg #[(.int .i64 r232.2.1), (.int .i64 r232.2.2)]) #[(.int .i64 r232.2.1), (.int .i64 r232.2.2)] hb241 (by kernel_rfl) (by kernel_rfl) (by kernel_rfl) ?_
      intro w244 hg245 hb246 hz247
      refine gv_nil <| gv_seq <| gv_region <| bindE h0 ?_; clear h0; intro j248 h1 h0
      refine gv_cut_ops (J := fun a w249 => Below w0.heap.size w0 w249 ∧ w244.heap.size ≤ w249.heap.size ∧ a.defers = [] ∧ a.tmps.size = 107 ∧ Ok [(8, (.bool j248))] a.tmps) ?_ ?_
      ·skip
       refine gv_pureN 1 [99] [(99, (bp b238))] (by kernel_rfl) ?_
       refine gv_load (t := 3) (A := ⟨b238, 0, none⟩) (.int .i64 r232.2.1) [] (fun e => by cases e) rfl rfl rfl (by kernel_rfl) (by kernel_rfl) (by kernel_rfl) (inw0 (hb246.cell 0 rfl)) rfl ?_
       refine gv_pureN 2 [101, 102] [(102, (.bool (r232.2.1 == 0)))] (by kernel_rfl) ?_
       refine gv_split (s := 102) (g := (r232.2.1 == 0)) (by kernel_rfl) (fun hc250 => ?_) (fun hc250 => ?_)
       ·skip
        replace h1 := ite_t hc250 h1
        refine gv_pureN 5 [8, 103, 104, 105, 106] [(8, (.bool (r232.1.toList == s_1.toList)))] (by kernel_rfl) ?_
        refine gv_nil ?_
        have e := sj h1; subst e
        refine gv_goal fun a hd hs hok => ?_
        have hg251 := (grown_trans hg236 hg240)
        have hB252 := bg hB220 hg251 nb
        have hB253 := bg hB220 hg236 nb
        have hlo254 : w0.heap.size ≤ b238 := lob hbe242 hB253.size
        have hB255 := bg hB252 hg245 (rowlo hlo254)
        exact ⟨hB255, (Nat.le_refl _), hd, hs, ok_pick [8] hok (by kernel_rfl)⟩
       ·skip
        replace h1 := ite_f hc250 h1
        refine gv_pureN 5 [8, 103, 104, 105, 106] [(8, (.bool false))] (by kernel_rfl) ?_
        refine gv_nil ?_
        have e := sj h1; subst e
        refine gv_goal fun a hd hs hok => ?_
        have hg256 := (grown_trans hg236 hg240)
        have hB257 := bg hB220 hg256 nb
        have hB258 := bg hB220 hg236 nb
        have hlo259 : w0.heap.size ≤ b238 := lob hbe242 hB258.size
        have hB260 := bg hB257 hg245 (rowlo hlo259)
        exact ⟨hB260, (Nat.le_refl _), hd, hs, ok_pick [8] hok (by kernel_rfl)⟩
      ·rintro a w249 ⟨hB261, hz262, hd, hs, hok⟩
       refine gv_in ?_ hd hs hok
       clear hd hs hok
       clear hz262 hz247 hb246 hg245 hz243 hbe242 hb241 hg240 hg236 hx234 hr233 hc224 hk223 hb222 hz221 hB220 hg189 hbe186 hg184 hx181 hx180 hg173 hB168
       refine gv_cret ?_
       have e := sj h0; subst e
       refine gv_ret (gv_done [(.bool j248)] rfl ⟨(by kernel_rfl), trivial⟩ ?_)
       exact ⟨grown_of_below hB261, rfl⟩

end Go.Proofs.YtlclmpegnkomcaaDoor
