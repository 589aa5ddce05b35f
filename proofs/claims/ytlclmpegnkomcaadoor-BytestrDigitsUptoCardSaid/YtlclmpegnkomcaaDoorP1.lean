import Derived.Test.YtlclmpegnkomcaaDoorP0
set_option linter.all false
set_option maxHeartbeats 4000000
set_option maxRecDepth 100000
/- Own work, printed by a program of mine: the walk of each function: a call returns what the plain function says. -/
namespace Go.Proofs.YtlclmpegnkomcaaDoor
open Go.Gv Go.Gv.D Go.RowKit
theorem bytestr_FromBase64_ok (fuel : Nat) (s_0 : ByteArray) (w0 : World)  (r0 : ((List UInt8) × (Int × Int))) (h0 : bytestr_FromBase64 fuel s_0 = some r0) :
    Calls Tryd.prog 18 ([(.string s_0)] : List Value).toArray w0 (Ret fun v w' => w0.grownBy w' none ∧ ∃ (a0_0r : Option Addr) (c0_0r : Nat), v = tup [(.slice a0_0r (List.length r0.1) c0_0r), (.agg #[(.int .i64 r0.2.1), (.int .i64 r0.2.2)])] ∧ Gv.Own bE 5 w' (fun _ => False) a0_0r c0_0r r0.1 ∧ (∀ g, blk a0_0r = some g → w0.heap.size ≤ g)) := by
 have hB0 : Below w0.heap.size w0 w0 := Below.refl _ _
 unfold bytestr_FromBase64 at h0
 refine calls_run Tryd.func18 rfl Tryd.ntmps18 (by kernel_rfl) ?_
 refine gv_sub [0] (σ' := [(0, (.string s_0))]) (by kernel_rfl) ?_
 refine gv_seq <| gv_region <| gv_pureN 1 [2] [] (by kernel_rfl) ?_
 refine gv_new0 (fun b => .pointer (some ⟨b, 0, none⟩)) #[(.int .i64 0), (.int .i64 0)] 25 (by kernel_rfl) (by kernel_rfl) ?_
 intro b1 w2 hg3 hb4 hbe5 hz6
 refine gv_nil <| gv_seq <| gv_block <| gv_seq <| gv_region <| gv_pureN 4 [13, 14, 15, 16] [(13, (.bool (decide (((ByteArray.size s_0 : Nat) : Int) > 4000))))] (by kernel_rfl) ?_
 refine bindE h0 ?_; clear h0; intro n7 hn8 h0
 refine gv_name (s := 13) (v := (.bool (decide (((ByteArray.size s_0 : Nat) : Int) > 4000)))) (v' := (.bool n7)) (by kernel_rfl) (congrArg (Value.bool) (sj hn8)) ?_
 refine gv_nil <| gv_cond (b := n7) (by kernel_rfl) (fun hc9 => ?_) (fun hc9 => ?_)
 ·replace h0 := ite_t hc9 h0
  refine gv_seq <| gv_region <| bindE h0 ?_; clear h0; intro r10 hr11 h0
  refine gv_call0 (by kernel_rfl) rfl (by kernel_rfl) enters38 (bytestr_at_ok fuel 3 (-1) w2  r10 hr11) ?_
  rintro v14 w12 ⟨hg13, rfl⟩
  refine gv_pureN 1 [2] [(2, (.slice none (List.length ([] : List UInt8)) 0))] (by kernel_rfl) ?_
  have hk19 := hb4.grown hg13 nb
  refine gv_store0 25 0 (.agg #[(.int .i64 r10.1), (.int .i64 r10.2)]) #[(.int .i64 r10.1), (.int .i64 r10.2)] hk19 (by kernel_rfl) (by kernel_rfl) (by kernel_rfl) ?_
  intro w15 hg16 hb17 hz18
  refine gv_nil <| gv_cret ?_
  have e := sj h0; subst e
  refine gv_ret (gv_done [(.slice none (List.length ([] : List UInt8)) 0), (.agg #[(.int .i64 r10.1), (.int .i64 r10.2)])] rfl ⟨(by kernel_rfl), ⟨⟨b1, 0, none⟩, (by kernel_rfl), run_loadVar_row w15 b1 _ 25 _ _ _ hb17 Tryd.underlying25 rfl (by kernel_rfl)⟩, trivial⟩ ?_)
  have hg20 := (grown_trans hg3 hg13)
  have hB21 := bg hB0 hg20 nb
  have hlo22 : w0.heap.size ≤ b1 := lob hbe5 hB0.size
  have hB23 := bg hB21 hg16 (rowlo hlo22)
  exact ⟨grown_of_below hB23, none, 0, rfl, (Gv.Own.nil bE 5 w15 (fun _ => False)), (fun _ h => by cases h)⟩
 ·replace h0 := ite_f hc9 h0
  refine gv_seq <| gv_region <| gv_pureN 5 [18, 19, 20, 21, 22] [(18, (.bool (((((ByteArray.size s_0 : Nat) : Int)).tmod 4) != 0)))] (by kernel_rfl) ?_
  refine bindE h0 ?_; clear h0; intro n24 hn25 h0
  refine gv_name (s := 18) (v := (.bool (((((ByteArray.size s_0 : Nat) : Int)).tmod 4) != 0))) (v' := (.bool n24)) (by kernel_rfl) (congrArg (Value.bool) (sj hn25)) ?_
  refine gv_nil <| gv_cond (b := n24) (by kernel_rfl) (fun hc26 => ?_) (fun hc26 => ?_)
  ·replace h0 := ite_t hc26 h0
   refine gv_seq <| gv_region <| bindE h0 ?_; clear h0; intro r27 hr28 h0
   refine gv_call0 (by kernel_rfl) rfl (by kernel_rfl) enters38 (bytestr_at_ok fuel 9 (-1) w2  r27 hr28) ?_
   rintro v31 w29 ⟨hg30, rfl⟩
   refine gv_pureN 1 [2] [(2, (.slice none (List.length ([] : List UInt8)) 0))] (by kernel_rfl) ?_
   have hk36 := hb4.grown hg30 nb
   refine gv_store0 25 0 (.agg #[(.int .i64 r27.1), (.int .i64 r27.2)]) #[(.int .i64 r27.1), (.int .i64 r27.2)] hk36 (by kernel_rfl) (by kernel_rfl) (by kernel_rfl) ?_
   intro w32 hg33 hb34 hz35
   refine gv_nil <| gv_cret ?_
   have e := sj h0; subst e
   refine gv_ret (gv_done [(.slice none (List.length ([] : List UInt8)) 0), (.agg #[(.int .i64 r27.1), (.int .i64 r27.2)])] rfl ⟨(by kernel_rfl), ⟨⟨b1, 0, none⟩, (by kernel_rfl), run_loadVar_row w32 b1 _ 25 _ _ _ hb34 Tryd.underlying25 rfl (by kernel_rfl)⟩, trivial⟩ ?_)
   have hg37 := (grown_trans hg3 hg30)
   have hB38 := bg hB0 hg37 nb
   have hlo39 : w0.heap.size ≤ b1 := lob hbe5 hB0.size
   have hB40 := bg hB38 hg33 (rowlo hlo39)
   exact ⟨grown_of_below hB40, none, 0, rfl, (Gv.Own.nil bE 5 w32 (fun _ => False)), (fun _ h => by cases h)⟩
  ·replace h0 := ite_f hc26 h0
   refine gv_skip <| gv_blk <| gv_seq <| gv_region <| gv_pureN 1 [4] [(4, (.slice none (List.length ([] : List UInt8)) 0))] (by kernel_rfl) ?_
   refine gv_nil <| gv_seq <| gv_seq <| gv_region <| gv_pureN 1 [5] [(5, (.int .i64 0))] (by kernel_rfl) ?_
   refine gv_nil <| bindE h0 ?_; clear h0; intro j41 h1 h0
   refine gv_cut_code (J := fun a w42 => ∃ (a4_0j : Option Addr) (c4_0j : Nat), Below w0.heap.size w0 w42 ∧ w2.heap.size ≤ w42.heap.size ∧ Gv.Own bE 5 w42 (fun _ => False) a4_0j c4_0j j41 ∧ (∀ g, blk a4_0j = some g → w0.heap.size ≤ g) ∧ (∀ g, blk a4_0j = some g → ¬ (· = b1) g) ∧ ¬ (fun k => blk a4_0j = some k) b1 ∧ Box w42 b1 25 #[(.int .i64 0), (.int .i64 0)] ∧ a.defers = [] ∧ a.tmps.size = 77 ∧ Ok [(0, (.string s_0)), (3, (bp b1)), (4, (.slice a4_0j (List.length j41) c4_0j))] a.tmps) ?_ ?_
   ·skip
    refine gv_block <| gv_loop (A := fun (s43 : ((List UInt8) × Int)) a w44 => ∃ (a4_0j : Option Addr) (c4_0j : Nat), Below w0.heap.size w0 w44 ∧ w2.heap.size ≤ w44.heap.size ∧ Gv.Own bE 5 w44 (fun _ => False) a4_0j c4_0j s43.1 ∧ (∀ g, blk a4_0j = some g → w0.heap.size ≤ g) ∧ (∀ g, blk a4_0j = some g → ¬ (· = b1) g) ∧ ¬ (fun k => blk a4_0j = some k) b1 ∧ Box w44 b1 25 #[(.int .i64 0), (.int .i64 0)] ∧ a.defers = [] ∧ a.tmps.size = 77 ∧ Ok [(0, (.string s_0)), (3, (bp b1)), (4, (.slice a4_0j (List.length s43.1) c4_0j)), (5, (.int .i64 s43.2))] a.tmps) h1 ?_ ?_
    ·intro a hd hs hok
     have hB45 := bg hB0 hg3 nb
     exact ⟨none, 0, hB45, (Nat.le_refl _), (Gv.Own.nil bE 5 w2 (fun _ => False)), (fun _ h => by cases h), (fun _ h => by cases h), (fun h => by cases h), hb4, hd, hs, ok_pick [0, 3, 4, 5] hok (by kernel_rfl)⟩
    ·rintro s43 r2 h2 hR2 a w44 ⟨a48, c49, hB46, hz47, ho50, hl51, ap52, ap53, hb54, hd, hs, hok⟩
     refine gv_in ?_ hd hs hok
     clear hd hs hok
     clear hc26 hn25 hc9 hn8 hz6 hb4 hg3
     refine gv_seq <| gv_seq <| gv_region <| gv_pureN 4 [24, 25, 26, 27] [(27, (.bool (decide (s43.2 < ((ByteArray.size s_0 : Nat) : Int)))))] (by kernel_rfl) ?_
     refine gv_nil <| gv_cond (b := (decide (s43.2 < ((ByteArray.size s_0 : Nat) : Int)))) (by kernel_rfl) (fun hc55 => ?_) (fun hc55 => ?_)
     ·replace h2 := ite_t hc55 h2
      refine gv_skip <| gv_seq <| gv_block <| gv_seq <| gv_region <| gv_pureN 2 [6, 7] [(6, (.int .i64 0)), (7, (.int .i64 3))] (by kernel_rfl) ?_
      refine gv_nil <| gv_seq <| gv_seq <| gv_region <| gv_pureN 1 [30] [(30, (.int .i64 0))] (by kernel_rfl) ?_
      refine gv_nil <| bindE h2 ?_; clear h2; intro j56 h3 h2
      refine gv_cut_code (J := fun a w57 => Below w0.heap.size w0 w57 ∧ w44.heap.size ≤ w57.heap.size ∧ Box w57 b1 25 #[(.int .i64 0), (.int .i64 0)] ∧ Gv.Own bE 5 w57 (fun _ => False) a48 c49 s43.1 ∧ a.defers = [] ∧ a.tmps.size = 77 ∧ Ok [(0, (.string s_0)), (3, (bp b1)), (4, (.slice a48 (List.length s43.1) c49)), (5, (.int .i64 s43.2)), (6, (.int .i64 j56.1)), (7, (.int .i64 j56.2))] a.tmps) ?_ ?_
      ·skip
       refine gv_block <| gv_loop (A := fun (s58 : (Int × Int × Int)) a w59 => Below w0.heap.size w0 w59 ∧ w44.heap.size ≤ w59.heap.size ∧ Box w59 b1 25 #[(.int .i64 0), (.int .i64 0)] ∧ Gv.Own bE 5 w59 (fun _ => False) a48 c49 s43.1 ∧ a.defers = [] ∧ a.tmps.size = 77 ∧ Ok [(0, (.string s_0)), (3, (bp b1)), (4, (.slice a48 (List.length s43.1) c49)), (5, (.int .i64 s43.2)), (6, (.int .i64 s58.1)), (7, (.int .i64 s58.2.1)), (30, (.int .i64 s58.2.2))] a.tmps) h3 ?_ ?_
       ·intro a hd hs hok
        exact ⟨hB46, (Nat.le_refl _), hb54, ho50, hd, hs, ok_pick [0, 3, 4, 5, 6, 7, 30] hok (by kernel_rfl)⟩
       ·rintro s58 r4 h4 hR4 a w59 ⟨hB60, hz61, hb62, hk63, hd, hs, hok⟩
        refine gv_in ?_ hd hs hok
        clear hd hs hok
        clear hc55 hb54 ho50 hB46
        refine gv_seq <| gv_region <| gv_pureN 1 [31] [(31, (.bool (decide (s58.2.2 < 4))))] (by kernel_rfl) ?_
        refine gv_nil <| gv_seq <| gv_cond (b := (decide (s58.2.2 < 4))) (by kernel_rfl) (fun hc64 => ?_) (fun hc64 => ?_)
        ·replace h4 := ite_t hc64 h4
         refine gv_skip <| gv_seq <| gv_block <| gv_seq <| gv_region <| gv_pureN 2 [8, 32] [(8, (.int .i64 s58.2.2))] (by kernel_rfl) ?_
         refine gv_nil <| gv_seq <| gv_region <| gv_new0 (fun b => .slice (some ⟨b, 0, none⟩) 64 64) #[(.int .u8 65), (.int .u8 66), (.int .u8 67), (.int .u8 68), (.int .u8 69), (.int .u8 70), (.int .u8 71), (.int .u8 72), (.int .u8 73), (.int .u8 74), (.int .u8 75), (.int .u8 76), (.int .u8 77), (.int .u8 78), (.int .u8 79), (.int .u8 80), (.int .u8 81), (.int .u8 82), (.int .u8 83), (.int .u8 84), (.int .u8 85), (.int .u8 86), (.int .u8 87), (.int .u8 88), (.int .u8 89), (.int .u8 90), (.int .u8 97), (.int .u8 98), (.int .u8 99), (.int .u8 100), (.int .u8 101), (.int .u8 102), (.int .u8 103), (.int .u8 104), (.int .u8 105), (.int .u8 106), (.int .u8 107), (.int .u8 108), (.int .u8 109), (.int .u8 110), (.int .u8 111), (.int .u8 112), (.int .u8 113), (.int .u8 114), (.int .u8 115), (.int .u8 116), (.int .u8 117), (.int .u8 118), (.int .u8 119), (.int .u8 120), (.int .u8 121), (.int .u8 122), (.int .u8 48), (.int .u8 49), (.int .u8 50), (.int .u8 51), (.int .u8 52), (.int .u8 53), (.int .u8 54), (.int .u8 55), (.int .u8 56), (.int .u8 57), (.int .u8 43), (.int .u8 47)] 5 (by kernel_rfl) (by kernel_rfl) ?_
         intro b65 w66 hg67 hb68 hbe69 hz70
         have ho71 : Gv.Own bE 5 w66 (fun _ => False) (some ⟨b65, 0, none⟩) 64 ([(65 : UInt8), (66 : UInt8), (67 : UInt8), (68 : UInt8), (69 : UInt8), (70 : UInt8), (71 : UInt8), (72 : UInt8), (73 : UInt8), (74 : UInt8), (75 : UInt8), (76 : UInt8), (77 : UInt8), (78 : UInt8), (79 : UInt8), (80 : UInt8), (81 : UInt8), (82 : UInt8), (83 : UInt8), (84 : UInt8), (85 : UInt8), (86 : UInt8), (87 : UInt8), (88 : UInt8), (89 : UInt8), (90 : UInt8), (97 : UInt8), (98 : UInt8), (99 : UInt8), (100 : UInt8), (101 : UInt8), (102 : UInt8), (103 : UInt8), (104 : UInt8), (105 : UInt8), (106 : UInt8), (107 : UInt8), (108 : UInt8), (109 : UInt8), (110 : UInt8), (111 : UInt8), (112 : UInt8), (113 : UInt8), (114 : UInt8), (115 : UInt8), (116 : UInt8), (117 : UInt8), (118 : UInt8), (119 : UInt8), (120 : UInt8), (121 : UInt8), (122 : UInt8), (48 : UInt8), (49 : UInt8), (50 : UInt8), (51 : UInt8), (52 : UInt8), (53 : UInt8), (54 : UInt8), (55 : UInt8), (56 : UInt8), (57 : UInt8), (43 : UInt8), (47 : UInt8)] : List UInt8) := Box.ownE hb68 ⟨[(.int .u8 65)], [(.int .u8 66), (.int .u8 67), (.int .u8 68), (.int .u8 69), (.int .u8 70), (.int .u8 71), (.int .u8 72), (.int .u8 73), (.int .u8 74), (.int .u8 75), (.int .u8 76), (.int .u8 77), (.int .u8 78), (.int .u8 79), (.int .u8 80), (.int .u8 81), (.int .u8 82), (.int .u8 83), (.int .u8 84), (.int .u8 85), (.int .u8 86), (.int .u8 87), (.int .u8 88), (.int .u8 89), (.int .u8 90), (.int .u8 97), (.int .u8 98), (.int .u8 99), (.int .u8 100), (.int .u8 101), (.int .u8 102), (.int .u8 103), (.int .u8 104), (.int .u8 105), (.int .u8 106), (.int .u8 107), (.int .u8 108), (.int .u8 109), (.int .u8 110), (.int .u8 111), (.int .u8 112), (.int .u8 113), (.int .u8 114), (.int .u8 115), (.int .u8 116), (.int .u8 117), (.int .u8 118), (.int .u8 119), (.int .u8 120), (.int .u8 121), (.int .u8 122), (.int .u8 48), (.int .u8 49), (.int .u8 50), (.int .u8 51), (.int .u8 52), (.int .u8 53), (.int .u8 54), (.int .u8 55), (.int .u8 56), (.int .u8 57), (.int .u8 43), (.int .u8 47)], rfl, rfl, ⟨[(.int .u8 66)], [(.int .u8 67), (.int .u8 68), (.int .u8 69), (.int .u8 70), (.int .u8 71), (.int .u8 72), (.int .u8 73), (.int .u8 74), (.int .u8 75), (.int .u8 76), (.int .u8 77), (.int .u8 78), (.int .u8 79), (.int .u8 80), (.int .u8 81), (.int .u8 82), (.int .u8 83), (.int .u8 84), (.int .u8 85), (.int .u8 86), (.int .u8 87), (.int .u8 88), (.int .u8 89), (.int .u8 90), (.int .u8 97), (.int .u8 98), (.int .u8 99), (.int .u8 100), (.int .u8 101), (.int .u8 102), (.int .u8 103), (.int .u8 104), (.int .u8 105), (.int .u8 106), (.int .u8 107), (.int .u8 108), (.int .u8 109), (.int .u8 110), (.int .u8 111), (.int .u8 112), (.int .u8 113), (.int .u8 114), (.int .u8 115), (.int .u8 116), (.int .u8 117), (.int .u8 118), (.int .u8 119), (.int .u8 120), (.int .u8 121), (.int .u8 122), (.int .u8 48), (.int .u8 49), (.int .u8 50), (.int .u8 51), (.int .u8 52), (.int .u8 53), (.int .u8 54), (.int .u8 55), (.int .u8 56), (.int .u8 57), (.int .u8 43), (.int .u8 47)], rfl, rfl, ⟨[(.int .u8 67)], [(.int .u8 68), (.int .u8 69), (.int .u8 70), (.int .u8 71), (.int .u8 72), (.int .u8 73), (.int .u8 74), (.int .u8 75), (.int .u8 76), (.int .u8 77), (.int .u8 78), (.int .u8 79), (.int .u8 80), (.int .u8 81), (.int .u8 82), (.int .u8 83), (.int .u8 84), (.int .u8 85), (.int .u8 86), (.int .u8 87), (.int .u8 88), (.int .u8 89), (.int .u8 90), (.int .u8 97), (.int .u8 98), (.int .u8 99), (.int .u8 100), (.int .u8 101), (.int .u8 102), (.int .u8 103), (.int .u8 104), (.int .u8 105), (.int .u8 106), (.int .u8 107), (.int .u8 108), (.int .u8 109), (.int .u8 110), (.int .u8 111), (.int .u8 112), (.int .u8 113), (.int .u8 114), (.int .u8 115), (.int .u8 116), (.int .u8 117), (.int .u8 118), (.int .u8 119), (.int .u8 120), (.int .u8 121), (.int .u8 122), (.int .u8 48), (.int .u8 49), (.int .u8 50), (.int .u8 51), (.int .u8 52), (.int .u8 53), (.int .u8 54), (.int .u8 55), (.int .u8 56), (.int .u8 57), (.int .u8 43), (.int .u8 47)], rfl, rfl, ⟨[(.int .u8 68)], [(.int .u8 69), (.int .u8 70), (.int .u8 71), (.int .u8 72), (.int .u8 73), (.int .u8 74), (.int .u8 75), (.int .u8 76), (.int .u8 77), (.int .u8 78), (.int .u8 79), (.int .u8 80), (.int .u8 81), (.int .u8 82), (.int .u8 83), (.int .u8 84), (.int .u8 85), (.int .u8 86), (.int .u8 87), (.int .u8 88), (.int .u8 89), (.int .u8 90), (.int .u8 97), (.int .u8 98), (.int .u8 99), (.int .u8 100), (.int .u8 101), (.int .u8 102), (.int .u8 103), (.int .u8 104), (.int .u8 105), (.int .u8 106), (.int .u8 107), (.int .u8 108), (.int .u8 109), (.int .u8 110), (.int .u8 111), (.int .u8 112), (.int .u8 113), (.int .u8 114), (.int .u8 115), (.int .u8 116), (.int .u8 117), (.int .u8 118), (.int .u8 119), (.int .u8 120), (.int .u8 121), (.int .u8 122), (.int .u8 48), (.int .u8 49), (.int .u8 50), (.int .u8 51), (.int .u8 52), (.int .u8 53), (.int .u8 54), (.int .u8 55), (.int .u8 56), (.int .u8 57), (.int .u8 43), (.int .u8 47)], rfl, rfl, ⟨[(.int .u8 69)], [(.int .u8 70), (.int .u8 71), (.int .u8 72), (.int .u8 73), (.int .u8 74), (.int .u8 75), (.int .u8 76), (.int .u8 77), (.int .u8 78), (.int .u8 79), (.int .u8 80), (.int .u8 81), (.int .u8 82), (.int .u8 83), (.int .u8 84), (.int .u8 85), (.int .u8 86), (.int .u8 87), (.int .u8 88), (.int .u8 89), (.int .u8 90), (.int .u8 97), (.int .u8 98), (.int .u8 99), (.int .u8 100), (.int .u8 101), (.int .u8 102), (.int .u8 103), (.int .u8 104), (.int .u8 105), (.int .u8 106), (.int .u8 107), (.int .u8 108), (.int .u8 109), (.int .u8 110), (.int .u8 111), (.int .u8 112), (.int .u8 113), (.int .u8 114), (.int .u8 115), (.int .u8 116), (.int .u8 117), (.int .u8 118), (.int .u8 119), (.int .u8 120), (.int .u8 121), (.int .u8 122), (.int .u8 48), (.int .u8 49), (.int .u8 50), (.int .u8 51), (.int .u8 52), (.int .u8 53), (.int .u8 54), (.int .u8 55), (.int .u8 56), (.int .u8 57), (.int .u8 43), (.int .u8 47)], rfl, rfl, ⟨[(.int .u8 70)], [(.int .u8 71), (.int .u8 72), (.int .u8 73), (.int .u8 74), (.int .u8 75), (.int .u8 76), (.int .u8 77), (.int .u8 78), (.int .u8 79), (.int .u8 80), (.int .u8 81), (.int .u8 82), (.int .u8 83), (.int .u8 84), (.int .u8 85), (.int .u8 86), (.int .u8 87), (.int .u8 88), (.int .u8 89), (.int .u8 90), (.int .u8 97), (.int .u8 98), (.int .u8 99), (.int .u8 100), (.int .u8 101), (.int .u8 102), (.int .u8 103), (.int .u8 104), (.int .u8 105), (.int .u8 106), (.int .u8 107), (.int .u8 108), (.int .u8 109), (.int .u8 110), (.int .u8 111), (.int .u8 112), (.int .u8 113), (.int .u8 114), (.int .u8 115), (.int .u8 116), (.int .u8 117), (.int .u8 118), (.int .u8 119), (.int .u8 120), (.int .u8 121), (.int .u8 122), (.int .u8 48), (.int .u8 49), (.int .u8 50), (.int .u8 51), (.int .u8 52), (.int .u8 53), (.int .u8 54), (.int .u8 55), (.int .u8 56), (.int .u8 57), (.int .u8 43), (.int .u8 47)], rfl, rfl, ⟨[(.int .u8 71)], [(.int .u8 72), (.int .u8 73), (.int .u8 74), (.int .u8 75), (.int .u8 76), (.int .u8 77), (.int .u8 78), (.int .u8 79), (.int .u8 80), (.int .u8 81), (.int .u8 82), (.int .u8 83), (.int .u8 84), (.int .u8 85), (.int .u8 86), (.int .u8 87), (.int .u8 88), (.int .u8 89), (.int .u8 90), (.int .u8 97), (.int .u8 98), (.int .u8 99), (.int .u8 100), (.int .u8 101), (.int .u8 102), (.int .u8 103), (.int .u8 104), (.int .u8 105), (.int .u8 106), (.int .u8 107), (.int .u8 108), (.int .u8 109), (.int .u8 110), (.int .u8 111), (.int .u8 112), (.int .u8 113), (.int .u8 114), (.int .u8 115), (.int .u8 116), (.int .u8 117), (.int .u8 118), (.int .u8 119), (.int .u8 120), (.int .u8 121), (.int .u8 122), (.int .u8 48), (.int .u8 49), (.int .u8 50), (.int .u8 51), (.int .u8 52), (.int .u8 53), (.int .u8 54), (.int .u8 55), (.int .u8 56), (.int .u8 57), (.int .u8 43), (.int .u8 47)], rfl, rfl, ⟨[(.int .u8 72)], [(.int .u8 73), (.int .u8 74), (.int .u8 75), (.int .u8 76), (.int .u8 77), (.int .u8 78), (.int .u8 79), (.int .u8 80), (.int .u8 81), (.int .u8 82), (.int .u8 83), (.int .u8 84), (.int .u8 85), (.int .u8 86), (.int .u8 87), (.int .u8 88), (.int .u8 89), (.int .u8 90), (.int .u8 97), (.int .u8 98), (.int .u8 99), (.int .u8 100), (.int .u8 101), (.int .u8 102), (.int .u8 103), (.int .u8 104), (.int .u8 105), (.int .u8 106), (.int .u8 107), (.int .u8 108), (.int .u8 109), (.int .u8 110), (.int .u8 111), (.int .u8 112), (.int .u8 113), (.int .u8 114), (.int .u8 115), (.int .u8 116), (.int .u8 117), (.int .u8 118), (.int .u8 119), (.int .u8 120), (.int .u8 121), (.int .u8 122), (.int .u8 48), (.int .u8 49), (.int .u8 50), (.int .u8 51), (.int .u8 52), (.int .u8 53), (.int .u8 54), (.int .u8 55), (.int .u8 56), (.int .u8 57), (.int .u8 43), (.int .u8 47)], rfl, rfl, ⟨[(.int .u8 73)], [(.int .u8 74), (.int .u8 75), (.int .u8 76), (.int .u8 77), (.int .u8 78), (.int .u8 79), (.int .u8 80), (.int .u8 81), (.int .u8 82), (.int .u8 83), (.int .u8 84), (.int .u8 85), (.int .u8 86), (.int .u8 87), (.int .u8 88), (.int .u8 89), (.int .u8 90), (.int .u8 97), (.int .u8 98), (.int .u8 99), (.int .u8 100), (.int .u8 101), (.int .u8 102), (.int .u8 103), (.int .u8 104), (.int .u8 105), (.int .u8 106), (.int .u8 107), (.int .u8 108), (.int .u8 109), (.int .u8 110), (.int .u8 111), (.int .u8 112), (.int .u8 113), (.int .u8 114), (.int .u8 115), (.int .u8 116), (.int .u8 117), (.int .u8 118), (.int .u8 119), (.int .u8 120), (.int .u8 121), (.int .u8 122), (.int .u8 48), (.int .u8 49), (.int .u8 50), (.int .u8 51), (.int .u8 52), (.int .u8 53), (.int .u8 54), (.int .u8 55), (.int .u8 56), (.int .u8 57), (.int .u8 43), (.int .u8 47)], rfl, rfl, ⟨[(.int .u8 74)], [(.int .u8 75), (.int .u8 76), (.int .u8 77), (.int .u8 78), (.int .u8 79), (.int .u8 80), (.int .u8 81), (.int .u8 82), (.int .u8 83), (.int .u8 84), (.int .u8 85), (.int .u8 86), (.int .u8 87), (.int .u8 88), (.int .u8 89), (.int .u8 90), (.int .u8 97), (.int .u8 98), (.int .u8 99), (.int .u8 100), (.int .u8 101), (.int .u8 102), (.int .u8 103), (.int .u8 104), (.int .u8 105), (.int .u8 106), (.int .u8 107), (.int .u8 108), (.int .u8 109), (.int .u8 110), (.int .u8 111), (.int .u8 112), (.int .u8 113), (.int .u8 114), (.int .u8 115), (.int .u8 116), (.int .u8 117), (.int .u8 118), (.int .u8 119), (.int .u8 120), (.int .u8 121), (.int .u8 122), (.int .u8 48), (.int .u8 49), (.int .u8 50), (.int .u8 51), (.int .u8 52), (.int .u8 53), (.int .u8 54), (.int .u8 55), (.int .u8 56), (.int .u8 57), (.int .u8 43), (.int .u8 47)], rfl, rfl, ⟨[(.int .u8 75)], [(.int .u8 76), (.int .u8 77), (.int .u8 78), (.int .u8 79), (.int .u8 80), (.int .u8 81), (.int .u8 82), (.int .u8 83), (.int .u8 84), (.int .u8 85), (.int .u8 86), (.int .u8 87), (.int .u8 88), (.int .u8 89), (.int .u8 90), (.int .u8 97), (.int .u8 98), (.int .u8 99), (.int .u8 100), (.int .u8 101), (.int .u8 102), (.int .u8 103), (.int .u8 104), (.int .u8 105), (.int .u8 106), (.int .u8 107), (.int .u8 108), (.int .u8 109), (.int .u8 110), (.int .u8 111), (.int .u8 112), (.int .u8 113), (.int .u8 114), (.int .u8 115), (.int .u8 116), (.int .u8 117), (.int .u8 118), (.int .u8 119), (.int .u8 120), (.int .u8 121), (.int .u8 122), (.int .u8 48), (.int .u8 49), (.int .u8 50), (.int .u8 51), (.int .u8 52), (.int .u8 53), (.int .u8 54), (.int .u8 55), (.int .u8 56), (.int .u8 57), (.int .u8 43), (.int .u8 47)], rfl, rfl, ⟨[(.int .u8 76)], [(.int .u8 77), (.int .u8 78), (.int .u8 79), (.int .u8 80), (.int .u8 81), (.int .u8 82), (.int .u8 83), (.int .u8 84), (.int .u8 85), (.int .u8 86), (.int .u8 87), (.int .u8 88), (.int .u8 89), (.int .u8 90), (.int .u8 97), (.int .u8 98), (.int .u8 99), (.int .u8 100), (.int .u8 101), (.int .u8 102), (.int .u8 103), (.int .u8 104), (.int .u8 105), (.int .u8 106), (.int .u8 107), (.int .u8 108), (.int .u8 109), (.int .u8 110), (.int .u8 111), (.int .u8 112), (.int .u8 113), (.int .u8 114), (.int .u8 115), (.int .u8 116), (.int .u8 117), (.int .u8 118), (.int .u8 119), (.int .u8 120), (.int .u8 121), (.int .u8 122), (.int .u8 48), (.int .u8 49), (.int .u8 50), (.int .u8 51), (.int .u8 52), (.int .u8 53), (.int .u8 54), (.int .u8 55), (.int .u8 56), (.int .u8 57), (.int .u8 43), (.int .u8 47)], rfl, rfl, ⟨[(.int .u8 77)], [(.int .u8 78), (.int .u8 79), (.int .u8 80), (.int .u8 81), (.int .u8 82), (.int .u8 83), (.int .u8 84), (.int .u8 85), (.int .u8 86), (.int .u8 87), (.int .u8 88), (.int .u8 89), (.int .u8 90), (.int .u8 97), (.int .u8 98), (.int .u8 99), (.int .u8 100), (.int .u8 101), (.int .u8 102), (.int .u8 103), (.int .u8 104), (.int .u8 105), (.int .u8 106), (.int .u8 107), (.int .u8 108), (.int .u8 109), (.int .u8 110), (.int .u8 111), (.int .u8 112), (.int .u8 113), (.int .u8 114), (.int .u8 115), (.int .u8 116), (.int .u8 117), (.int .u8 118), (.int .u8 119), (.int .u8 120), (.int .u8 121), (.int .u8 122), (.int .u8 48), (.int .u8 49), (.int .u8 50), (.int .u8 51), (.int .u8 52), (.int .u8 53), (.int .u8 54), (.int .u8 55), (.int .u8 56), (.int .u8 57), (.int .u8 43), (.int .u8 47)], rfl, rfl, ⟨[(.int .u8 78)], [(.int .u8 79), (.int .u8 80), (.int .u8 81), (.int .u8 82), (.int .u8 83), (.int .u8 84), (.int .u8 85), (.int .u8 86), (.int .u8 87), (.int .u8 88), (.int .u8 89), (.int .u8 90), (.int .u8 97), (.int .u8 98), (.int .u8 99), (.int .u8 100), (.int .u8 101), (.int .u8 102), (.int .u8 103), (.int .u8 104), (.int .u8 105), (.int .u8 106), (.int .u8 107), (.int .u8 108), (.int .u8 109), (.int .u8 110), (.int .u8 111), (.int .u8 112), (.int .u8 113), (.int .u8 114), (.int .u8 115), (.int .u8 116), (.int .u8 117), (.int .u8 118), (.int .u8 119), (.int .u8 120), (.int .u8 121), (.int .u8 122), (.int .u8 48), (.int .u8 49), (.int .u8 50), (.int .u8 51), (.int .u8 52), (.int .u8 53), (.int .u8 54), (.int .u8 55), (.int .u8 56), (.int .u8 57), (.int .u8 43), (.int .u8 47)], rfl, rfl, ⟨[(.int .u8 79)], [(.int .u8 80), (.int .u8 81), (.int .u8 82), (.int .u8 83), (.int .u8 84), (.int .u8 85), (.int .u8 86), (.int .u8 87), (.int .u8 88), (.int .u8 89), (.int .u8 90), (.int .u8 97), (.int .u8 98), (.int .u8 99), (.int .u8 100), (.int .u8 101), (.int .u8 102), (.int .u8 103), (.int .u8 104), (.int .u8 105), (.int .u8 106), (.int .u8 107), (.int .u8 108), (.int .u8 109), (.int .u8 110), (.int .u8 111), (.int .u8 112), (.int .u8 113), (.int .u8 114), (.int .u8 115), (.int .u8 116), (.int .u8 117), (.int .u8 118), (.int .u8 119), (.int .u8 120), (.int .u8 121), (.int .u8 122), (.int .u8 48), (.int .u8 49), (.int .u8 50), (.int .u8 51), (.int .u8 52), (.int .u8 53), (.int .u8 54), (.int .u8 55), (.int .u8 56), (.int .u8 57), (.int .u8 43), (.int .u8 47)], rfl, rfl, ⟨[(.int .u8 80)], [(.int .u8 81), (.int .u8 82), (.int .u8 83), (.int .u8 84), (.int .u8 85), (.int .u8 86), (.int .u8 87), (.int .u8 88), (.int .u8 89), (.int .u8 90), (.int .u8 97), (.int .u8 98), (.int .u8 99), (.int .u8 100), (.int .u8 101), (.int .u8 102), (.int .u8 103), (.int .u8 104), (.int .u8 105), (.int .u8 106), (.int .u8 107), (.int .u8 108), (.int .u8 109), (.int .u8 110), (.int .u8 111), (.int .u8 112), (.int .u8 113), (.int .u8 114), (.int .u8 115), (.int .u8 116), (.int .u8 117), (.int .u8 118), (.int .u8 119), (.int .u8 120), (.int .u8 121), (.int .u8 122), (.int .u8 48), (.int .u8 49), (.int .u8 50), (.int .u8 51), (.int .u8 52), (.int .u8 53), (.int .u8 54), (.int .u8 55), (.int .u8 56), (.int .u8 57), (.int .u8 43), (.int .u8 47)], rfl, rfl, ⟨[(.int .u8 81)], [(.int .u8 82), (.int .u8 83), (.int .u8 84), (.int .u8 85), (.int .u8 86), (.int .u8 87), (.int .u8 88), (.int .u8 89), (.int .u8 90), (.int .u8 97), (.int .u8 98), (.int .u8 99), (.int .u8 100), (.int .u8 101), (.int .u8 102), (.int .u8 103), (.int .u8 104), (.int .u8 105), (.int .u8 106), (.int .u8 107), (.int .u8 108), (.int .u8 109), (.int .u8 110), (.int .u8 111), (.int .u8 112), (.int .u8 113), (.int .u8 114), (.int .u8 115), (.int .u8 116), (.int .u8 117), (.int .u8 118), (.int .u8 119), (.int .u8 120), (.int .u8 121), (.int .u8 122), (.int .u8 48), (.int .u8 49), (.int .u8 50), (.int .u8 51), (.int .u8 52), (.int .u8 53), (.int .u8 54), (.int .u8 55), (.int .u8 56), (.int .u8 57), (.int .u8 43), (.int .u8 47)], rfl, rfl, ⟨[(.int .u8 82)], [(.int .u8 83), (.int .u8 84), (.int .u8 85), (.int .u8 86), (.int .u8 87), (.int .u8 88), (.int .u8 89), (.int .u8 90), (.int .u8 97), (.int .u8 98), (.int .u8 99), (.int .u8 100), (.int .u8 101), (.int .u8 102), (.int .u8 103), (.int .u8 104), (.int .u8 105), (.int .u8 106), (.int .u8 107), (.int .u8 108), (.int .u8 109), (.int .u8 110), (.int .u8 111), (.int .u8 112), (.int .u8 113), (.int .u8 114), (.int .u8 115), (.int .u8 116), (.int .u8 117), (.int .u8 118), (.int .u8 119), (.int .u8 120), (.int .u8 121), (.int .u8 122), (.int .u8 48), (.int .u8 49), (.int .u8 50), (.int .u8 51), (.int .u8 52), (.int .u8 53), (.int .u8 54), (.int .u8 55), (.int .u8 56), (.int .u8 57), (.int .u8 43), (.int .u8 47)], rfl, rfl, ⟨[(.int .u8 83)], [(.int .u8 84), (.int .u8 85), (.int .u8 86), (.int .u8 87), (.int .u8 88), (.int .u8 89), (.int .u8 90), (.int .u8 97), (.int .u8 98), (.int .u8 99), (.int .u8 100), (.int .u8 101), (.int .u8 102), (.int .u8 103), (.int .u8 104), (.int .u8 105), (.int .u8 106), (.int .u8 107), (.int .u8 108), (.int .u8 109), (.int .u8 110), (.int .u8 111), (.int .u8 112), (.int .u8 113), (.int .u8 114), (.int .u8 115), (.int .u8 116), (.int .u8 117), (.int .u8 118), (.int .u8 119), (.int .u8 120), (.int .u8 121), (.int .u8 122), (.int .u8 48), (.int .u8 49), (.int .u8 50), (.int .u8 51), (.int .u8 52), (.int .u8 53), (.int .u8 54), (.int .u8 55), (.int .u8 56), (.int .u8 57), (.int .u8 43), (.int .u8 47)], rfl, rfl, ⟨[(.int .u8 84)], [(.int .u8 85), (.int .u8 86), (.int .u8 87), (.int .u8 88), (.int .u8 89), (.int .u8 90), (.int .u8 97), (.int .u8 98), (.int .u8 99), (.int .u8 100), (.int .u8 101), (.int .u8 102), (.int .u8 103), (.int .u8 104), (.int .u8 105), (.int .u8 106), (.int .u8 107), (.int .u8 108), (.int .u8 109), (.int .u8 110), (.int .u8 111), (.int .u8 112), (.int .u8 113), (.int .u8 114), (.int .u8 115), (.int .u8 116), (.int .u8 117), (.int .u8 118), (.int .u8 119), (.int .u8 120), (.int .u8 121), (.int .u8 122), (.int .u8 48), (.int .u8 49), (.int .u8 50), (.int .u8 51), (.int .u8 52), (.int .u8 53), (.int .u8 54), (.int .u8 55), (.int .u8 56), (.int .u8 57), (.int .u8 43), (.int .u8 47)], rfl, rfl, ⟨[(.int .u8 85)], [(.int .u8 86), (.int .u8 87), (.int .u8 88), (.int .u8 89), (.int .u8 90), (.int .u8 97), (.int .u8 98), (.int .u8 99), (.int .u8 100), (.int .u8 101), (.int .u8 102), (.int .u8 103), (.int .u8 104), (.int .u8 105), (.int .u8 106), (.int .u8 107), (.int .u8 108), (.int .u8 109), (.int .u8 110), (.int .u8 111), (.int .u8 112), (.int .u8 113), (.int .u8 114), (.int .u8 115), (.int .u8 116), (.int .u8 117), (.int .u8 118), (.int .u8 119), (.int .u8 120), (.int .u8 121), (.int .u8 122), (.int .u8 48), (.int .u8 49), (.int .u8 50), (.int .u8 51), (.int .u8 52), (.int .u8 53), (.int .u8 54), (.int .u8 55), (.int .u8 56), (.int .u8 57), (.int .u8 43), (.int .u8 47)], rfl, rfl, ⟨[(.int .u8 86)], [(.int .u8 87), (.int .u8 88), (.int .u8 89), (.int .u8 90), (.int .u8 97), (.int .u8 98), (.int .u8 99), (.int .u8 100), (.int .u8 101), (.int .u8 102), (.int .u8 103), (.int .u8 104), (.int .u8 105), (.int .u8 106), (.int .u8 107), (.int .u8 108), (.int .u8 109), (.int .u8 110), (.int .u8 111), (.int .u8 112), (.int .u8 113), (.int .u8 114), (.int .u8 115), (.int .u8 116), (.int .u8 117), (.int .u8 118), (.int .u8 119), (.int .u8 120), (.int .u8 121), (.int .u8 122), (.int .u8 48), (.int .u8 49), (.int .u8 50), (.int .u8 51), (.int .u8 52), (.int .u8 53), (.int .u8 54), (.int .u8 55), (.int .u8 56), (.int .u8 57), (.int .u8 43), (.int .u8 47)], rfl, rfl, ⟨[(.int .u8 87)], [(.int .u8 88), (.int .u8 89), (.int .u8 90), (.int .u8 97), (.int .u8 98), (.int .u8 99), (.int .u8 100), (.int .u8 101), (.int .u8 102), (.int .u8 103), (.int .u8 104), (.int .u8 105), (.int .u8 106), (.int .u8 107), (.int .u8 108), (.int .u8 109), (.int .u8 110), (.int .u8 111), (.int .u8 112), (.int .u8 113), (.int .u8 114), (.int .u8 115), (.int .u8 116), (.int .u8 117), (.int .u8 118), (.int .u8 119), (.int .u8 120), (.int .u8 121), (.int .u8 122), (.int .u8 48), (.int .u8 49), (.int .u8 50), (.int .u8 51), (.int .u8 52), (.int .u8 53), (.int .u8 54), (.int .u8 55), (.int .u8 56), (.int .u8 57), (.int .u8 43), (.int .u8 47)], rfl, rfl, ⟨[(.int .u8 88)], [(.int .u8 89), (.int .u8 90), (.int .u8 97), (.int .u8 98), (.int .u8 99), (.int .u8 100), (.int .u8 101), (.int .u8 102), (.int .u8 103), (.int .u8 104), (.int .u8 105), (.int .u8 106), (.int .u8 107), (.int .u8 108), (.int .u8 109), (.int .u8 110), (.int .u8 111), (.int .u8 112), (.int .u8 113), (.int .u8 114), (.int .u8 115), (.int .u8 116), (.int .u8 117), (.int .u8 118), (.int .u8 119), (.int .u8 120), (.int .u8 121), (.int .u8 122), (.int .u8 48), (.int .u8 49), (.int .u8 50), (.int .u8 51), (.int .u8 52), (.int .u8 53), (.int .u8 54), (.int .u8 55), (.int .u8 56), (.int .u8 57), (.int .u8 43), (.int .u8 47)], rfl, rfl, ⟨[(.int .u8 89)], [(.int .u8 90), (.int .u8 97), (.int .u8 98), (.int .u8 99), (.int .u8 100), (.int .u8 101), (.int .u8 102), (.int .u8 103), (.int .u8 104), (.int .u8 105), (.int .u8 106), (.int .u8 107), (.int .u8 108), (.int .u8 109), (.int .u8 110), (.int .u8 111), (.int .u8 112), (.int .u8 113), (.int .u8 114), (.int .u8 115), (.int .u8 116), (.int .u8 117), (.int .u8 118), (.int .u8 119), (.int .u8 120), (.int .u8 121), (.int .u8 122), (.int .u8 48), (.int .u8 49), (.int .u8 50), (.int .u8 51), (.int .u8 52), (.int .u8 53), (.int .u8 54), (.int .u8 55), (.int .u8 56), (.int .u8 57), (.int .u8 43), (.int .u8 47)], rfl, rfl, ⟨[(.int .u8 90)], [(.int .u8 97), (.int .u8 98), (.int .u8 99), (.int .u8 100), (.int .u8 101), (.int .u8 102), (.int .u8 103), (.int .u8 104), (.int .u8 105), (.int .u8 106), (.int .u8 107), (.int .u8 108), (.int .u8 109), (.int .u8 110), (.int .u8 111), (.int .u8 112), (.int .u8 113), (.int .u8 114), (.int .u8 115), (.int .u8 116), (.int .u8 117), (.int .u8 118), (.int .u8 119), (.int .u8 120), (.int .u8 121), (.int .u8 122), (.int .u8 48), (.int .u8 49), (.int .u8 50), (.int .u8 51), (.int .u8 52), (.int .u8 53), (.int .u8 54), (.int .u8 55), (.int .u8 56), (.int .u8 57), (.int .u8 43), (.int .u8 47)], rfl, rfl, ⟨[(.int .u8 97)], [(.int .u8 98), (.int .u8 99), (.int .u8 100), (.int .u8 101), (.int .u8 102), (.int .u8 103), (.int .u8 104), (.int .u8 105), (.int .u8 106), (.int .u8 107), (.int .u8 108), (.int .u8 109), (.int .u8 110), (.int .u8 111), (.int .u8 112), (.int .u8 113), (.int .u8 114), (.int .u8 115), (.int .u8 116), (.int .u8 117), (.int .u8 118), (.int .u8 119), (.int .u8 120), (.int .u8 121), (.int .u8 122), (.int .u8 48), (.int .u8 49), (.int .u8 50), (.int .u8 51), (.int .u8 52), (.int .u8 53), (.int .u8 54), (.int .u8 55), (.int .u8 56), (.int .u8 57), (.int .u8 43), (.int .u8 47)], rfl, rfl, ⟨[(.int .u8 98)], [(.int .u8 99), (.int .u8 100), (.int .u8 101), (.int .u8 102), (.int .u8 103), (.int .u8 104), (.int .u8 105), (.int .u8 106), (.int .u8 107), (.int .u8 108), (.int .u8 109), (.int .u8 110), (.int .u8 111), (.int .u8 112), (.int .u8 113), (.int .u8 114), (.int .u8 115), (.int .u8 116), (.int .u8 117), (.int .u8 118), (.int .u8 119), (.int .u8 120), (.int .u8 121), (.int .u8 122), (.int .u8 48), (.int .u8 49), (.int .u8 50), (.int .u8 51), (.int .u8 52), (.int .u8 53), (.int .u8 54), (.int .u8 55), (.int .u8 56), (.int .u8 57), (.int .u8 43), (.int .u8 47)], rfl, rfl, ⟨[(.int .u8 99)], [(.int .u8 100), (.int .u8 101), (.int .u8 102), (.int .u8 103), (.int .u8 104), (.int .u8 105), (.int .u8 106), (.int .u8 107), (.int .u8 108), (.int .u8 109), (.int .u8 110), (.int .u8 111), (.int .u8 112), (.int .u8 113), (.int .u8 114), (.int .u8 115), (.int .u8 116), (.int .u8 117), (.int .u8 118), (.int .u8 119), (.int .u8 120), (.int .u8 121), (.int .u8 122), (.int .u8 48), (.int .u8 49), (.int .u8 50), (.int .u8 51), (.int .u8 52), (.int .u8 53), (.int .u8 54), (.int .u8 55), (.int .u8 56), (.int .u8 57), (.int .u8 43), (.int .u8 47)], rfl, rfl, ⟨[(.int .u8 100)], [(.int .u8 101), (.int .u8 102), (.int .u8 103), (.int .u8 104), (.int .u8 105), (.int .u8 106), (.int .u8 107), (.int .u8 108), (.int .u8 109), (.int .u8 110), (.int .u8 111), (.int .u8 112), (.int .u8 113), (.int .u8 114), (.int .u8 115), (.int .u8 116), (.int .u8 117), (.int .u8 118), (.int .u8 119), (.int .u8 120), (.int .u8 121), (.int .u8 122), (.int .u8 48), (.int .u8 49), (.int .u8 50), (.int .u8 51), (.int .u8 52), (.int .u8 53), (.int .u8 54), (.int .u8 55), (.int .u8 56), (.int .u8 57), (.int .u8 43), (.int .u8 47)], rfl, rfl, ⟨[(.int .u8 101)], [(.int .u8 102), (.int .u8 103), (.int .u8 104), (.int .u8 105), (.int .u8 106), (.int .u8 107), (.int .u8 108), (.int .u8 109), (.int .u8 110), (.int .u8 111), (.int .u8 112), (.int .u8 113), (.int .u8 114), (.int .u8 115), (.int .u8 116), (.int .u8 117), (.int .u8 118), (.int .u8 119), (.int .u8 120), (.int .u8 121), (.int .u8 122), (.int .u8 48), (.int .u8 49), (.int .u8 50), (.int .u8 51), (.int .u8 52), (.int .u8 53), (.int .u8 54), (.int .u8 55), (.int .u8 56), (.int .u8 57), (.int .u8 43), (.int .u8 47)], rfl, rfl, ⟨[(.int .u8 102)], [(.int .u8 103), (.int .u8 104), (.int .u8 105), (.int .u8 106), (.int .u8 107), (.int .u8 108), (.int .u8 109), (.int .u8 110), (.int .u8 111), (.int .u8 112), (.int .u8 113), (.int .u8 114), (.int .u8 115), (.int .u8 116), (.int .u8 117), (.int .u8 118), (.int .u8 119), (.int .u8 120), (.int .u8 121), (.int .u8 122), (.int .u8 48), (.int .u8 49), (.int .u8 50), (.int .u8 51), (.int .u8 52), (.int .u8 53), (.int .u8 54), (.int .u8 55), (.int .u8 56), (.int .u8 57), (.int .u8 43), (.int .u8 47)], rfl, rfl, ⟨[(.int .u8 103)], [(.int .u8 104), (.int .u8 105), (.int .u8 106), (.int .u8 107), (.int .u8 108), (.int .u8 109), (.int .u8 110), (.int .u8 111), (.int .u8 112), (.int .u8 113), (.int .u8 114), (.int .u8 115), (.int .u8 116), (.int .u8 117), (.int .u8 118), (.int .u8 119), (.int .u8 120), (.int .u8 121), (.int .u8 122), (.int .u8 48), (.int .u8 49), (.int .u8 50), (.int .u8 51), (.int .u8 52), (.int .u8 53), (.int .u8 54), (.int .u8 55), (.int .u8 56), (.int .u8 57), (.int .u8 43), (.int .u8 47)], rfl, rfl, ⟨[(.int .u8 104)], [(.int .u8 105), (.int .u8 106), (.int .u8 107), (.int .u8 108), (.int .u8 109), (.int .u8 110), (.int .u8 111), (.int .u8 112), (.int .u8 113), (.int .u8 114), (.int .u8 115), (.int .u8 116), (.int .u8 117), (.int .u8 118), (.int .u8 119), (.int .u8 120), (.int .u8 121), (.int .u8 122), (.int .u8 48), (.int .u8 49), (.int .u8 50), (.int .u8 51), (.int .u8 52), (.int .u8 53), (.int .u8 54), (.int .u8 55), (.int .u8 56), (.int .u8 57), (.int .u8 43), (.int .u8 47)], rfl, rfl, ⟨[(.int .u8 105)], [(.int .u8 106), (.int .u8 107), (.int .u8 108), (.int .u8 109), (.int .u8 110), (.int .u8 111), (.int .u8 112), (.int .u8 113), (.int .u8 114), (.int .u8 115), (.int .u8 116), (.int .u8 117), (.int .u8 118), (.int .u8 119), (.int .u8 120), (.int .u8 121), (.int .u8 122), (.int .u8 48), (.int .u8 49), (.int .u8 50), (.int .u8 51), (.int .u8 52), (.int .u8 53), (.int .u8 54), (.int .u8 55), (.int .u8 56), (.int .u8 57), (.int .u8 43), (.int .u8 47)], rfl, rfl, ⟨[(.int .u8 106)], [(.int .u8 107), (.int .u8 108), (.int .u8 109), (.int .u8 110), (.int .u8 111), (.int .u8 112), (.int .u8 113), (.int .u8 114), (.int .u8 115), (.int .u8 116), (.int .u8 117), (.int .u8 118), (.int .u8 119), (.int .u8 120), (.int .u8 121), (.int .u8 122), (.int .u8 48), (.int .u8 49), (.int .u8 50), (.int .u8 51), (.int .u8 52), (.int .u8 53), (.int .u8 54), (.int .u8 55), (.int .u8 56), (.int .u8 57), (.int .u8 43), (.int .u8 47)], rfl, rfl, ⟨[(.int .u8 107)], [(.int .u8 108), (.int .u8 109), (.int .u8 110), (.int .u8 111), (.int .u8 112), (.int .u8 113), (.int .u8 114), (.int .u8 115), (.int .u8 116), (.int .u8 117), (.int .u8 118), (.int .u8 119), (.int .u8 120), (.int .u8 121), (.int .u8 122), (.int .u8 48), (.int .u8 49), (.int .u8 50), (.int .u8 51), (.int .u8 52), (.int .u8 53), (.int .u8 54), (.int .u8 55), (.int .u8 56), (.int .u8 57), (.int .u8 43), (.int .u8 47)], rfl, rfl, ⟨[(.int .u8 108)], [(.int .u8 109), (.int .u8 110), (.int .u8 111), (.int .u8 112), (.int .u8 113), (.int .u8 114), (.int .u8 115), (.int .u8 116), (.int .u8 117), (.int .u8 118), (.int .u8 119), (.int .u8 120), (.int .u8 121), (.int .u8 122), (.int .u8 48), (.int .u8 49), (.int .u8 50), (.int .u8 51), (.int .u8 52), (.int .u8 53), (.int .u8 54), (.int .u8 55), (.int .u8 56), (.int .u8 57), (.int .u8 43), (.int .u8 47)], rfl, rfl, ⟨[(.int .u8 109)], [(.int .u8 110), (.int .u8 111), (.int .u8 112), (.int .u8 113), (.int .u8 114), (.int .u8 115), (.int .u8 116), (.int .u8 117), (.int .u8 118), (.int .u8 119), (.int .u8 120), (.int .u8 121), (.int .u8 122), (.int .u8 48), (.int .u8 49), (.int .u8 50), (.int .u8 51), (.int .u8 52), (.int .u8 53), (.int .u8 54), (.int .u8 55), (.int .u8 56), (.int .u8 57), (.int .u8 43), (.int .u8 47)], rfl, rfl, ⟨[(.int .u8 110)], [(.int .u8 111), (.int .u8 112), (.int .u8 113), (.int .u8 114), (.int .u8 115), (.int .u8 116), (.int .u8 117), (.int .u8 118), (.int .u8 119), (.int .u8 120), (.int .u8 121), (.int .u8 122), (.int .u8 48), (.int .u8 49), (.int .u8 50), (.int .u8 51), (.int .u8 52), (.int .u8 53), (.int .u8 54), (.int .u8 55), (.int .u8 56), (.int .u8 57), (.int .u8 43), (.int .u8 47)], rfl, rfl, ⟨[(.int .u8 111)], [(.int .u8 112), (.int .u8 113), (.int .u8 114), (.int .u8 115), (.int .u8 116), (.int .u8 117), (.int .u8 118), (.int .u8 119), (.int .u8 120), (.int .u8 121), (.int .u8 122), (.int .u8 48), (.int .u8 49), (.int .u8 50), (.int .u8 51), (.int .u8 52), (.int .u8 53), (.int .u8 54), (.int .u8 55), (.int .u8 56), (.int .u8 57), (.int .u8 43), (.int .u8 47)], rfl, rfl, ⟨[(.int .u8 112)], [(.int .u8 113), (.int .u8 114), (.int .u8 115), (.int .u8 116), (.int .u8 117), (.int .u8 118), (.int .u8 119), (.int .u8 120), (.int .u8 121), (.int .u8 122), (.int .u8 48), (.int .u8 49), (.int .u8 50), (.int .u8 51), (.int .u8 52), (.int .u8 53), (.int .u8 54), (.int .u8 55), (.int .u8 56), (.int .u8 57), (.int .u8 43), (.int .u8 47)], rfl, rfl, ⟨[(.int .u8 113)], [(.int .u8 114), (.int .u8 115), (.int .u8 116), (.int .u8 117), (.int .u8 118), (.int .u8 119), (.int .u8 120), (.int .u8 121), (.int .u8 122), (.int .u8 48), (.int .u8 49), (.int .u8 50), (.int .u8 51), (.int .u8 52), (.int .u8 53), (.int .u8 54), (.int .u8 55), (.int .u8 56), (.int .u8 57), (.int .u8 43), (.int .u8 47)], rfl, rfl, ⟨[(.int .u8 114)], [(.int .u8 115), (.int .u8 116), (.int .u8 117), (.int .u8 118), (.int .u8 119), (.int .u8 120), (.int .u8 121), (.int .u8 122), (.int .u8 48), (.int .u8 49), (.int .u8 50), (.int .u8 51), (.int .u8 52), (.int .u8 53), (.int .u8 54), (.int .u8 55), (.int .u8 56), (.int .u8 57), (.int .u8 43), (.int .u8 47)], rfl, rfl, ⟨[(.int .u8 115)], [(.int .u8 116), (.int .u8 117), (.int .u8 118), (.int .u8 119), (.int .u8 120), (.int .u8 121), (.int .u8 122), (.int .u8 48), (.int .u8 49), (.int .u8 50), (.int .u8 51), (.int .u8 52), (.int .u8 53), (.int .u8 54), (.int .u8 55), (.int .u8 56), (.int .u8 57), (.int .u8 43), (.int .u8 47)], rfl, rfl, ⟨[(.int .u8 116)], [(.int .u8 117), (.int .u8 118), (.int .u8 119), (.int .u8 120), (.int .u8 121), (.int .u8 122), (.int .u8 48), (.int .u8 49), (.int .u8 50), (.int .u8 51), (.int .u8 52), (.int .u8 53), (.int .u8 54), (.int .u8 55), (.int .u8 56), (.int .u8 57), (.int .u8 43), (.int .u8 47)], rfl, rfl, ⟨[(.int .u8 117)], [(.int .u8 118), (.int .u8 119), (.int .u8 120), (.int .u8 121), (.int .u8 122), (.int .u8 48), (.int .u8 49), (.int .u8 50), (.int .u8 51), (.int .u8 52), (.int .u8 53), (.int .u8 54), (.int .u8 55), (.int .u8 56), (.int .u8 57), (.int .u8 43), (.int .u8 47)], rfl, rfl, ⟨[(.int .u8 118)], [(.int .u8 119), (.int .u8 120), (.int .u8 121), (.int .u8 122), (.int .u8 48), (.int .u8 49), (.int .u8 50), (.int .u8 51), (.int .u8 52), (.int .u8 53), (.int .u8 54), (.int .u8 55), (.int .u8 56), (.int .u8 57), (.int .u8 43), (.int .u8 47)], rfl, rfl, ⟨[(.int .u8 119)], [(.int .u8 120), (.int .u8 121), (.int .u8 122), (.int .u8 48), (.int .u8 49), (.int .u8 50), (.int .u8 51), (.int .u8 52), (.int .u8 53), (.int .u8 54), (.int .u8 55), (.int .u8 56), (.int .u8 57), (.int .u8 43), (.int .u8 47)], rfl, rfl, ⟨[(.int .u8 120)], [(.int .u8 121), (.int .u8 122), (.int .u8 48), (.int .u8 49), (.int .u8 50), (.int .u8 51), (.int .u8 52), (.int .u8 53), (.int .u8 54), (.int .u8 55), (.int .u8 56), (.int .u8 57), (.int .u8 43), (.int .u8 47)], rfl, rfl, ⟨[(.int .u8 121)], [(.int .u8 122), (.int .u8 48), (.int .u8 49), (.int .u8 50), (.int .u8 51), (.int .u8 52), (.int .u8 53), (.int .u8 54), (.int .u8 55), (.int .u8 56), (.int .u8 57), (.int .u8 43), (.int .u8 47)], rfl, rfl, ⟨[(.int .u8 122)], [(.int .u8 48), (.int .u8 49), (.int .u8 50), (.int .u8 51), (.int .u8 52), (.int .u8 53), (.int .u8 54), (.int .u8 55), (.int .u8 56), (.int .u8 57), (.int .u8 43), (.int .u8 47)], rfl, rfl, ⟨[(.int .u8 48)], [(.int .u8 49), (.int .u8 50), (.int .u8 51), (.int .u8 52), (.int .u8 53), (.int .u8 54), (.int .u8 55), (.int .u8 56), (.int .u8 57), (.int .u8 43), (.int .u8 47)], rfl, rfl, ⟨[(.int .u8 49)], [(.int .u8 50), (.int .u8 51), (.int .u8 52), (.int .u8 53), (.int .u8 54), (.int .u8 55), (.int .u8 56), (.int .u8 57), (.int .u8 43), (.int .u8 47)], rfl, rfl, ⟨[(.int .u8 50)], [(.int .u8 51), (.int .u8 52), (.int .u8 53), (.int .u8 54), (.int .u8 55), (.int .u8 56), (.int .u8 57), (.int .u8 43), (.int .u8 47)], rfl, rfl, ⟨[(.int .u8 51)], [(.int .u8 52), (.int .u8 53), (.int .u8 54), (.int .u8 55), (.int .u8 56), (.int .u8 57), (.int .u8 43), (.int .u8 47)], rfl, rfl, ⟨[(.int .u8 52)], [(.int .u8 53), (.int .u8 54), (.int .u8 55), (.int .u8 56), (.int .u8 57), (.int .u8 43), (.int .u8 47)], rfl, rfl, ⟨[(.int .u8 53)], [(.int .u8 54), (.int .u8 55), (.int .u8 56), (.int .u8 57), (.int .u8 43), (.int .u8 47)], rfl, rfl, ⟨[(.int .u8 54)], [(.int .u8 55), (.int .u8 56), (.int .u8 57), (.int .u8 43), (.int .u8 47)], rfl, rfl, ⟨[(.int .u8 55)], [(.int .u8 56), (.int .u8 57), (.int .u8 43), (.int .u8 47)], rfl, rfl, ⟨[(.int .u8 56)], [(.int .u8 57), (.int .u8 43), (.int .u8 47)], rfl, rfl, ⟨[(.int .u8 57)], [(.int .u8 43), (.int .u8 47)], rfl, rfl, ⟨[(.int .u8 43)], [(.int .u8 47)], rfl, rfl, ⟨[(.int .u8 47)], [], rfl, rfl, rfl⟩⟩⟩⟩⟩⟩⟩⟩⟩⟩⟩⟩⟩⟩⟩⟩⟩⟩⟩⟩⟩⟩⟩⟩⟩⟩⟩⟩⟩⟩⟩⟩⟩⟩⟩⟩⟩⟩⟩⟩⟩⟩⟩⟩⟩⟩⟩⟩⟩⟩⟩⟩⟩⟩⟩⟩⟩⟩⟩⟩⟩⟩⟩⟩ (show 64 ≤ maxLen by decide) (fun h => h)
         have hl72 : ∀ g, blk (some ⟨b65, 0, none⟩) = some g → w0.heap.size ≤ g := loo hbe69 hB60.size
         refine gv_conv8 (t := 22) (e := 5) (a := (some ⟨b65, 0, none⟩)) (cap := 64) (xs := ([(65 : UInt8), (66 : UInt8), (67 : UInt8), (68 : UInt8), (69 : UInt8), (70 : UInt8), (71 : UInt8), (72 : UInt8), (73 : UInt8), (74 : UInt8), (75 : UInt8), (76 : UInt8), (77 : UInt8), (78 : UInt8), (79 : UInt8), (80 : UInt8), (81 : UInt8), (82 : UInt8), (83 : UInt8), (84 : UInt8), (85 : UInt8), (86 : UInt8), (87 : UInt8), (88 : UInt8), (89 : UInt8), (90 : UInt8), (97 : UInt8), (98 : UInt8), (99 : UInt8), (100 : UInt8), (101 : UInt8), (102 : UInt8), (103 : UInt8), (104 : UInt8), (105 : UInt8), (106 : UInt8), (107 : UInt8), (108 : UInt8), (109 : UInt8), (110 : UInt8), (111 : UInt8), (112 : UInt8), (113 : UInt8), (114 : UInt8), (115 : UInt8), (116 : UInt8), (117 : UInt8), (118 : UInt8), (119 : UInt8), (120 : UInt8), (121 : UInt8), (122 : UInt8), (48 : UInt8), (49 : UInt8), (50 : UInt8), (51 : UInt8), (52 : UInt8), (53 : UInt8), (54 : UInt8), (55 : UInt8), (56 : UInt8), (57 : UInt8), (43 : UInt8), (47 : UInt8)] : List UInt8)) (by kernel_rfl) (by kernel_rfl) Tryd.underlying22 Tryd.underlying5 ho71 rfl ?_
         intro w76 hg77 hr78 hz79
         have hx80 : ∀ k, blk (some ⟨b65, 0, none⟩) = some k → k < w76.heap.size := fun k hk => by rw [hz79]; exact (fun k (hk : blk (some ⟨b65, 0, none⟩) = some k) => ho71.lt k hk) k hk
         refine gv_pureN 4 [35, 36, 37, 38] [(35, (.string s_0)), (38, (.int .i64 (IntKind.i64.wrap (s43.2 + s58.2.2))))] (by kernel_rfl) ?_
         refine bindE h4 ?_; clear h4; intro x81 hx82 h4
         refine gv_sindex (t := 9) (s := s_0) (kk := .i64) (i := (IntKind.i64.wrap (s43.2 + s58.2.2))) x81 [] (fun e => by cases e) rfl rfl rfl (by kernel_rfl) (by kernel_rfl) Tryd.underlying9 hx82 rfl ?_
         refine bindE h4 ?_; clear h4; intro r83 hr84 h4
         refine gv_call0 (by kernel_rfl) rfl (by kernel_rfl) enters39 (bytes_IndexByte_ok fuel (some ⟨b65, 0, none⟩) 64 ([(65 : UInt8), (66 : UInt8), (67 : UInt8), (68 : UInt8), (69 : UInt8), (70 : UInt8), (71 : UInt8), (72 : UInt8), (73 : UInt8), (74 : UInt8), (75 : UInt8), (76 : UInt8), (77 : UInt8), (78 : UInt8), (79 : UInt8), (80 : UInt8), (81 : UInt8), (82 : UInt8), (83 : UInt8), (84 : UInt8), (85 : UInt8), (86 : UInt8), (87 : UInt8), (88 : UInt8), (89 : UInt8), (90 : UInt8), (97 : UInt8), (98 : UInt8), (99 : UInt8), (100 : UInt8), (101 : UInt8), (102 : UInt8), (103 : UInt8), (104 : UInt8), (105 : UInt8), (106 : UInt8), (107 : UInt8), (108 : UInt8), (109 : UInt8), (110 : UInt8), (111 : UInt8), (112 : UInt8), (113 : UInt8), (114 : UInt8), (115 : UInt8), (116 : UInt8), (117 : UInt8), (118 : UInt8), (119 : UInt8), (120 : UInt8), (121 : UInt8), (122 : UInt8), (48 : UInt8), (49 : UInt8), (50 : UInt8), (51 : UInt8), (52 : UInt8), (53 : UInt8), (54 : UInt8), (55 : UInt8), (56 : UInt8), (57 : UInt8), (43 : UInt8), (47 : UInt8)] : List UInt8) x81 w76 (fun k => (fun k => blk (some ⟨b65, 0, none⟩) = some k) k) (fun k hk => hx80 k hk) (hr78.wide (fun k hk => hk)) r83 hr84) ?_
         rintro v87 w85 ⟨hg86, rfl⟩
         have hz88 := (nt (nt (nt hz61 hg67.size) hg77.size) hg86.size)
         clear hr84 hx82 hx80 hz79 hr78 ho71 hz70 hb68 hc64 hz61
         refine gv_pureN 1 [9] [(9, (.int .i64 r83))] (by kernel_rfl) ?_
         refine gv_nil <| gv_seq <| gv_seq <| gv_region <| gv_pureN 2 [41, 42] [(42, (.bool (decide (r83 < 0))))] (by kernel_rfl) ?_
         refine gv_nil <| gv_cond (b := (decide (r83 < 0))) (by kernel_rfl) (fun hc89 => ?_) (fun hc89 => ?_)
         ·replace h4 := ite_t hc89 h4
          refine gv_cexit <| gv_exit rfl ?_
          have e := sj h4; subst e
          replace h3 := congrArg some (hR4 _ rfl)
          have e := sj h3; subst e
          refine gv_goal fun a hd hs hok => ?_
          have hB90 := bg hB60 hg67 nb
          have hB91 := bg hB90 hg77 hl72
          have hB92 := bg hB91 hg86 nb
          have hz93 := hz88
          have ap94 : ∀ g, blk (some ⟨b65, 0, none⟩) = some g → ¬ (· = b1) g := fun g e hx => nl ((lowo hbe69) g e) ((ltb hb62) _ hx)
          have hk95 := ((hb62.grown hg67 nb).grown hg77 ap94).grown hg86 nb
          have ap96 : ∀ g, blk (some ⟨b65, 0, none⟩) = some g → ¬ (fun k => blk a48 = some k) g := fun g e hx => nl ((lowo hbe69) g e) ((fun k (hk : blk a48 = some k) => hk63.lt k hk) _ hx)
          have hk97 := ((hk63.grown hg67 (fun _ h => h.elim) nb).grown hg77 (fun _ h => h.elim) (rdnn ap96)).grown hg86 (fun _ h => h.elim) nb
          exact ⟨hB92, hz93, hk95, hk97, hd, hs, ok_pick [0, 3, 4, 5, 6, 7] hok (by kernel_rfl)⟩
         ·replace h4 := ite_f hc89 h4
          refine gv_skip <| gv_region <| gv_pureN 5 [43, 44, 45, 46, 47] [(43, (.int .i64 s58.1)), (44, (.int .i64 r83)), (47, (.int .i64 (IntKind.i64.wrap (18 - (IntKind.i64.wrap (6 * s58.2.2))))))] (by kernel_rfl) ?_
          refine bindE h4 ?_; clear h4; intro _ hx98 h4
          refine gv_shift .shl (t := 3) (kk := .i64) (ky := .i64) (x := r83) (y := (IntKind.i64.wrap (18 - (IntKind.i64.wrap (6 * s58.2.2))))) (shlI .i64 r83 (IntKind.i64.wrap (18 - (IntKind.i64.wrap (6 * s58.2.2))))) [] (fun e => by cases e) rfl rfl rfl (by kernel_rfl) (by kernel_rfl) (nn_spec hx98) (.inl ⟨rfl, rfl⟩) rfl ?_
          refine gv_pureN 4 [6, 7, 49, 50] [(6, (.int .i64 (bwOr .i64 s58.1 (shlI .i64 r83 (IntKind.i64.wrap (18 - (IntKind.i64.wrap (6 * s58.2.2)))))))), (7, (.int .i64 s58.2.2))] (by kernel_rfl) ?_
          refine bindE h4 ?_; clear h4; intro n99 hn100 h4
          refine gv_name (s := 6) (v := (.int .i64 (bwOr .i64 s58.1 (shlI .i64 r83 (IntKind.i64.wrap (18 - (IntKind.i64.wrap (6 * s58.2.2)))))))) (v' := (.int .i64 n99)) (by kernel_rfl) (congrArg (Value.int .i64) (sj hn100)) ?_
          refine gv_nil <| gv_blk <| gv_region <| gv_pureN 2 [30, 51] [(30, (.int .i64 (IntKind.i64.wrap (s58.2.2 + 1))))] (by kernel_rfl) ?_
          refine gv_nil ?_
          have e := sj h4; subst e
          refine gv_goal fun a hd hs hok => ?_
          have hB101 := bg hB60 hg67 nb
          have hB102 := bg hB101 hg77 hl72
          have hB103 := bg hB102 hg86 nb
          have hz104 := hz88
          have ap105 : ∀ g, blk (some ⟨b65, 0, none⟩) = some g → ¬ (· = b1) g := fun g e hx => nl ((lowo hbe69) g e) ((ltb hb62) _ hx)
          have hk106 := ((hb62.grown hg67 nb).grown hg77 ap105).grown hg86 nb
          have ap107 : ∀ g, blk (some ⟨b65, 0, none⟩) = some g → ¬ (fun k => blk a48 = some k) g := fun g e hx => nl ((lowo hbe69) g e) ((fun k (hk : blk a48 = some k) => hk63.lt k hk) _ hx)
          have hk108 := ((hk63.grown hg67 (fun _ h => h.elim) nb).grown hg77 (fun _ h => h.elim) (rdnn ap107)).grown hg86 (fun _ h => h.elim) nb
          exact ⟨(n99, s58.2.2, (IntKind.i64.wrap (s58.2.2 + 1))), rfl, hB103, hz104, hk106, hk108, hd, hs, ok_pick [0, 3, 4, 5, 6, 7, 30] hok (by kernel_rfl)⟩
        ·replace h4 := ite_f hc64 h4
         refine gv_cexit <| gv_exit rfl ?_
         have e := sj h4; subst e
         replace h3 := congrArg some (hR4 _ rfl)
         have e := sj h3; subst e
         refine gv_goal fun a hd hs hok => ?_
         have hz109 := hz61
         exact ⟨hB60, hz109, hb62, hk63, hd, hs, ok_pick [0, 3, 4, 5, 6, 7] hok (by kernel_rfl)⟩
      ·rintro a w57 ⟨hB110, hz111, hb112, hk113, hd, hs, hok⟩
       refine gv_in ?_ hd hs hok
       clear hd hs hok
       have hz114 := (nt hz47 hz111)
       clear hz111 hc55 hb54 ho50 hz47 hB46
       refine gv_seq <| gv_region <| gv_pureN 8 [52, 53, 54, 55, 56, 57, 58, 59] [(54, (.int .u8 (IntKind.u8.wrap (((j56.1).fdiv (2 ^ 16)))))), (57, (.int .u8 (IntKind.u8.wrap (((j56.1).fdiv (2 ^ 8)))))), (59, (.int .u8 (IntKind.u8.wrap (j56.1))))] (by kernel_rfl) ?_
       refine bindE h2 ?_; clear h2; intro b115 hb116 h2
       have hu117 := u8_spec hb116
       refine bindE h2 ?_; clear h2; intro b118 hb119 h2
       have hu120 := u8_spec hb119
       refine bindE h2 ?_; clear h2; intro b121 hb122 h2
       have hu123 := u8_spec hb122
       refine gv_new0 (fun b => .slice (some ⟨b, 0, none⟩) 3 3) #[(.int .u8 (IntKind.u8.wrap (((j56.1).fdiv (2 ^ 16))))), (.int .u8 (IntKind.u8.wrap (((j56.1).fdiv (2 ^ 8))))), (.int .u8 (IntKind.u8.wrap (j56.1)))] 5 (by kernel_rfl) (by kernel_rfl) ?_
       intro b124 w125 hg126 hb127 hbe128 hz129
       have ho130 : Gv.Own bE 5 w125 (fun _ => False) (some ⟨b124, 0, none⟩) 3 ([b115, b118, b121] : List UInt8) := Box.ownE hb127 ⟨[(.int .u8 (IntKind.u8.wrap (((j56.1).fdiv (2 ^ 16)))))], [(.int .u8 (IntKind.u8.wrap (((j56.1).fdiv (2 ^ 8))))), (.int .u8 (IntKind.u8.wrap (j56.1)))], rfl, (by simp only [bE, flat, hu117]), ⟨[(.int .u8 (IntKind.u8.wrap (((j56.1).fdiv (2 ^ 8)))))], [(.int .u8 (IntKind.u8.wrap (j56.1)))], rfl, (by simp only [bE, flat, hu120]), ⟨[(.int .u8 (IntKind.u8.wrap (j56.1)))], [], rfl, (by simp only [bE, flat, hu123]), rfl⟩⟩⟩ (show 3 ≤ maxLen by decide) (fun h => h)
       have hl131 : ∀ g, blk (some ⟨b124, 0, none⟩) = some g → w0.heap.size ≤ g := loo hbe128 hB110.size
       refine gv_pureN 1 [10] [(10, (.slice (some ⟨b124, 0, none⟩) (List.length ([b115, b118, b121] : List UInt8)) 3))] (by kernel_rfl) ?_
       refine gv_nil <| gv_region <| gv_pureN 3 [61, 62, 63] [(61, (.slice a48 (List.length s43.1) c49)), (62, (.slice (some ⟨b124, 0, none⟩) (List.length ([b115, b118, b121] : List UInt8)) 3)), (63, (.int .i64 j56.2))] (by kernel_rfl) ?_
       refine bindE h2 ?_; clear h2; intro x135 hx136 h2
       refine gv_pop bE (t := 22) (e := 5) (xs := ([b115, b118, b121] : List UInt8)) (a := (some ⟨b124, 0, none⟩)) (cap := 3) (lo := none) (hi := (some (.int .i64 j56.2))) j56.2 x135 (fun e => by cases e) rfl rfl rfl (by kernel_rfl) (by kernel_rfl) Tryd.underlying22 (by kernel_rfl) (.inl ⟨rfl, rfl⟩) (.inr ⟨_, rfl⟩) hx136 (ho130.rd (Y := fun k => blk (some ⟨b124, 0, none⟩) = some k) (fun _ h => h.elim) (fun g e => e)).1 ?_
       have ho137 := ho130.pop hx136
       refine bindE h2 ?_; clear h2; intro l138 hx139 h2
       have hk146 := hk113.grown hg126 (fun _ h => h.elim) nb
       refine gv_append bE (t := 22) (ty := 22) (e := 5) (a := a48) (ax := (some ⟨b124, 0, none⟩)) (cap := c49) (cx := 3) (xs := s43.1) (ys := x135) l138 (X := (fun _ => False)) (Y := (fun k => blk (some ⟨b124, 0, none⟩) = some k)) (by decide) rfl rfl (by kernel_rfl) (by kernel_rfl) Tryd.underlying22 info5 hk146 (ho137.rd (Y := fun k => blk (some ⟨b124, 0, none⟩) = some k) (fun _ h => h.elim) (fun g e => e)) hx139 (.inr fun _ _ _ _ _ h => h) (fun _ h => h.elim) ?_
       intro a140 c141 w142 hg143 ho144 hk145
       refine ⟨(fun e => by cases e), ?_⟩
       have hB148 := bg hB110 hg126 nb
       have hl147 : ∀ g, blk a140 = some g → w0.heap.size ≤ g := blk_step hk145 hl51 hB148.size
       have hk150 := hb112.grown hg126 nb
       have ap149 : ∀ g, blk a140 = some g → ¬ (· = b1) g := blk_neX hk145 ap52 (ltb hk150)
       have ap151 : ¬ (fun k => blk a140 = some k) b1 := fun h => blk_rev hk145 (fun h => (ap53) h) (hk150.lt) h
       have ap153 : ∀ g, blk a48 = some g → ¬ (fun k => blk (some ⟨b124, 0, none⟩) = some k) g := fun g e hx => nl ((lowo hbe128) _ hx) ((fun k (hk : blk a48 = some k) => hk113.lt k hk) g e)
       have ap152 : ∀ g, blk a140 = some g → ¬ (fun k => blk (some ⟨b124, 0, none⟩) = some k) g := blk_neX hk145 ap153 (fun k (hk : blk (some ⟨b124, 0, none⟩) = some k) => ho137.lt k hk)
       have ap155 : ∀ g, blk (some ⟨b124, 0, none⟩) = some g → ¬ (fun k => blk a48 = some k) g := fun g e hx => nl ((lowo hbe128) g e) ((fun k (hk : blk a48 = some k) => hk113.lt k hk) _ hx)
       have ap154 : ∀ g, blk (some ⟨b124, 0, none⟩) = some g → ¬ (fun k => blk a140 = some k) g := fun g e h => blk_rev hk145 (fun h => ((ap155) g e) h) (ho137.lt g e) h
       refine gv_pureN 1 [4] [(4, (.slice a140 (List.length l138) c141))] (by kernel_rfl) ?_
       refine gv_nil <| gv_blk <| gv_region <| gv_pureN 3 [5, 28, 29] [(5, (.int .i64 (IntKind.i64.wrap (s43.2 + 4))))] (by kernel_rfl) ?_
       refine gv_nil ?_
       have e := sj h2; subst e
       refine gv_goal fun a hd hs hok => ?_
       have hB156 := bg hB148 hg143 hl51
       have hz157 := (nt (nt hz114 hg126.size) hg143.size)
       have hk158 := hk150.grown hg143 ap52
       exact ⟨(l138, (IntKind.i64.wrap (s43.2 + 4))), rfl, a140, c141, hB156, hz157, ho144, hl147, ap149, ap151, hk158, hd, hs, ok_pick [0, 3, 4, 5] hok (by kernel_rfl)⟩
     ·replace h2 := ite_f hc55 h2
      refine gv_cexit <| gv_exit rfl ?_
      have e := sj h2; subst e
      replace h1 := congrArg some (hR2 _ rfl)
      have e := sj h1; subst e
      refine gv_goal fun a hd hs hok => ?_
      have hz159 := hz47
      exact ⟨a48, c49, hB46, hz159, ho50, hl51, ap52, ap53, hb54, hd, hs, ok_pick [0, 3, 4] hok (by kernel_rfl)⟩
   ·rintro a w42 ⟨a162, c163, hB160, hz161, ho164, hl165, ap166, ap167, hb168, hd, hs, hok⟩
    refine gv_in ?_ hd hs hok
    clear hd hs hok
    clear hz161 hc26 hn25 hc9 hn8 hz6 hb4 hg3
    refine gv_seq <| gv_seq <| gv_region <| gv_pureN 1 [67] [(67, (.slice a162 (List.length j41) c163))] (by kernel_rfl) ?_
    refine bindE h0 ?_; clear h0; intro r169 hr170 h0
    refine gv_call0 (by kernel_rfl) rfl (by kernel_rfl) enters16 (bytestr_Base64_ok fuel a162 c163 j41 w42 (fun k => (fun k => blk a162 = some k) k) (fun k hk => (fun k (hk : blk a162 = some k) => ho164.lt k hk) k hk) ((ho164.rd (Y := fun k => blk a162 = some k) (fun _ h => h.elim) (fun g e => e)).wide (fun k hk => hk)) r169 hr170) ?_
    rintro v173 w171 ⟨hg172, rfl⟩
    refine gv_pureN 3 [66, 69, 70] [(69, (.string r169.1)), (70, (.agg #[(.int .i64 r169.2.1), (.int .i64 r169.2.2)]))] (by kernel_rfl) ?_
    refine gv_new0 (fun b => .pointer (some ⟨b, 0, none⟩)) #[(.int .i64 0), (.int .i64 0)] 25 (by kernel_rfl) (by kernel_rfl) ?_
    intro b174 w175 hg176 hb177 hbe178 hz179
    refine gv_pureN 1 [11] [(11, (.string r169.1))] (by kernel_rfl) ?_
    refine gv_store0 25 0 (.agg #[(.int .i64 r169.2.1), (.int .i64 r169.2.2)]) #[(.int .i64 r169.2.1), (.int .i64 r169.2.2)] hb177 (by kernel_rfl) (by kernel_rfl) (by kernel_rfl) ?_
    intro w180 hg181 hb182 hz183
    refine gv_nil <| gv_seq <| gv_region <| gv_pureN 3 [71, 72, 73] [(73, (.bool (!(r169.1.toList == s_0.toList))))] (by kernel_rfl) ?_
    refine gv_nil <| gv_cond (b := (!(r169.1.toList == s_0.toList))) (by kernel_rfl) (fun hc184 => ?_) (fun hc184 => ?_)
    ·replace h0 := ite_t hc184 h0
     refine gv_seq <| gv_region <| bindE h0 ?_; clear h0; intro r185 hr186 h0
     refine gv_call0 (by kernel_rfl) rfl (by kernel_rfl) enters38 (bytestr_at_ok fuel 1 (-1) w180  r185 hr186) ?_
     rintro v189 w187 ⟨hg188, rfl⟩
     refine gv_pureN 1 [2] [(2, (.slice none (List.length ([] : List UInt8)) 0))] (by kernel_rfl) ?_
     have hg194 := (grown_trans hg172 hg176)
     have hk195 := hb168.grown hg172 nb
     have lt196 := ltl ((ltb hk195) _ rfl) ((lowb hbe178) _ rfl)
     have hk197 := ((hb168.grown hg194 nb).grown hg181 (rowne (ng lt196))).grown hg188 nb
     refine gv_store0 25 0 (.agg #[(.int .i64 r185.1), (.int .i64 r185.2)]) #[(.int .i64 r185.1), (.int .i64 r185.2)] hk197 (by kernel_rfl) (by kernel_rfl) (by kernel_rfl) ?_
     intro w190 hg191 hb192 hz193
     refine gv_nil <| gv_cret ?_
     have e := sj h0; subst e
     refine gv_ret (gv_done [(.slice none (List.length ([] : List UInt8)) 0), (.agg #[(.int .i64 r185.1), (.int .i64 r185.2)])] rfl ⟨(by kernel_rfl), ⟨⟨b1, 0, none⟩, (by kernel_rfl), run_loadVar_row w190 b1 _ 25 _ _ _ hb192 Tryd.underlying25 rfl (by kernel_rfl)⟩, trivial⟩ ?_)
     have hB198 := bg hB160 hg194 nb
     have hB199 := bg hB160 hg172 nb
     have hlo200 : w0.heap.size ≤ b174 := lob hbe178 hB199.size
     have hB201 := bg hB198 hg181 (rowlo hlo200)
     have hB202 := bg hB201 hg188 nb
     have hlo203 : w0.heap.size ≤ b1 := lob hbe5 hB0.size
     have hB204 := bg hB202 hg191 (rowlo hlo203)
     exact ⟨grown_of_below hB204, none, 0, rfl, (Gv.Own.nil bE 5 w190 (fun _ => False)), (fun _ h => by cases h)⟩
    ·replace h0 := ite_f hc184 h0
     refine gv_skip <| gv_seq <| gv_region <| gv_pureN 3 [2, 75, 76] [(2, (.slice a162 (List.length j41) c163)), (76, (.agg #[(.int .i64 0), (.int .i64 0)]))] (by kernel_rfl) ?_
     have hg209 := (grown_trans hg172 hg176)
     have hk210 := hb168.grown hg172 nb
     have lt211 := ltl ((ltb hk210) _ rfl) ((lowb hbe178) _ rfl)
     have hk212 := (hb168.grown hg209 nb).grown hg181 (rowne (ng lt211))
     refine gv_store0 25 0 (.agg #[(.int .i64 0), (.int .i64 0)]) #[(.int .i64 0), (.int .i64 0)] hk212 (by kernel_rfl) (by kernel_rfl) (by kernel_rfl) ?_
     intro w205 hg206 hb207 hz208
     clear hz208 hk212 lt211 hk210 hg209 hc184 hz183 hb182 hz179 hb177 hr170 hb168
     refine gv_nil <| gv_cret ?_
     have e := sj h0; subst e
     refine gv_ret (gv_done [(.slice a162 (List.length j41) c163), (.agg #[(.int .i64 0), (.int .i64 0)])] rfl ⟨(by kernel_rfl), ⟨⟨b1, 0, none⟩, (by kernel_rfl), run_loadVar_row w205 b1 _ 25 _ _ _ hb207 Tryd.underlying25 rfl (by kernel_rfl)⟩, trivial⟩ ?_)
     have hg213 := (grown_trans hg172 hg176)
     have hB214 := bg hB160 hg213 nb
     have hB215 := bg hB160 hg172 nb
     have hlo216 : w0.heap.size ≤ b174 := lob hbe178 hB215.size
     have hB217 := bg hB214 hg181 (rowlo hlo216)
     have hlo218 : w0.heap.size ≤ b1 := lob hbe5 hB0.size
     have hB219 := bg hB217 hg206 (rowlo hlo218)
     have hk220 := ho164.grown hg172 (fun _ h => h.elim) nb
     have ap221 : ¬ (fun k => blk a162 = some k) b174 := fun hx => nl ((lowb hbe178) _ rfl) ((fun k (hk : blk a162 = some k) => hk220.lt k hk) _ hx)
     have hk222 := ((ho164.grown hg213 (fun _ h => h.elim) nb).grown hg181 (fun _ h => h.elim) (rdnn (rowne ap221))).grown hg206 (fun _ h => h.elim) (rdnn (rowne ap167))
     exact ⟨grown_of_below hB219, a162, c163, rfl, hk222, hl165⟩

theorem law4_text_ok (fuel : Nat) (s_0 : ByteArray) (f_1 : (Int × Int)) (want_2 : ByteArray) (w_3 : (Int × Int)) (w0 : World)  (r0 : Bool) (h0 : law4_text fuel s_0 f_1 want_2 w_3 = some r0) :
    Calls Tryd.prog 19 ([(.string s_0), (.agg #[(.int .i64 f_1.1), (.int .i64 f_1.2)]), (.string want_2), (.agg #[(.int .i64 w_3.1), (.int .i64 w_3.2)])] : List Value).toArray w0 (Ret fun v w' => w0.grownBy w' none ∧ v = tup [(.bool r0)]) := by
 have hB0 : Below w0.heap.size w0 w0 := Below.refl _ _
 unfold law4_text at h0
 refine calls_run Tryd.func19 rfl Tryd.ntmps19 (by kernel_rfl) ?_
 refine gv_sub [0, 1, 2, 3] (σ' := [(0, (.string s_0)), (1, (.agg #[(.int .i64 f_1.1), (.int .i64 f_1.2)])), (2, (.string want_2)), (3, (.agg #[(.int .i64 w_3.1), (.int .i64 w_3.2)]))]) (by kernel_rfl) ?_
 refine gv_seq <| gv_region <| gv_new0 (fun b => .pointer (some ⟨b, 0, none⟩)) #[(.int .i64 f_1.1), (.int .i64 f_1.2)] 25 (by kernel_rfl) (by kernel_rfl) ?_
 intro b1 w2 hg3 hb4 hbe5 hz6
 refine gv_new0 (fun b => .pointer (some ⟨b, 0, none⟩)) #[(.int .i64 w_3.1), (.int .i64 w_3.2)] 25 (by kernel_rfl) (by kernel_rfl) ?_
 intro b7 w8 hg9 hb10 hbe11 hz12
 refine gv_pureN 1 [8] [] (by kernel_rfl) ?_
 refine gv_nil <| gv_seq <| gv_seq <| gv_region <| bindE h0 ?_; clear h0; intro j13 h1 h0
 refine gv_cut_ops (J := fun a w14 => Below w0.heap.size w0 w14 ∧ w8.heap.size ≤ w14.heap.size ∧ Box w14 b1 25 #[(.int .i64 f_1.1), (.int .i64 f_1.2)] ∧ Box w14 b7 25 #[(.int .i64 w_3.1), (.int .i64 w_3.2)] ∧ a.defers = [] ∧ a.tmps.size = 36 ∧ Ok [(0, (.string s_0)), (2, (.string want_2)), (5, (bp b1)), (7, (bp b7)), (16, (.bool j13))] a.tmps) ?_ ?_
 ·skip
  refine gv_pureN 1 [9] [(9, (bp b7))] (by kernel_rfl) ?_
  refine gv_load (t := 3) (A := ⟨b7, 0, none⟩) (.int .i64 w_3.1) [] (fun e => by cases e) rfl rfl rfl (by kernel_rfl) (by kernel_rfl) (by kernel_rfl) (inw0 (hb10.cell 0 rfl)) rfl ?_
  refine gv_pureN 2 [11, 12] [(12, (.bool (w_3.1 == 0)))] (by kernel_rfl) ?_
  refine gv_split (s := 12) (g := (w_3.1 == 0)) (by kernel_rfl) (fun hc15 => ?_) (fun hc15 => ?_)
  ·skip
   replace h1 := ite_t hc15 h1
   refine gv_pureN 4 [13, 14, 15, 16] [(16, (.bool (decide (((ByteArray.size want_2 : Nat) : Int) > 4000))))] (by kernel_rfl) ?_
   refine gv_nil ?_
   have e := sj h1; subst e
   refine gv_goal fun a hd hs hok => ?_
   have hg16 := (grown_trans hg3 hg9)
   have hB17 := bg hB0 hg16 nb
   have hk18 := hb4.grown hg9 nb
   exact ⟨hB17, (Nat.le_refl _), hk18, hb10, hd, hs, ok_pick [0, 2, 5, 7, 16] hok (by kernel_rfl)⟩
  ·skip
   replace h1 := ite_f hc15 h1
   refine gv_pureN 4 [13, 14, 15, 16] [(16, (.bool false))] (by kernel_rfl) ?_
   refine gv_nil ?_
   have e := sj h1; subst e
   refine gv_goal fun a hd hs hok => ?_
   have hg19 := (grown_trans hg3 hg9)
   have hB20 := bg hB0 hg19 nb
   have hk21 := hb4.grown hg9 nb
   exact ⟨hB20, (Nat.le_refl _), hk21, hb10, hd, hs, ok_pick [0, 2, 5, 7, 16] hok (by kernel_rfl)⟩
 ·rintro a w14 ⟨hB22, hz23, hb24, hb25, hd, hs, hok⟩
  refine gv_in ?_ hd hs hok
  clear hd hs hok
  clear hz23 hz12 hb10 hg9 hz6
  refine bindE h0 ?_; clear h0; intro j26 h1 h0
  refine gv_cut_code (J := fun a w27 => Below w0.heap.size w0 w27 ∧ w14.heap.size ≤ w27.heap.size ∧ Box w27 b1 25 #[(.int .i64 f_1.1), (.int .i64 f_1.2)] ∧ Box w27 b7 25 #[(.int .i64 j26.1), (.int .i64 j26.2)] ∧ a.defers = [] ∧ a.tmps.size = 36 ∧ Ok [(0, (.string s_0)), (2, (.string want_2)), (5, (bp b1)), (7, (bp b7))] a.tmps) ?_ ?_
  ·skip
   refine gv_cond (b := j13) (by kernel_rfl) (fun hc28 => ?_) (fun hc28 => ?_)
   ·replace h1 := ite_t hc28 h1
    refine gv_region <| bindE h1 ?_; clear h1; intro r29 hr30 h1
    refine gv_call0 (by kernel_rfl) rfl (by kernel_rfl) enters12 (ref4_At_ok fuel 3 (-1) w14  r29 hr30) ?_
    rintro v33 w31 ⟨hg32, rfl⟩
    have hk38 := hb25.grown hg32 nb
    refine gv_store0 25 0 (.agg #[(.int .i64 r29.1), (.int .i64 r29.2)]) #[(.int .i64 r29.1), (.int .i64 r29.2)] hk38 (by kernel_rfl) (by kernel_rfl) (by kernel_rfl) ?_
    intro w34 hg35 hb36 hz37
    refine gv_nil ?_
    have e := sj h1; subst e
    refine gv_goal fun a hd hs hok => ?_
    have hB39 := bg hB22 hg32 nb
    have hB40 := bg hB0 hg3 nb
    have hlo41 : w0.heap.size ≤ b7 := lob hbe11 hB40.size
    have hB42 := bg hB39 hg35 (rowlo hlo41)
    have hz43 := (nt hg32.size hg35.size)
    have lt44 := ltl ((ltb hb4) _ rfl) ((lowb hbe11) _ rfl)
    have hk45 := (hb24.grown hg32 nb).grown hg35 (rowne (ng lt44))
    exact ⟨hB42, hz43, hk45, hb36, hd, hs, ok_pick [0, 2, 5, 7] hok (by kernel_rfl)⟩
   ·replace h1 := ite_f hc28 h1
    refine gv_skip ?_
    have e := sj h1; subst e
    refine gv_goal fun a hd hs hok => ?_
    exact ⟨hB22, (Nat.le_refl _), hb24, hb25, hd, hs, ok_pick [0, 2, 5, 7] hok (by kernel_rfl)⟩
  ·rintro a w27 ⟨hB46, hz47, hb48, hb49, hd, hs, hok⟩
   refine gv_in ?_ hd hs hok
   clear hd hs hok
   clear hz47 hb25 hb24 hB22
   refine gv_seq <| gv_seq <| gv_region <| gv_pureN 1 [18] [(18, (bp b7))] (by kernel_rfl) ?_
   refine gv_load (t := 3) (A := ⟨b7, 0, none⟩) (.int .i64 j26.1) [] (fun e => by cases e) rfl rfl rfl (by kernel_rfl) (by kernel_rfl) (by kernel_rfl) (inw0 (hb49.cell 0 rfl)) rfl ?_
   refine gv_pureN 1 [20] [(20, (.bool (j26.1 != 0)))] (by kernel_rfl) ?_
   refine gv_nil <| gv_cond (b := (j26.1 != 0)) (by kernel_rfl) (fun hc50 => ?_) (fun hc50 => ?_)
   ·replace h0 := ite_t hc50 h0
    refine gv_seq <| gv_region <| bindE h0 ?_; clear h0; intro j51 h1 h0
    refine gv_cut_ops (J := fun a w52 => Below w0.heap.size w0 w52 ∧ w27.heap.size ≤ w52.heap.size ∧ a.defers = [] ∧ a.tmps.size = 36 ∧ Ok [(8, (.bool j51))] a.tmps) ?_ ?_
    ·skip
     refine gv_loadBox (t := 25) (b := b1) (t' := 25) (fr := (0, 0)) #[(.int .i64 f_1.1), (.int .i64 f_1.2)] [] (fun e => by cases e) rfl rfl rfl (by kernel_rfl) (by kernel_rfl) (by kernel_rfl) (by kernel_rfl) (inw0 hb48) rfl ?_
     refine gv_loadBox (t := 25) (b := b7) (t' := 25) (fr := (0, 0)) #[(.int .i64 j26.1), (.int .i64 j26.2)] [] (fun e => by cases e) rfl rfl rfl (by kernel_rfl) (by kernel_rfl) (by kernel_rfl) (by kernel_rfl) (inw0 hb49) rfl ?_
     refine gv_eqs (t := 25) (op := .eql) (x := (.tmp 21)) (y := (.tmp 22)) (xs := #[(.int .i64 f_1.1), (.int .i64 f_1.2)]) (ys := #[(.int .i64 j26.1), (.int .i64 j26.2)]) ((f_1.1 == j26.1) && (f_1.2 == j26.2)) [] (fun e => by cases e) rfl rfl rfl (by kernel_rfl) (by kernel_rfl) (fun w' => eqs25eql f_1.1 f_1.2 j26.1 j26.2 _ _ w') rfl ?_
     refine gv_pureN 1 [24] [(24, (.bool ((f_1.1 == j26.1) && (f_1.2 == j26.2))))] (by kernel_rfl) ?_
     refine gv_split (s := 24) (g := ((f_1.1 == j26.1) && (f_1.2 == j26.2))) (by kernel_rfl) (fun hc53 => ?_) (fun hc53 => ?_)
     ·skip
      replace h1 := ite_t hc53 h1
      refine gv_pureN 4 [8, 25, 26, 27] [(8, (.bool (s_0.toList == (strOf []).toList)))] (by kernel_rfl) ?_
      refine gv_nil ?_
      have e := sj h1; subst e
      refine gv_goal fun a hd hs hok => ?_
      exact ⟨hB46, (Nat.le_refl _), hd, hs, ok_pick [8] hok (by kernel_rfl)⟩
     ·skip
      replace h1 := ite_f hc53 h1
      refine gv_pureN 4 [8, 25, 26, 27] [(8, (.bool false))] (by kernel_rfl) ?_
      refine gv_nil ?_
      have e := sj h1; subst e
      refine gv_goal fun a hd hs hok => ?_
      exact ⟨hB46, (Nat.le_refl _), hd, hs, ok_pick [8] hok (by kernel_rfl)⟩
    ·rintro a w52 ⟨hB54, hz55, hd, hs, hok⟩
     refine gv_in ?_ hd hs hok
     clear hd hs hok
     clear hz55 hc50 hb49 hb48 hB46 hbe11 hbe5 hb4 hg3
     refine gv_cret ?_
     have e := sj h0; subst e
     refine gv_ret (gv_done [(.bool j51)] rfl ⟨(by kernel_rfl), trivial⟩ ?_)
     exact ⟨grown_of_below hB54, rfl⟩
   ·replace h0 := ite_f hc50 h0
    refine gv_skip <| gv_seq <| gv_region <| bindE h0 ?_; clear h0; intro j56 h1 h0
    refine gv_cut_ops (J := fun a w57 => Below w0.heap.size w0 w57 ∧ w27.heap.size ≤ w57.heap.size ∧ a.defers = [] ∧ a.tmps.size = 36 ∧ Ok [(8, (.bool j56))] a.tmps) ?_ ?_
    ·skip
     refine gv_loadBox (t := 25) (b := b1) (t' := 25) (fr := (0, 0)) #[(.int .i64 f_1.1), (.int .i64 f_1.2)] [] (fun e => by cases e) rfl rfl rfl (by kernel_rfl) (by kernel_rfl) (by kernel_rfl) (by kernel_rfl) (inw0 hb48) rfl ?_
     refine gv_loadBox (t := 25) (b := b7) (t' := 25) (fr := (0, 0)) #[(.int .i64 j26.1), (.int .i64 j26.2)] [] (fun e => by cases e) rfl rfl rfl (by kernel_rfl) (by kernel_rfl) (by kernel_rfl) (by kernel_rfl) (inw0 hb49) rfl ?_
     refine gv_eqs (t := 25) (op := .eql) (x := (.tmp 28)) (y := (.tmp 29)) (xs := #[(.int .i64 f_1.1), (.int .i64 f_1.2)]) (ys := #[(.int .i64 j26.1), (.int .i64 j26.2)]) ((f_1.1 == j26.1) && (f_1.2 == j26.2)) [] (fun e => by cases e) rfl rfl rfl (by kernel_rfl) (by kernel_rfl) (fun w' => eqs25eql f_1.1 f_1.2 j26.1 j26.2 _ _ w') rfl ?_
     refine gv_pureN 1 [31] [(31, (.bool ((f_1.1 == j26.1) && (f_1.2 == j26.2))))] (by kernel_rfl) ?_
     refine gv_split (s := 31) (g := ((f_1.1 == j26.1) && (f_1.2 == j26.2))) (by kernel_rfl) (fun hc58 => ?_) (fun hc58 => ?_)
     ·skip
      replace h1 := ite_t hc58 h1
      refine gv_pureN 5 [8, 32, 33, 34, 35] [(8, (.bool (s_0.toList == want_2.toList)))] (by kernel_rfl) ?_
      refine gv_nil ?_
      have e := sj h1; subst e
      refine gv_goal fun a hd hs hok => ?_
      exact ⟨hB46, (Nat.le_refl _), hd, hs, ok_pick [8] hok (by kernel_rfl)⟩
     ·skip
      replace h1 := ite_f hc58 h1
      refine gv_pureN 5 [8, 32, 33, 34, 35] [(8, (.bool false))] (by kernel_rfl) ?_
      refine gv_nil ?_
      have e := sj h1; subst e
      refine gv_goal fun a hd hs hok => ?_
      exact ⟨hB46, (Nat.le_refl _), hd, hs, ok_pick [8] hok (by kernel_rfl)⟩
    ·rintro a w57 ⟨hB59, hz60, hd, hs, hok⟩
     refine gv_in ?_ hd hs hok
     clear hd hs hok
     clear hz60 hc50 hb49 hb48 hB46 hbe11 hbe5 hb4 hg3
     refine gv_cret ?_
     have e := sj h0; subst e
     refine gv_ret (gv_done [(.bool j56)] rfl ⟨(by kernel_rfl), trivial⟩ ?_)
     exact ⟨grown_of_below hB59, rfl⟩

theorem ref4_Sixties_ok (fuel : Nat) (pa0_0 : Option Addr) (pc0_0 : Nat) (b_0 : (List UInt8)) (w0 : World) (X0 : Nat → Prop) (hX0 : ∀ k, X0 k → k < w0.heap.size) (hpa0_0 : Rd bE w0 X0 pa0_0 pc0_0 b_0) (r0 : ByteArray) (h0 : ref4_Sixties fuel b_0 = some r0) :
    Calls Tryd.prog 20 ([(.slice pa0_0 (List.length b_0) pc0_0)] : List Value).toArray w0 (Ret fun v w' => w0.grownBy w' none ∧ v = tup [(.string r0)]) := by
 have hB0 : Below w0.heap.size w0 w0 := Below.refl _ _
 unfold ref4_Sixties at h0
 refine calls_run Tryd.func20 rfl Tryd.ntmps20 (by kernel_rfl) ?_
 refine gv_sub [0] (σ' := [(0, (.slice pa0_0 (List.length b_0) pc0_0))]) (by kernel_rfl) ?_
 refine gv_seq <| gv_region <| gv_pureN 1 [2] [] (by kernel_rfl) ?_
 refine gv_nil <| gv_seq <| gv_region <| gv_pureN 1 [3] [(3, (.slice none (List.length ([] : List Int)) 0))] (by kernel_rfl) ?_
 refine gv_nil <| gv_seq <| gv_seq <| gv_region <| gv_pureN 1 [4] [(4, (.int .i64 0))] (by kernel_rfl) ?_
 refine gv_nil <| bindE h0 ?_; clear h0; intro j1 h1 h0
 refine gv_cut_code (J := fun a w2 => ∃ (a3_0j : Option Addr) (c3_0j : Nat), Below w0.heap.size w0 w2 ∧ w0.heap.size ≤ w2.heap.size ∧ Gv.Own (iE .i64) 3 w2 (fun _ => False) a3_0j c3_0j j1 ∧ (∀ g, blk a3_0j = some g → w0.heap.size ≤ g) ∧ a.defers = [] ∧ a.tmps.size = 70 ∧ Ok [(3, (.slice a3_0j (List.length j1) c3_0j))] a.tmps) ?_ ?_
 ·skip
  refine gv_block <| gv_loop (A := fun (s3 : ((List Int) × Int)) a w4 => ∃ (a3_0j : Option Addr) (c3_0j : Nat), Below w0.heap.size w0 w4 ∧ w0.heap.size ≤ w4.heap.size ∧ Gv.Own (iE .i64) 3 w4 (fun _ => False) a3_0j c3_0j s3.1 ∧ (∀ g, blk a3_0j = some g → w0.heap.size ≤ g) ∧ a.defers = [] ∧ a.tmps.size = 70 ∧ Ok [(0, (.slice pa0_0 (List.length b_0) pc0_0)), (3, (.slice a3_0j (List.length s3.1) c3_0j)), (4, (.int .i64 s3.2))] a.tmps) h1 ?_ ?_
  ·intro a hd hs hok
   exact ⟨none, 0, hB0, (Nat.le_refl _), (Gv.Own.nil (iE .i64) 3 w0 (fun _ => False)), (fun _ h => by cases h), hd, hs, ok_pick [0, 3, 4] hok (by kernel_rfl)⟩
  ·rintro s3 r2 h2 hR2 a w4 ⟨a7, c8, hB5, hz6, ho9, hl10, hd, hs, hok⟩
   refine gv_in ?_ hd hs hok
   clear hd hs hok
   refine gv_seq <| gv_seq <| gv_region <| gv_pureN 4 [10, 11, 12, 13] [(13, (.bool (decide (s3.2 < ((List.length b_0 : Nat) : Int)))))] (by kernel_rfl) ?_
   refine gv_nil <| gv_cond (b := (decide (s3.2 < ((List.length b_0 : Nat) : Int)))) (by kernel_rfl) (fun hc11 => ?_) (fun hc11 => ?_)
   ·replace h2 := ite_t hc11 h2
    refine gv_skip <| gv_seq <| gv_block <| gv_seq <| gv_region <| gv_pureN 1 [5] [(5, (.int .i64 7))] (by kernel_rfl) ?_
    refine gv_nil <| bindE h2 ?_; clear h2; intro j12 h3 h2
    refine gv_cut_code (J := fun a w13 => ∃ (a3_0j : Option Addr) (c3_0j : Nat), Below w0.heap.size w0 w13 ∧ w4.heap.size ≤ w13.heap.size ∧ Gv.Own (iE .i64) 3 w13 (fun _ => False) a3_0j c3_0j j12 ∧ (∀ g, blk a3_0j = some g → w0.heap.size ≤ g) ∧ a.defers = [] ∧ a.tmps.size = 70 ∧ Ok [(0, (.slice pa0_0 (List.length b_0) pc0_0)), (3, (.slice a3_0j (List.length j12) c3_0j)), (4, (.int .i64 s3.2))] a.tmps) ?_ ?_
    ·skip
     refine gv_block <| gv_loop (A := fun (s14 : ((List Int) × Int)) a w15 => ∃ (a3_0j : Option Addr) (c3_0j : Nat), Below w0.heap.size w0 w15 ∧ w4.heap.size ≤ w15.heap.size ∧ Gv.Own (iE .i64) 3 w15 (fun _ => False) a3_0j c3_0j s14.1 ∧ (∀ g, blk a3_0j = some g → w0.heap.size ≤ g) ∧ a.defers = [] ∧ a.tmps.size = 70 ∧ Ok [(0, (.slice pa0_0 (List.length b_0) pc0_0)), (3, (.slice a3_0j (List.length s14.1) c3_0j)), (4, (.int .i64 s3.2)), (5, (.int .i64 s14.2))] a.tmps) h3 ?_ ?_
     ·intro a hd hs hok
      exact ⟨a7, c8, hB5, (Nat.le_refl _), ho9, hl10, hd, hs, ok_pick [0, 3, 4, 5] hok (by kernel_rfl)⟩
     ·rintro s14 r4 h4 hR4 a w15 ⟨a18, c19, hB16, hz17, ho20, hl21, hd, hs, hok⟩
      refine gv_in ?_ hd hs hok
      clear hd hs hok
      clear hc11 hl10 ho9 hB5
      refine gv_seq <| gv_seq <| gv_region <| gv_pureN 2 [16, 17] [(17, (.bool (decide (s14.2 ≥ 0))))] (by kernel_rfl) ?_
      refine gv_nil <| gv_cond (b := (decide (s14.2 ≥ 0))) (by kernel_rfl) (fun hc22 => ?_) (fun hc22 => ?_)
      ·replace h4 := ite_t hc22 h4
       refine gv_skip <| gv_seq <| gv_block <| gv_region <| gv_pureN 3 [20, 21, 22] [(20, (.slice a18 (List.length s14.1) c19)), (21, (.slice pa0_0 (List.length b_0) pc0_0)), (22, (.int .i64 s3.2))] (by kernel_rfl) ?_
       refine bindE h4 ?_; clear h4; intro x23 hx24 h4
       refine gv_idxaddr (t := 22) (e := 5) (a := pa0_0) (len := List.length b_0) (cap := pc0_0) (kk := .i64) (i := s3.2) (sz := 1) [] (fun e => by cases e) rfl rfl rfl (by kernel_rfl) (by kernel_rfl) Tryd.underlying22 (by kernel_rfl) ((hpa0_0.below hB16 hX0).has hx24) (idx_spec hx24).1 (idx_spec hx24).2.1 rfl ?_
       refine gv_load (t := 5) (A := (elemAddr pa0_0 ((s3.2 : Int).toNat * 1))) (.int .u8 ((x23).toNat : Int)) [] (fun e => by cases e) rfl rfl rfl (by kernel_rfl) (by kernel_rfl) (by kernel_rfl) (inw0 ((hpa0_0.below hB16 hX0).cell hx24)) rfl ?_
       refine gv_pureN 2 [25, 26] [(25, (.int .i64 (IntKind.i64.wrap (((x23).toNat : Int))))), (26, (.int .i64 s14.2))] (by kernel_rfl) ?_
       refine bindE h4 ?_; clear h4; intro _ hx25 h4
       refine gv_shift .shr (t := 3) (kk := .i64) (ky := .i64) (x := (IntKind.i64.wrap (((x23).toNat : Int)))) (y := s14.2) (shrI .i64 (IntKind.i64.wrap (((x23).toNat : Int))) s14.2) [] (fun e => by cases e) rfl rfl rfl (by kernel_rfl) (by kernel_rfl) (nn_spec hx25) (.inr ⟨rfl, rfl⟩) rfl ?_
       refine gv_pureN 1 [28] [(28, (.int .i64 (bwAnd .i64 (shrI .i64 (IntKind.i64.wrap (((x23).toNat : Int))) s14.2) 1)))] (by kernel_rfl) ?_
       refine gv_new0 (fun b => .slice (some ⟨b, 0, none⟩) 1 1) #[(.int .i64 (bwAnd .i64 (shrI .i64 (IntKind.i64.wrap (((x23).toNat : Int))) s14.2) 1))] 3 (by kernel_rfl) (by kernel_rfl) ?_
       intro b26 w27 hg28 hb29 hbe30 hz31
       have ho32 : Gv.Own (iE .i64) 3 w27 (fun _ => False) (some ⟨b26, 0, none⟩) 1 ([(bwAnd .i64 (shrI .i64 (IntKind.i64.wrap (((x23).toNat : Int))) s14.2) 1)] : List Int) := Box.ownE hb29 ⟨[(.int .i64 (bwAnd .i64 (shrI .i64 (IntKind.i64.wrap (((x23).toNat : Int))) s14.2) 1))], [], rfl, rfl, rfl⟩ (show 1 ≤ maxLen by decide) (fun h => h)
       have hl33 : ∀ g, blk (some ⟨b26, 0, none⟩) = some g → w0.heap.size ≤ g := loo hbe30 hB16.size
       refine bindE h4 ?_; clear h4; intro l37 hx38 h4
       have hk45 := ho20.grown hg28 (fun _ h => h.elim) nb
       refine gv_append (iE .i64) (t := 45) (ty := 45) (e := 3) (a := a18) (ax := (some ⟨b26, 0, none⟩)) (cap := c19) (cx := 1) (xs := s14.1) (ys := ([(bwAnd .i64 (shrI .i64 (IntKind.i64.wrap (((x23).toNat : Int))) s14.2) 1)] : List Int)) l37 (X := (fun _ => False)) (Y := (fun k => blk (some ⟨b26, 0, none⟩) = some k)) (by decide) rfl rfl (by kernel_rfl) (by kernel_rfl) Tryd.underlying45 info3 hk45 (ho32.rd (Y := fun k => blk (some ⟨b26, 0, none⟩) = some k) (fun _ h => h.elim) (fun g e => e)) hx38 (.inr fun _ _ _ _ _ h => h) (fun _ h => h.elim) ?_
       intro a39 c40 w41 hg42 ho43 hk44
       refine ⟨(fun e => by cases e), ?_⟩
       have hB47 := bg hB16 hg28 nb
       have hl46 : ∀ g, blk a39 = some g → w0.heap.size ≤ g := blk_step hk44 hl21 hB47.size
       have ap49 : ∀ g, blk a18 = some g → ¬ (fun k => blk (some ⟨b26, 0, none⟩) = some k) g := fun g e hx => nl ((lowo hbe30) _ hx) ((fun k (hk : blk a18 = some k) => ho20.lt k hk) g e)
       have ap48 : ∀ g, blk a39 = some g → ¬ (fun k => blk (some ⟨b26, 0, none⟩) = some k) g := blk_neX hk44 ap49 (fun k (hk : blk (some ⟨b26, 0, none⟩) = some k) => ho32.lt k hk)
       have ap51 : ∀ g, blk (some ⟨b26, 0, none⟩) = some g → ¬ (fun k => blk a18 = some k) g := fun g e hx => nl ((lowo hbe30) g e) ((fun k (hk : blk a18 = some k) => ho20.lt k hk) _ hx)
       have ap50 : ∀ g, blk (some ⟨b26, 0, none⟩) = some g → ¬ (fun k => blk a39 = some k) g := fun g e h => blk_rev hk44 (fun h => ((ap51) g e) h) (ho32.lt g e) h
       refine gv_pureN 1 [3] [(3, (.slice a39 (List.length l37) c40))] (by kernel_rfl) ?_
       refine gv_nil <| gv_blk <| gv_region <| gv_pureN 3 [5, 18, 19] [(5, (.int .i64 (IntKind.i64.wrap (s14.2 - 1))))] (by kernel_rfl) ?_
       refine gv_nil ?_
       have e := sj h4; subst e
       refine gv_goal fun a hd hs hok => ?_
       have hB52 := bg hB47 hg42 hl21
       have hz53 := (nt (nt hz17 hg28.size) hg42.size)
       exact ⟨(l37, (IntKind.i64.wrap (s14.2 - 1))), rfl, a39, c40, hB52, hz53, ho43, hl46, hd, hs, ok_pick [0, 3, 4, 5] hok (by kernel_rfl)⟩
      ·replace h4 := ite_f hc22 h4
       refine gv_cexit <| gv_exit rfl ?_
       have e := sj h4; subst e
       replace h3 := congrArg some (hR4 _ rfl)
       have e := sj h3; subst e
       refine gv_goal fun a hd hs hok => ?_
       have hz54 := hz17
       exact ⟨a18, c19, hB16, hz54, ho20, hl21, hd, hs, ok_pick [0, 3, 4] hok (by kernel_rfl)⟩
    ·rintro a w13 ⟨a57, c58, hB55, hz56, ho59, hl60, hd, hs, hok⟩
     refine gv_in ?_ hd hs hok
     clear hd hs hok
     have hz61 := (nt hz6 hz56)
     clear hz56 hc11 hl10 ho9 hz6 hB5
     refine gv_blk <| gv_region <| gv_pureN 3 [4, 14, 15] [(4, (.int .i64 (IntKind.i64.wrap (s3.2 + 1))))] (by kernel_rfl) ?_
     refine gv_nil ?_
     have e := sj h2; subst e
     refine gv_goal fun a hd hs hok => ?_
     have hz62 := hz61
     exact ⟨(j12, (IntKind.i64.wrap (s3.2 + 1))), rfl, a57, c58, hB55, hz62, ho59, hl60, hd, hs, ok_pick [0, 3, 4] hok (by kernel_rfl)⟩
   ·replace h2 := ite_f hc11 h2
    refine gv_cexit <| gv_exit rfl ?_
    have e := sj h2; subst e
    replace h1 := congrArg some (hR2 _ rfl)
    have e := sj h1; subst e
    refine gv_goal fun a hd hs hok => ?_
    have hz63 := hz6
    exact ⟨a7, c8, hB5, hz63, ho9, hl10, hd, hs, ok_pick [3] hok (by kernel_rfl)⟩
 ·rintro a w2 ⟨a66, c67, hB64, hz65, ho68, hl69, hd, hs, hok⟩
  refine gv_in ?_ hd hs hok
  clear hd hs hok
  refine gv_seq <| bindE h0 ?_; clear h0; intro j70 h1 h0
  refine gv_cut_code (J := fun a w71 => ∃ (a3_0j : Option Addr) (c3_0j : Nat), Below w0.heap.size w0 w71 ∧ w2.heap.size ≤ w71.heap.size ∧ Gv.Own (iE .i64) 3 w71 (fun _ => False) a3_0j c3_0j j70 ∧ (∀ g, blk a3_0j = some g → w0.heap.size ≤ g) ∧ a.defers = [] ∧ a.tmps.size = 70 ∧ Ok [(3, (.slice a3_0j (List.length j70) c3_0j))] a.tmps) ?_ ?_
  ·skip
   refine gv_block <| gv_loop (A := fun (s72 : (List Int)) a w73 => ∃ (a3_0j : Option Addr) (c3_0j : Nat), Below w0.heap.size w0 w73 ∧ w2.heap.size ≤ w73.heap.size ∧ Gv.Own (iE .i64) 3 w73 (fun _ => False) a3_0j c3_0j s72 ∧ (∀ g, blk a3_0j = some g → w0.heap.size ≤ g) ∧ a.defers = [] ∧ a.tmps.size = 70 ∧ Ok [(3, (.slice a3_0j (List.length s72) c3_0j))] a.tmps) h1 ?_ ?_
   ·intro a hd hs hok
    exact ⟨a66, c67, hB64, (Nat.le_refl _), ho68, hl69, hd, hs, ok_pick [3] hok (by kernel_rfl)⟩
   ·rintro s72 r2 h2 hR2 a w73 ⟨a76, c77, hB74, hz75, ho78, hl79, hd, hs, hok⟩
    refine gv_in ?_ hd hs hok
    clear hd hs hok
    clear hl69 ho68 hz65 hB64
    refine gv_seq <| gv_seq <| gv_region <| gv_pureN 4 [31, 32, 33, 34] [(34, (.bool (((((List.length s72 : Nat) : Int)).tmod 6) != 0)))] (by kernel_rfl) ?_
    refine gv_nil <| gv_cond (b := (((((List.length s72 : Nat) : Int)).tmod 6) != 0)) (by kernel_rfl) (fun hc80 => ?_) (fun hc80 => ?_)
    ·replace h2 := ite_t hc80 h2
     refine gv_skip <| gv_block <| gv_region <| gv_pureN 1 [35] [(35, (.slice a76 (List.length s72) c77))] (by kernel_rfl) ?_
     refine gv_new0 (fun b => .slice (some ⟨b, 0, none⟩) 1 1) #[(.int .i64 0)] 3 (by kernel_rfl) (by kernel_rfl) ?_
     intro b81 w82 hg83 hb84 hbe85 hz86
     have ho87 : Gv.Own (iE .i64) 3 w82 (fun _ => False) (some ⟨b81, 0, none⟩) 1 ([0] : List Int) := Box.ownE hb84 ⟨[(.int .i64 0)], [], rfl, rfl, rfl⟩ (show 1 ≤ maxLen by decide) (fun h => h)
     have hl88 : ∀ g, blk (some ⟨b81, 0, none⟩) = some g → w0.heap.size ≤ g := loo hbe85 hB74.size
     refine bindE h2 ?_; clear h2; intro l92 hx93 h2
     have hk100 := ho78.grown hg83 (fun _ h => h.elim) nb
     refine gv_append (iE .i64) (t := 45) (ty := 45) (e := 3) (a := a76) (ax := (some ⟨b81, 0, none⟩)) (cap := c77) (cx := 1) (xs := s72) (ys := ([0] : List Int)) l92 (X := (fun _ => False)) (Y := (fun k => blk (some ⟨b81, 0, none⟩) = some k)) (by decide) rfl rfl (by kernel_rfl) (by kernel_rfl) Tryd.underlying45 info3 hk100 (ho87.rd (Y := fun k => blk (some ⟨b81, 0, none⟩) = some k) (fun _ h => h.elim) (fun g e => e)) hx93 (.inr fun _ _ _ _ _ h => h) (fun _ h => h.elim) ?_
     intro a94 c95 w96 hg97 ho98 hk99
     refine ⟨(fun e => by cases e), ?_⟩
     have hB102 := bg hB74 hg83 nb
     have hl101 : ∀ g, blk a94 = some g → w0.heap.size ≤ g := blk_step hk99 hl79 hB102.size
     have ap104 : ∀ g, blk a76 = some g → ¬ (fun k => blk (some ⟨b81, 0, none⟩) = some k) g := fun g e hx => nl ((lowo hbe85) _ hx) ((fun k (hk : blk a76 = some k) => ho78.lt k hk) g e)
     have ap103 : ∀ g, blk a94 = some g → ¬ (fun k => blk (some ⟨b81, 0, none⟩) = some k) g := blk_neX hk99 ap104 (fun k (hk : blk (some ⟨b81, 0, none⟩) = some k) => ho87.lt k hk)
     have ap106 : ∀ g, blk (some ⟨b81, 0, none⟩) = some g → ¬ (fun k => blk a76 = some k) g := fun g e hx => nl ((lowo hbe85) g e) ((fun k (hk : blk a76 = some k) => ho78.lt k hk) _ hx)
     have ap105 : ∀ g, blk (some ⟨b81, 0, none⟩) = some g → ¬ (fun k => blk a94 = some k) g := fun g e h => blk_rev hk99 (fun h => ((ap106) g e) h) (ho87.lt g e) h
     refine gv_pureN 1 [3] [(3, (.slice a94 (List.length l92) c95))] (by kernel_rfl) ?_
     refine gv_nil <| gv_blk ?_
     have e := sj h2; subst e
     refine gv_goal fun a hd hs hok => ?_
     have hB107 := bg hB102 hg97 hl79
     have hz108 := (nt (nt hz75 hg83.size) hg97.size)
     exact ⟨l92, rfl, a94, c95, hB107, hz108, ho98, hl101, hd, hs, ok_pick [3] hok (by kernel_rfl)⟩
    ·replace h2 := ite_f hc80 h2
     refine gv_cexit <| gv_exit rfl ?_
     have e := sj h2; subst e
     replace h1 := congrArg some (hR2 _ rfl)
     have e := sj h1; subst e
     refine gv_goal fun a hd hs hok => ?_
     have hz109 := hz75
     exact ⟨a76, c77, hB74, hz109, ho78, hl79, hd, hs, ok_pick [3] hok (by kernel_rfl)⟩
  ·rintro a w71 ⟨a112, c113, hB110, hz111, ho114, hl115, hd, hs, hok⟩
   refine gv_in ?_ hd hs hok
   clear hd hs hok
   clear hz111 hl69 ho68 hz65 hB64
   refine gv_seq <| gv_region <| gv_pureN 1 [6] [(6, (.string (strOf [])))] (by kernel_rfl) ?_
   refine gv_nil <| gv_seq <| gv_seq <| gv_region <| gv_pureN 1 [7] [(7, (.int .i64 0))] (by kernel_rfl) ?_
   refine gv_nil <| bindE h0 ?_; clear h0; intro j116 h1 h0
   refine gv_cut_code (J := fun a w117 => Below w0.heap.size w0 w117 ∧ w71.heap.size ≤ w117.heap.size ∧ a.defers = [] ∧ a.tmps.size = 70 ∧ Ok [(6, (.string j116))] a.tmps) ?_ ?_
   ·skip
    refine gv_block <| gv_loop (A := fun (s118 : (ByteArray × Int)) a w119 => Below w0.heap.size w0 w119 ∧ w71.heap.size ≤ w119.heap.size ∧ Gv.Own (iE .i64) 3 w119 (fun _ => False) a112 c113 j70 ∧ a.defers = [] ∧ a.tmps.size = 70 ∧ Ok [(3, (.slice a112 (List.length j70) c113)), (6, (.string s118.1)), (7, (.int .i64 s118.2))] a.tmps) h1 ?_ ?_
    ·intro a hd hs hok
     exact ⟨hB110, (Nat.le_refl _), ho114, hd, hs, ok_pick [3, 6, 7] hok (by kernel_rfl)⟩
    ·rintro s118 r2 h2 hR2 a w119 ⟨hB120, hz121, hk122, hd, hs, hok⟩
     refine gv_in ?_ hd hs hok
     clear hd hs hok
     refine gv_seq <| gv_seq <| gv_region <| gv_pureN 4 [38, 39, 40, 41] [(41, (.bool (decide (s118.2 < ((List.length j70 : Nat) : Int)))))] (by kernel_rfl) ?_
     refine gv_nil <| gv_cond (b := (decide (s118.2 < ((List.length j70 : Nat) : Int)))) (by kernel_rfl) (fun hc123 => ?_) (fun hc123 => ?_)
     ·replace h2 := ite_t hc123 h2
      refine gv_skip <| gv_seq <| gv_block <| gv_seq <| gv_region <| gv_pureN 1 [8] [(8, (.int .i64 0))] (by kernel_rfl) ?_
      refine gv_nil <| gv_seq <| gv_seq <| gv_region <| gv_pureN 1 [9] [(9, (.int .i64 0))] (by kernel_rfl) ?_
      refine gv_nil <| bindE h2 ?_; clear h2; intro j124 h3 h2
      refine gv_cut_code (J := fun a w125 => Below w0.heap.size w0 w125 ∧ w119.heap.size ≤ w125.heap.size ∧ Gv.Own (iE .i64) 3 w125 (fun _ => False) a112 c113 j70 ∧ a.defers = [] ∧ a.tmps.size = 70 ∧ Ok [(3, (.slice a112 (List.length j70) c113)), (6, (.string s118.1)), (7, (.int .i64 s118.2)), (8, (.int .i64 j124))] a.tmps) ?_ ?_
      ·skip
       refine gv_block <| gv_loop (A := fun (s126 : (Int × Int)) a w127 => Below w0.heap.size w0 w127 ∧ w119.heap.size ≤ w127.heap.size ∧ Gv.Own (iE .i64) 3 w127 (fun _ => False) a112 c113 j70 ∧ a.defers = [] ∧ a.tmps.size = 70 ∧ Ok [(3, (.slice a112 (List.length j70) c113)), (6, (.string s118.1)), (7, (.int .i64 s118.2)), (8, (.int .i64 s126.1)), (9, (.int .i64 s126.2))] a.tmps) h3 ?_ ?_
       ·intro a hd hs hok
        exact ⟨hB120, (Nat.le_refl _), hk122, hd, hs, ok_pick [3, 6, 7, 8, 9] hok (by kernel_rfl)⟩
       ·rintro s126 r4 h4 hR4 a w127 ⟨hB128, hz129, hk130, hd, hs, hok⟩
        refine gv_in ?_ hd hs hok
        clear hd hs hok
        clear hc123 hk122 hB120 ho114 hB110
        refine gv_seq <| gv_seq <| gv_region <| gv_pureN 2 [44, 45] [(45, (.bool (decide (s126.2 < 6))))] (by kernel_rfl) ?_
        refine gv_nil <| gv_cond (b := (decide (s126.2 < 6))) (by kernel_rfl) (fun hc131 => ?_) (fun hc131 => ?_)
        ·replace h4 := ite_t hc131 h4
         refine gv_skip <| gv_seq <| gv_block <| gv_region <| gv_pureN 6 [48, 49, 50, 51, 52, 53] [(49, (.int .i64 (IntKind.i64.wrap (2 * s126.1)))), (50, (.slice a112 (List.length j70) c113)), (53, (.int .i64 (IntKind.i64.wrap (s118.2 + s126.2))))] (by kernel_rfl) ?_
         refine bindE h4 ?_; clear h4; intro x132 hx133 h4
         refine gv_idxaddr (t := 45) (e := 3) (a := a112) (len := List.length j70) (cap := c113) (kk := .i64) (i := (IntKind.i64.wrap (s118.2 + s126.2))) (sz := 1) [] (fun e => by cases e) rfl rfl rfl (by kernel_rfl) (by kernel_rfl) Tryd.underlying45 (by kernel_rfl) ((hk130.rd (Y := fun k => blk a112 = some k) (fun _ h => h.elim) (fun g e => e)).has hx133) (idx_spec hx133).1 (idx_spec hx133).2.1 rfl ?_
         refine gv_load (t := 3) (A := (elemAddr a112 (((IntKind.i64.wrap (s118.2 + s126.2)) : Int).toNat * 1))) (.int .i64 x132) [] (fun e => by cases e) rfl rfl rfl (by kernel_rfl) (by kernel_rfl) (by kernel_rfl) (inw0 ((hk130.rd (Y := fun k => blk a112 = some k) (fun _ h => h.elim) (fun g e => e)).cell hx133)) rfl ?_
         refine gv_pureN 2 [8, 56] [(8, (.int .i64 (IntKind.i64.wrap ((IntKind.i64.wrap (2 * s126.1)) + x132))))] (by kernel_rfl) ?_
         refine bindE h4 ?_; clear h4; intro n134 hn135 h4
         refine gv_name (s := 8) (v := (.int .i64 (IntKind.i64.wrap ((IntKind.i64.wrap (2 * s126.1)) + x132)))) (v' := (.int .i64 n134)) (by kernel_rfl) (congrArg (Value.int .i64) (sj hn135)) ?_
         refine gv_nil <| gv_blk <| gv_region <| gv_pureN 3 [9, 46, 47] [(9, (.int .i64 (IntKind.i64.wrap (s126.2 + 1))))] (by kernel_rfl) ?_
         refine gv_nil ?_
         have e := sj h4; subst e
         refine gv_goal fun a hd hs hok => ?_
         have hz136 := hz129
         exact ⟨(n134, (IntKind.i64.wrap (s126.2 + 1))), rfl, hB128, hz136, hk130, hd, hs, ok_pick [3, 6, 7, 8, 9] hok (by kernel_rfl)⟩
        ·replace h4 := ite_f hc131 h4
         refine gv_cexit <| gv_exit rfl ?_
         have e := sj h4; subst e
         replace h3 := congrArg some (hR4 _ rfl)
         have e := sj h3; subst e
         refine gv_goal fun a hd hs hok => ?_
         have hz137 := hz129
         exact ⟨hB128, hz137, hk130, hd, hs, ok_pick [3, 6, 7, 8] hok (by kernel_rfl)⟩
      ·rintro a w125 ⟨hB138, hz139, hk140, hd, hs, hok⟩
       refine gv_in ?_ hd hs hok
       clear hd hs hok
       have hz141 := (nt hz121 hz139)
       clear hz139 hc123 hk122 hz121 hB120 ho114 hB110
       refine gv_region <| gv_pureN 4 [57, 58, 59, 60] [(57, (.string s118.1)), (58, (.int .i64 j124)), (60, (.int .i64 (IntKind.i64.wrap (j124 + 1))))] (by kernel_rfl) ?_
       refine bindE h2 ?_; clear h2; intro x142 hx143 h2
       refine gv_ssub (t := 9) (s := (strOf [65, 66, 67, 68, 69, 70, 71, 72, 73, 74, 75, 76, 77, 78, 79, 80, 81, 82, 83, 84, 85, 86, 87, 88, 89, 90, 97, 98, 99, 100, 101, 102, 103, 104, 105, 106, 107, 108, 109, 110, 111, 112, 113, 114, 115, 116, 117, 118, 119, 120, 121, 122, 48, 49, 50, 51, 52, 53, 54, 55, 56, 57, 43, 47])) (lo := (some (.int .i64 j124))) (hi := (some (.int .i64 (IntKind.i64.wrap (j124 + 1))))) j124 (IntKind.i64.wrap (j124 + 1)) x142 [] (fun e => by cases e) rfl rfl rfl (by kernel_rfl) (by kernel_rfl) Tryd.underlying9 (.inr ⟨_, rfl⟩) (.inr ⟨_, rfl⟩) hx143 rfl ?_
       refine bindE h2 ?_; clear h2; intro x144 hx145 h2
       refine gv_cat (t := 9) (s := s118.1) (u := x142) x144 [] (fun e => by cases e) rfl rfl rfl (by kernel_rfl) (by kernel_rfl) hx145 rfl ?_
       refine gv_pureN 1 [6] [(6, (.string x144))] (by kernel_rfl) ?_
       refine gv_nil <| gv_blk <| gv_region <| gv_pureN 3 [7, 42, 43] [(7, (.int .i64 (IntKind.i64.wrap (s118.2 + 6))))] (by kernel_rfl) ?_
       refine gv_nil ?_
       have e := sj h2; subst e
       refine gv_goal fun a hd hs hok => ?_
       have hz146 := hz141
       exact ⟨(x144, (IntKind.i64.wrap (s118.2 + 6))), rfl, hB138, hz146, hk140, hd, hs, ok_pick [3, 6, 7] hok (by kernel_rfl)⟩
     ·replace h2 := ite_f hc123 h2
      refine gv_cexit <| gv_exit rfl ?_
      have e := sj h2; subst e
      replace h1 := congrArg some (hR2 _ rfl)
      have e := sj h1; subst e
      refine gv_goal fun a hd hs hok => ?_
      have hz147 := hz121
      exact ⟨hB120, hz147, hd, hs, ok_pick [6] hok (by kernel_rfl)⟩
   ·rintro a w117 ⟨hB148, hz149, hd, hs, hok⟩
    refine gv_in ?_ hd hs hok
    clear hd hs hok
    clear hz149 hl115 ho114 hB110
    refine gv_seq <| bindE h0 ?_; clear h0; intro j150 h1 h0
    refine gv_cut_code (J := fun a w151 => Below w0.heap.size w0 w151 ∧ w117.heap.size ≤ w151.heap.size ∧ a.defers = [] ∧ a.tmps.size = 70 ∧ Ok [(6, (.string j150))] a.tmps) ?_ ?_
    ·skip
     refine gv_block <| gv_loop (A := fun (s152 : ByteArray) a w153 => Below w0.heap.size w0 w153 ∧ w117.heap.size ≤ w153.heap.size ∧ a.defers = [] ∧ a.tmps.size = 70 ∧ Ok [(6, (.string s152))] a.tmps) h1 ?_ ?_
     ·intro a hd hs hok
      exact ⟨hB148, (Nat.le_refl _), hd, hs, ok_pick [6] hok (by kernel_rfl)⟩
     ·rintro s152 r2 h2 hR2 a w153 ⟨hB154, hz155, hd, hs, hok⟩
      refine gv_in ?_ hd hs hok
      clear hd hs hok
      refine gv_seq <| gv_seq <| gv_region <| gv_pureN 4 [63, 64, 65, 66] [(66, (.bool (((((ByteArray.size s152 : Nat) : Int)).tmod 4) != 0)))] (by kernel_rfl) ?_
      refine gv_nil <| gv_cond (b := (((((ByteArray.size s152 : Nat) : Int)).tmod 4) != 0)) (by kernel_rfl) (fun hc156 => ?_) (fun hc156 => ?_)
      ·replace h2 := ite_t hc156 h2
       refine gv_skip <| gv_block <| gv_region <| gv_pureN 1 [67] [(67, (.string s152))] (by kernel_rfl) ?_
       refine bindE h2 ?_; clear h2; intro x157 hx158 h2
       refine gv_cat (t := 9) (s := s152) (u := (strOf [61])) x157 [] (fun e => by cases e) rfl rfl rfl (by kernel_rfl) (by kernel_rfl) hx158 rfl ?_
       refine gv_pureN 1 [6] [(6, (.string x157))] (by kernel_rfl) ?_
       refine gv_nil <| gv_blk ?_
       have e := sj h2; subst e
       refine gv_goal fun a hd hs hok => ?_
       have hz159 := hz155
       exact ⟨x157, rfl, hB154, hz159, hd, hs, ok_pick [6] hok (by kernel_rfl)⟩
      ·replace h2 := ite_f hc156 h2
       refine gv_cexit <| gv_exit rfl ?_
       have e := sj h2; subst e
       replace h1 := congrArg some (hR2 _ rfl)
       have e := sj h1; subst e
       refine gv_goal fun a hd hs hok => ?_
       have hz160 := hz155
       exact ⟨hB154, hz160, hd, hs, ok_pick [6] hok (by kernel_rfl)⟩
    ·rintro a w151 ⟨hB161, hz162, hd, hs, hok⟩
     refine gv_in ?_ hd hs hok
     clear hd hs hok
     refine gv_seq <| gv_region <| gv_pureN 2 [2, 69] [(2, (.string j150))] (by kernel_rfl) ?_
     refine gv_nil <| gv_cret ?_
     have e := sj h0; subst e
     refine gv_ret (gv_done [(.string j150)] rfl ⟨(by kernel_rfl), trivial⟩ ?_)
     exact ⟨grown_of_below hB161, rfl⟩

theorem ref4_Bytes64_ok (fuel : Nat) (s_0 : ByteArray) (w0 : World)  (r0 : ((List UInt8) × Bool)) (h0 : ref4_Bytes64 fuel s_0 = some r0) :
    Calls Tryd.prog 21 ([(.string s_0)] : List Value).toArray w0 (Ret fun v w' => w0.grownBy w' none ∧ ∃ (a0_0r : Option Addr) (c0_0r : Nat), v = tup [(.slice a0_0r (List.length r0.1) c0_0r), (.bool r0.2)] ∧ Gv.Own bE 5 w' (fun _ => False) a0_0r c0_0r r0.1 ∧ (∀ g, blk a0_0r = some g → w0.heap.size ≤ g)) := by
 have hB0 : Below w0.heap.size w0 w0 := Below.refl _ _
 unfold ref4_Bytes64 at h0
 refine calls_run Tryd.func21 rfl Tryd.ntmps21 (by kernel_rfl) ?_
 refine gv_sub [0] (σ' := [(0, (.string s_0))]) (by kernel_rfl) ?_
 refine gv_seq <| gv_region <| gv_pureN 2 [2, 3] [] (by kernel_rfl) ?_
 refine gv_nil <| gv_seq <| gv_region <| gv_pureN 1 [4] [(4, (.slice none (List.length ([] : List Int)) 0))] (by kernel_rfl) ?_
 refine gv_nil <| gv_seq <| gv_seq <| gv_region <| gv_pureN 1 [5] [(5, (.int .i64 0))] (by kernel_rfl) ?_
 refine gv_nil <| bindE h0 ?_; clear h0; intro j1 h1 h0
 refine gv_cut_code (J := fun a w2 => ∃ (a4_0j : Option Addr) (c4_0j : Nat), Below w0.heap.size w0 w2 ∧ w0.heap.size ≤ w2.heap.size ∧ Gv.Own (iE .i64) 3 w2 (fun _ => False) a4_0j c4_0j j1 ∧ (∀ g, blk a4_0j = some g → w0.heap.size ≤ g) ∧ a.defers = [] ∧ a.tmps.size = 69 ∧ Ok [(0, (.string s_0)), (4, (.slice a4_0j (List.length j1) c4_0j))] a.tmps) ?_ ?_
 ·skip
  refine gv_block <| gv_loop (A := fun (s3 : ((List Int) × Int)) a w4 => ∃ (a4_0j : Option Addr) (c4_0j : Nat), Below w0.heap.size w0 w4 ∧ w0.heap.size ≤ w4.heap.size ∧ Gv.Own (iE .i64) 3 w4 (fun _ => False) a4_0j c4_0j s3.1 ∧ (∀ g, blk a4_0j = some g → w0.heap.size ≤ g) ∧ a.defers = [] ∧ a.tmps.size = 69 ∧ Ok [(0, (.string s_0)), (4, (.slice a4_0j (List.length s3.1) c4_0j)), (5, (.int .i64 s3.2))] a.tmps) h1 ?_ ?_
  ·intro a hd hs hok
   exact ⟨none, 0, hB0, (Nat.le_refl _), (Gv.Own.nil (iE .i64) 3 w0 (fun _ => False)), (fun _ h => by cases h), hd, hs, ok_pick [0, 4, 5] hok (by kernel_rfl)⟩
  ·rintro s3 r2 h2 hR2 a w4 ⟨a7, c8, hB5, hz6, ho9, hl10, hd, hs, hok⟩
   refine gv_in ?_ hd hs hok
   clear hd hs hok
   refine gv_seq <| gv_seq <| gv_region <| gv_pureN 4 [12, 13, 14, 15] [(15, (.bool (decide (s3.2 < ((ByteArray.size s_0 : Nat) : Int)))))] (by kernel_rfl) ?_
   refine gv_nil <| gv_cond (b := (decide (s3.2 < ((ByteArray.size s_0 : Nat) : Int)))) (by kernel_rfl) (fun hc11 => ?_) (fun hc11 => ?_)
   ·replace h2 := ite_t hc11 h2
    refine gv_skip <| gv_seq <| gv_block <| gv_seq <| gv_region <| gv_pureN 1 [6] [(6, (.int .i64 0))] (by kernel_rfl) ?_
    refine gv_nil <| bindE h2 ?_; clear h2; intro j12 h3 h2
    refine gv_cut_code (J := fun a w13 => ∃ (a4_0j : Option Addr) (c4_0j : Nat), Below w0.heap.size w0 w13 ∧ w4.heap.size ≤ w13.heap.size ∧ Gv.Own (iE .i64) 3 w13 (fun _ => False) a4_0j c4_0j j12 ∧ (∀ g, blk a4_0j = some g → w0.heap.size ≤ g) ∧ a.defers = [] ∧ a.tmps.size = 69 ∧ Ok [(0, (.string s_0)), (4, (.slice a4_0j (List.length j12) c4_0j)), (5, (.int .i64 s3.2))] a.tmps) ?_ ?_
    ·skip
     refine gv_block <| gv_loop (A := fun (s14 : ((List Int) × Int)) a w15 => ∃ (a4_0j : Option Addr) (c4_0j : Nat), Below w0.heap.size w0 w15 ∧ w4.heap.size ≤ w15.heap.size ∧ Gv.Own (iE .i64) 3 w15 (fun _ => False) a4_0j c4_0j s14.1 ∧ (∀ g, blk a4_0j = some g → w0.heap.size ≤ g) ∧ a.defers = [] ∧ a.tmps.size = 69 ∧ Ok [(0, (.string s_0)), (4, (.slice a4_0j (List.length s14.1) c4_0j)), (5, (.int .i64 s3.2)), (6, (.int .i64 s14.2))] a.tmps) h3 ?_ ?_
     ·intro a hd hs hok
      exact ⟨a7, c8, hB5, (Nat.le_refl _), ho9, hl10, hd, hs, ok_pick [0, 4, 5, 6] hok (by kernel_rfl)⟩
     ·rintro s14 r4 h4 hR4 a w15 ⟨a18, c19, hB16, hz17, ho20, hl21, hd, hs, hok⟩
      refine gv_in ?_ hd hs hok
      clear hd hs hok
      clear hc11 hl10 ho9 hB5
      refine gv_seq <| gv_seq <| gv_region <| gv_pureN 2 [18, 19] [(19, (.bool (decide (s14.2 < 64))))] (by kernel_rfl) ?_
      refine gv_nil <| gv_cond (b := (decide (s14.2 < 64))) (by kernel_rfl) (fun hc22 => ?_) (fun hc22 => ?_)
      ·replace h4 := ite_t hc22 h4
       refine gv_skip <| gv_seq <| gv_block <| gv_seq <| gv_drawA (by kernel_rfl) ?_
       intro w23 hg24
       refine gv_pre [0, 1, 2, 3, 4, 5] (bA 6 [0, 1, 2, 3, 4, 5]) 0 (by kernel_rfl) (by kernel_rfl) ?_
       refine gv_pureN 1 [22] [(22, (.int .i64 s14.2))] (by kernel_rfl) ?_
       refine bindE h4 ?_; clear h4; intro x25 hx26 h4
       refine gv_sindex (t := 9) (s := (strOf [65, 66, 67, 68, 69, 70, 71, 72, 73, 74, 75, 76, 77, 78, 79, 80, 81, 82, 83, 84, 85, 86, 87, 88, 89, 90, 97, 98, 99, 100, 101, 102, 103, 104, 105, 106, 107, 108, 109, 110, 111, 112, 113, 114, 115, 116, 117, 118, 119, 120, 121, 122, 48, 49, 50, 51, 52, 53, 54, 55, 56, 57, 43, 47])) (kk := .i64) (i := s14.2) x25 [] (fun e => by cases e) rfl rfl rfl (by kernel_rfl) (by kernel_rfl) Tryd.underlying9 hx26 rfl ?_
       refine gv_pureN 2 [24, 25] [(24, (.string s_0)), (25, (.int .i64 s3.2))] (by kernel_rfl) ?_
       refine bindE h4 ?_; clear h4; intro x27 hx28 h4
       refine gv_sindex (t := 9) (s := s_0) (kk := .i64) (i := s3.2) x27 [] (fun e => by cases e) rfl rfl rfl (by kernel_rfl) (by kernel_rfl) Tryd.underlying9 hx28 rfl ?_
       refine gv_pureN 1 [27] [(27, (.bool (x25 == x27)))] (by kernel_rfl) ?_
       refine gv_nil <| gv_goA ?_
       refine gv_stageE (by kernel_rfl) ?_
       refine bindE h4 ?_; clear h4; intro j29 h5 h4
       refine gv_cut_code (J := fun a w30 => ∃ (a4_0j : Option Addr) (c4_0j : Nat), Below w0.heap.size w0 w30 ∧ w23.heap.size ≤ w30.heap.size ∧ Gv.Own (iE .i64) 3 w30 (fun _ => False) a4_0j c4_0j j29 ∧ (∀ g, blk a4_0j = some g → w0.heap.size ≤ g) ∧ a.defers = [] ∧ a.tmps.size = 69 ∧ Ok [(0, (.string s_0)), (4, (.slice a4_0j (List.length j29) c4_0j)), (5, (.int .i64 s3.2)), (6, (.int .i64 s14.2))] a.tmps) ?_ ?_
       ·skip
        refine gv_cond (b := (x25 == x27)) (by kernel_rfl) (fun hc31 => ?_) (fun hc31 => ?_)
        ·replace h5 := ite_t hc31 h5
         refine gv_seq <| gv_region <| gv_pureN 1 [7] [(7, (.int .i64 5))] (by kernel_rfl) ?_
         refine gv_nil <| bindE h5 ?_; clear h5; intro j32 h6 h5
         refine gv_cut_code (J := fun a w33 => ∃ (a4_0j : Option Addr) (c4_0j : Nat), Below w0.heap.size w0 w33 ∧ w23.heap.size ≤ w33.heap.size ∧ Gv.Own (iE .i64) 3 w33 (fun _ => False) a4_0j c4_0j j32 ∧ (∀ g, blk a4_0j = some g → w0.heap.size ≤ g) ∧ a.defers = [] ∧ a.tmps.size = 69 ∧ Ok [(0, (.string s_0)), (4, (.slice a4_0j (List.length j32) c4_0j)), (5, (.int .i64 s3.2)), (6, (.int .i64 s14.2))] a.tmps) ?_ ?_
         ·skip
          refine gv_block <| gv_loop (A := fun (s34 : ((List Int) × Int)) a w35 => ∃ (a4_0j : Option Addr) (c4_0j : Nat), Below w0.heap.size w0 w35 ∧ w23.heap.size ≤ w35.heap.size ∧ Gv.Own (iE .i64) 3 w35 (fun _ => False) a4_0j c4_0j s34.1 ∧ (∀ g, blk a4_0j = some g → w0.heap.size ≤ g) ∧ a.defers = [] ∧ a.tmps.size = 69 ∧ Ok [(0, (.string s_0)), (4, (.slice a4_0j (List.length s34.1) c4_0j)), (5, (.int .i64 s3.2)), (6, (.int .i64 s14.2)), (7, (.int .i64 s34.2))] a.tmps) h6 ?_ ?_
          ·intro a hd hs hok
           have hB36 := bg hB16 hg24 nb
           have hk37 := ho20.grown hg24 (fun _ h => h.elim) nb
           exact ⟨a18, c19, hB36, (Nat.le_refl _), hk37, hl21, hd, hs, ok_pick [0, 4, 5, 6, 7] hok (by kernel_rfl)⟩
          ·rintro s34 r7 h7 hR7 a w35 ⟨a40, c41, hB38, hz39, ho42, hl43, hd, hs, hok⟩
           refine gv_in ?_ hd hs hok
           clear hd hs hok
           have hz44 := (nt hz17 hg24.size)
           clear hc31 hx28 hx26 hc22 hz17 hB16
           refine gv_seq <| gv_seq <| gv_region <| gv_pureN 2 [28, 29] [(29, (.bool (decide (s34.2 ≥ 0))))] (by kernel_rfl) ?_
           refine gv_nil <| gv_cond (b := (decide (s34.2 ≥ 0))) (by kernel_rfl) (fun hc45 => ?_) (fun hc45 => ?_)
           ·replace h7 := ite_t hc45 h7
            refine gv_skip <| gv_seq <| gv_block <| gv_region <| gv_pureN 3 [32, 33, 34] [(32, (.slice a40 (List.length s34.1) c41)), (33, (.int .i64 s14.2)), (34, (.int .i64 s34.2))] (by kernel_rfl) ?_
            refine bindE h7 ?_; clear h7; intro _ hx46 h7
            refine gv_shift .shr (t := 3) (kk := .i64) (ky := .i64) (x := s14.2) (y := s34.2) (shrI .i64 s14.2 s34.2) [] (fun e => by cases e) rfl rfl rfl (by kernel_rfl) (by kernel_rfl) (nn_spec hx46) (.inr ⟨rfl, rfl⟩) rfl ?_
            refine gv_pureN 1 [36] [(36, (.int .i64 (bwAnd .i64 (shrI .i64 s14.2 s34.2) 1)))] (by kernel_rfl) ?_
            refine gv_new0 (fun b => .slice (some ⟨b, 0, none⟩) 1 1) #[(.int .i64 (bwAnd .i64 (shrI .i64 s14.2 s34.2) 1))] 3 (by kernel_rfl) (by kernel_rfl) ?_
            intro b47 w48 hg49 hb50 hbe51 hz52
            have ho53 : Gv.Own (iE .i64) 3 w48 (fun _ => False) (some ⟨b47, 0, none⟩) 1 ([(bwAnd .i64 (shrI .i64 s14.2 s34.2) 1)] : List Int) := Box.ownE hb50 ⟨[(.int .i64 (bwAnd .i64 (shrI .i64 s14.2 s34.2) 1))], [], rfl, rfl, rfl⟩ (show 1 ≤ maxLen by decide) (fun h => h)
            have hl54 : ∀ g, blk (some ⟨b47, 0, none⟩) = some g → w0.heap.size ≤ g := loo hbe51 hB38.size
            refine bindE h7 ?_; clear h7; intro l58 hx59 h7
            have hk66 := ho42.grown hg49 (fun _ h => h.elim) nb
            refine gv_append (iE .i64) (t := 45) (ty := 45) (e := 3) (a := a40) (ax := (some ⟨b47, 0, none⟩)) (cap := c41) (cx := 1) (xs := s34.1) (ys := ([(bwAnd .i64 (shrI .i64 s14.2 s34.2) 1)] : List Int)) l58 (X := (fun _ => False)) (Y := (fun k => blk (some ⟨b47, 0, none⟩) = some k)) (by decide) rfl rfl (by kernel_rfl) (by kernel_rfl) Tryd.underlying45 info3 hk66 (ho53.rd (Y := fun k => blk (some ⟨b47, 0, none⟩) = some k) (fun _ h => h.elim) (fun g e => e)) hx59 (.inr fun _ _ _ _ _ h => h) (fun _ h => h.elim) ?_
            intro a60 c61 w62 hg63 ho64 hk65
            refine ⟨(fun e => by cases e), ?_⟩
            have hB68 := bg hB38 hg49 nb
            have hl67 : ∀ g, blk a60 = some g → w0.heap.size ≤ g := blk_step hk65 hl43 hB68.size
            have ap70 : ∀ g, blk a40 = some g → ¬ (fun k => blk (some ⟨b47, 0, none⟩) = some k) g := fun g e hx => nl ((lowo hbe51) _ hx) ((fun k (hk : blk a40 = some k) => ho42.lt k hk) g e)
            have ap69 : ∀ g, blk a60 = some g → ¬ (fun k => blk (some ⟨b47, 0, none⟩) = some k) g := blk_neX hk65 ap70 (fun k (hk : blk (some ⟨b47, 0, none⟩) = some k) => ho53.lt k hk)
            have ap72 : ∀ g, blk (some ⟨b47, 0, none⟩) = some g → ¬ (fun k => blk a40 = some k) g := fun g e hx => nl ((lowo hbe51) g e) ((fun k (hk : blk a40 = some k) => ho42.lt k hk) _ hx)
            have ap71 : ∀ g, blk (some ⟨b47, 0, none⟩) = some g → ¬ (fun k => blk a60 = some k) g := fun g e h => blk_rev hk65 (fun h => ((ap72) g e) h) (ho53.lt g e) h
            refine gv_pureN 1 [4] [(4, (.slice a60 (List.length l58) c61))] (by kernel_rfl) ?_
            refine gv_nil <| gv_blk <| gv_region <| gv_pureN 3 [7, 30, 31] [(7, (.int .i64 (IntKind.i64.wrap (s34.2 - 1))))] (by kernel_rfl) ?_
            refine gv_nil ?_
            have e := sj h7; subst e
            refine gv_goal fun a hd hs hok => ?_
            have hB73 := bg hB68 hg63 hl43
            have hz74 := (nt (nt hz39 hg49.size) hg63.size)
            exact ⟨(l58, (IntKind.i64.wrap (s34.2 - 1))), rfl, a60, c61, hB73, hz74, ho64, hl67, hd, hs, ok_pick [0, 4, 5, 6, 7] hok (by kernel_rfl)⟩
           ·replace h7 := ite_f hc45 h7
            refine gv_cexit <| gv_exit rfl ?_
            have e := sj h7; subst e
            replace h6 := congrArg some (hR7 _ rfl)
            have e := sj h6; subst e
            refine gv_goal fun a hd hs hok => ?_
            have hz75 := hz39
            exact ⟨a40, c41, hB38, hz75, ho42, hl43, hd, hs, ok_pick [0, 4, 5, 6] hok (by kernel_rfl)⟩
         ·rintro a w33 ⟨a78, c79, hB76, hz77, ho80, hl81, hd, hs, hok⟩
          refine gv_in ?_ hd hs hok
          clear hd hs hok
          have hz82 := (nt hz17 hg24.size)
          clear hc31 hx28 hx26 hc22 hz17 hB16
          have e := sj h5; subst e
          refine gv_goal fun a hd hs hok => ?_
          have hz83 := hz77
          exact ⟨a78, c79, hB76, hz83, ho80, hl81, hd, hs, ok_pick [0, 4, 5, 6] hok (by kernel_rfl)⟩
        ·replace h5 := ite_f hc31 h5
         refine gv_skip ?_
         have e := sj h5; subst e
         refine gv_goal fun a hd hs hok => ?_
         have hB84 := bg hB16 hg24 nb
         have hk85 := ho20.grown hg24 (fun _ h => h.elim) nb
         exact ⟨a18, c19, hB84, (Nat.le_refl _), hk85, hl21, hd, hs, ok_pick [0, 4, 5, 6] hok (by kernel_rfl)⟩
       ·rintro a w30 ⟨a88, c89, hB86, hz87, ho90, hl91, hd, hs, hok⟩
        refine gv_in ?_ hd hs hok
        clear hd hs hok
        have hz92 := (nt hz17 hg24.size)
        clear hx28 hx26 hc22 hz17 hB16
        refine gv_blk <| gv_region <| gv_pureN 3 [6, 20, 21] [(6, (.int .i64 (IntKind.i64.wrap (s14.2 + 1))))] (by kernel_rfl) ?_
        refine gv_nil ?_
        have e := sj h4; subst e
        refine gv_goal fun a hd hs hok => ?_
        have hz93 := (nt hz92 hz87)
        exact ⟨(j29, (IntKind.i64.wrap (s14.2 + 1))), rfl, a88, c89, hB86, hz93, ho90, hl91, hd, hs, ok_pick [0, 4, 5, 6] hok (by kernel_rfl)⟩
      ·replace h4 := ite_f hc22 h4
       refine gv_cexit <| gv_exit rfl ?_
       have e := sj h4; subst e
       replace h3 := congrArg some (hR4 _ rfl)
       have e := sj h3; subst e
       refine gv_goal fun a hd hs hok => ?_
       have hz94 := hz17
       exact ⟨a18, c19, hB16, hz94, ho20, hl21, hd, hs, ok_pick [0, 4, 5] hok (by kernel_rfl)⟩
    ·rintro a w13 ⟨a97, c98, hB95, hz96, ho99, hl100, hd, hs, hok⟩
     refine gv_in ?_ hd hs hok
     clear hd hs hok
     have hz101 := (nt hz6 hz96)
     clear hz96 hc11 hl10 ho9 hz6 hB5
     refine gv_blk <| gv_region <| gv_pureN 3 [5, 16, 17] [(5, (.int .i64 (IntKind.i64.wrap (s3.2 + 1))))] (by kernel_rfl) ?_
     refine gv_nil ?_
     have e := sj h2; subst e
     refine gv_goal fun a hd hs hok => ?_
     have hz102 := hz101
     exact ⟨(j12, (IntKind.i64.wrap (s3.2 + 1))), rfl, a97, c98, hB95, hz102, ho99, hl100, hd, hs, ok_pick [0, 4, 5] hok (by kernel_rfl)⟩
   ·replace h2 := ite_f hc11 h2
    refine gv_cexit <| gv_exit rfl ?_
    have e := sj h2; subst e
    replace h1 := congrArg some (hR2 _ rfl)
    have e := sj h1; subst e
    refine gv_goal fun a hd hs hok => ?_
    have hz103 := hz6
    exact ⟨a7, c8, hB5, hz103, ho9, hl10, hd, hs, ok_pick [0, 4] hok (by kernel_rfl)⟩
 ·rintro a w2 ⟨a106, c107, hB104, hz105, ho108, hl109, hd, hs, hok⟩
  refine gv_in ?_ hd hs hok
  clear hd hs hok
  refine gv_seq <| gv_region <| gv_pureN 1 [8] [(8, (.slice none (List.length ([] : List UInt8)) 0))] (by kernel_rfl) ?_
  refine gv_nil <| gv_seq <| gv_seq <| gv_region <| gv_pureN 1 [9] [(9, (.int .i64 0))] (by kernel_rfl) ?_
  refine gv_nil <| bindE h0 ?_; clear h0; intro j110 h1 h0
  refine gv_cut_code (J := fun a w111 => ∃ (a8_0j : Option Addr) (c8_0j : Nat), Below w0.heap.size w0 w111 ∧ w2.heap.size ≤ w111.heap.size ∧ Gv.Own bE 5 w111 (fun _ => False) a8_0j c8_0j j110 ∧ (∀ g, blk a8_0j = some g → w0.heap.size ≤ g) ∧ a.defers = [] ∧ a.tmps.size = 69 ∧ Ok [(0, (.string s_0)), (8, (.slice a8_0j (List.length j110) c8_0j))] a.tmps) ?_ ?_
  ·skip
   refine gv_block <| gv_loop (A := fun (s112 : ((List UInt8) × Int)) a w113 => ∃ (a8_0j : Option Addr) (c8_0j : Nat), Below w0.heap.size w0 w113 ∧ w2.heap.size ≤ w113.heap.size ∧ Gv.Own bE 5 w113 (fun _ => False) a8_0j c8_0j s112.1 ∧ (∀ g, blk a8_0j = some g → w0.heap.size ≤ g) ∧ (∀ g, blk a8_0j = some g → ¬ (fun k => blk a106 = some k) g) ∧ (∀ g, blk a106 = some g → ¬ (fun k => blk a8_0j = some k) g) ∧ Gv.Own (iE .i64) 3 w113 (fun _ => False) a106 c107 j1 ∧ a.defers = [] ∧ a.tmps.size = 69 ∧ Ok [(0, (.string s_0)), (4, (.slice a106 (List.length j1) c107)), (8, (.slice a8_0j (List.length s112.1) c8_0j)), (9, (.int .i64 s112.2))] a.tmps) h1 ?_ ?_
   ·intro a hd hs hok
    exact ⟨none, 0, hB104, (Nat.le_refl _), (Gv.Own.nil bE 5 w2 (fun _ => False)), (fun _ h => by cases h), (fun _ h => by cases h), (fun _ _ h => by cases h), ho108, hd, hs, ok_pick [0, 4, 8, 9] hok (by kernel_rfl)⟩
   ·rintro s112 r2 h2 hR2 a w113 ⟨a116, c117, hB114, hz115, ho118, hl119, ap120, ap121, hk122, hd, hs, hok⟩
    refine gv_in ?_ hd hs hok
    clear hd hs hok
    refine gv_seq <| gv_seq <| gv_region <| gv_pureN 5 [39, 40, 41, 42, 43] [(43, (.bool (decide ((IntKind.i64.wrap (s112.2 + 8)) ≤ ((List.length j1 : Nat) : Int)))))] (by kernel_rfl) ?_
    refine gv_nil <| gv_cond (b := (decide ((IntKind.i64.wrap (s112.2 + 8)) ≤ ((List.length j1 : Nat) : Int)))) (by kernel_rfl) (fun hc123 => ?_) (fun hc123 => ?_)
    ·replace h2 := ite_t hc123 h2
     refine gv_skip <| gv_seq <| gv_block <| gv_seq <| gv_region <| gv_pureN 1 [10] [(10, (.int .i64 0))] (by kernel_rfl) ?_
     refine gv_nil <| gv_seq <| gv_seq <| gv_region <| gv_pureN 1 [11] [(11, (.int .i64 0))] (by kernel_rfl) ?_
     refine gv_nil <| bindE h2 ?_; clear h2; intro j124 h3 h2
     refine gv_cut_code (J := fun a w125 => Below w0.heap.size w0 w125 ∧ w113.heap.size ≤ w125.heap.size ∧ Gv.Own (iE .i64) 3 w125 (fun _ => False) a106 c107 j1 ∧ Gv.Own bE 5 w125 (fun _ => False) a116 c117 s112.1 ∧ a.defers = [] ∧ a.tmps.size = 69 ∧ Ok [(0, (.string s_0)), (4, (.slice a106 (List.length j1) c107)), (8, (.slice a116 (List.length s112.1) c117)), (9, (.int .i64 s112.2)), (10, (.int .i64 j124))] a.tmps) ?_ ?_
     ·skip
      refine gv_block <| gv_loop (A := fun (s126 : (Int × Int)) a w127 => Below w0.heap.size w0 w127 ∧ w113.heap.size ≤ w127.heap.size ∧ Gv.Own (iE .i64) 3 w127 (fun _ => False) a106 c107 j1 ∧ Gv.Own bE 5 w127 (fun _ => False) a116 c117 s112.1 ∧ a.defers = [] ∧ a.tmps.size = 69 ∧ Ok [(0, (.string s_0)), (4, (.slice a106 (List.length j1) c107)), (8, (.slice a116 (List.length s112.1) c117)), (9, (.int .i64 s112.2)), (10, (.int .i64 s126.1)), (11, (.int .i64 s126.2))] a.tmps) h3 ?_ ?_
      ·intro a hd hs hok
       exact ⟨hB114, (Nat.le_refl _), hk122, ho118, hd, hs, ok_pick [0, 4, 8, 9, 10, 11] hok (by kernel_rfl)⟩
      ·rintro s126 r4 h4 hR4 a w127 ⟨hB128, hz129, hk130, hk131, hd, hs, hok⟩
       refine gv_in ?_ hd hs hok
       clear hd hs hok
       clear hc123 hk122 ho118 hB114 ho108 hz105 hB104
       refine gv_seq <| gv_seq <| gv_region <| gv_pureN 2 [46, 47] [(47, (.bool (decide (s126.2 < 8))))] (by kernel_rfl) ?_
       refine gv_nil <| gv_cond (b := (decide (s126.2 < 8))) (by kernel_rfl) (fun hc132 => ?_) (fun hc132 => ?_)
       ·replace h4 := ite_t hc132 h4
        refine gv_skip <| gv_seq <| gv_block <| gv_region <| gv_pureN 6 [50, 51, 52, 53, 54, 55] [(51, (.int .i64 (IntKind.i64.wrap (2 * s126.1)))), (52, (.slice a106 (List.length j1) c107)), (55, (.int .i64 (IntKind.i64.wrap (s112.2 + s126.2))))] (by kernel_rfl) ?_
        refine bindE h4 ?_; clear h4; intro x133 hx134 h4
        refine gv_idxaddr (t := 45) (e := 3) (a := a106) (len := List.length j1) (cap := c107) (kk := .i64) (i := (IntKind.i64.wrap (s112.2 + s126.2))) (sz := 1) [] (fun e => by cases e) rfl rfl rfl (by kernel_rfl) (by kernel_rfl) Tryd.underlying45 (by kernel_rfl) ((hk130.rd (Y := fun k => blk a106 = some k) (fun _ h => h.elim) (fun g e => e)).has hx134) (idx_spec hx134).1 (idx_spec hx134).2.1 rfl ?_
        refine gv_load (t := 3) (A := (elemAddr a106 (((IntKind.i64.wrap (s112.2 + s126.2)) : Int).toNat * 1))) (.int .i64 x133) [] (fun e => by cases e) rfl rfl rfl (by kernel_rfl) (by kernel_rfl) (by kernel_rfl) (inw0 ((hk130.rd (Y := fun k => blk a106 = some k) (fun _ h => h.elim) (fun g e => e)).cell hx134)) rfl ?_
        refine gv_pureN 2 [10, 58] [(10, (.int .i64 (IntKind.i64.wrap ((IntKind.i64.wrap (2 * s126.1)) + x133))))] (by kernel_rfl) ?_
        refine bindE h4 ?_; clear h4; intro n135 hn136 h4
        refine gv_name (s := 10) (v := (.int .i64 (IntKind.i64.wrap ((IntKind.i64.wrap (2 * s126.1)) + x133)))) (v' := (.int .i64 n135)) (by kernel_rfl) (congrArg (Value.int .i64) (sj hn136)) ?_
        refine gv_nil <| gv_blk <| gv_region <| gv_pureN 3 [11, 48, 49] [(11, (.int .i64 (IntKind.i64.wrap (s126.2 + 1))))] (by kernel_rfl) ?_
        refine gv_nil ?_
        have e := sj h4; subst e
        refine gv_goal fun a hd hs hok => ?_
        have hz137 := hz129
        exact ⟨(n135, (IntKind.i64.wrap (s126.2 + 1))), rfl, hB128, hz137, hk130, hk131, hd, hs, ok_pick [0, 4, 8, 9, 10, 11] hok (by kernel_rfl)⟩
       ·replace h4 := ite_f hc132 h4
        refine gv_cexit <| gv_exit rfl ?_
        have e := sj h4; subst e
        replace h3 := congrArg some (hR4 _ rfl)
        have e := sj h3; subst e
        refine gv_goal fun a hd hs hok => ?_
        have hz138 := hz129
        exact ⟨hB128, hz138, hk130, hk131, hd, hs, ok_pick [0, 4, 8, 9, 10] hok (by kernel_rfl)⟩
     ·rintro a w125 ⟨hB139, hz140, hk141, hk142, hd, hs, hok⟩
      refine gv_in ?_ hd hs hok
      clear hd hs hok
      have hz143 := (nt hz115 hz140)
      clear hz140 hc123 hk122 ho118 hz115 hB114 ho108 hz105 hB104
      refine gv_region <| gv_pureN 3 [59, 60, 61] [(59, (.slice a116 (List.length s112.1) c117)), (61, (.int .u8 (IntKind.u8.wrap (j124))))] (by kernel_rfl) ?_
      refine bindE h2 ?_; clear h2; intro b144 hb145 h2
      have hu146 := u8_spec hb145
      refine gv_new0 (fun b => .slice (some ⟨b, 0, none⟩) 1 1) #[(.int .u8 (IntKind.u8.wrap (j124)))] 5 (by kernel_rfl) (by kernel_rfl) ?_
      intro b147 w148 hg149 hb150 hbe151 hz152
      have ho153 : Gv.Own bE 5 w148 (fun _ => False) (some ⟨b147, 0, none⟩) 1 ([b144] : List UInt8) := Box.ownE hb150 ⟨[(.int .u8 (IntKind.u8.wrap (j124)))], [], rfl, (by simp only [bE, flat, hu146]), rfl⟩ (show 1 ≤ maxLen by decide) (fun h => h)
      have hl154 : ∀ g, blk (some ⟨b147, 0, none⟩) = some g → w0.heap.size ≤ g := loo hbe151 hB139.size
      refine bindE h2 ?_; clear h2; intro l158 hx159 h2
      have hk166 := hk142.grown hg149 (fun _ h => h.elim) nb
      refine gv_append bE (t := 22) (ty := 22) (e := 5) (a := a116) (ax := (some ⟨b147, 0, none⟩)) (cap := c117) (cx := 1) (xs := s112.1) (ys := ([b144] : List UInt8)) l158 (X := (fun _ => False)) (Y := (fun k => blk (some ⟨b147, 0, none⟩) = some k)) (by decide) rfl rfl (by kernel_rfl) (by kernel_rfl) Tryd.underlying22 info5 hk166 (ho153.rd (Y := fun k => blk (some ⟨b147, 0, none⟩) = some k) (fun _ h => h.elim) (fun g e => e)) hx159 (.inr fun _ _ _ _ _ h => h) (fun _ h => h.elim) ?_
      intro a160 c161 w162 hg163 ho164 hk165
      refine ⟨(fun e => by cases e), ?_⟩
      have hB168 := bg hB139 hg149 nb
      have hl167 : ∀ g, blk a160 = some g → w0.heap.size ≤ g := blk_step hk165 hl119 hB168.size
      have hk170 := hk141.grown hg149 (fun _ h => h.elim) nb
      have ap169 : ∀ g, blk a160 = some g → ¬ (fun k => blk a106 = some k) g := blk_neX hk165 ap120 (fun k (hk : blk a106 = some k) => hk170.lt k hk)
      have ap171 : ∀ g, blk a106 = some g → ¬ (fun k => blk a160 = some k) g := fun g e h => blk_rev hk165 (fun h => ((ap121) g e) h) (hk170.lt g e) h
      have ap173 : ∀ g, blk a116 = some g → ¬ (fun k => blk (some ⟨b147, 0, none⟩) = some k) g := fun g e hx => nl ((lowo hbe151) _ hx) ((fun k (hk : blk a116 = some k) => hk142.lt k hk) g e)
      have ap172 : ∀ g, blk a160 = some g → ¬ (fun k => blk (some ⟨b147, 0, none⟩) = some k) g := blk_neX hk165 ap173 (fun k (hk : blk (some ⟨b147, 0, none⟩) = some k) => ho153.lt k hk)
      have ap175 : ∀ g, blk (some ⟨b147, 0, none⟩) = some g → ¬ (fun k => blk a116 = some k) g := fun g e hx => nl ((lowo hbe151) g e) ((fun k (hk : blk a116 = some k) => hk142.lt k hk) _ hx)
      have ap174 : ∀ g, blk (some ⟨b147, 0, none⟩) = some g → ¬ (fun k => blk a160 = some k) g := fun g e h => blk_rev hk165 (fun h => ((ap175) g e) h) (ho153.lt g e) h
      refine gv_pureN 1 [8] [(8, (.slice a160 (List.length l158) c161))] (by kernel_rfl) ?_
      refine gv_nil <| gv_blk <| gv_region <| gv_pureN 3 [9, 44, 45] [(9, (.int .i64 (IntKind.i64.wrap (s112.2 + 8))))] (by kernel_rfl) ?_
      refine gv_nil ?_
      have e := sj h2; subst e
      refine gv_goal fun a hd hs hok => ?_
      have hB176 := bg hB168 hg163 hl119
      have hz177 := (nt (nt hz143 hg149.size) hg163.size)
      have hk178 := hk170.grown hg163 (fun _ h => h.elim) (rdnn ap120)
      exact ⟨(l158, (IntKind.i64.wrap (s112.2 + 8))), rfl, a160, c161, hB176, hz177, ho164, hl167, ap169, ap171, hk178, hd, hs, ok_pick [0, 4, 8, 9] hok (by kernel_rfl)⟩
    ·replace h2 := ite_f hc123 h2
     refine gv_cexit <| gv_exit rfl ?_
     have e := sj h2; subst e
     replace h1 := congrArg some (hR2 _ rfl)
     have e := sj h1; subst e
     refine gv_goal fun a hd hs hok => ?_
     have hz179 := hz115
     exact ⟨a116, c117, hB114, hz179, ho118, hl119, hd, hs, ok_pick [0, 8] hok (by kernel_rfl)⟩
  ·rintro a w111 ⟨a182, c183, hB180, hz181, ho184, hl185, hd, hs, hok⟩
   refine gv_in ?_ hd hs hok
   clear hd hs hok
   clear hz181 hl109 ho108 hz105 hB104
   refine gv_seq <| gv_region <| gv_pureN 2 [64, 65] [(64, (.slice a182 (List.length j110) c183)), (65, (.slice a182 (List.length j110) c183))] (by kernel_rfl) ?_
   refine bindE h0 ?_; clear h0; intro r186 hr187 h0
   refine gv_call0 (by kernel_rfl) rfl (by kernel_rfl) enters20 (ref4_Sixties_ok fuel a182 c183 j110 w111 (fun k => (fun k => blk a182 = some k) k) (fun k hk => (fun k (hk : blk a182 = some k) => ho184.lt k hk) k hk) ((ho184.rd (Y := fun k => blk a182 = some k) (fun _ h => h.elim) (fun g e => e)).wide (fun k hk => hk)) r186 hr187) ?_
   rintro v190 w188 ⟨hg189, rfl⟩
   refine gv_pureN 4 [2, 3, 67, 68] [(2, (.slice a182 (List.length j110) c183)), (3, (.bool (r186.toList == s_0.toList)))] (by kernel_rfl) ?_
   refine gv_nil <| gv_cret ?_
   have e := sj h0; subst e
   refine gv_ret (gv_done [(.slice a182 (List.length j110) c183), (.bool (r186.toList == s_0.toList))] rfl ⟨(by kernel_rfl), (by kernel_rfl), trivial⟩ ?_)
   have hB191 := bg hB180 hg189 nb
   have hk192 := ho184.grown hg189 (fun _ h => h.elim) nb
   exact ⟨grown_of_below hB191, a182, c183, rfl, hk192, hl185⟩

theorem law4_BytestrDigits_ok (fuel : Nat) (pa0_0 : Option Addr) (pc0_0 : Nat) (b_0 : (List UInt8)) (s_1 : ByteArray) (w0 : World) (X0 : Nat → Prop) (hX0 : ∀ k, X0 k → k < w0.heap.size) (hpa0_0 : Rd bE w0 X0 pa0_0 pc0_0 b_0) (hG0 : Rd bE w0 X0 (some ⟨0, 0, none⟩) 256 utf8First) (hG1 : Rd (prE (iE .u8) (iE .u8)) w0 X0 (some ⟨1, 0, none⟩) 16 utf8Acc) (r0 : Bool) (h0 : law4_BytestrDigits fuel b_0 s_1 = some r0) :
    Calls Tryd.prog 4 ([(.slice pa0_0 (List.length b_0) pc0_0), (.string s_1)] : List Value).toArray w0 (Ret fun v w' => w0.grownBy w' none ∧ v = tup [(.bool r0)]) := by
 have hB0 : Below w0.heap.size w0 w0 := Below.refl _ _
 unfold law4_BytestrDigits at h0
 refine calls_run Tryd.func4 rfl Tryd.ntmps4 (by kernel_rfl) ?_
 refine gv_sub [0, 1] (σ' := [(0, (.slice pa0_0 (List.length b_0) pc0_0)), (1, (.string s_1))]) (by kernel_rfl) ?_
 refine gv_seq <| gv_region <| gv_pureN 1 [4] [] (by kernel_rfl) ?_
 refine gv_nil <| gv_seq <| gv_region <| gv_pureN 1 [23] [(23, (.slice pa0_0 (List.length b_0) pc0_0))] (by kernel_rfl) ?_
 refine bindE h0 ?_; clear h0; intro r1 hr2 h0
 refine gv_call0 (by kernel_rfl) rfl (by kernel_rfl) enters15 (bytestr_Hex_ok fuel pa0_0 pc0_0 b_0 w0 (fun k => X0 k) (fun k hk => (fun k (hk : X0 k) => ltl (hX0 k hk) hB0.size) k hk) ((hpa0_0.below hB0 hX0).wide (fun k hk => hk)) r1 hr2) ?_
 rintro v5 w3 ⟨hg4, rfl⟩
 refine gv_pureN 3 [22, 25, 26] [(25, (.string r1.1)), (26, (.agg #[(.int .i64 r1.2.1), (.int .i64 r1.2.2)]))] (by kernel_rfl) ?_
 refine gv_new0 (fun b => .pointer (some ⟨b, 0, none⟩)) #[(.int .i64 0), (.int .i64 0)] 25 (by kernel_rfl) (by kernel_rfl) ?_
 intro b6 w7 hg8 hb9 hbe10 hz11
 refine gv_pureN 1 [5] [(5, (.string r1.1))] (by kernel_rfl) ?_
 refine gv_store0 25 0 (.agg #[(.int .i64 r1.2.1), (.int .i64 r1.2.2)]) #[(.int .i64 r1.2.1), (.int .i64 r1.2.2)] hb9 (by kernel_rfl) (by kernel_rfl) (by kernel_rfl) ?_
 intro w12 hg13 hb14 hz15
 refine gv_nil <| gv_seq <| gv_region <| gv_pureN 1 [28] [(28, (.slice pa0_0 (List.length b_0) pc0_0))] (by kernel_rfl) ?_
 refine bindE h0 ?_; clear h0; intro r16 hr17 h0
 have hg18 := (grown_trans hg4 hg8)
 have hB19 := bg hB0 hg18 nb
 have hB20 := bg hB0 hg4 nb
 have hlo21 : w0.heap.size ≤ b6 := lob hbe10 hB20.size
 have hB22 := bg hB19 hg13 (rowlo hlo21)
 refine gv_call0 (by kernel_rfl) rfl (by kernel_rfl) enters16 (bytestr_Base64_ok fuel pa0_0 pc0_0 b_0 w12 (fun k => X0 k) (fun k hk => (fun k (hk : X0 k) => ltl (hX0 k hk) hB22.size) k hk) ((hpa0_0.below hB22 hX0).wide (fun k hk => hk)) r16 hr17) ?_
 rintro v25 w23 ⟨hg24, rfl⟩
 refine gv_pureN 3 [27, 30, 31] [(30, (.string r16.1)), (31, (.agg #[(.int .i64 r16.2.1), (.int .i64 r16.2.2)]))] (by kernel_rfl) ?_
 refine gv_new0 (fun b => .pointer (some ⟨b, 0, none⟩)) #[(.int .i64 0), (.int .i64 0)] 25 (by kernel_rfl) (by kernel_rfl) ?_
 intro b26 w27 hg28 hb29 hbe30 hz31
 refine gv_pureN 1 [7] [(7, (.string r16.1))] (by kernel_rfl) ?_
 refine gv_store0 25 0 (.agg #[(.int .i64 r16.2.1), (.int .i64 r16.2.2)]) #[(.int .i64 r16.2.1), (.int .i64 r16.2.2)] hb29 (by kernel_rfl) (by kernel_rfl) (by kernel_rfl) ?_
 intro w32 hg33 hb34 hz35
 refine gv_nil <| gv_seq <| gv_region <| gv_pureN 1 [33] [(33, (.string s_1))] (by kernel_rfl) ?_
 refine gv_sub [0, 1, 5, 6, 7, 8, 33] (σ' := [(0, (.slice pa0_0 (List.length b_0) pc0_0)), (1, (.string s_1)), (5, (.string r1.1)), (6, (bp b6)), (7, (.string r16.1)), (8, (bp b26)), (33, (.string s_1))]) (by kernel_rfl) ?_
 refine bindE h0 ?_; clear h0; intro r36 hr37 h0
 refine gv_call0 (by kernel_rfl) rfl (by kernel_rfl) enters17 (bytestr_FromHex_ok fuel s_1 w32  r36 hr37) ?_
 rintro v40 w38 ⟨hg39, a41, c42, rfl, ho43, hl44⟩
 have hg46 := (grown_trans hg24 hg28)
 have hB47 := bg hB22 hg46 nb
 have hB48 := bg hB22 hg24 nb
 have hlo49 : w0.heap.size ≤ b26 := lob hbe30 hB48.size
 have hB50 := bg hB47 hg33 (rowlo hlo49)
 have hl45 : ∀ g, blk a41 = some g → w0.heap.size ≤ g := fun g e => Nat.le_trans hB50.size (hl44 g e)
 refine gv_pureN 3 [32, 35, 36] [(35, (.slice a41 (List.length r36.1) c42)), (36, (.agg #[(.int .i64 r36.2.1), (.int .i64 r36.2.2)]))] (by kernel_rfl) ?_
 refine gv_new0 (fun b => .pointer (some ⟨b, 0, none⟩)) #[(.int .i64 0), (.int .i64 0)] 25 (by kernel_rfl) (by kernel_rfl) ?_
 intro b51 w52 hg53 hb54 hbe55 hz56
 clear hz56 hB48 hB47 hg46 hr37 hz35 hz31 hb29 hB22 hB20 hB19 hg18 hr17 hz15 hg13 hz11 hbe10 hb9 hg8 hg4 hr2
 refine gv_pureN 1 [9] [(9, (.slice a41 (List.length r36.1) c42))] (by kernel_rfl) ?_
 refine gv_store0 25 0 (.agg #[(.int .i64 r36.2.1), (.int .i64 r36.2.2)]) #[(.int .i64 r36.2.1), (.int .i64 r36.2.2)] hb54 (by kernel_rfl) (by kernel_rfl) (by kernel_rfl) ?_
 intro w57 hg58 hb59 hz60
 refine gv_nil <| gv_seq <| gv_region <| gv_pureN 1 [38] [(38, (.string s_1))] (by kernel_rfl) ?_
 refine bindE h0 ?_; clear h0; intro r61 hr62 h0
 refine gv_call0 (by kernel_rfl) rfl (by kernel_rfl) enters18 (bytestr_FromBase64_ok fuel s_1 w57  r61 hr62) ?_
 rintro v65 w63 ⟨hg64, a66, c67, rfl, ho68, hl69⟩
 have hg71 := (grown_trans hg39 hg53)
 have hB72 := bg hB50 hg71 nb
 have hB73 := bg hB50 hg39 nb
 have hlo74 : w0.heap.size ≤ b51 := lob hbe55 hB73.size
 have hB75 := bg hB72 hg58 (rowlo hlo74)
 have hl70 : ∀ g, blk a66 = some g → w0.heap.size ≤ g := fun g e => Nat.le_trans hB75.size (hl69 g e)
 refine gv_pureN 3 [37, 40, 41] [(40, (.slice a66 (List.length r61.1) c67)), (41, (.agg #[(.int .i64 r61.2.1), (.int .i64 r61.2.2)]))] (by kernel_rfl) ?_
 refine gv_new0 (fun b => .pointer (some ⟨b, 0, none⟩)) #[(.int .i64 0), (.int .i64 0)] 25 (by kernel_rfl) (by kernel_rfl) ?_
 intro b76 w77 hg78 hb79 hbe80 hz81
 refine gv_pureN 1 [11] [(11, (.slice a66 (List.length r61.1) c67))] (by kernel_rfl) ?_
 refine gv_store0 25 0 (.agg #[(.int .i64 r61.2.1), (.int .i64 r61.2.2)]) #[(.int .i64 r61.2.1), (.int .i64 r61.2.2)] hb79 (by kernel_rfl) (by kernel_rfl) (by kernel_rfl) ?_
 intro w82 hg83 hb84 hz85
 refine gv_nil <| gv_seq <| gv_seq <| gv_region <| bindE h0 ?_; clear h0; intro r86 hr87 h0
 have hg88 := (grown_trans hg64 hg78)
 have hB89 := bg hB75 hg88 nb
 have hB90 := bg hB75 hg64 nb
 have hlo91 : w0.heap.size ≤ b76 := lob hbe80 hB90.size
 have hB92 := bg hB89 hg83 (rowlo hlo91)
 refine gv_call0 (by kernel_rfl) rfl (by kernel_rfl) enters11 (law4_bytesOf_ok fuel  w82 (fun k => X0 k ∨ X0 k) (fun k hk => (hk).elim (fun h => (fun k (hk : X0 k) => ltl (hX0 k hk) hB92.size) k h) (fun h => (fun k (hk : X0 k) => ltl (hX0 k hk) hB92.size) k h)) ((hG0.below hB92 hX0).wide (fun k hk => (.inl hk))) ((hG1.below hB92 hX0).wide (fun k hk => (.inr hk))) r86 hr87) ?_
 rintro v95 w93 ⟨hg94, rfl⟩
 refine gv_pureN 1 [43] [(43, (.bool (!r86)))] (by kernel_rfl) ?_
 refine gv_nil <| gv_cond (b := (!r86)) (by kernel_rfl) (fun hc96 => ?_) (fun hc96 => ?_)
 ·replace h0 := ite_t hc96 h0
  refine gv_seq <| gv_region <| gv_pureN 1 [4] [(4, (.bool false))] (by kernel_rfl) ?_
  refine gv_sub [4] (σ' := [(4, (.bool false))]) (by kernel_rfl) ?_
  refine gv_nil <| gv_cret ?_
  have e := sj h0; subst e
  refine gv_ret (gv_done [(.bool false)] rfl ⟨(by kernel_rfl), trivial⟩ ?_)
  have hB97 := bg hB92 hg94 nb
  exact ⟨grown_of_below hB97, rfl⟩
 ·replace h0 := ite_f hc96 h0
  refine gv_skip <| gv_seq <| gv_region <| gv_pureN 1 [13] [(13, (.string (strOf [])))] (by kernel_rfl) ?_
  refine gv_sub [0, 1, 5, 6, 7, 8, 9, 10, 11, 12, 13] (σ' := [(0, (.slice pa0_0 (List.length b_0) pc0_0)), (1, (.string s_1)), (5, (.string r1.1)), (6, (bp b6)), (7, (.string r16.1)), (8, (bp b26)), (9, (.slice a41 (List.length r36.1) c42)), (10, (bp b51)), (11, (.slice a66 (List.length r61.1) c67)), (12, (bp b76)), (13, (.string (strOf [])))]) (by kernel_rfl) ?_
  refine gv_nil <| gv_seq <| gv_seq <| gv_region <| gv_pureN 1 [14] [(14, (.int .i64 0))] (by kernel_rfl) ?_
  refine gv_nil <| bindE h0 ?_; clear h0; intro j98 h1 h0
  refine gv_cut_code (J := fun a w99 => Below w0.heap.size w0 w99 ∧ w93.heap.size ≤ w99.heap.size ∧ Box w99 b6 25 #[(.int .i64 r1.2.1), (.int .i64 r1.2.2)] ∧ Box w99 b26 25 #[(.int .i64 r16.2.1), (.int .i64 r16.2.2)] ∧ Box w99 b51 25 #[(.int .i64 r36.2.1), (.int .i64 r36.2.2)] ∧ Box w99 b76 25 #[(.int .i64 r61.2.1), (.int .i64 r61.2.2)] ∧ Gv.Own bE 5 w99 (fun _ => False) a41 c42 r36.1 ∧ Gv.Own bE 5 w99 (fun _ => False) a66 c67 r61.1 ∧ a.defers = [] ∧ a.tmps.size = 198 ∧ Ok [(0, (.slice pa0_0 (List.length b_0) pc0_0)), (1, (.string s_1)), (5, (.string r1.1)), (6, (bp b6)), (7, (.string r16.1)), (8, (bp b26)), (9, (.slice a41 (List.length r36.1) c42)), (10, (bp b51)), (11, (.slice a66 (List.length r61.1) c67)), (12, (bp b76)), (13, (.string j98))] a.tmps) ?_ ?_
  ·skip
   refine gv_block <| gv_loop (A := fun (s100 : (ByteArray × Int)) a w101 => Below w0.heap.size w0 w101 ∧ w93.heap.size ≤ w101.heap.size ∧ Box w101 b6 25 #[(.int .i64 r1.2.1), (.int .i64 r1.2.2)] ∧ Box w101 b26 25 #[(.int .i64 r16.2.1), (.int .i64 r16.2.2)] ∧ Box w101 b51 25 #[(.int .i64 r36.2.1), (.int .i64 r36.2.2)] ∧ Box w101 b76 25 #[(.int .i64 r61.2.1), (.int .i64 r61.2.2)] ∧ Gv.Own bE 5 w101 (fun _ => False) a41 c42 r36.1 ∧ Gv.Own bE 5 w101 (fun _ => False) a66 c67 r61.1 ∧ a.defers = [] ∧ a.tmps.size = 198 ∧ Ok [(0, (.slice pa0_0 (List.length b_0) pc0_0)), (1, (.string s_1)), (5, (.string r1.1)), (6, (bp b6)), (7, (.string r16.1)), (8, (bp b26)), (9, (.slice a41 (List.length r36.1) c42)), (10, (bp b51)), (11, (.slice a66 (List.length r61.1) c67)), (12, (bp b76)), (13, (.string s100.1)), (14, (.int .i64 s100.2))] a.tmps) h1 ?_ ?_
   ·intro a hd hs hok
    have hB102 := bg hB92 hg94 nb
    have hg103 := (grown_trans hg24 hg28)
    have hk104 := hb14.grown hg24 nb
    have lt105 := ltl ((ltb hk104) _ rfl) ((lowb hbe30) _ rfl)
    have hk106 := hb34.grown hg39 nb
    have lt107 := ltl ((ltb hk106) _ rfl) ((lowb hbe55) _ rfl)
    have lt108 := ltt lt105 lt107
    have hk109 := hb59.grown hg64 nb
    have lt110 := ltl ((ltb hk109) _ rfl) ((lowb hbe80) _ rfl)
    have lt111 := ltt lt108 lt110
    have hk112 := ((((((hb14.grown hg103 nb).grown hg33 (rowne (ng lt105))).grown hg71 nb).grown hg58 (rowne (ng lt108))).grown hg88 nb).grown hg83 (rowne (ng lt111))).grown hg94 nb
    have lt113 := ltt lt107 lt110
    have hk114 := ((((hk106.grown hg53 nb).grown hg58 (rowne (ng lt107))).grown hg88 nb).grown hg83 (rowne (ng lt113))).grown hg94 nb
    have hk115 := ((hk109.grown hg78 nb).grown hg83 (rowne (ng lt110))).grown hg94 nb
    have hk116 := hb84.grown hg94 nb
    have ap117 : ¬ (fun k => blk a41 = some k) b51 := fun hx => nl ((lowb hbe55) _ rfl) ((fun k (hk : blk a41 = some k) => ho43.lt k hk) _ hx)
    have hk118 := ((ho43.grown hg53 (fun _ h => h.elim) nb).grown hg58 (fun _ h => h.elim) (rdnn (rowne ap117))).grown hg64 (fun _ h => h.elim) nb
    have ap119 : ¬ (fun k => blk a41 = some k) b76 := fun hx => nl ((lowb hbe80) _ rfl) ((fun k (hk : blk a41 = some k) => hk118.lt k hk) _ hx)
    have hk120 := ((((ho43.grown hg53 (fun _ h => h.elim) nb).grown hg58 (fun _ h => h.elim) (rdnn (rowne ap117))).grown hg88 (fun _ h => h.elim) nb).grown hg83 (fun _ h => h.elim) (rdnn (rowne ap119))).grown hg94 (fun _ h => h.elim) nb
    have ap121 : ¬ (fun k => blk a66 = some k) b76 := fun hx => nl ((lowb hbe80) _ rfl) ((fun k (hk : blk a66 = some k) => ho68.lt k hk) _ hx)
    have hk122 := ((ho68.grown hg78 (fun _ h => h.elim) nb).grown hg83 (fun _ h => h.elim) (rdnn (rowne ap121))).grown hg94 (fun _ h => h.elim) nb
    exact ⟨hB102, (Nat.le_refl _), hk112, hk114, hk115, hk116, hk120, hk122, hd, hs, ok_pick [0, 1, 5, 6, 7, 8, 9, 10, 11, 12, 13, 14] hok (by kernel_rfl)⟩
   ·rintro s100 r2 h2 hR2 a w101 ⟨hB123, hz124, hb125, hb126, hb127, hb128, hk129, hk130, hd, hs, hok⟩
    refine gv_in ?_ hd hs hok
    clear hd hs hok
    clear hc96 hg94 hB92 hB90 hB89 hg88 hr87 hz85 hb84 hg83 hz81 hb79 hg78 hB75 hB73 hB72 hg71 hr62 hz60 hb54 hB50
    refine gv_seq <| gv_seq <| gv_region <| gv_cut_ops (J := fun a w131 => w101 = w131 ∧ a.defers = [] ∧ a.tmps.size = 198 ∧ Ok [(0, (.slice pa0_0 (List.length b_0) pc0_0)), (1, (.string s_1)), (5, (.string r1.1)), (6, (bp b6)), (7, (.string r16.1)), (8, (bp b26)), (9, (.slice a41 (List.length r36.1) c42)), (10, (bp b51)), (11, (.slice a66 (List.length r61.1) c67)), (12, (bp b76)), (13, (.string s100.1)), (14, (.int .i64 s100.2)), (51, (.bool ((decide (s100.2 < ((List.length b_0 : Nat) : Int))) && (decide (s100.2 ≤ 2001)))))] a.tmps) ?_ ?_
    ·skip
     refine gv_pureN 5 [44, 45, 46, 47, 48] [(48, (.bool (decide (s100.2 < ((List.length b_0 : Nat) : Int)))))] (by kernel_rfl) ?_
     refine gv_split (s := 48) (g := (decide (s100.2 < ((List.length b_0 : Nat) : Int)))) (by kernel_rfl) (fun hc132 => ?_) (fun hc132 => ?_)
     ·skip
      refine gv_pureN 3 [49, 50, 51] [(51, (.bool (decide (s100.2 ≤ 2001))))] (by kernel_rfl) ?_
      refine gv_nil <| gv_sub [0, 1, 5, 6, 7, 8, 9, 10, 11, 12, 13, 14, 51] (σ' := [(0, (.slice pa0_0 (List.length b_0) pc0_0)), (1, (.string s_1)), (5, (.string r1.1)), (6, (bp b6)), (7, (.string r16.1)), (8, (bp b26)), (9, (.slice a41 (List.length r36.1) c42)), (10, (bp b51)), (11, (.slice a66 (List.length r61.1) c67)), (12, (bp b76)), (13, (.string s100.1)), (14, (.int .i64 s100.2)), (51, (.bool (decide (s100.2 ≤ 2001))))]) (by kernel_rfl) ?_
      refine gv_goal fun a hd hs hok => ⟨rfl, hd, hs, ?_⟩
      obtain ⟨q0, q1, q5, q6, q7, q8, q9, q10, q11, q12, q13, q14, q51, _⟩ := hok
      exact ⟨q0, q1, q5, q6, q7, q8, q9, q10, q11, q12, q13, q14, (by rw [hc132]; exact q51), trivial⟩
     ·skip
      refine gv_pureN 3 [49, 50, 51] [(51, (.bool false))] (by kernel_rfl) ?_
      refine gv_nil <| gv_sub [0, 1, 5, 6, 7, 8, 9, 10, 11, 12, 13, 14, 51] (σ' := [(0, (.slice pa0_0 (List.length b_0) pc0_0)), (1, (.string s_1)), (5, (.string r1.1)), (6, (bp b6)), (7, (.string r16.1)), (8, (bp b26)), (9, (.slice a41 (List.length r36.1) c42)), (10, (bp b51)), (11, (.slice a66 (List.length r61.1) c67)), (12, (bp b76)), (13, (.string s100.1)), (14, (.int .i64 s100.2)), (51, (.bool false))]) (by kernel_rfl) ?_
      refine gv_goal fun a hd hs hok => ⟨rfl, hd, hs, ?_⟩
      obtain ⟨q0, q1, q5, q6, q7, q8, q9, q10, q11, q12, q13, q14, q51, _⟩ := hok
      exact ⟨q0, q1, q5, q6, q7, q8, q9, q10, q11, q12, q13, q14, (by rw [hc132]; exact q51), trivial⟩
    ·rintro a w131 ⟨e, hd, hs, hok⟩; subst e
     refine gv_in ?_ hd hs hok
     clear hd hs hok
     refine gv_cond (b := ((decide (s100.2 < ((List.length b_0 : Nat) : Int))) && (decide (s100.2 ≤ 2001)))) (by kernel_rfl) (fun hc133 => ?_) (fun hc133 => ?_)
     ·replace h2 := ite_t hc133 h2
      refine gv_skip <| gv_seq <| gv_block <| gv_drawA (by kernel_rfl) ?_
      intro w134 hg135
      refine gv_pre [0, 1, 2, 3, 6, 7, 8, 13, 14, 15, 18, 19, 20] (bA 28 [0, 1, 2, 3, 6, 7, 8, 13, 14, 15, 18, 19, 20]) 15 (by kernel_rfl) (by kernel_rfl) ?_
      refine gv_pureN 3 [54, 55, 56] [(54, (.string s100.1)), (55, (.slice pa0_0 (List.length b_0) pc0_0)), (56, (.int .i64 s100.2))] (by kernel_rfl) ?_
      refine bindE h2 ?_; clear h2; intro x136 hx137 h2
      have hB138 := bg hB123 hg135 nb
      refine gv_idxaddr (t := 22) (e := 5) (a := pa0_0) (len := List.length b_0) (cap := pc0_0) (kk := .i64) (i := s100.2) (sz := 1) [] (fun e => by cases e) rfl rfl rfl (by kernel_rfl) (by kernel_rfl) Tryd.underlying22 (by kernel_rfl) ((hpa0_0.below hB138 hX0).has hx137) (idx_spec hx137).1 (idx_spec hx137).2.1 rfl ?_
      refine gv_pureN 2 [60, 61] [(60, (.slice pa0_0 (List.length b_0) pc0_0)), (61, (.int .i64 s100.2))] (by kernel_rfl) ?_
      refine bindE h2 ?_; clear h2; intro x139 hx140 h2
      refine gv_idxaddr (t := 22) (e := 5) (a := pa0_0) (len := List.length b_0) (cap := pc0_0) (kk := .i64) (i := s100.2) (sz := 1) [] (fun e => by cases e) rfl rfl rfl (by kernel_rfl) (by kernel_rfl) Tryd.underlying22 (by kernel_rfl) ((hpa0_0.below hB138 hX0).has hx140) (idx_spec hx140).1 (idx_spec hx140).2.1 rfl ?_
      refine gv_pureN 2 [67, 68] [(67, (.slice pa0_0 (List.length b_0) pc0_0)), (68, (.int .i64 s100.2))] (by kernel_rfl) ?_
      refine bindE h2 ?_; clear h2; intro x141 hx142 h2
      refine gv_idxaddr (t := 22) (e := 5) (a := pa0_0) (len := List.length b_0) (cap := pc0_0) (kk := .i64) (i := s100.2) (sz := 1) [] (fun e => by cases e) rfl rfl rfl (by kernel_rfl) (by kernel_rfl) Tryd.underlying22 (by kernel_rfl) ((hpa0_0.below hB138 hX0).has hx142) (idx_spec hx142).1 (idx_spec hx142).2.1 rfl ?_
      refine gv_pureN 2 [72, 73] [(72, (.slice pa0_0 (List.length b_0) pc0_0)), (73, (.int .i64 s100.2))] (by kernel_rfl) ?_
      refine bindE h2 ?_; clear h2; intro x143 hx144 h2
      refine gv_idxaddr (t := 22) (e := 5) (a := pa0_0) (len := List.length b_0) (cap := pc0_0) (kk := .i64) (i := s100.2) (sz := 1) [] (fun e => by cases e) rfl rfl rfl (by kernel_rfl) (by kernel_rfl) Tryd.underlying22 (by kernel_rfl) ((hpa0_0.below hB138 hX0).has hx144) (idx_spec hx144).1 (idx_spec hx144).2.1 rfl ?_
      refine gv_nil <| gv_goA ?_
      refine gv_stage (Cls w134 []) [0, 1, 2, 3, 4, 5, 6, 7, 8, 9, 10, 11, 12, 13, 14, 15, 16, 17, 18, 19, 20, 21, 22, 23, 24] [(4, some true), (5, some true), (9, some true), (10, some true), (11, some true), (12, some true), (16, some true), (17, some true), (21, some true), (22, some true), (23, some true), (24, some true)] (bA 28 [0, 1, 2, 3, 4, 5, 6, 7, 8, 9, 10, 11, 12, 13, 14, 15, 16, 17, 18, 19, 20, 21, 22, 23, 24]) 3 (by kernel_rfl) (by kernel_rfl) (Cls.refl _ _) ?_
      have hC145 := Cls.refl w134 []
      refine gv_load (t := 5) (A := (elemAddr pa0_0 ((s100.2 : Int).toNat * 1))) (.int .u8 ((x136).toNat : Int)) [] (fun e => by cases e) rfl rfl rfl (by kernel_rfl) (by kernel_rfl) (by kernel_rfl) (inw1 fun w' hC' => ((hC'.rd (hpa0_0.below hB138 hX0) (fun k (hk : X0 k) => ltl (hX0 k hk) hB138.size) nmx_nil).cell hx137)) rfl ?_
      refine gv_pureN 1 [59] [(59, (.int .u8 (IntKind.u8.wrap ((((x136).toNat : Int)).tdiv 16))))] (by kernel_rfl) ?_
      refine gv_load (t := 5) (A := (elemAddr pa0_0 ((s100.2 : Int).toNat * 1))) (.int .u8 ((x139).toNat : Int)) [] (fun e => by cases e) rfl rfl rfl (by kernel_rfl) (by kernel_rfl) (by kernel_rfl) (inw1 fun w' hC' => ((hC'.rd (hpa0_0.below hB138 hX0) (fun k (hk : X0 k) => ltl (hX0 k hk) hB138.size) nmx_nil).cell hx140)) rfl ?_
      refine gv_pureN 2 [64, 65] [(65, (.int .u8 (IntKind.u8.wrap ((IntKind.u8.wrap ((((x139).toNat : Int)).tdiv 16)) + 1))))] (by kernel_rfl) ?_
      refine bindE h2 ?_; clear h2; intro x146 hx147 h2
      refine gv_ssub (t := 9) (s := (strOf [48, 49, 50, 51, 52, 53, 54, 55, 56, 57, 97, 98, 99, 100, 101, 102])) (lo := (some (.int .u8 (IntKind.u8.wrap ((((x136).toNat : Int)).tdiv 16))))) (hi := (some (.int .u8 (IntKind.u8.wrap ((IntKind.u8.wrap ((((x139).toNat : Int)).tdiv 16)) + 1))))) (IntKind.u8.wrap ((((x136).toNat : Int)).tdiv 16)) (IntKind.u8.wrap ((IntKind.u8.wrap ((((x139).toNat : Int)).tdiv 16)) + 1)) x146 [] (fun e => by cases e) rfl rfl rfl (by kernel_rfl) (by kernel_rfl) Tryd.underlying9 (.inr ⟨_, rfl⟩) (.inr ⟨_, rfl⟩) hx147 rfl ?_
      refine gv_load (t := 5) (A := (elemAddr pa0_0 ((s100.2 : Int).toNat * 1))) (.int .u8 ((x141).toNat : Int)) [] (fun e => by cases e) rfl rfl rfl (by kernel_rfl) (by kernel_rfl) (by kernel_rfl) (inw1 fun w' hC' => ((hC'.rd (hpa0_0.below hB138 hX0) (fun k (hk : X0 k) => ltl (hX0 k hk) hB138.size) nmx_nil).cell hx142)) rfl ?_
      refine gv_pureN 1 [71] [(71, (.int .u8 ((((x141).toNat : Int)).tmod 16)))] (by kernel_rfl) ?_
      refine gv_sub [0, 1, 5, 6, 7, 8, 9, 10, 11, 12, 14, 54, 66, 71, 74] (σ' := [(0, (.slice pa0_0 (List.length b_0) pc0_0)), (1, (.string s_1)), (5, (.string r1.1)), (6, (bp b6)), (7, (.string r16.1)), (8, (bp b26)), (9, (.slice a41 (List.length r36.1) c42)), (10, (bp b51)), (11, (.slice a66 (List.length r61.1) c67)), (12, (bp b76)), (14, (.int .i64 s100.2)), (54, (.string s100.1)), (66, (.string x146)), (71, (.int .u8 ((((x141).toNat : Int)).tmod 16))), (74, (.pointer (some (elemAddr pa0_0 ((s100.2 : Int).toNat * 1)))))]) (by kernel_rfl) ?_
      refine gv_load (t := 5) (A := (elemAddr pa0_0 ((s100.2 : Int).toNat * 1))) (.int .u8 ((x143).toNat : Int)) [] (fun e => by cases e) rfl rfl rfl (by kernel_rfl) (by kernel_rfl) (by kernel_rfl) (inw1 fun w' hC' => ((hC'.rd (hpa0_0.below hB138 hX0) (fun k (hk : X0 k) => ltl (hX0 k hk) hB138.size) nmx_nil).cell hx144)) rfl ?_
      refine gv_pureN 2 [76, 77] [(77, (.int .u8 (IntKind.u8.wrap (((((x143).toNat : Int)).tmod 16) + 1))))] (by kernel_rfl) ?_
      refine bindE h2 ?_; clear h2; intro x148 hx149 h2
      refine gv_ssub (t := 9) (s := (strOf [48, 49, 50, 51, 52, 53, 54, 55, 56, 57, 97, 98, 99, 100, 101, 102])) (lo := (some (.int .u8 ((((x141).toNat : Int)).tmod 16)))) (hi := (some (.int .u8 (IntKind.u8.wrap (((((x143).toNat : Int)).tmod 16) + 1))))) ((((x141).toNat : Int)).tmod 16) (IntKind.u8.wrap (((((x143).toNat : Int)).tmod 16) + 1)) x148 [] (fun e => by cases e) rfl rfl rfl (by kernel_rfl) (by kernel_rfl) Tryd.underlying9 (.inr ⟨_, rfl⟩) (.inr ⟨_, rfl⟩) hx149 rfl ?_
      refine gv_nil <| gv_goA ?_
      refine gv_pre [25, 26, 27] (bA 28 [0, 1, 2, 3, 4, 5, 6, 7, 8, 9, 10, 11, 12, 13, 14, 15, 16, 17, 18, 19, 20, 21, 22, 23, 24, 25, 26, 27]) 0 (by kernel_rfl) (by kernel_rfl) ?_
      refine bindE h2 ?_; clear h2; intro x150 hx151 h2
      refine gv_cat (t := 9) (s := x146) (u := x148) x150 [] (fun e => by cases e) rfl rfl rfl (by kernel_rfl) (by kernel_rfl) hx151 rfl ?_
      refine bindE h2 ?_; clear h2; intro x152 hx153 h2
      refine gv_cat (t := 9) (s := s100.1) (u := x150) x152 [] (fun e => by cases e) rfl rfl rfl (by kernel_rfl) (by kernel_rfl) hx153 rfl ?_
      refine gv_pureN 1 [13] [(13, (.string x152))] (by kernel_rfl) ?_
      refine gv_nil <| gv_goA ?_
      refine gv_stageE (by kernel_rfl) ?_
      refine gv_blk <| gv_region <| gv_pureN 3 [14, 52, 53] [(14, (.int .i64 (IntKind.i64.wrap (s100.2 + 1))))] (by kernel_rfl) ?_
      refine gv_nil ?_
      have e := sj h2; subst e
      refine gv_goal fun a hd hs hok => ?_
      have hz154 := (nt hz124 hg135.size)
      have hk155 := hb125.grown hg135 nb
      have hk156 := hb126.grown hg135 nb
      have hk157 := hb127.grown hg135 nb
      have hk158 := hb128.grown hg135 nb
      have hk159 := hk129.grown hg135 (fun _ h => h.elim) nb
      have hk160 := hk130.grown hg135 (fun _ h => h.elim) nb
      exact ⟨(x152, (IntKind.i64.wrap (s100.2 + 1))), rfl, hB138, hz154, hk155, hk156, hk157, hk158, hk159, hk160, hd, hs, ok_pick [0, 1, 5, 6, 7, 8, 9, 10, 11, 12, 13, 14] hok (by kernel_rfl)⟩
     ·replace h2 := ite_f hc133 h2
      refine gv_cexit <| gv_exit rfl ?_
      have e := sj h2; subst e
      replace h1 := congrArg some (hR2 _ rfl)
      have e := sj h1; subst e
      refine gv_goal fun a hd hs hok => ?_
      have hz161 := hz124
      exact ⟨hB123, hz161, hb125, hb126, hb127, hb128, hk129, hk130, hd, hs, ok_pick [0, 1, 5, 6, 7, 8, 9, 10, 11, 12, 13] hok (by kernel_rfl)⟩
  ·rintro a w99 ⟨hB162, hz163, hb164, hb165, hb166, hb167, hk168, hk169, hd, hs, hok⟩
   refine gv_in ?_ hd hs hok
   clear hd hs hok
   clear hz163 hc96 hg94 hB92 hB90 hB89 hg88 hr87 hz85 hb84 hg83 hz81 hb79 hg78 hB75 hB73 hB72 hg71 hr62 hz60 hb54 hB50
   refine gv_seq <| gv_region <| bindE h0 ?_; clear h0; intro r170 hr171 h0
   refine gv_call0 (by kernel_rfl) rfl (by kernel_rfl) enters12 (ref4_At_ok fuel 3 (-1) w99  r170 hr171) ?_
   rintro v174 w172 ⟨hg173, rfl⟩
   refine gv_new0 (fun b => .pointer (some ⟨b, 0, none⟩)) #[(.int .i64 0), (.int .i64 0)] 25 (by kernel_rfl) (by kernel_rfl) ?_
   intro b175 w176 hg177 hb178 hbe179 hz180
   refine gv_store0 25 0 (.agg #[(.int .i64 r170.1), (.int .i64 r170.2)]) #[(.int .i64 r170.1), (.int .i64 r170.2)] hb178 (by kernel_rfl) (by kernel_rfl) (by kernel_rfl) ?_
   intro w181 hg182 hb183 hz184
   refine gv_nil <| gv_seq <| gv_seq <| gv_region <| gv_pureN 1 [82] [(82, (.string r1.1))] (by kernel_rfl) ?_
   have hg185 := (grown_trans hg173 hg177)
   have hk186 := hb14.grown hg24 nb
   have lt187 := ltl ((ltb hk186) _ rfl) ((lowb hbe30) _ rfl)
   have hk188 := hb34.grown hg39 nb
   have lt189 := ltl ((ltb hk188) _ rfl) ((lowb hbe55) _ rfl)
   have lt190 := ltt lt187 lt189
   have hk191 := hb59.grown hg64 nb
   have lt192 := ltl ((ltb hk191) _ rfl) ((lowb hbe80) _ rfl)
   have lt193 := ltt lt190 lt192
   have hk194 := hb167.grown hg173 nb
   have lt195 := ltl ((ltb hk194) _ rfl) ((lowb hbe179) _ rfl)
   have lt196 := ltt lt193 lt195
   have hk197 := (hb164.grown hg185 nb).grown hg182 (rowne (ng lt196))
   refine gv_loadBox (t := 25) (b := b6) (t' := 25) (fr := (0, 0)) #[(.int .i64 r1.2.1), (.int .i64 r1.2.2)] [] (fun e => by cases e) rfl rfl rfl (by kernel_rfl) (by kernel_rfl) (by kernel_rfl) (by kernel_rfl) (inw0 hk197) rfl ?_
   refine gv_pureN 2 [84, 85] [(84, (.string j98)), (85, (.agg #[(.int .i64 0), (.int .i64 0)]))] (by kernel_rfl) ?_
   refine bindE h0 ?_; clear h0; intro r198 hr199 h0
   refine gv_call0 (by kernel_rfl) rfl (by kernel_rfl) enters19 (law4_text_ok fuel r1.1 (r1.2.1, r1.2.2) j98 (0, 0) w181  r198 hr199) ?_
   rintro v202 w200 ⟨hg201, rfl⟩
   refine gv_pureN 1 [87] [(87, (.bool (!r198)))] (by kernel_rfl) ?_
   refine gv_nil <| gv_cond (b := (!r198)) (by kernel_rfl) (fun hc203 => ?_) (fun hc203 => ?_)
   ·replace h0 := ite_t hc203 h0
    refine gv_seq <| gv_region <| gv_pureN 1 [4] [(4, (.bool false))] (by kernel_rfl) ?_
    refine gv_nil <| gv_cret ?_
    have e := sj h0; subst e
    refine gv_ret (gv_done [(.bool false)] rfl ⟨(by kernel_rfl), trivial⟩ ?_)
    have hB204 := bg hB162 hg185 nb
    have hB205 := bg hB162 hg173 nb
    have hlo206 : w0.heap.size ≤ b175 := lob hbe179 hB205.size
    have hB207 := bg hB204 hg182 (rowlo hlo206)
    have hB208 := bg hB207 hg201 nb
    exact ⟨grown_of_below hB208, rfl⟩
   ·replace h0 := ite_f hc203 h0
    refine gv_skip <| gv_seq <| gv_seq <| gv_region <| gv_pureN 3 [88, 89, 90] [(90, (.bool (decide (((List.length b_0 : Nat) : Int) > 3000))))] (by kernel_rfl) ?_
    refine gv_nil <| bindE h0 ?_; clear h0; intro j209 h1 h0
    refine gv_cut_code (J := fun a w211 => ∃ s210 : Unit, j209 = .inl s210 ∧ Below w0.heap.size w0 w211 ∧ w200.heap.size ≤ w211.heap.size ∧ Box w211 b51 25 #[(.int .i64 r36.2.1), (.int .i64 r36.2.2)] ∧ Box w211 b76 25 #[(.int .i64 r61.2.1), (.int .i64 r61.2.2)] ∧ Box w211 b175 25 #[(.int .i64 r170.1), (.int .i64 r170.2)] ∧ Gv.Own bE 5 w211 (fun _ => False) a41 c42 r36.1 ∧ Gv.Own bE 5 w211 (fun _ => False) a66 c67 r61.1 ∧ a.defers = [] ∧ a.tmps.size = 198 ∧ Ok [(1, (.string s_1)), (9, (.slice a41 (List.length r36.1) c42)), (10, (bp b51)), (11, (.slice a66 (List.length r61.1) c67)), (12, (bp b76)), (15, (bp b175))] a.tmps) ?_ ?_
    ·skip
     refine gv_cond (b := (decide (((List.length b_0 : Nat) : Int) > 3000))) (by kernel_rfl) (fun hc212 => ?_) (fun hc212 => ?_)
     ·replace h1 := ite_t hc212 h1
      refine gv_seq <| gv_region <| gv_pureN 1 [91] [(91, (.string r16.1))] (by kernel_rfl) ?_
      have lt213 := ltt lt189 lt192
      have lt214 := ltt lt213 lt195
      have hk215 := ((hb165.grown hg185 nb).grown hg182 (rowne (ng lt214))).grown hg201 nb
      refine gv_loadBox (t := 25) (b := b26) (t' := 25) (fr := (0, 0)) #[(.int .i64 r16.2.1), (.int .i64 r16.2.2)] [] (fun e => by cases e) rfl rfl rfl (by kernel_rfl) (by kernel_rfl) (by kernel_rfl) (by kernel_rfl) (inw0 hk215) rfl ?_
      have hk216 := hb183.grown hg201 nb
      refine gv_loadBox (t := 25) (b := b175) (t' := 25) (fr := (0, 0)) #[(.int .i64 r170.1), (.int .i64 r170.2)] [] (fun e => by cases e) rfl rfl rfl (by kernel_rfl) (by kernel_rfl) (by kernel_rfl) (by kernel_rfl) (inw0 hk216) rfl ?_
      refine bindE h1 ?_; clear h1; intro r217 hr218 h1
      refine gv_call0 (by kernel_rfl) rfl (by kernel_rfl) enters19 (law4_text_ok fuel r16.1 (r16.2.1, r16.2.2) (strOf []) (r170.1, r170.2) w200  r217 hr218) ?_
      rintro v221 w219 ⟨hg220, rfl⟩
      refine gv_pureN 1 [95] [(95, (.bool (!r217)))] (by kernel_rfl) ?_
      refine gv_sub [1, 9, 10, 11, 12, 15, 95] (σ' := [(1, (.string s_1)), (9, (.slice a41 (List.length r36.1) c42)), (10, (bp b51)), (11, (.slice a66 (List.length r61.1) c67)), (12, (bp b76)), (15, (bp b175)), (95, (.bool (!r217)))]) (by kernel_rfl) ?_
      refine gv_nil <| gv_cond (b := (!r217)) (by kernel_rfl) (fun hc222 => ?_) (fun hc222 => ?_)
      ·replace h1 := ite_t hc222 h1
       refine gv_seq <| gv_region <| gv_pureN 1 [4] [(4, (.bool false))] (by kernel_rfl) ?_
       refine gv_nil <| gv_cret ?_
       have e := sj h1; subst e
       replace h0 := cont_inr h0
       have e := sj h0; subst e
       refine gv_ret (gv_done [(.bool false)] rfl ⟨(by kernel_rfl), trivial⟩ ?_)
       have hB223 := bg hB162 hg185 nb
       have hB224 := bg hB162 hg173 nb
       have hlo225 : w0.heap.size ≤ b175 := lob hbe179 hB224.size
       have hB226 := bg hB223 hg182 (rowlo hlo225)
       have hg227 := (grown_trans hg201 hg220)
       have hB228 := bg hB226 hg227 nb
       exact ⟨grown_of_below hB228, rfl⟩
      ·replace h1 := ite_f hc222 h1
       refine gv_skip ?_
       have e := sj h1; subst e
       refine gv_goal fun a hd hs hok => ?_
       have hB229 := bg hB162 hg185 nb
       have hB230 := bg hB162 hg173 nb
       have hlo231 : w0.heap.size ≤ b175 := lob hbe179 hB230.size
       have hB232 := bg hB229 hg182 (rowlo hlo231)
       have hg233 := (grown_trans hg201 hg220)
       have hB234 := bg hB232 hg233 nb
       have hz235 := hg220.size
       have lt236 := ltt lt192 lt195
       have hk237 := ((hb166.grown hg185 nb).grown hg182 (rowne (ng lt236))).grown hg233 nb
       have hk238 := ((hk194.grown hg177 nb).grown hg182 (rowne (ng lt195))).grown hg233 nb
       have hk239 := hk216.grown hg220 nb
       have hk240 := hk168.grown hg173 (fun _ h => h.elim) nb
       have ap241 : ¬ (fun k => blk a41 = some k) b175 := fun hx => nl ((lowb hbe179) _ rfl) ((fun k (hk : blk a41 = some k) => hk240.lt k hk) _ hx)
       have hk242 := ((hk168.grown hg185 (fun _ h => h.elim) nb).grown hg182 (fun _ h => h.elim) (rdnn (rowne ap241))).grown hg233 (fun _ h => h.elim) nb
       have hk243 := hk169.grown hg173 (fun _ h => h.elim) nb
       have ap244 : ¬ (fun k => blk a66 = some k) b175 := fun hx => nl ((lowb hbe179) _ rfl) ((fun k (hk : blk a66 = some k) => hk243.lt k hk) _ hx)
       have hk245 := ((hk169.grown hg185 (fun _ h => h.elim) nb).grown hg182 (fun _ h => h.elim) (rdnn (rowne ap244))).grown hg233 (fun _ h => h.elim) nb
       exact ⟨(), rfl, hB234, hz235, hk237, hk238, hk239, hk242, hk245, hd, hs, ok_pick [1, 9, 10, 11, 12, 15] hok (by kernel_rfl)⟩
     ·replace h1 := ite_f hc212 h1
      refine gv_seq <| gv_drawA (by kernel_rfl) ?_
      intro w246 hg247
      refine gv_pre [0, 2, 4] (bA 7 [0, 2, 4]) 4 (by kernel_rfl) (by kernel_rfl) ?_
      refine gv_pureN 3 [96, 98, 100] [(96, (.string r16.1)), (98, (.slice pa0_0 (List.length b_0) pc0_0)), (100, (.agg #[(.int .i64 0), (.int .i64 0)]))] (by kernel_rfl) ?_
      refine gv_nil <| gv_goA ?_
      refine gv_stage (Cls w246 []) [0, 1, 2, 3, 4] [(1, some true), (3, some false)] (bA 7 [0, 1, 2, 3, 4]) 2 (by kernel_rfl) (by kernel_rfl) (Cls.refl _ _) ?_
      have hC248 := Cls.refl w246 []
      have lt249 := ltt lt189 lt192
      have lt250 := ltt lt249 lt195
      have hg251 := (grown_trans hg201 hg247)
      have hk252 := ((hb165.grown hg185 nb).grown hg182 (rowne (ng lt250))).grown hg251 nb
      refine gv_loadBox (t := 25) (b := b26) (t' := 25) (fr := (0, 0)) #[(.int .i64 r16.2.1), (.int .i64 r16.2.2)] [] (fun e => by cases e) rfl rfl rfl (by kernel_rfl) (by kernel_rfl) (by kernel_rfl) (by kernel_rfl) (inw1 fun w' hC' => (hC'.box hk252 nm_nil)) rfl ?_
      refine bindE h1 ?_; clear h1; intro r253 hr254 h1
      have hB255 := bg hB162 hg185 nb
      have hB256 := bg hB162 hg173 nb
      have hlo257 : w0.heap.size ≤ b175 := lob hbe179 hB256.size
      have hB258 := bg hB255 hg182 (rowlo hlo257)
      have hB259 := bg hB258 hg251 nb
      refine gv_call (f := 20) (vs := [(.slice pa0_0 (List.length b_0) pc0_0)]) (cap := []) _ (by decide) rfl rfl rfl (by kernel_rfl) (by kernel_rfl) enters20 (ref4_Sixties_ok fuel pa0_0 pc0_0 b_0 w246 (fun k => X0 k) (fun k hk => (fun k (hk : X0 k) => ltl (hX0 k hk) hB259.size) k hk) ((hpa0_0.below hB259 hX0).wide (fun k hk => hk)) r253 hr254) ?_
      rintro v262 w260 ⟨hg261, rfl⟩
      refine ⟨(fun _ => hC248.grown hg261 nb), ?_⟩
      refine gv_nil <| gv_goA ?_
      refine gv_stage (fun _ => True) [0, 1, 2, 3, 4, 5] [(5, some false)] (bA 7 [0, 1, 2, 3, 4, 5]) 1 (by kernel_rfl) (by kernel_rfl) trivial ?_
      refine bindE h1 ?_; clear h1; intro r263 hr264 h1
      refine gv_call (f := 19) (vs := [(.string r16.1), (.agg #[(.int .i64 r16.2.1), (.int .i64 r16.2.2)]), (.string r253), (.agg #[(.int .i64 0), (.int .i64 0)])]) (cap := []) _ (by decide) rfl rfl rfl (by kernel_rfl) (by kernel_rfl) enters19 (law4_text_ok fuel r16.1 (r16.2.1, r16.2.2) r253 (0, 0) w260  r263 hr264) ?_
      rintro v267 w265 ⟨hg266, rfl⟩
      refine ⟨(fun _ => trivial), ?_⟩
      refine gv_nil <| gv_goA ?_
      refine gv_pre [6] (bA 7 [0, 1, 2, 3, 4, 5, 6]) 0 (by kernel_rfl) (by kernel_rfl) ?_
      refine gv_pureN 1 [102] [(102, (.bool (!r263)))] (by kernel_rfl) ?_
      refine gv_sub [1, 9, 10, 11, 12, 15, 102] (σ' := [(1, (.string s_1)), (9, (.slice a41 (List.length r36.1) c42)), (10, (bp b51)), (11, (.slice a66 (List.length r61.1) c67)), (12, (bp b76)), (15, (bp b175)), (102, (.bool (!r263)))]) (by kernel_rfl) ?_
      refine gv_nil <| gv_goA ?_
      refine gv_stageE (by kernel_rfl) ?_
      refine gv_cond (b := (!r263)) (by kernel_rfl) (fun hc268 => ?_) (fun hc268 => ?_)
      ·replace h1 := ite_t hc268 h1
       refine gv_seq <| gv_region <| gv_pureN 1 [4] [(4, (.bool false))] (by kernel_rfl) ?_
       refine gv_nil <| gv_cret ?_
       have e := sj h1; subst e
       replace h0 := cont_inr h0
       have e := sj h0; subst e
       refine gv_ret (gv_done [(.bool false)] rfl ⟨(by kernel_rfl), trivial⟩ ?_)
       have hg269 := (grown_trans hg261 hg266)
       have hB270 := bg hB259 hg269 nb
       exact ⟨grown_of_below hB270, rfl⟩
      ·replace h1 := ite_f hc268 h1
       refine gv_skip ?_
       have e := sj h1; subst e
       refine gv_goal fun a hd hs hok => ?_
       have hg271 := (grown_trans hg261 hg266)
       have hB272 := bg hB259 hg271 nb
       have hz273 := (nt (nt hg247.size hg261.size) hg266.size)
       have lt274 := ltt lt192 lt195
       have hg275 := (grown_trans hg251 hg271)
       have hk276 := ((hb166.grown hg185 nb).grown hg182 (rowne (ng lt274))).grown hg275 nb
       have hk277 := ((hk194.grown hg177 nb).grown hg182 (rowne (ng lt195))).grown hg275 nb
       have hk278 := hb183.grown hg275 nb
       have hk279 := hk168.grown hg173 (fun _ h => h.elim) nb
       have ap280 : ¬ (fun k => blk a41 = some k) b175 := fun hx => nl ((lowb hbe179) _ rfl) ((fun k (hk : blk a41 = some k) => hk279.lt k hk) _ hx)
       have hk281 := ((hk168.grown hg185 (fun _ h => h.elim) nb).grown hg182 (fun _ h => h.elim) (rdnn (rowne ap280))).grown hg275 (fun _ h => h.elim) nb
       have hk282 := hk169.grown hg173 (fun _ h => h.elim) nb
       have ap283 : ¬ (fun k => blk a66 = some k) b175 := fun hx => nl ((lowb hbe179) _ rfl) ((fun k (hk : blk a66 = some k) => hk282.lt k hk) _ hx)
       have hk284 := ((hk169.grown hg185 (fun _ h => h.elim) nb).grown hg182 (fun _ h => h.elim) (rdnn (rowne ap283))).grown hg275 (fun _ h => h.elim) nb
       exact ⟨(), rfl, hB272, hz273, hk276, hk277, hk278, hk281, hk284, hd, hs, ok_pick [1, 9, 10, 11, 12, 15] hok (by kernel_rfl)⟩
    ·rintro a w211 ⟨s210, e, hB285, hz286, hb287, hb288, hb289, hk290, hk291, hd, hs, hok⟩
     subst e
     refine gv_in ?_ hd hs hok
     clear hd hs hok
     replace h0 := cont_inl h0
     clear hz286 hc203 hg201 hr199 hk197 lt196 hk194 lt193 hk191 lt190 lt189 hk188 lt187 hk186 hg185 hz184 hb183 hg182 hz180 hb178 hg177 hr171 hb167 hb166 hb165 hb164 hlo49 hl44 hg39 hb34 hg33 hbe30 hg28 hg24 hlo21 hb14
     refine gv_seq <| gv_seq <| gv_region <| gv_pureN 3 [103, 104, 105] [(105, (.bool (decide (((ByteArray.size s_1 : Nat) : Int) > 4000))))] (by kernel_rfl) ?_
     refine gv_nil <| gv_cond (b := (decide (((ByteArray.size s_1 : Nat) : Int) > 4000))) (by kernel_rfl) (fun hc292 => ?_) (fun hc292 => ?_)
     ·replace h0 := ite_t hc292 h0
      refine gv_seq <| gv_region <| bindE h0 ?_; clear h0; intro j293 h1 h0
      refine gv_cut_ops (J := fun a w294 => Below w0.heap.size w0 w294 ∧ w211.heap.size ≤ w294.heap.size ∧ a.defers = [] ∧ a.tmps.size = 198 ∧ Ok [(4, (.bool j293))] a.tmps) ?_ ?_
      ·skip
       refine gv_pureN 1 [106] [(106, (.slice a41 (List.length r36.1) c42))] (by kernel_rfl) ?_
       refine gv_loadBox (t := 25) (b := b51) (t' := 25) (fr := (0, 0)) #[(.int .i64 r36.2.1), (.int .i64 r36.2.2)] [] (fun e => by cases e) rfl rfl rfl (by kernel_rfl) (by kernel_rfl) (by kernel_rfl) (by kernel_rfl) (inw0 hb287) rfl ?_
       refine gv_loadBox (t := 25) (b := b175) (t' := 25) (fr := (0, 0)) #[(.int .i64 r170.1), (.int .i64 r170.2)] [] (fun e => by cases e) rfl rfl rfl (by kernel_rfl) (by kernel_rfl) (by kernel_rfl) (by kernel_rfl) (inw0 hb289) rfl ?_
       refine bindE h1 ?_; clear h1; intro r295 hr296 h1
       refine gv_call0 (by kernel_rfl) rfl (by kernel_rfl) enters13 (law4_raw_ok fuel a41 c42 r36.1 (r36.2.1, r36.2.2) none 0 ([] : List UInt8) (r170.1, r170.2) w211 (fun k => (fun k => blk a41 = some k) k ∨ (fun _ => False) k) (fun k hk => (hk).elim (fun h => (fun k (hk : blk a41 = some k) => hk290.lt k hk) k h) (fun h => (fun _ h => h.elim) k h)) ((hk290.rd (Y := fun k => blk a41 = some k) (fun _ h => h.elim) (fun g e => e)).wide (fun k hk => (.inl hk))) ((Rd.nil bE w211 (fun _ => False) none 0).wide (fun k hk => (.inr hk))) r295 hr296) ?_
       rintro v299 w297 ⟨hg298, rfl⟩
       refine gv_pureN 1 [110] [(110, (.bool r295))] (by kernel_rfl) ?_
       refine gv_split (s := 110) (g := r295) (by kernel_rfl) (fun hc300 => ?_) (fun hc300 => ?_)
       ·skip
        replace h1 := ite_t hc300 h1
        refine gv_pureN 1 [111] [(111, (.slice a66 (List.length r61.1) c67))] (by kernel_rfl) ?_
        have hk301 := hb288.grown hg298 nb
        refine gv_loadBox (t := 25) (b := b76) (t' := 25) (fr := (0, 0)) #[(.int .i64 r61.2.1), (.int .i64 r61.2.2)] [] (fun e => by cases e) rfl rfl rfl (by kernel_rfl) (by kernel_rfl) (by kernel_rfl) (by kernel_rfl) (inw0 hk301) rfl ?_
        have hk302 := hb289.grown hg298 nb
        refine gv_loadBox (t := 25) (b := b175) (t' := 25) (fr := (0, 0)) #[(.int .i64 r170.1), (.int .i64 r170.2)] [] (fun e => by cases e) rfl rfl rfl (by kernel_rfl) (by kernel_rfl) (by kernel_rfl) (by kernel_rfl) (inw0 hk302) rfl ?_
        refine bindE h1 ?_; clear h1; intro r303 hr304 h1
        have hk305 := hk291.grown hg298 (fun _ h => h.elim) nb
        refine gv_call0 (by kernel_rfl) rfl (by kernel_rfl) enters13 (law4_raw_ok fuel a66 c67 r61.1 (r61.2.1, r61.2.2) none 0 ([] : List UInt8) (r170.1, r170.2) w297 (fun k => (fun k => blk a66 = some k) k ∨ (fun _ => False) k) (fun k hk => (hk).elim (fun h => (fun k (hk : blk a66 = some k) => hk305.lt k hk) k h) (fun h => (fun _ h => h.elim) k h)) ((hk305.rd (Y := fun k => blk a66 = some k) (fun _ h => h.elim) (fun g e => e)).wide (fun k hk => (.inl hk))) ((Rd.nil bE w297 (fun _ => False) none 0).wide (fun k hk => (.inr hk))) r303 hr304) ?_
        rintro v308 w306 ⟨hg307, rfl⟩
        have hz309 := (nt hg298.size hg307.size)
        clear hk305 hr304 hk302 hk301 hc300 hr296 hc292 hk291 hk290 hb289 hb288 hb287 lt195 lt192 hbe179 hg173 hk169 hk168 hB162 hlo91 hbe80 hl70 hlo74 hl69 ho68 hg64 hb59 hg58 hbe55 hg53 hl45 ho43
        refine gv_pureN 2 [4, 115] [(4, (.bool r303))] (by kernel_rfl) ?_
        refine gv_nil ?_
        have e := sj h1; subst e
        refine gv_goal fun a hd hs hok => ?_
        have hg310 := (grown_trans hg298 hg307)
        have hB311 := bg hB285 hg310 nb
        have hz312 := hz309
        exact ⟨hB311, hz312, hd, hs, ok_pick [4] hok (by kernel_rfl)⟩
       ·skip
        replace h1 := ite_f hc300 h1
        refine gv_pureN 6 [4, 111, 112, 113, 114, 115] [(4, (.bool false))] (by kernel_rfl) ?_
        refine gv_nil ?_
        have e := sj h1; subst e
        refine gv_goal fun a hd hs hok => ?_
        have hB313 := bg hB285 hg298 nb
        have hz314 := hg298.size
        exact ⟨hB313, hz314, hd, hs, ok_pick [4] hok (by kernel_rfl)⟩
      ·rintro a w294 ⟨hB315, hz316, hd, hs, hok⟩
       refine gv_in ?_ hd hs hok
       clear hd hs hok
       clear hz316 hc292 hk291 hk290 hb289 hb288 hb287 hB285 lt195 lt192 hbe179 hg173 hk169 hk168 hB162 hlo91 hbe80 hl70 hlo74 hl69 ho68 hg64 hb59 hg58 hbe55 hg53 hl45 ho43
       refine gv_cret ?_
       have e := sj h0; subst e
       refine gv_ret (gv_done [(.bool j293)] rfl ⟨(by kernel_rfl), trivial⟩ ?_)
       exact ⟨grown_of_below hB315, rfl⟩
     ·replace h0 := ite_f hc292 h0
      refine gv_skip <| gv_seq <| gv_region <| gv_pureN 1 [116] [(116, (.agg #[(.int .i64 0), (.int .i64 0)]))] (by kernel_rfl) ?_
      refine gv_new0 (fun b => .pointer (some ⟨b, 0, none⟩)) #[(.int .i64 0), (.int .i64 0)] 25 (by kernel_rfl) (by kernel_rfl) ?_
      intro b317 w318 hg319 hb320 hbe321 hz322
      refine gv_store0 25 0 (.agg #[(.int .i64 0), (.int .i64 0)]) #[(.int .i64 0), (.int .i64 0)] hb320 (by kernel_rfl) (by kernel_rfl) (by kernel_rfl) ?_
      intro w323 hg324 hb325 hz326
      refine gv_nil <| gv_seq <| gv_seq <| gv_region <| gv_pureN 4 [117, 118, 119, 120] [(120, (.bool (((((ByteArray.size s_1 : Nat) : Int)).tmod 2) != 0)))] (by kernel_rfl) ?_
      refine gv_nil <| bindE h0 ?_; clear h0; intro j327 h1 h0
      refine gv_cut_code (J := fun a w328 => Below w0.heap.size w0 w328 ∧ w323.heap.size ≤ w328.heap.size ∧ Box w328 b51 25 #[(.int .i64 r36.2.1), (.int .i64 r36.2.2)] ∧ Box w328 b76 25 #[(.int .i64 r61.2.1), (.int .i64 r61.2.2)] ∧ Box w328 b317 25 #[(.int .i64 j327.1), (.int .i64 j327.2)] ∧ Gv.Own bE 5 w328 (fun _ => False) a41 c42 r36.1 ∧ Gv.Own bE 5 w328 (fun _ => False) a66 c67 r61.1 ∧ a.defers = [] ∧ a.tmps.size = 198 ∧ Ok [(1, (.string s_1)), (9, (.slice a41 (List.length r36.1) c42)), (10, (bp b51)), (11, (.slice a66 (List.length r61.1) c67)), (12, (bp b76)), (16, (bp b317))] a.tmps) ?_ ?_
      ·skip
       refine gv_cond (b := (((((ByteArray.size s_1 : Nat) : Int)).tmod 2) != 0)) (by kernel_rfl) (fun hc329 => ?_) (fun hc329 => ?_)
       ·replace h1 := ite_t hc329 h1
        refine gv_region <| bindE h1 ?_; clear h1; intro r330 hr331 h1
        refine gv_call0 (by kernel_rfl) rfl (by kernel_rfl) enters12 (ref4_At_ok fuel 9 (-1) w323  r330 hr331) ?_
        rintro v334 w332 ⟨hg333, rfl⟩
        have hk339 := hb325.grown hg333 nb
        refine gv_store0 25 0 (.agg #[(.int .i64 r330.1), (.int .i64 r330.2)]) #[(.int .i64 r330.1), (.int .i64 r330.2)] hk339 (by kernel_rfl) (by kernel_rfl) (by kernel_rfl) ?_
        intro w335 hg336 hb337 hz338
        refine gv_nil ?_
        have e := sj h1; subst e
        refine gv_goal fun a hd hs hok => ?_
        have hB340 := bg hB285 hg319 nb
        have hlo341 : w0.heap.size ≤ b317 := lob hbe321 hB285.size
        have hB342 := bg hB340 hg324 (rowlo hlo341)
        have hB343 := bg hB342 hg333 nb
        have hB344 := bg hB343 hg336 (rowlo hlo341)
        have hz345 := (nt hg333.size hg336.size)
        have lt346 := ltt lt192 lt195
        have lt347 := ltl ((ltb hb289) _ rfl) ((lowb hbe321) _ rfl)
        have lt348 := ltt lt346 lt347
        have hk349 := (((hb287.grown hg319 nb).grown hg324 (rowne (ng lt348))).grown hg333 nb).grown hg336 (rowne (ng lt348))
        have lt350 := ltt lt195 lt347
        have hk351 := (((hb288.grown hg319 nb).grown hg324 (rowne (ng lt350))).grown hg333 nb).grown hg336 (rowne (ng lt350))
        have ap352 : ¬ (fun k => blk a41 = some k) b317 := fun hx => nl ((lowb hbe321) _ rfl) ((fun k (hk : blk a41 = some k) => hk290.lt k hk) _ hx)
        have hk353 := (((hk290.grown hg319 (fun _ h => h.elim) nb).grown hg324 (fun _ h => h.elim) (rdnn (rowne ap352))).grown hg333 (fun _ h => h.elim) nb).grown hg336 (fun _ h => h.elim) (rdnn (rowne ap352))
        have ap354 : ¬ (fun k => blk a66 = some k) b317 := fun hx => nl ((lowb hbe321) _ rfl) ((fun k (hk : blk a66 = some k) => hk291.lt k hk) _ hx)
        have hk355 := (((hk291.grown hg319 (fun _ h => h.elim) nb).grown hg324 (fun _ h => h.elim) (rdnn (rowne ap354))).grown hg333 (fun _ h => h.elim) nb).grown hg336 (fun _ h => h.elim) (rdnn (rowne ap354))
        exact ⟨hB344, hz345, hk349, hk351, hb337, hk353, hk355, hd, hs, ok_pick [1, 9, 10, 11, 12, 16] hok (by kernel_rfl)⟩
       ·replace h1 := ite_f hc329 h1
        refine gv_skip ?_
        have e := sj h1; subst e
        refine gv_goal fun a hd hs hok => ?_
        have hB356 := bg hB285 hg319 nb
        have hlo357 : w0.heap.size ≤ b317 := lob hbe321 hB285.size
        have hB358 := bg hB356 hg324 (rowlo hlo357)
        have lt359 := ltt lt192 lt195
        have lt360 := ltl ((ltb hb289) _ rfl) ((lowb hbe321) _ rfl)
        have lt361 := ltt lt359 lt360
        have hk362 := (hb287.grown hg319 nb).grown hg324 (rowne (ng lt361))
        have lt363 := ltt lt195 lt360
        have hk364 := (hb288.grown hg319 nb).grown hg324 (rowne (ng lt363))
        have ap365 : ¬ (fun k => blk a41 = some k) b317 := fun hx => nl ((lowb hbe321) _ rfl) ((fun k (hk : blk a41 = some k) => hk290.lt k hk) _ hx)
        have hk366 := (hk290.grown hg319 (fun _ h => h.elim) nb).grown hg324 (fun _ h => h.elim) (rdnn (rowne ap365))
        have ap367 : ¬ (fun k => blk a66 = some k) b317 := fun hx => nl ((lowb hbe321) _ rfl) ((fun k (hk : blk a66 = some k) => hk291.lt k hk) _ hx)
        have hk368 := (hk291.grown hg319 (fun _ h => h.elim) nb).grown hg324 (fun _ h => h.elim) (rdnn (rowne ap367))
        exact ⟨hB358, (Nat.le_refl _), hk362, hk364, hb325, hk366, hk368, hd, hs, ok_pick [1, 9, 10, 11, 12, 16] hok (by kernel_rfl)⟩
      ·rintro a w328 ⟨hB369, hz370, hb371, hb372, hb373, hk374, hk375, hd, hs, hok⟩
       refine gv_in ?_ hd hs hok
       clear hd hs hok
       clear hz370 hz326 hb325 hg324 hz322 hb320 hg319 hc292 hb288 hb287 hbe179 hg173 hk169 hk168 hB162
       refine gv_seq <| gv_region <| gv_pureN 1 [17] [(17, (.slice none (List.length ([] : List UInt8)) 0))] (by kernel_rfl) ?_
       refine gv_nil <| gv_seq <| gv_seq <| gv_region <| gv_pureN 1 [18] [(18, (.int .i64 0))] (by kernel_rfl) ?_
       refine gv_nil <| bindE h0 ?_; clear h0; intro j376 h1 h0
       refine gv_cut_code (J := fun a w377 => ∃ (a17_0j : Option Addr) (c17_0j : Nat), Below w0.heap.size w0 w377 ∧ w328.heap.size ≤ w377.heap.size ∧ Gv.Own bE 5 w377 (fun _ => False) a17_0j c17_0j j376.1 ∧ (∀ g, blk a17_0j = some g → w0.heap.size ≤ g) ∧ (∀ g, blk a17_0j = some g → ¬ (· = b51) g) ∧ (∀ g, blk a17_0j = some g → ¬ (· = b76) g) ∧ (∀ g, blk a17_0j = some g → ¬ (· = b317) g) ∧ (∀ g, blk a17_0j = some g → ¬ (fun k => blk a41 = some k) g) ∧ (∀ g, blk a17_0j = some g → ¬ (fun k => blk a66 = some k) g) ∧ ¬ (fun k => blk a17_0j = some k) b51 ∧ ¬ (fun k => blk a17_0j = some k) b76 ∧ ¬ (fun k => blk a17_0j = some k) b317 ∧ (∀ g, blk a41 = some g → ¬ (fun k => blk a17_0j = some k) g) ∧ (∀ g, blk a66 = some g → ¬ (fun k => blk a17_0j = some k) g) ∧ Box w377 b51 25 #[(.int .i64 r36.2.1), (.int .i64 r36.2.2)] ∧ Box w377 b76 25 #[(.int .i64 r61.2.1), (.int .i64 r61.2.2)] ∧ Box w377 b317 25 #[(.int .i64 j376.2.1), (.int .i64 j376.2.2)] ∧ Gv.Own bE 5 w377 (fun _ => False) a41 c42 r36.1 ∧ Gv.Own bE 5 w377 (fun _ => False) a66 c67 r61.1 ∧ a.defers = [] ∧ a.tmps.size = 198 ∧ Ok [(1, (.string s_1)), (9, (.slice a41 (List.length r36.1) c42)), (10, (bp b51)), (11, (.slice a66 (List.length r61.1) c67)), (12, (bp b76)), (16, (bp b317)), (17, (.slice a17_0j (List.length j376.1) c17_0j))] a.tmps) ?_ ?_
       ·skip
        refine gv_block <| gv_loop (A := fun (s378 : ((List UInt8) × Int × (Int × Int))) a w379 => ∃ (a17_0j : Option Addr) (c17_0j : Nat), Below w0.heap.size w0 w379 ∧ w328.heap.size ≤ w379.heap.size ∧ Gv.Own bE 5 w379 (fun _ => False) a17_0j c17_0j s378.1 ∧ (∀ g, blk a17_0j = some g → w0.heap.size ≤ g) ∧ (∀ g, blk a17_0j = some g → ¬ (· = b51) g) ∧ (∀ g, blk a17_0j = some g → ¬ (· = b76) g) ∧ (∀ g, blk a17_0j = some g → ¬ (· = b317) g) ∧ (∀ g, blk a17_0j = some g → ¬ (fun k => blk a41 = some k) g) ∧ (∀ g, blk a17_0j = some g → ¬ (fun k => blk a66 = some k) g) ∧ ¬ (fun k => blk a17_0j = some k) b51 ∧ ¬ (fun k => blk a17_0j = some k) b76 ∧ ¬ (fun k => blk a17_0j = some k) b317 ∧ (∀ g, blk a41 = some g → ¬ (fun k => blk a17_0j = some k) g) ∧ (∀ g, blk a66 = some g → ¬ (fun k => blk a17_0j = some k) g) ∧ Box w379 b51 25 #[(.int .i64 r36.2.1), (.int .i64 r36.2.2)] ∧ Box w379 b76 25 #[(.int .i64 r61.2.1), (.int .i64 r61.2.2)] ∧ Box w379 b317 25 #[(.int .i64 s378.2.2.1), (.int .i64 s378.2.2.2)] ∧ Gv.Own bE 5 w379 (fun _ => False) a41 c42 r36.1 ∧ Gv.Own bE 5 w379 (fun _ => False) a66 c67 r61.1 ∧ a.defers = [] ∧ a.tmps.size = 198 ∧ Ok [(1, (.string s_1)), (9, (.slice a41 (List.length r36.1) c42)), (10, (bp b51)), (11, (.slice a66 (List.length r61.1) c67)), (12, (bp b76)), (16, (bp b317)), (17, (.slice a17_0j (List.length s378.1) c17_0j)), (18, (.int .i64 s378.2.1))] a.tmps) h1 ?_ ?_
        ·intro a hd hs hok
         exact ⟨none, 0, hB369, (Nat.le_refl _), (Gv.Own.nil bE 5 w328 (fun _ => False)), (fun _ h => by cases h), (fun _ h => by cases h), (fun _ h => by cases h), (fun _ h => by cases h), (fun _ h => by cases h), (fun _ h => by cases h), (fun h => by cases h), (fun h => by cases h), (fun h => by cases h), (fun _ _ h => by cases h), (fun _ _ h => by cases h), hb371, hb372, hb373, hk374, hk375, hd, hs, ok_pick [1, 9, 10, 11, 12, 16, 17, 18] hok (by kernel_rfl)⟩
        ·rintro s378 r2 h2 hR2 a w379 ⟨a382, c383, hB380, hz381, ho384, hl385, ap386, ap387, ap388, ap389, ap390, ap391, ap392, ap393, ap394, ap395, hb396, hb397, hb398, hk399, hk400, hd, hs, hok⟩
         refine gv_in ?_ hd hs hok
         clear hd hs hok
         clear hk375 hk374 hb373 hb372 hb371 hB369
         refine gv_seq <| gv_seq <| gv_region <| bindE h2 ?_; clear h2; intro j401 h3 h2
         refine gv_cut_ops (J := fun a w402 => Below w0.heap.size w0 w402 ∧ w379.heap.size ≤ w402.heap.size ∧ Box w402 b51 25 #[(.int .i64 r36.2.1), (.int .i64 r36.2.2)] ∧ Box w402 b76 25 #[(.int .i64 r61.2.1), (.int .i64 r61.2.2)] ∧ Box w402 b317 25 #[(.int .i64 s378.2.2.1), (.int .i64 s378.2.2.2)] ∧ Gv.Own bE 5 w402 (fun _ => False) a41 c42 r36.1 ∧ Gv.Own bE 5 w402 (fun _ => False) a66 c67 r61.1 ∧ Gv.Own bE 5 w402 (fun _ => False) a382 c383 s378.1 ∧ a.defers = [] ∧ a.tmps.size = 198 ∧ Ok [(1, (.string s_1)), (9, (.slice a41 (List.length r36.1) c42)), (10, (bp b51)), (11, (.slice a66 (List.length r61.1) c67)), (12, (bp b76)), (16, (bp b317)), (17, (.slice a382 (List.length s378.1) c383)), (18, (.int .i64 s378.2.1)), (130, (.bool j401))] a.tmps) ?_ ?_
         ·skip
          refine gv_pureN 5 [122, 123, 124, 125, 126] [(126, (.bool (decide (s378.2.1 < ((ByteArray.size s_1 : Nat) : Int)))))] (by kernel_rfl) ?_
          refine gv_split (s := 126) (g := (decide (s378.2.1 < ((ByteArray.size s_1 : Nat) : Int)))) (by kernel_rfl) (fun hc403 => ?_) (fun hc403 => ?_)
          ·skip
           replace h3 := ite_t hc403 h3
           refine gv_pureN 1 [127] [(127, (bp b317))] (by kernel_rfl) ?_
           refine gv_load (t := 3) (A := ⟨b317, 0, none⟩) (.int .i64 s378.2.2.1) [] (fun e => by cases e) rfl rfl rfl (by kernel_rfl) (by kernel_rfl) (by kernel_rfl) (inw0 (hb398.cell 0 rfl)) rfl ?_
           refine gv_pureN 2 [129, 130] [(130, (.bool (s378.2.2.1 == 0)))] (by kernel_rfl) ?_
           refine gv_nil ?_
           have e := sj h3; subst e
           refine gv_goal fun a hd hs hok => ?_
           exact ⟨hB380, (Nat.le_refl _), hb396, hb397, hb398, hk399, hk400, ho384, hd, hs, ok_pick [1, 9, 10, 11, 12, 16, 17, 18, 130] hok (by kernel_rfl)⟩
          ·skip
           replace h3 := ite_f hc403 h3
           refine gv_pureN 4 [127, 128, 129, 130] [(130, (.bool false))] (by kernel_rfl) ?_
           refine gv_nil ?_
           have e := sj h3; subst e
           refine gv_goal fun a hd hs hok => ?_
           exact ⟨hB380, (Nat.le_refl _), hb396, hb397, hb398, hk399, hk400, ho384, hd, hs, ok_pick [1, 9, 10, 11, 12, 16, 17, 18, 130] hok (by kernel_rfl)⟩
         ·rintro a w402 ⟨hB404, hz405, hb406, hb407, hb408, hk409, hk410, hk411, hd, hs, hok⟩
          refine gv_in ?_ hd hs hok
          clear hd hs hok
          have hz412 := (nt hz381 hz405)
          clear hz405 hk400 hk399 hb398 hb397 hb396 ho384 hz381 hB380
          refine gv_cond (b := j401) (by kernel_rfl) (fun hc413 => ?_) (fun hc413 => ?_)
          ·replace h2 := ite_t hc413 h2
           refine gv_skip <| gv_seq <| gv_block <| gv_seq <| gv_region <| gv_pureN 1 [19] [(19, (.int .i64 (-1)))] (by kernel_rfl) ?_
           refine gv_nil <| gv_seq <| gv_seq <| gv_region <| gv_pureN 1 [20] [(20, (.int .i64 0))] (by kernel_rfl) ?_
           refine gv_nil <| bindE h2 ?_; clear h2; intro j414 h3 h2
           refine gv_cut_code (J := fun a w415 => Below w0.heap.size w0 w415 ∧ w402.heap.size ≤ w415.heap.size ∧ Box w415 b51 25 #[(.int .i64 r36.2.1), (.int .i64 r36.2.2)] ∧ Box w415 b76 25 #[(.int .i64 r61.2.1), (.int .i64 r61.2.2)] ∧ Box w415 b317 25 #[(.int .i64 s378.2.2.1), (.int .i64 s378.2.2.2)] ∧ Gv.Own bE 5 w415 (fun _ => False) a41 c42 r36.1 ∧ Gv.Own bE 5 w415 (fun _ => False) a66 c67 r61.1 ∧ Gv.Own bE 5 w415 (fun _ => False) a382 c383 s378.1 ∧ a.defers = [] ∧ a.tmps.size = 198 ∧ Ok [(1, (.string s_1)), (9, (.slice a41 (List.length r36.1) c42)), (10, (bp b51)), (11, (.slice a66 (List.length r61.1) c67)), (12, (bp b76)), (16, (bp b317)), (17, (.slice a382 (List.length s378.1) c383)), (18, (.int .i64 s378.2.1)), (19, (.int .i64 j414))] a.tmps) ?_ ?_
           ·skip
            refine gv_block <| gv_loop (A := fun (s416 : (Int × Int)) a w417 => Below w0.heap.size w0 w417 ∧ w402.heap.size ≤ w417.heap.size ∧ Box w417 b51 25 #[(.int .i64 r36.2.1), (.int .i64 r36.2.2)] ∧ Box w417 b76 25 #[(.int .i64 r61.2.1), (.int .i64 r61.2.2)] ∧ Box w417 b317 25 #[(.int .i64 s378.2.2.1), (.int .i64 s378.2.2.2)] ∧ Gv.Own bE 5 w417 (fun _ => False) a41 c42 r36.1 ∧ Gv.Own bE 5 w417 (fun _ => False) a66 c67 r61.1 ∧ Gv.Own bE 5 w417 (fun _ => False) a382 c383 s378.1 ∧ a.defers = [] ∧ a.tmps.size = 198 ∧ Ok [(1, (.string s_1)), (9, (.slice a41 (List.length r36.1) c42)), (10, (bp b51)), (11, (.slice a66 (List.length r61.1) c67)), (12, (bp b76)), (16, (bp b317)), (17, (.slice a382 (List.length s378.1) c383)), (18, (.int .i64 s378.2.1)), (19, (.int .i64 s416.1)), (20, (.int .i64 s416.2))] a.tmps) h3 ?_ ?_
            ·intro a hd hs hok
             exact ⟨hB404, (Nat.le_refl _), hb406, hb407, hb408, hk409, hk410, hk411, hd, hs, ok_pick [1, 9, 10, 11, 12, 16, 17, 18, 19, 20] hok (by kernel_rfl)⟩
            ·rintro s416 r4 h4 hR4 a w417 ⟨hB418, hz419, hb420, hb421, hb422, hk423, hk424, hk425, hd, hs, hok⟩
             refine gv_in ?_ hd hs hok
             clear hd hs hok
             clear hc413 hk411 hk410 hk409 hb408 hb407 hb406 hB404
             refine gv_seq <| gv_seq <| gv_region <| gv_pureN 2 [133, 134] [(134, (.bool (decide (s416.2 < 16))))] (by kernel_rfl) ?_
             refine gv_nil <| gv_cond (b := (decide (s416.2 < 16))) (by kernel_rfl) (fun hc426 => ?_) (fun hc426 => ?_)
             ·replace h4 := ite_t hc426 h4
              refine gv_skip <| gv_seq <| gv_block <| gv_seq <| gv_drawA (by kernel_rfl) ?_
              intro w427 hg428
              refine gv_pre [0, 1, 2, 3, 4, 5] (bA 6 [0, 1, 2, 3, 4, 5]) 0 (by kernel_rfl) (by kernel_rfl) ?_
              refine gv_pureN 1 [137] [(137, (.int .i64 s416.2))] (by kernel_rfl) ?_
              refine bindE h4 ?_; clear h4; intro x429 hx430 h4
              refine gv_sindex (t := 9) (s := (strOf [48, 49, 50, 51, 52, 53, 54, 55, 56, 57, 97, 98, 99, 100, 101, 102])) (kk := .i64) (i := s416.2) x429 [] (fun e => by cases e) rfl rfl rfl (by kernel_rfl) (by kernel_rfl) Tryd.underlying9 hx430 rfl ?_
              refine gv_pureN 2 [139, 140] [(139, (.string s_1)), (140, (.int .i64 s378.2.1))] (by kernel_rfl) ?_
              refine bindE h4 ?_; clear h4; intro x431 hx432 h4
              refine gv_sindex (t := 9) (s := s_1) (kk := .i64) (i := s378.2.1) x431 [] (fun e => by cases e) rfl rfl rfl (by kernel_rfl) (by kernel_rfl) Tryd.underlying9 hx432 rfl ?_
              refine gv_pureN 1 [142] [(142, (.bool (x429 == x431)))] (by kernel_rfl) ?_
              refine gv_nil <| gv_goA ?_
              refine gv_stageE (by kernel_rfl) ?_
              refine bindE h4 ?_; clear h4; intro j433 h5 h4
              refine gv_cut_code (J := fun a w434 => Below w0.heap.size w0 w434 ∧ w427.heap.size ≤ w434.heap.size ∧ Box w434 b51 25 #[(.int .i64 r36.2.1), (.int .i64 r36.2.2)] ∧ Box w434 b76 25 #[(.int .i64 r61.2.1), (.int .i64 r61.2.2)] ∧ Box w434 b317 25 #[(.int .i64 s378.2.2.1), (.int .i64 s378.2.2.2)] ∧ Gv.Own bE 5 w434 (fun _ => False) a41 c42 r36.1 ∧ Gv.Own bE 5 w434 (fun _ => False) a66 c67 r61.1 ∧ Gv.Own bE 5 w434 (fun _ => False) a382 c383 s378.1 ∧ a.defers = [] ∧ a.tmps.size = 198 ∧ Ok [(1, (.string s_1)), (9, (.slice a41 (List.length r36.1) c42)), (10, (bp b51)), (11, (.slice a66 (List.length r61.1) c67)), (12, (bp b76)), (16, (bp b317)), (17, (.slice a382 (List.length s378.1) c383)), (18, (.int .i64 s378.2.1)), (19, (.int .i64 j433)), (20, (.int .i64 s416.2))] a.tmps) ?_ ?_
              ·skip
               refine gv_cond (b := (x429 == x431)) (by kernel_rfl) (fun hc435 => ?_) (fun hc435 => ?_)
               ·replace h5 := ite_t hc435 h5
                refine gv_region <| gv_pureN 2 [19, 143] [(19, (.int .i64 s416.2))] (by kernel_rfl) ?_
                refine gv_nil ?_
                have e := sj h5; subst e
                refine gv_goal fun a hd hs hok => ?_
                have hB436 := bg hB418 hg428 nb
                have hk437 := hb420.grown hg428 nb
                have hk438 := hb421.grown hg428 nb
                have hk439 := hb422.grown hg428 nb
                have hk440 := hk423.grown hg428 (fun _ h => h.elim) nb
                have hk441 := hk424.grown hg428 (fun _ h => h.elim) nb
                have hk442 := hk425.grown hg428 (fun _ h => h.elim) nb
                exact ⟨hB436, (Nat.le_refl _), hk437, hk438, hk439, hk440, hk441, hk442, hd, hs, ok_pick [1, 9, 10, 11, 12, 16, 17, 18, 19, 20] hok (by kernel_rfl)⟩
               ·replace h5 := ite_f hc435 h5
                refine gv_skip ?_
                have e := sj h5; subst e
                refine gv_goal fun a hd hs hok => ?_
                have hB443 := bg hB418 hg428 nb
                have hk444 := hb420.grown hg428 nb
                have hk445 := hb421.grown hg428 nb
                have hk446 := hb422.grown hg428 nb
                have hk447 := hk423.grown hg428 (fun _ h => h.elim) nb
                have hk448 := hk424.grown hg428 (fun _ h => h.elim) nb
                have hk449 := hk425.grown hg428 (fun _ h => h.elim) nb
                exact ⟨hB443, (Nat.le_refl _), hk444, hk445, hk446, hk447, hk448, hk449, hd, hs, ok_pick [1, 9, 10, 11, 12, 16, 17, 18, 19, 20] hok (by kernel_rfl)⟩
              ·rintro a w434 ⟨hB450, hz451, hb452, hb453, hb454, hk455, hk456, hk457, hd, hs, hok⟩
               refine gv_in ?_ hd hs hok
               clear hd hs hok
               have hz458 := (nt hz419 hg428.size)
               clear hx432 hx430 hc426 hz419 hB418
               refine gv_blk <| gv_region <| gv_pureN 3 [20, 135, 136] [(20, (.int .i64 (IntKind.i64.wrap (s416.2 + 1))))] (by kernel_rfl) ?_
               refine gv_nil ?_
               have e := sj h4; subst e
               refine gv_goal fun a hd hs hok => ?_
               have hz459 := (nt hz458 hz451)
               exact ⟨(j433, (IntKind.i64.wrap (s416.2 + 1))), rfl, hB450, hz459, hb452, hb453, hb454, hk455, hk456, hk457, hd, hs, ok_pick [1, 9, 10, 11, 12, 16, 17, 18, 19, 20] hok (by kernel_rfl)⟩
             ·replace h4 := ite_f hc426 h4
              refine gv_cexit <| gv_exit rfl ?_
              have e := sj h4; subst e
              replace h3 := congrArg some (hR4 _ rfl)
              have e := sj h3; subst e
              refine gv_goal fun a hd hs hok => ?_
              have hz460 := hz419
              exact ⟨hB418, hz460, hb420, hb421, hb422, hk423, hk424, hk425, hd, hs, ok_pick [1, 9, 10, 11, 12, 16, 17, 18, 19] hok (by kernel_rfl)⟩
           ·rintro a w415 ⟨hB461, hz462, hb463, hb464, hb465, hk466, hk467, hk468, hd, hs, hok⟩
            refine gv_in ?_ hd hs hok
            clear hd hs hok
            have hz469 := (nt hz412 hz462)
            clear hz462 hc413 hz412 hk411 hk410 hk409 hb408 hb407 hb406 hB404
            refine gv_block <| gv_seq <| gv_region <| gv_pureN 3 [153, 154, 155] [(153, (.bool (decide (j414 < 0))))] (by kernel_rfl) ?_
            refine gv_nil <| bindE h2 ?_; clear h2; intro j470 h3 h2
            refine gv_cut_code (J := fun a w471 => ∃ (a17_0j : Option Addr) (c17_0j : Nat), Below w0.heap.size w0 w471 ∧ w415.heap.size ≤ w471.heap.size ∧ Gv.Own bE 5 w471 (fun _ => False) a17_0j c17_0j j470.1 ∧ (∀ g, blk a17_0j = some g → w0.heap.size ≤ g) ∧ (∀ g, blk a17_0j = some g → ¬ (· = b51) g) ∧ (∀ g, blk a17_0j = some g → ¬ (· = b76) g) ∧ (∀ g, blk a17_0j = some g → ¬ (· = b317) g) ∧ (∀ g, blk a17_0j = some g → ¬ (fun k => blk a41 = some k) g) ∧ (∀ g, blk a17_0j = some g → ¬ (fun k => blk a66 = some k) g) ∧ ¬ (fun k => blk a17_0j = some k) b51 ∧ ¬ (fun k => blk a17_0j = some k) b76 ∧ ¬ (fun k => blk a17_0j = some k) b317 ∧ (∀ g, blk a41 = some g → ¬ (fun k => blk a17_0j = some k) g) ∧ (∀ g, blk a66 = some g → ¬ (fun k => blk a17_0j = some k) g) ∧ Box w471 b51 25 #[(.int .i64 r36.2.1), (.int .i64 r36.2.2)] ∧ Box w471 b76 25 #[(.int .i64 r61.2.1), (.int .i64 r61.2.2)] ∧ Box w471 b317 25 #[(.int .i64 j470.2.1), (.int .i64 j470.2.2)] ∧ Gv.Own bE 5 w471 (fun _ => False) a41 c42 r36.1 ∧ Gv.Own bE 5 w471 (fun _ => False) a66 c67 r61.1 ∧ a.defers = [] ∧ a.tmps.size = 198 ∧ Ok [(1, (.string s_1)), (9, (.slice a41 (List.length r36.1) c42)), (10, (bp b51)), (11, (.slice a66 (List.length r61.1) c67)), (12, (bp b76)), (16, (bp b317)), (17, (.slice a17_0j (List.length j470.1) c17_0j)), (18, (.int .i64 s378.2.1))] a.tmps) ?_ ?_
            ·skip
             refine gv_cond (b := (decide (j414 < 0))) (by kernel_rfl) (fun hc472 => ?_) (fun hc472 => ?_)
             ·replace h3 := ite_t hc472 h3
              refine gv_region <| gv_pureN 1 [156] [(156, (.int .i64 s378.2.1))] (by kernel_rfl) ?_
              refine bindE h3 ?_; clear h3; intro r473 hr474 h3
              refine gv_call0 (by kernel_rfl) rfl (by kernel_rfl) enters12 (ref4_At_ok fuel 1 s378.2.1 w415  r473 hr474) ?_
              rintro v477 w475 ⟨hg476, rfl⟩
              have hk482 := hb465.grown hg476 nb
              refine gv_store0 25 0 (.agg #[(.int .i64 r473.1), (.int .i64 r473.2)]) #[(.int .i64 r473.1), (.int .i64 r473.2)] hk482 (by kernel_rfl) (by kernel_rfl) (by kernel_rfl) ?_
              intro w478 hg479 hb480 hz481
              refine gv_nil ?_
              have e := sj h3; subst e
              refine gv_goal fun a hd hs hok => ?_
              have hB483 := bg hB461 hg476 nb
              have hlo484 : w0.heap.size ≤ b317 := lob hbe321 hB285.size
              have hB485 := bg hB483 hg479 (rowlo hlo484)
              have hz486 := (nt hg476.size hg479.size)
              have hk487 := (hk468.grown hg476 (fun _ h => h.elim) nb).grown hg479 (fun _ h => h.elim) (rdnn (rowne ap393))
              have lt488 := ltt lt192 lt195
              have lt489 := ltl ((ltb hb289) _ rfl) ((lowb hbe321) _ rfl)
              have lt490 := ltt lt488 lt489
              have hk491 := (hb463.grown hg476 nb).grown hg479 (rowne (ng lt490))
              have lt492 := ltt lt195 lt489
              have hk493 := (hb464.grown hg476 nb).grown hg479 (rowne (ng lt492))
              have ap494 : ¬ (fun k => blk a41 = some k) b317 := fun hx => nl ((lowb hbe321) _ rfl) ((fun k (hk : blk a41 = some k) => hk290.lt k hk) _ hx)
              have hk495 := (hk466.grown hg476 (fun _ h => h.elim) nb).grown hg479 (fun _ h => h.elim) (rdnn (rowne ap494))
              have ap496 : ¬ (fun k => blk a66 = some k) b317 := fun hx => nl ((lowb hbe321) _ rfl) ((fun k (hk : blk a66 = some k) => hk291.lt k hk) _ hx)
              have hk497 := (hk467.grown hg476 (fun _ h => h.elim) nb).grown hg479 (fun _ h => h.elim) (rdnn (rowne ap496))
              exact ⟨a382, c383, hB485, hz486, hk487, hl385, ap386, ap387, ap388, ap389, ap390, ap391, ap392, ap393, ap394, ap395, hk491, hk493, hb480, hk495, hk497, hd, hs, ok_pick [1, 9, 10, 11, 12, 16, 17, 18] hok (by kernel_rfl)⟩
             ·replace h3 := ite_f hc472 h3
              refine gv_seq <| gv_region <| gv_pureN 4 [158, 159, 160, 161] [(158, (.bool (((s378.2.1).tmod 2) == 0)))] (by kernel_rfl) ?_
              refine gv_nil <| gv_cond (b := (((s378.2.1).tmod 2) == 0)) (by kernel_rfl) (fun hc498 => ?_) (fun hc498 => ?_)
              ·replace h3 := ite_t hc498 h3
               refine gv_region <| gv_pureN 4 [162, 163, 164, 165] [(162, (.slice a382 (List.length s378.1) c383)), (165, (.int .u8 (IntKind.u8.wrap ((IntKind.i64.wrap (16 * j414))))))] (by kernel_rfl) ?_
               refine bindE h3 ?_; clear h3; intro b499 hb500 h3
               have hu501 := u8_spec hb500
               refine gv_new0 (fun b => .slice (some ⟨b, 0, none⟩) 1 1) #[(.int .u8 (IntKind.u8.wrap ((IntKind.i64.wrap (16 * j414)))))] 5 (by kernel_rfl) (by kernel_rfl) ?_
               intro b502 w503 hg504 hb505 hbe506 hz507
               have ho508 : Gv.Own bE 5 w503 (fun _ => False) (some ⟨b502, 0, none⟩) 1 ([b499] : List UInt8) := Box.ownE hb505 ⟨[(.int .u8 (IntKind.u8.wrap ((IntKind.i64.wrap (16 * j414)))))], [], rfl, (by simp only [bE, flat, hu501]), rfl⟩ (show 1 ≤ maxLen by decide) (fun h => h)
               have hl509 : ∀ g, blk (some ⟨b502, 0, none⟩) = some g → w0.heap.size ≤ g := loo hbe506 hB461.size
               clear hz507 hb505 hu501 hb500 hc498 hc472
               refine bindE h3 ?_; clear h3; intro l513 hx514 h3
               have hk521 := hk468.grown hg504 (fun _ h => h.elim) nb
               refine gv_append bE (t := 22) (ty := 22) (e := 5) (a := a382) (ax := (some ⟨b502, 0, none⟩)) (cap := c383) (cx := 1) (xs := s378.1) (ys := ([b499] : List UInt8)) l513 (X := (fun _ => False)) (Y := (fun k => blk (some ⟨b502, 0, none⟩) = some k)) (by decide) rfl rfl (by kernel_rfl) (by kernel_rfl) Tryd.underlying22 info5 hk521 (ho508.rd (Y := fun k => blk (some ⟨b502, 0, none⟩) = some k) (fun _ h => h.elim) (fun g e => e)) hx514 (.inr fun _ _ _ _ _ h => h) (fun _ h => h.elim) ?_
               intro a515 c516 w517 hg518 ho519 hk520
               refine ⟨(fun e => by cases e), ?_⟩
               have hB523 := bg hB461 hg504 nb
               have hl522 : ∀ g, blk a515 = some g → w0.heap.size ≤ g := blk_step hk520 hl385 hB523.size
               have hk525 := hb463.grown hg504 nb
               have ap524 : ∀ g, blk a515 = some g → ¬ (· = b51) g := blk_neX hk520 ap386 (ltb hk525)
               have ap526 : ¬ (fun k => blk a515 = some k) b51 := fun h => blk_rev hk520 (fun h => (ap391) h) (hk525.lt) h
               have hk528 := hb464.grown hg504 nb
               have ap527 : ∀ g, blk a515 = some g → ¬ (· = b76) g := blk_neX hk520 ap387 (ltb hk528)
               have ap529 : ¬ (fun k => blk a515 = some k) b76 := fun h => blk_rev hk520 (fun h => (ap392) h) (hk528.lt) h
               have hk531 := hb465.grown hg504 nb
               have ap530 : ∀ g, blk a515 = some g → ¬ (· = b317) g := blk_neX hk520 ap388 (ltb hk531)
               have ap532 : ¬ (fun k => blk a515 = some k) b317 := fun h => blk_rev hk520 (fun h => (ap393) h) (hk531.lt) h
               have hk534 := hk466.grown hg504 (fun _ h => h.elim) nb
               have ap533 : ∀ g, blk a515 = some g → ¬ (fun k => blk a41 = some k) g := blk_neX hk520 ap389 (fun k (hk : blk a41 = some k) => hk534.lt k hk)
               have ap535 : ∀ g, blk a41 = some g → ¬ (fun k => blk a515 = some k) g := fun g e h => blk_rev hk520 (fun h => ((ap394) g e) h) (hk534.lt g e) h
               have hk537 := hk467.grown hg504 (fun _ h => h.elim) nb
               have ap536 : ∀ g, blk a515 = some g → ¬ (fun k => blk a66 = some k) g := blk_neX hk520 ap390 (fun k (hk : blk a66 = some k) => hk537.lt k hk)
               have ap538 : ∀ g, blk a66 = some g → ¬ (fun k => blk a515 = some k) g := fun g e h => blk_rev hk520 (fun h => ((ap395) g e) h) (hk537.lt g e) h
               have ap540 : ∀ g, blk a382 = some g → ¬ (fun k => blk (some ⟨b502, 0, none⟩) = some k) g := fun g e hx => nl ((lowo hbe506) _ hx) ((fun k (hk : blk a382 = some k) => hk468.lt k hk) g e)
               have ap539 : ∀ g, blk a515 = some g → ¬ (fun k => blk (some ⟨b502, 0, none⟩) = some k) g := blk_neX hk520 ap540 (fun k (hk : blk (some ⟨b502, 0, none⟩) = some k) => ho508.lt k hk)
               have ap542 : ∀ g, blk (some ⟨b502, 0, none⟩) = some g → ¬ (fun k => blk a382 = some k) g := fun g e hx => nl ((lowo hbe506) g e) ((fun k (hk : blk a382 = some k) => hk468.lt k hk) _ hx)
               have ap541 : ∀ g, blk (some ⟨b502, 0, none⟩) = some g → ¬ (fun k => blk a515 = some k) g := fun g e h => blk_rev hk520 (fun h => ((ap542) g e) h) (ho508.lt g e) h
               refine gv_pureN 1 [17] [(17, (.slice a515 (List.length l513) c516))] (by kernel_rfl) ?_
               refine gv_nil ?_
               have e := sj h3; subst e
               refine gv_goal fun a hd hs hok => ?_
               have hB543 := bg hB523 hg518 hl385
               have hz544 := (nt hg504.size hg518.size)
               have hk545 := hk525.grown hg518 ap386
               have hk546 := hk528.grown hg518 ap387
               have hk547 := hk531.grown hg518 ap388
               have hk548 := hk534.grown hg518 (fun _ h => h.elim) (rdnn ap389)
               have hk549 := hk537.grown hg518 (fun _ h => h.elim) (rdnn ap390)
               exact ⟨a515, c516, hB543, hz544, ho519, hl522, ap524, ap527, ap530, ap533, ap536, ap526, ap529, ap532, ap535, ap538, hk545, hk546, hk547, hk548, hk549, hd, hs, ok_pick [1, 9, 10, 11, 12, 16, 17, 18] hok (by kernel_rfl)⟩
              ·replace h3 := ite_f hc498 h3
               refine gv_region <| gv_pureN 3 [144, 145, 146] [(144, (.slice a382 (List.length s378.1) c383)), (146, (.int .i64 (IntKind.i64.wrap ((s378.2.1).tdiv 2))))] (by kernel_rfl) ?_
               refine bindE h3 ?_; clear h3; intro x550 hx551 h3
               refine gv_idxaddr (t := 22) (e := 5) (a := a382) (len := List.length s378.1) (cap := c383) (kk := .i64) (i := (IntKind.i64.wrap ((s378.2.1).tdiv 2))) (sz := 1) [] (fun e => by cases e) rfl rfl rfl (by kernel_rfl) (by kernel_rfl) Tryd.underlying22 (by kernel_rfl) ((hk468.rd (Y := fun k => blk a382 = some k) (fun _ h => h.elim) (fun g e => e)).has hx551) (idx_spec hx551).1 (idx_spec hx551).2.1 rfl ?_
               refine gv_load (t := 5) (A := (elemAddr a382 (((IntKind.i64.wrap ((s378.2.1).tdiv 2)) : Int).toNat * 1))) (.int .u8 ((x550).toNat : Int)) [] (fun e => by cases e) rfl rfl rfl (by kernel_rfl) (by kernel_rfl) (by kernel_rfl) (inw0 ((hk468.rd (Y := fun k => blk a382 = some k) (fun _ h => h.elim) (fun g e => e)).cell hx551)) rfl ?_
               refine gv_pureN 3 [149, 150, 151] [(151, (.int .u8 (IntKind.u8.wrap (((x550).toNat : Int) + (IntKind.u8.wrap (j414))))))] (by kernel_rfl) ?_
               refine bindE h3 ?_; clear h3; intro x552 hx553 h3
               refine gv_idxaddr (t := 22) (e := 5) (a := a382) (len := List.length s378.1) (cap := c383) (kk := .i64) (i := (IntKind.i64.wrap ((s378.2.1).tdiv 2))) (sz := 1) [] (fun e => by cases e) rfl rfl rfl (by kernel_rfl) (by kernel_rfl) Tryd.underlying22 (by kernel_rfl) ((hk468.rd (Y := fun k => blk a382 = some k) (fun _ h => h.elim) (fun g e => e)).has hx553) (idx_spec hx553).1 (idx_spec hx553).2.1 rfl ?_
               refine bindE h3 ?_; clear h3; intro b554 hb555 h3
               have hu556 := u8_spec hb555
               refine bindE h3 ?_; clear h3; intro l557 hx558 h3
               refine gv_upd (f := (fun c : UInt8 => Value.int .u8 c.toNat)) (hf := fun _ => rfl) (t := 5) (e := 5) (a := a382) (cap := c383) (xs := s378.1) (i := (IntKind.i64.wrap ((s378.2.1).tdiv 2))) b554 l557 (by decide) rfl rfl (by kernel_rfl) (congrArg (Value.int .u8) hu556.symm) (by kernel_rfl) (by kernel_rfl) hk468 hx558 ?_
               intro w559 hg560 ho561 hz562
               refine ⟨(fun e => by cases e), ?_⟩
               have hln563 : List.length s378.1 = List.length l557 := by obtain ⟨_, _, e⟩ := upd_spec hx558; rw [e, List.length_set]
               refine gv_name (s := 17) (v := (.slice a382 (List.length s378.1) c383)) (v' := (.slice a382 (List.length l557) c383)) (by kernel_rfl) (by rw [hln563]) ?_
               refine gv_nil ?_
               have e := sj h3; subst e
               refine gv_goal fun a hd hs hok => ?_
               have hB564 := bg hB461 hg560 hl385
               have hz565 := hg560.size
               have hk566 := hb463.grown hg560 ap386
               have hk567 := hb464.grown hg560 ap387
               have hk568 := hb465.grown hg560 ap388
               have hk569 := hk466.grown hg560 (fun _ h => h.elim) (rdnn ap389)
               have hk570 := hk467.grown hg560 (fun _ h => h.elim) (rdnn ap390)
               exact ⟨a382, c383, hB564, hz565, ho561, hl385, ap386, ap387, ap388, ap389, ap390, ap391, ap392, ap393, ap394, ap395, hk566, hk567, hk568, hk569, hk570, hd, hs, ok_pick [1, 9, 10, 11, 12, 16, 17, 18] hok (by kernel_rfl)⟩
            ·rintro a w471 ⟨a573, c574, hB571, hz572, ho575, hl576, ap577, ap578, ap579, ap580, ap581, ap582, ap583, ap584, ap585, ap586, hb587, hb588, hb589, hk590, hk591, hd, hs, hok⟩
             refine gv_in ?_ hd hs hok
             clear hd hs hok
             have hz592 := (nt hz469 hz572)
             clear hz572 hz469 hk468 hk467 hk466 hb465 hb464 hb463 hB461 ap395 ap394 ap393 ap392 ap391 ap390 ap389 ap388 ap387 ap386 hl385
             refine gv_blk <| gv_blk <| gv_region <| gv_pureN 3 [18, 131, 132] [(18, (.int .i64 (IntKind.i64.wrap (s378.2.1 + 1))))] (by kernel_rfl) ?_
             refine gv_nil ?_
             have e := sj h2; subst e
             refine gv_goal fun a hd hs hok => ?_
             have hz593 := hz592
             exact ⟨(j470.1, (IntKind.i64.wrap (s378.2.1 + 1)), (j470.2.1, j470.2.2)), rfl, a573, c574, hB571, hz593, ho575, hl576, ap577, ap578, ap579, ap580, ap581, ap582, ap583, ap584, ap585, ap586, hb587, hb588, hb589, hk590, hk591, hd, hs, ok_pick [1, 9, 10, 11, 12, 16, 17, 18] hok (by kernel_rfl)⟩
          ·replace h2 := ite_f hc413 h2
           refine gv_cexit <| gv_exit rfl ?_
           have e := sj h2; subst e
           replace h1 := congrArg some (hR2 _ rfl)
           have e := sj h1; subst e
           refine gv_goal fun a hd hs hok => ?_
           have hz594 := hz412
           exact ⟨a382, c383, hB404, hz594, hk411, hl385, ap386, ap387, ap388, ap389, ap390, ap391, ap392, ap393, ap394, ap395, hb406, hb407, hb408, hk409, hk410, hd, hs, ok_pick [1, 9, 10, 11, 12, 16, 17] hok (by kernel_rfl)⟩
       ·rintro a w377 ⟨a597, c598, hB595, hz596, ho599, hl600, ap601, ap602, ap603, ap604, ap605, ap606, ap607, ap608, ap609, ap610, hb611, hb612, hb613, hk614, hk615, hd, hs, hok⟩
        refine gv_in ?_ hd hs hok
        clear hd hs hok
        clear hz596 hk375 hk374 hb373 hb372 hb371 hB369
        refine gv_seq <| gv_seq <| gv_region <| gv_pureN 1 [168] [(168, (.slice a41 (List.length r36.1) c42))] (by kernel_rfl) ?_
        refine gv_loadBox (t := 25) (b := b51) (t' := 25) (fr := (0, 0)) #[(.int .i64 r36.2.1), (.int .i64 r36.2.2)] [] (fun e => by cases e) rfl rfl rfl (by kernel_rfl) (by kernel_rfl) (by kernel_rfl) (by kernel_rfl) (inw0 hb611) rfl ?_
        refine gv_pureN 1 [170] [(170, (.slice a597 (List.length j376.1) c598))] (by kernel_rfl) ?_
        refine gv_loadBox (t := 25) (b := b317) (t' := 25) (fr := (0, 0)) #[(.int .i64 j376.2.1), (.int .i64 j376.2.2)] [] (fun e => by cases e) rfl rfl rfl (by kernel_rfl) (by kernel_rfl) (by kernel_rfl) (by kernel_rfl) (inw0 hb613) rfl ?_
        refine bindE h0 ?_; clear h0; intro r616 hr617 h0
        refine gv_call0 (by kernel_rfl) rfl (by kernel_rfl) enters13 (law4_raw_ok fuel a41 c42 r36.1 (r36.2.1, r36.2.2) a597 c598 j376.1 (j376.2.1, j376.2.2) w377 (fun k => (fun k => blk a41 = some k) k ∨ (fun k => blk a597 = some k) k) (fun k hk => (hk).elim (fun h => (fun k (hk : blk a41 = some k) => hk614.lt k hk) k h) (fun h => (fun k (hk : blk a597 = some k) => ho599.lt k hk) k h)) ((hk614.rd (Y := fun k => blk a41 = some k) (fun _ h => h.elim) (fun g e => e)).wide (fun k hk => (.inl hk))) ((ho599.rd (Y := fun k => blk a597 = some k) (fun _ h => h.elim) (fun g e => e)).wide (fun k hk => (.inr hk))) r616 hr617) ?_
        rintro v620 w618 ⟨hg619, rfl⟩
        refine gv_pureN 1 [173] [(173, (.bool (!r616)))] (by kernel_rfl) ?_
        refine gv_nil <| gv_cond (b := (!r616)) (by kernel_rfl) (fun hc621 => ?_) (fun hc621 => ?_)
        ·replace h0 := ite_t hc621 h0
         refine gv_seq <| gv_region <| gv_pureN 1 [4] [(4, (.bool false))] (by kernel_rfl) ?_
         refine gv_nil <| gv_cret ?_
         have e := sj h0; subst e
         refine gv_ret (gv_done [(.bool false)] rfl ⟨(by kernel_rfl), trivial⟩ ?_)
         have hB622 := bg hB595 hg619 nb
         exact ⟨grown_of_below hB622, rfl⟩
        ·replace h0 := ite_f hc621 h0
         refine gv_skip <| gv_seq <| gv_seq <| gv_region <| gv_pureN 4 [174, 175, 176, 177] [(177, (.bool (((((ByteArray.size s_1 : Nat) : Int)).tmod 4) != 0)))] (by kernel_rfl) ?_
         refine gv_nil <| gv_cond (b := (((((ByteArray.size s_1 : Nat) : Int)).tmod 4) != 0)) (by kernel_rfl) (fun hc623 => ?_) (fun hc623 => ?_)
         ·replace h0 := ite_t hc623 h0
          refine gv_seq <| gv_drawA (by kernel_rfl) ?_
          intro w624 hg625
          refine gv_pre [0] (bA 5 [0]) 4 (by kernel_rfl) (by kernel_rfl) ?_
          refine gv_pureN 1 [178] [(178, (.slice a66 (List.length r61.1) c67))] (by kernel_rfl) ?_
          refine gv_nil <| gv_goA ?_
          refine gv_stage (Cls w624 []) [0, 1, 2] [(1, some true), (2, some false)] (bA 5 [0, 1, 2]) 2 (by kernel_rfl) (by kernel_rfl) (Cls.refl _ _) ?_
          have hC626 := Cls.refl w624 []
          have hg627 := (grown_trans hg619 hg625)
          have hk628 := hb612.grown hg627 nb
          refine gv_loadBox (t := 25) (b := b76) (t' := 25) (fr := (0, 0)) #[(.int .i64 r61.2.1), (.int .i64 r61.2.2)] [] (fun e => by cases e) rfl rfl rfl (by kernel_rfl) (by kernel_rfl) (by kernel_rfl) (by kernel_rfl) (inw1 fun w' hC' => (hC'.box hk628 nm_nil)) rfl ?_
          refine bindE h0 ?_; clear h0; intro r629 hr630 h0
          refine gv_call (f := 12) (vs := [(.int .i64 9), (.int .i64 (-1))]) (cap := []) _ (by decide) rfl rfl rfl (by kernel_rfl) (by kernel_rfl) enters12 (ref4_At_ok fuel 9 (-1) w624  r629 hr630) ?_
          rintro v633 w631 ⟨hg632, rfl⟩
          refine ⟨(fun _ => hC626.grown hg632 nb), ?_⟩
          refine gv_nil <| gv_goA ?_
          refine gv_stage (fun _ => True) [0, 1, 2, 3] [(3, some false)] (bA 5 [0, 1, 2, 3]) 1 (by kernel_rfl) (by kernel_rfl) trivial ?_
          refine bindE h0 ?_; clear h0; intro r634 hr635 h0
          have hg636 := (grown_trans hg627 hg632)
          have hk637 := hk615.grown hg636 (fun _ h => h.elim) nb
          refine gv_call (f := 13) (vs := [(.slice a66 (List.length r61.1) c67), (.agg #[(.int .i64 r61.2.1), (.int .i64 r61.2.2)]), (.slice none (List.length ([] : List UInt8)) 0), (.agg #[(.int .i64 r629.1), (.int .i64 r629.2)])]) (cap := []) _ (by decide) rfl rfl rfl (by kernel_rfl) (by kernel_rfl) enters13 (law4_raw_ok fuel a66 c67 r61.1 (r61.2.1, r61.2.2) none 0 ([] : List UInt8) (r629.1, r629.2) w631 (fun k => (fun k => blk a66 = some k) k ∨ (fun _ => False) k) (fun k hk => (hk).elim (fun h => (fun k (hk : blk a66 = some k) => hk637.lt k hk) k h) (fun h => (fun _ h => h.elim) k h)) ((hk637.rd (Y := fun k => blk a66 = some k) (fun _ h => h.elim) (fun g e => e)).wide (fun k hk => (.inl hk))) ((Rd.nil bE w631 (fun _ => False) none 0).wide (fun k hk => (.inr hk))) r634 hr635) ?_
          rintro v640 w638 ⟨hg639, rfl⟩
          refine ⟨(fun _ => trivial), ?_⟩
          refine gv_nil <| gv_goA ?_
          refine gv_pre [4] (bA 5 [0, 1, 2, 3, 4]) 0 (by kernel_rfl) (by kernel_rfl) ?_
          refine gv_pureN 1 [4] [(4, (.bool r634))] (by kernel_rfl) ?_
          refine gv_nil <| gv_goA ?_
          refine gv_stageE (by kernel_rfl) ?_
          refine gv_cret ?_
          have e := sj h0; subst e
          refine gv_ret (gv_done [(.bool r634)] rfl ⟨(by kernel_rfl), trivial⟩ ?_)
          have hg641 := (grown_trans hg636 hg639)
          have hB642 := bg hB595 hg641 nb
          exact ⟨grown_of_below hB642, rfl⟩
         ·replace h0 := ite_f hc623 h0
          refine gv_skip <| gv_seq <| gv_region <| gv_pureN 1 [183] [(183, (.string s_1))] (by kernel_rfl) ?_
          refine bindE h0 ?_; clear h0; intro r643 hr644 h0
          refine gv_call0 (by kernel_rfl) rfl (by kernel_rfl) enters21 (ref4_Bytes64_ok fuel s_1 w618  r643 hr644) ?_
          rintro v647 w645 ⟨hg646, a648, c649, rfl, ho650, hl651⟩
          have hB653 := bg hB595 hg619 nb
          have hl652 : ∀ g, blk a648 = some g → w0.heap.size ≤ g := fun g e => Nat.le_trans hB653.size (hl651 g e)
          refine gv_pureN 5 [17, 21, 182, 185, 186] [(17, (.slice a648 (List.length r643.1) c649)), (21, (.bool r643.2))] (by kernel_rfl) ?_
          refine gv_nil <| gv_seq <| gv_seq <| gv_region <| gv_pureN 2 [187, 188] [(188, (.bool (!r643.2)))] (by kernel_rfl) ?_
          refine gv_nil <| gv_cond (b := (!r643.2)) (by kernel_rfl) (fun hc654 => ?_) (fun hc654 => ?_)
          ·replace h0 := ite_t hc654 h0
           refine gv_seq <| gv_drawA (by kernel_rfl) ?_
           intro w655 hg656
           refine gv_pre [0] (bA 5 [0]) 4 (by kernel_rfl) (by kernel_rfl) ?_
           clear hc654 hr644 hc623 hc621 hr617 ap610 ap609 ap608 ap607 ap606 ap605 ap604 ap603 ap602 ap601 hB595 hk291 hk290 hb289 lt195 lt192 hl69 hg64 hb59 hg58 hbe55 hg53 ho43
           refine gv_pureN 1 [189] [(189, (.slice a66 (List.length r61.1) c67))] (by kernel_rfl) ?_
           refine gv_nil <| gv_goA ?_
           refine gv_stage (Cls w655 []) [0, 1, 2] [(1, some true), (2, some false)] (bA 5 [0, 1, 2]) 2 (by kernel_rfl) (by kernel_rfl) (Cls.refl _ _) ?_
           have hC657 := Cls.refl w655 []
           have hg658 := (grown_trans (grown_trans hg619 hg646) hg656)
           have hk659 := hb612.grown hg658 nb
           refine gv_loadBox (t := 25) (b := b76) (t' := 25) (fr := (0, 0)) #[(.int .i64 r61.2.1), (.int .i64 r61.2.2)] [] (fun e => by cases e) rfl rfl rfl (by kernel_rfl) (by kernel_rfl) (by kernel_rfl) (by kernel_rfl) (inw1 fun w' hC' => (hC'.box hk659 nm_nil)) rfl ?_
           refine bindE h0 ?_; clear h0; intro r660 hr661 h0
           refine gv_call (f := 12) (vs := [(.int .i64 1), (.int .i64 (-1))]) (cap := []) _ (by decide) rfl rfl rfl (by kernel_rfl) (by kernel_rfl) enters12 (ref4_At_ok fuel 1 (-1) w655  r660 hr661) ?_
           rintro v664 w662 ⟨hg663, rfl⟩
           refine ⟨(fun _ => hC657.grown hg663 nb), ?_⟩
           refine gv_nil <| gv_goA ?_
           refine gv_stage (fun _ => True) [0, 1, 2, 3] [(3, some false)] (bA 5 [0, 1, 2, 3]) 1 (by kernel_rfl) (by kernel_rfl) trivial ?_
           refine gv_sub [189, 190, 191] (σ' := [(189, (.slice a66 (List.length r61.1) c67)), (190, (.agg #[(.int .i64 r61.2.1), (.int .i64 r61.2.2)])), (191, (.agg #[(.int .i64 r660.1), (.int .i64 r660.2)]))]) (by kernel_rfl) ?_
           refine bindE h0 ?_; clear h0; intro r665 hr666 h0
           have hg667 := (grown_trans hg658 hg663)
           have hk668 := hk615.grown hg667 (fun _ h => h.elim) nb
           refine gv_call (f := 13) (vs := [(.slice a66 (List.length r61.1) c67), (.agg #[(.int .i64 r61.2.1), (.int .i64 r61.2.2)]), (.slice none (List.length ([] : List UInt8)) 0), (.agg #[(.int .i64 r660.1), (.int .i64 r660.2)])]) (cap := []) _ (by decide) rfl rfl rfl (by kernel_rfl) (by kernel_rfl) enters13 (law4_raw_ok fuel a66 c67 r61.1 (r61.2.1, r61.2.2) none 0 ([] : List UInt8) (r660.1, r660.2) w662 (fun k => (fun k => blk a66 = some k) k ∨ (fun _ => False) k) (fun k hk => (hk).elim (fun h => (fun k (hk : blk a66 = some k) => hk668.lt k hk) k h) (fun h => (fun _ h => h.elim) k h)) ((hk668.rd (Y := fun k => blk a66 = some k) (fun _ h => h.elim) (fun g e => e)).wide (fun k hk => (.inl hk))) ((Rd.nil bE w662 (fun _ => False) none 0).wide (fun k hk => (.inr hk))) r665 hr666) ?_
           rintro v671 w669 ⟨hg670, rfl⟩
           refine ⟨(fun _ => trivial), ?_⟩
           refine gv_nil <| gv_goA ?_
           refine gv_pre [4] (bA 5 [0, 1, 2, 3, 4]) 0 (by kernel_rfl) (by kernel_rfl) ?_
           refine gv_pureN 1 [4] [(4, (.bool r665))] (by kernel_rfl) ?_
           refine gv_nil <| gv_goA ?_
           refine gv_stageE (by kernel_rfl) ?_
           refine gv_cret ?_
           have e := sj h0; subst e
           refine gv_ret (gv_done [(.bool r665)] rfl ⟨(by kernel_rfl), trivial⟩ ?_)
           have hg672 := (grown_trans (grown_trans (grown_trans hg646 hg656) hg663) hg670)
           have hB673 := bg hB653 hg672 nb
           exact ⟨grown_of_below hB673, rfl⟩
          ·replace h0 := ite_f hc654 h0
           refine gv_skip <| gv_seq <| gv_region <| gv_pureN 1 [193] [(193, (.slice a66 (List.length r61.1) c67))] (by kernel_rfl) ?_
           have hg674 := (grown_trans hg619 hg646)
           have hk675 := hb612.grown hg674 nb
           refine gv_loadBox (t := 25) (b := b76) (t' := 25) (fr := (0, 0)) #[(.int .i64 r61.2.1), (.int .i64 r61.2.2)] [] (fun e => by cases e) rfl rfl rfl (by kernel_rfl) (by kernel_rfl) (by kernel_rfl) (by kernel_rfl) (inw0 hk675) rfl ?_
           refine gv_pureN 2 [195, 196] [(195, (.slice a648 (List.length r643.1) c649)), (196, (.agg #[(.int .i64 0), (.int .i64 0)]))] (by kernel_rfl) ?_
           refine gv_sub [193, 194, 195, 196] (σ' := [(193, (.slice a66 (List.length r61.1) c67)), (194, (.agg #[(.int .i64 r61.2.1), (.int .i64 r61.2.2)])), (195, (.slice a648 (List.length r643.1) c649)), (196, (.agg #[(.int .i64 0), (.int .i64 0)]))]) (by kernel_rfl) ?_
           refine bindE h0 ?_; clear h0; intro r676 hr677 h0
           have hk678 := hk615.grown hg674 (fun _ h => h.elim) nb
           refine gv_call0 (by kernel_rfl) rfl (by kernel_rfl) enters13 (law4_raw_ok fuel a66 c67 r61.1 (r61.2.1, r61.2.2) a648 c649 r643.1 (0, 0) w645 (fun k => (fun k => blk a66 = some k) k ∨ (fun k => blk a648 = some k) k) (fun k hk => (hk).elim (fun h => (fun k (hk : blk a66 = some k) => hk678.lt k hk) k h) (fun h => (fun k (hk : blk a648 = some k) => ho650.lt k hk) k h)) ((hk678.rd (Y := fun k => blk a66 = some k) (fun _ h => h.elim) (fun g e => e)).wide (fun k hk => (.inl hk))) ((ho650.rd (Y := fun k => blk a648 = some k) (fun _ h => h.elim) (fun g e => e)).wide (fun k hk => (.inr hk))) r676 hr677) ?_
           rintro v681 w679 ⟨hg680, rfl⟩
           refine gv_pureN 1 [4] [(4, (.bool r676))] (by kernel_rfl) ?_
           refine gv_nil <| gv_cret ?_
           have e := sj h0; subst e
           refine gv_ret (gv_done [(.bool r676)] rfl ⟨(by kernel_rfl), trivial⟩ ?_)
           have hg682 := (grown_trans hg646 hg680)
           have hB683 := bg hB653 hg682 nb
           exact ⟨grown_of_below hB683, rfl⟩

end Go.Proofs.YtlclmpegnkomcaaDoor
