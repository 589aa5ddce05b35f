import Derived.Test.YtlclmpegnkomcaaDoorP0
set_option linter.all false
set_option maxHeartbeats 4000000
set_option maxRecDepth 100000
/- Own work, printed by a program of mine: the walk of each function: a call returns what the plain function says. -/
namespace Go.Proofs.YtlclmpegnkomcaaDoor
open Go.Gv Go.Gv.D Go.RowKit
open List (length)
theorem bytestr_Find_ok (fuel : Nat) (pa0_0 : Option Addr) (pc0_0 : Nat) (b_0 : (List UInt8)) (pa1_0 : Option Addr) (pc1_0 : Nat) (sub_1 : (List UInt8)) (from_2 : Int) (to_3 : Int) (last_4 : Bool) (w0 : World) (X0 : Nat → Prop) (hX0 : ∀ k, X0 k → k < w0.heap.size) (hpa0_0 : Rd bE w0 X0 pa0_0 pc0_0 b_0) (hpa1_0 : Rd bE w0 X0 pa1_0 pc1_0 sub_1) {gmx : Int} (hG2 : Rd (iE .i64) w0 X0 (some ⟨2, 0, none⟩) 1 [gmx]) (r0 : (Int × (Int × Int))) (h0 : bytestr_Find fuel b_0 sub_1 from_2 to_3 last_4 = some r0) :
    Calls Tryd.prog 31 ([(.slice pa0_0 (length b_0) pc0_0), (.slice pa1_0 (length sub_1) pc1_0), (.int .i64 from_2), (.int .i64 to_3), (.bool last_4)] : List Value).toArray w0 (Ret fun v w' => w0.grownBy w' none ∧ v = tup [(.int .i64 r0.1), (.agg #[(.int .i64 r0.2.1), (.int .i64 r0.2.2)])]) := by
 have hB0 : Below w0.heap.size w0 w0 := Below.refl _ _
 unfold bytestr_Find at h0
 refine calls_run Tryd.func31 rfl Tryd.ntmps31 kr ?_
 refine gv_sub [0, 1, 2, 3, 4] (σ' := [(0, (.slice pa0_0 (length b_0) pc0_0)), (1, (.slice pa1_0 (length sub_1) pc1_0)), (2, (.int .i64 from_2)), (3, (.int .i64 to_3)), (4, (.bool last_4))]) kr ?_
 refine gv_seq <| gv_region <| pN 1 [10] [] ?_
 refine gv_new0 (fun b => .pointer (some ⟨b, 0, none⟩)) #[(.int .i64 0), (.int .i64 0)] 25 kr kr ?_
 intro b1 w2 hg3 hb4 hbe5 hz6
 refine gv_nil <| gv_seq <| gv_seq <| gv_region <| pN 2 [14, 15] [(14, (.slice pa0_0 (length b_0) pc0_0)), (15, (.slice pa1_0 (length sub_1) pc1_0))] ?_
 refine gv_new0 (fun b => .slice (some ⟨b, 0, none⟩) 2 2) #[(.slice pa0_0 (length b_0) pc0_0), (.slice pa1_0 (length sub_1) pc1_0)] 22 kr kr ?_
 intro b7 w8 hg9 hb10 hbe11 hz12
 obtain ⟨X18, e⟩ : ∃ X : Nat → Prop, X = (fun k => X0 k) := ⟨_, rfl⟩
 have hB19 := bg hB0 hg3 nb
 have hx16 : ∀ k, X18 k → k < w2.heap.size := fun k h => by rw [e] at h; exact (fun k (hk : X0 k) => ltl (hX0 k hk) hB19.size) k h
 have hz20 := hg9.size
 have hx15 : ∀ k, X18 k → k < w8.heap.size := fun k h => ltl (hx16 k h) hz20
 have hx17 : ∀ k, X18 k → X0 k ∨ w0.heap.size ≤ k := fun k h => by rw [e] at h; exact (fun k (hk : X0 k) => Or.inl hk) k h
 have hB21 := bg hB19 hg9 nb
 have ho13 : Gv.Own (slE bE) 22 w8 X18 (some ⟨b7, 0, none⟩) 2 ([b_0, sub_1] : List (List UInt8)) := Box.ownE hb10 (by rw [e]; exact ⟨[(.slice pa0_0 (length b_0) pc0_0)], [(.slice pa1_0 (length sub_1) pc1_0)], rfl, ⟨pa0_0, pc0_0, rfl, ((hpa0_0.below hB21 hX0).wide (fun _ h => h))⟩, ⟨[(.slice pa1_0 (length sub_1) pc1_0)], [], rfl, ⟨pa1_0, pc1_0, rfl, ((hpa1_0.below hB21 hX0).wide (fun _ h => h))⟩, rfl⟩⟩) (show 2 ≤ maxLen by decide) (fun h => noteq hbe11 (hx16 _ h))
 have hx22 : ∀ k, X18 k → (fun k => X0 k) k := fun k h => by rw [e] at h; exact h
 clear e
 have hl14 : ∀ g, blk (some ⟨b7, 0, none⟩) = some g → w0.heap.size ≤ g := loo hbe11 hB19.size
 have ap23 : ∀ g, blk (some ⟨b7, 0, none⟩) = some g → ¬ (· = b1) g := fun g e hx => nl (lowo hbe11 g e) ((ltb hb4) _ hx)
 have hlo25 : w0.heap.size ≤ b1 := lob hbe5 hB0.size
 have ap24 : ¬ (fun k => blk (some ⟨b7, 0, none⟩) = some k ∨ X18 k) b1 := fun h => h.elim (fun h => nl (lowo hbe11 _ h) ((ltb hb4) _ rfl)) (fun h => ((fun (hx : X0 b1) => nl hlo25 (hX0 _ hx)))  (hx22 _ h))
 refine bindE h0 ?_; clear h0; intro r26 hr27 h0
 refine gv_call0 kr rfl kr enters37 (bytestr_check_ok fuel (some ⟨b7, 0, none⟩) 2 ([b_0, sub_1] : List (List UInt8)) w8 (fun k => (fun k => blk (some ⟨b7, 0, none⟩) = some k ∨ X18 k) k) (fun k hk => (fun k (hk : blk (some ⟨b7, 0, none⟩) = some k ∨ X18 k) => hk.elim (fun h => ho13.lt k h) (fun h => hx15 k h)) k hk) ((ho13.rd (Y := fun k => blk (some ⟨b7, 0, none⟩) = some k ∨ X18 k) (fun _ h => .inr h) (fun g e => .inl e)).wide (fun k hk => hk)) r26 hr27) ?_
 rintro v30 w28 ⟨hg29, rfl⟩
 refine gv_new0 (fun b => .pointer (some ⟨b, 0, none⟩)) #[(.int .i64 0), (.int .i64 0)] 25 kr kr ?_
 intro b31 w32 hg33 hb34 hbe35 hz36
 refine gv_store0 25 0 (.agg #[(.int .i64 r26.1), (.int .i64 r26.2)]) #[(.int .i64 r26.1), (.int .i64 r26.2)] hb34 kr kr kr ?_
 intro w37 hg38 hb39 hz40
 refine gv_nil <| gv_seq <| gv_region <| pN 1 [18] [(18, (bp b31))] ?_
 refine gv_load (t := 3) (A := ⟨b31, 0, none⟩) (.int .i64 r26.1) [] (fun e => by cases e) rfl rfl rfl kr kr kr (inw0 (hb39.cell 0 rfl)) rfl ?_
 refine pN 1 [20] [(20, (.bool (r26.1 != 0)))] ?_
 refine gv_nil <| gv_cond (b := (r26.1 != 0)) kr (fun hc41 => ?_) (fun hc41 => ?_)
 ·replace h0 := ite_t hc41 h0
  refine gv_seq <| gv_drawA kr ?_
  intro w42 hg43
  refine gv_pre [1] (bA 3 [1]) 2 kr kr ?_
  refine pN 1 [10] [(10, (.int .i64 0))] ?_
  refine gv_nil <| gv_goA ?_
  refine gv_stage (Cls w42 []) [0] [(0, some true)] (bA 3 [0, 1]) 1 kr kr (Cls.refl _ _) ?_
  have hC44 := Cls.refl w42 []
  have hk45 := hb39.grown hg43 nb
  refine gv_loadBox (t := 25) (b := b31) (t' := 25) (fr := (0, 0)) #[(.int .i64 r26.1), (.int .i64 r26.2)] [] (fun e => by cases e) rfl rfl rfl kr kr kr kr (inw1 fun w' hC' => (hC'.box hk45 nm_nil)) rfl ?_
  refine gv_nil <| gv_goA ?_
  refine gv_stage (fun _ => True) [2] [(2, some false)] (bA 3 [0, 1, 2]) 0 kr kr trivial ?_
  have hg50 := (grown_trans (grown_trans hg9 hg29) hg33)
  have hg51 := (grown_trans hg9 hg29)
  have hk52 := hb4.grown hg51 nb
  have lt53 := ltl ((ltb hk52) _ rfl) ((lowb hbe35) _ rfl)
  have hk54 := ((hb4.grown hg50 nb).grown hg38 (rowne (ng lt53))).grown hg43 nb
  refine gv_store (t := 25) (b := b1) (off := 0) (v := (.agg #[(.int .i64 r26.1), (.int .i64 r26.2)])) (t' := 25) (cs := #[(.int .i64 0), (.int .i64 0)]) #[(.int .i64 r26.1), (.int .i64 r26.2)] (by decide) rfl rfl kr kr kr (by intro u hu; simp [Value.cells] at hu; rcases hu with rfl | rfl <;> rfl) (show 0 + 2 ≤ 2 by decide) (by rfl) hk54 ?_
  intro w46 hg47 hb48 hz49
  refine ⟨(fun _ => trivial), ?_⟩
  refine gv_nil <| gv_goA ?_
  refine gv_stageE kr ?_
  refine gv_cret ?_
  have e := sj h0; subst e
  refine gv_ret (gv_done [(.int .i64 0), (.agg #[(.int .i64 r26.1), (.int .i64 r26.2)])] rfl ⟨kr, ⟨⟨b1, 0, none⟩, kr, run_loadVar_row w46 b1 _ 25 _ _ _ hb48 Tryd.underlying25 rfl kr⟩, trivial⟩ ?_)
  have hg55 := (grown_trans hg29 hg33)
  have hB56 := bg hB21 hg55 nb
  have hB57 := bg hB21 hg29 nb
  have hlo58 : w0.heap.size ≤ b31 := lob hbe35 hB57.size
  have hB59 := bg hB56 hg38 (rowlo hlo58)
  have hB60 := bg hB59 hg43 nb
  have hB61 := bg hB60 hg47 (rowlo hlo25)
  exact ⟨grown_of_below hB61, rfl⟩
 ·replace h0 := ite_f hc41 h0
  refine gv_skip <| gv_seq <| gv_block <| gv_seq <| gv_region <| gv_cut_ops (J := fun a w62 => w37 = w62 ∧ a.defers = [] ∧ a.tmps.size = 63 ∧ Ok [(0, (.slice pa0_0 (length b_0) pc0_0)), (1, (.slice pa1_0 (length sub_1) pc1_0)), (2, (.int .i64 from_2)), (3, (.int .i64 to_3)), (4, (.bool last_4)), (11, (bp b1)), (22, (.bool ((decide (from_2 < 0)) || (decide (from_2 > ((length b_0 : Nat) : Int))))))] a.tmps) ?_ ?_
  ·skip
   refine pN 3 [23, 24, 25] [(25, (.bool (decide (from_2 < 0))))] ?_
   refine gv_split (s := 25) (g := (decide (from_2 < 0))) kr (fun hc63 => ?_) (fun hc63 => ?_)
   ·skip
    refine pN 6 [22, 26, 27, 28, 29, 30] [(22, (.bool true))] ?_
    refine gv_nil <| gv_sub [0, 1, 2, 3, 4, 11, 22] (σ' := [(0, (.slice pa0_0 (length b_0) pc0_0)), (1, (.slice pa1_0 (length sub_1) pc1_0)), (2, (.int .i64 from_2)), (3, (.int .i64 to_3)), (4, (.bool last_4)), (11, (bp b1)), (22, (.bool true))]) kr ?_
    refine gv_goal fun a hd hs hok => ⟨rfl, hd, hs, ?_⟩
    obtain ⟨q0, q1, q2, q3, q4, q11, q22, _⟩ := hok
    exact ⟨q0, q1, q2, q3, q4, q11, (by rw [hc63]; exact q22), trivial⟩
   ·skip
    refine pN 6 [22, 26, 27, 28, 29, 30] [(22, (.bool (decide (from_2 > ((length b_0 : Nat) : Int)))))] ?_
    refine gv_nil <| gv_sub [0, 1, 2, 3, 4, 11, 22] (σ' := [(0, (.slice pa0_0 (length b_0) pc0_0)), (1, (.slice pa1_0 (length sub_1) pc1_0)), (2, (.int .i64 from_2)), (3, (.int .i64 to_3)), (4, (.bool last_4)), (11, (bp b1)), (22, (.bool (decide (from_2 > ((length b_0 : Nat) : Int)))))]) kr ?_
    refine gv_goal fun a hd hs hok => ⟨rfl, hd, hs, ?_⟩
    obtain ⟨q0, q1, q2, q3, q4, q11, q22, _⟩ := hok
    exact ⟨q0, q1, q2, q3, q4, q11, (by rw [hc63]; exact q22), trivial⟩
  ·rintro a w62 ⟨e, hd, hs, hok⟩; subst e
   refine gv_in ?_ hd hs hok
   clear hd hs hok
   refine gv_cond (b := ((decide (from_2 < 0)) || (decide (from_2 > ((length b_0 : Nat) : Int))))) kr (fun hc64 => ?_) (fun hc64 => ?_)
   ·replace h0 := ite_t hc64 h0
    refine gv_seq <| gv_region <| bindE h0 ?_; clear h0; intro r65 hr66 h0
    refine gv_call0 kr rfl kr enters38 (bytestr_at_ok fuel 4 (-3) w37  r65 hr66) ?_
    rintro v69 w67 ⟨hg68, rfl⟩
    clear hr66 hc64 hc41 hz40 hb39 hz36 hb34 hr27 ap24 ap23 hl14 hx22 ho13 hx17 hx15 hz20 hx16 hB19 hz12 hbe11 hb10 hz6 hbe5 hg3
    refine pN 1 [10] [(10, (.int .i64 0))] ?_
    have hg74 := (grown_trans (grown_trans hg9 hg29) hg33)
    have hg75 := (grown_trans hg9 hg29)
    have hk76 := hb4.grown hg75 nb
    have lt77 := ltl ((ltb hk76) _ rfl) ((lowb hbe35) _ rfl)
    have hk78 := ((hb4.grown hg74 nb).grown hg38 (rowne (ng lt77))).grown hg68 nb
    refine gv_store0 25 0 (.agg #[(.int .i64 r65.1), (.int .i64 r65.2)]) #[(.int .i64 r65.1), (.int .i64 r65.2)] hk78 kr kr kr ?_
    intro w70 hg71 hb72 hz73
    refine gv_nil <| gv_cret ?_
    have e := sj h0; subst e
    refine gv_ret (gv_done [(.int .i64 0), (.agg #[(.int .i64 r65.1), (.int .i64 r65.2)])] rfl ⟨kr, ⟨⟨b1, 0, none⟩, kr, run_loadVar_row w70 b1 _ 25 _ _ _ hb72 Tryd.underlying25 rfl kr⟩, trivial⟩ ?_)
    have hg79 := (grown_trans hg29 hg33)
    have hB80 := bg hB21 hg79 nb
    have hB81 := bg hB21 hg29 nb
    have hlo82 : w0.heap.size ≤ b31 := lob hbe35 hB81.size
    have hB83 := bg hB80 hg38 (rowlo hlo82)
    have hB84 := bg hB83 hg68 nb
    have hB85 := bg hB84 hg71 (rowlo hlo25)
    exact ⟨grown_of_below hB85, rfl⟩
   ·replace h0 := ite_f hc64 h0
    refine gv_seq <| gv_region <| gv_cut_ops (J := fun a w86 => w37 = w86 ∧ a.defers = [] ∧ a.tmps.size = 63 ∧ Ok [(0, (.slice pa0_0 (length b_0) pc0_0)), (1, (.slice pa1_0 (length sub_1) pc1_0)), (2, (.int .i64 from_2)), (3, (.int .i64 to_3)), (4, (.bool last_4)), (11, (bp b1)), (32, (.bool ((decide (to_3 < from_2)) || (decide (to_3 > ((length b_0 : Nat) : Int))))))] a.tmps) ?_ ?_
    ·skip
     refine pN 4 [33, 34, 35, 36] [(36, (.bool (decide (to_3 < from_2))))] ?_
     refine gv_split (s := 36) (g := (decide (to_3 < from_2))) kr (fun hc87 => ?_) (fun hc87 => ?_)
     ·skip
      refine pN 6 [32, 37, 38, 39, 40, 41] [(32, (.bool true))] ?_
      refine gv_nil <| gv_sub [0, 1, 2, 3, 4, 11, 32] (σ' := [(0, (.slice pa0_0 (length b_0) pc0_0)), (1, (.slice pa1_0 (length sub_1) pc1_0)), (2, (.int .i64 from_2)), (3, (.int .i64 to_3)), (4, (.bool last_4)), (11, (bp b1)), (32, (.bool true))]) kr ?_
      refine gv_goal fun a hd hs hok => ⟨rfl, hd, hs, ?_⟩
      obtain ⟨q0, q1, q2, q3, q4, q11, q32, _⟩ := hok
      exact ⟨q0, q1, q2, q3, q4, q11, (by rw [hc87]; exact q32), trivial⟩
     ·skip
      refine pN 6 [32, 37, 38, 39, 40, 41] [(32, (.bool (decide (to_3 > ((length b_0 : Nat) : Int)))))] ?_
      refine gv_nil <| gv_sub [0, 1, 2, 3, 4, 11, 32] (σ' := [(0, (.slice pa0_0 (length b_0) pc0_0)), (1, (.slice pa1_0 (length sub_1) pc1_0)), (2, (.int .i64 from_2)), (3, (.int .i64 to_3)), (4, (.bool last_4)), (11, (bp b1)), (32, (.bool (decide (to_3 > ((length b_0 : Nat) : Int)))))]) kr ?_
      refine gv_goal fun a hd hs hok => ⟨rfl, hd, hs, ?_⟩
      obtain ⟨q0, q1, q2, q3, q4, q11, q32, _⟩ := hok
      exact ⟨q0, q1, q2, q3, q4, q11, (by rw [hc87]; exact q32), trivial⟩
    ·rintro a w86 ⟨e, hd, hs, hok⟩; subst e
     refine gv_in ?_ hd hs hok
     clear hd hs hok
     refine gv_cond (b := ((decide (to_3 < from_2)) || (decide (to_3 > ((length b_0 : Nat) : Int))))) kr (fun hc88 => ?_) (fun hc88 => ?_)
     ·replace h0 := ite_t hc88 h0
      refine gv_seq <| gv_region <| bindE h0 ?_; clear h0; intro r89 hr90 h0
      refine gv_call0 kr rfl kr enters38 (bytestr_at_ok fuel 4 (-4) w37  r89 hr90) ?_
      rintro v93 w91 ⟨hg92, rfl⟩
      refine pN 1 [10] [(10, (.int .i64 0))] ?_
      have hg98 := (grown_trans (grown_trans hg9 hg29) hg33)
      have hg99 := (grown_trans hg9 hg29)
      have hk100 := hb4.grown hg99 nb
      have lt101 := ltl ((ltb hk100) _ rfl) ((lowb hbe35) _ rfl)
      have hk102 := ((hb4.grown hg98 nb).grown hg38 (rowne (ng lt101))).grown hg92 nb
      refine gv_store0 25 0 (.agg #[(.int .i64 r89.1), (.int .i64 r89.2)]) #[(.int .i64 r89.1), (.int .i64 r89.2)] hk102 kr kr kr ?_
      intro w94 hg95 hb96 hz97
      refine gv_nil <| gv_cret ?_
      have e := sj h0; subst e
      refine gv_ret (gv_done [(.int .i64 0), (.agg #[(.int .i64 r89.1), (.int .i64 r89.2)])] rfl ⟨kr, ⟨⟨b1, 0, none⟩, kr, run_loadVar_row w94 b1 _ 25 _ _ _ hb96 Tryd.underlying25 rfl kr⟩, trivial⟩ ?_)
      have hg103 := (grown_trans hg29 hg33)
      have hB104 := bg hB21 hg103 nb
      have hB105 := bg hB21 hg29 nb
      have hlo106 : w0.heap.size ≤ b31 := lob hbe35 hB105.size
      have hB107 := bg hB104 hg38 (rowlo hlo106)
      have hB108 := bg hB107 hg92 nb
      have hB109 := bg hB108 hg95 (rowlo hlo25)
      exact ⟨grown_of_below hB109, rfl⟩
     ·replace h0 := ite_f hc88 h0
      refine gv_skip <| gv_blk <| gv_seq <| gv_region <| pN 3 [43, 44, 45] [(43, (.slice pa0_0 (length b_0) pc0_0)), (44, (.int .i64 from_2)), (45, (.int .i64 to_3))] ?_
      refine bindE h0 ?_; clear h0; intro x110 hx111 h0
      have hg115 := (grown_trans hg29 hg33)
      have hB116 := bg hB21 hg115 nb
      have hB117 := bg hB21 hg29 nb
      have hlo118 : w0.heap.size ≤ b31 := lob hbe35 hB117.size
      have hB119 := bg hB116 hg38 (rowlo hlo118)
      refine gv_ssl2 bE (t := 22) (e := 5) (xs := b_0) (a := pa0_0) (cap := pc0_0) (lo := (some (.int .i64 from_2))) (hi := (some (.int .i64 to_3))) from_2 to_3 x110 (fun e => by cases e) rfl rfl rfl kr kr Tryd.underlying22 kr (.inr ⟨_, rfl⟩) (.inr ⟨_, rfl⟩) hx111 (hpa0_0.below hB119 hX0).1 ?_
      intro a112 c113 hsub114
      have hp120 := hsub114 _ _ hpa0_0
      refine pN 1 [47] [(47, (.slice pa1_0 (length sub_1) pc1_0))] ?_
      refine bindE h0 ?_; clear h0; intro r121 hr122 h0
      refine gv_call0 kr rfl kr enters53 (bytes_Index_ok fuel a112 c113 x110 pa1_0 pc1_0 sub_1 w37 (fun k => X0 k ∨ X0 k ∨ X0 k) (fun k hk => (hk).elim (fun h => (fun k (hk : X0 k) => ltl (hX0 k hk) hB119.size) k h) (fun h => (h).elim (fun h => (fun k (hk : X0 k) => ltl (hX0 k hk) hB119.size) k h) (fun h => (fun k (hk : X0 k) => ltl (hX0 k hk) hB119.size) k h))) ((hp120.below hB119 hX0).wide (fun k hk => (.inl hk))) ((hpa1_0.below hB119 hX0).wide (fun k hk => (.inr (.inl hk)))) ((hG2.below hB119 hX0).wide (fun k hk => (.inr (.inr hk)))) r121 hr122) ?_
      rintro v125 w123 ⟨hg124, rfl⟩
      refine pN 1 [13] [(13, (.int .i64 r121))] ?_
      refine gv_sub [0, 1, 2, 3, 4, 11, 13] (σ' := [(0, (.slice pa0_0 (length b_0) pc0_0)), (1, (.slice pa1_0 (length sub_1) pc1_0)), (2, (.int .i64 from_2)), (3, (.int .i64 to_3)), (4, (.bool last_4)), (11, (bp b1)), (13, (.int .i64 r121))]) kr ?_
      refine gv_nil <| gv_seq <| gv_seq <| gv_region <| pN 1 [49] [(49, (.bool last_4))] ?_
      refine gv_nil <| bindE h0 ?_; clear h0; intro j126 h1 h0
      refine gv_cut_code (J := fun a w127 => Below w0.heap.size w0 w127 ∧ w123.heap.size ≤ w127.heap.size ∧ Box w127 b1 25 #[(.int .i64 0), (.int .i64 0)] ∧ a.defers = [] ∧ a.tmps.size = 63 ∧ Ok [(2, (.int .i64 from_2)), (11, (bp b1)), (13, (.int .i64 j126))] a.tmps) ?_ ?_
      ·skip
       refine gv_cond (b := last_4) kr (fun hc128 => ?_) (fun hc128 => ?_)
       ·replace h1 := ite_t hc128 h1
        refine gv_region <| pN 3 [50, 51, 52] [(50, (.slice pa0_0 (length b_0) pc0_0)), (51, (.int .i64 from_2)), (52, (.int .i64 to_3))] ?_
        refine bindE h1 ?_; clear h1; intro x129 hx130 h1
        have hB134 := bg hB119 hg124 nb
        refine gv_ssl2 bE (t := 22) (e := 5) (xs := b_0) (a := pa0_0) (cap := pc0_0) (lo := (some (.int .i64 from_2))) (hi := (some (.int .i64 to_3))) from_2 to_3 x129 (fun e => by cases e) rfl rfl rfl kr kr Tryd.underlying22 kr (.inr ⟨_, rfl⟩) (.inr ⟨_, rfl⟩) hx130 (hpa0_0.below hB134 hX0).1 ?_
        intro a131 c132 hsub133
        have hp135 := hsub133 _ _ hpa0_0
        refine pN 1 [54] [(54, (.slice pa1_0 (length sub_1) pc1_0))] ?_
        refine bindE h1 ?_; clear h1; intro r136 hr137 h1
        refine gv_call0 kr rfl kr enters54 (bytes_LastIndex_ok fuel a131 c132 x129 pa1_0 pc1_0 sub_1 w123 (fun k => X0 k ∨ X0 k) (fun k hk => (hk).elim (fun h => (fun k (hk : X0 k) => ltl (hX0 k hk) hB134.size) k h) (fun h => (fun k (hk : X0 k) => ltl (hX0 k hk) hB134.size) k h)) ((hp135.below hB134 hX0).wide (fun k hk => (.inl hk))) ((hpa1_0.below hB134 hX0).wide (fun k hk => (.inr hk))) r136 hr137) ?_
        rintro v140 w138 ⟨hg139, rfl⟩
        refine pN 1 [13] [(13, (.int .i64 r136))] ?_
        refine gv_nil ?_
        have e := sj h1; subst e
        refine gv_goal fun a hd hs hok => ?_
        have hB141 := bg hB134 hg139 nb
        have hz142 := hg139.size
        have hg143 := (grown_trans hg9 hg115)
        have hg144 := (grown_trans hg9 hg29)
        have hk145 := hb4.grown hg144 nb
        have lt146 := ltl ((ltb hk145) _ rfl) ((lowb hbe35) _ rfl)
        have hg147 := (grown_trans hg124 hg139)
        have hk148 := ((hb4.grown hg143 nb).grown hg38 (rowne (ng lt146))).grown hg147 nb
        exact ⟨hB141, hz142, hk148, hd, hs, okp [2, 11, 13] hok⟩
       ·replace h1 := ite_f hc128 h1
        refine gv_skip ?_
        have e := sj h1; subst e
        refine gv_goal fun a hd hs hok => ?_
        have hB149 := bg hB119 hg124 nb
        have hg150 := (grown_trans hg9 hg115)
        have hg151 := (grown_trans hg9 hg29)
        have hk152 := hb4.grown hg151 nb
        have lt153 := ltl ((ltb hk152) _ rfl) ((lowb hbe35) _ rfl)
        have hk154 := ((hb4.grown hg150 nb).grown hg38 (rowne (ng lt153))).grown hg124 nb
        exact ⟨hB149, nrf, hk154, hd, hs, okp [2, 11, 13] hok⟩
      ·rintro a w127 ⟨hB155, hz156, hb157, hd, hs, hok⟩
       refine gv_in ?_ hd hs hok
       clear hd hs hok
       clear hz156 hg124 hr122 hsub114 hB119 hlo118 hB117 hB116 hg115 hx111 hc88 hc64 hc41 hz40 hb39 hg38 hz36 hbe35 hb34 hg33 hg29 hr27 ap24 ap23 hl14 hx22 ho13 hB21 hx17 hx15 hz20 hx16 hB19 hz12 hbe11 hb10 hg9 hz6 hbe5 hb4 hg3
       refine gv_seq <| gv_seq <| gv_region <| pN 2 [56, 57] [(57, (.bool (decide (j126 ≥ 0))))] ?_
       refine gv_nil <| bindE h0 ?_; clear h0; intro j158 h1 h0
       refine gv_cut_code (J := fun a w159 => Below w0.heap.size w0 w159 ∧ w127.heap.size ≤ w159.heap.size ∧ Box w159 b1 25 #[(.int .i64 0), (.int .i64 0)] ∧ a.defers = [] ∧ a.tmps.size = 63 ∧ Ok [(11, (bp b1)), (13, (.int .i64 j158))] a.tmps) ?_ ?_
       ·skip
        refine gv_cond (b := (decide (j126 ≥ 0))) kr (fun hc160 => ?_) (fun hc160 => ?_)
        ·replace h1 := ite_t hc160 h1
         refine gv_region <| pN 4 [13, 58, 59, 60] [(13, (.int .i64 (IntKind.i64.wrap (j126 + from_2))))] ?_
         refine gv_nil ?_
         have e := sj h1; subst e
         refine gv_goal fun a hd hs hok => ?_
         exact ⟨hB155, nrf, hb157, hd, hs, okp [11, 13] hok⟩
        ·replace h1 := ite_f hc160 h1
         refine gv_skip ?_
         have e := sj h1; subst e
         refine gv_goal fun a hd hs hok => ?_
         exact ⟨hB155, nrf, hb157, hd, hs, okp [11, 13] hok⟩
       ·rintro a w159 ⟨hB161, hz162, hb163, hd, hs, hok⟩
        refine gv_in ?_ hd hs hok
        clear hd hs hok
        refine gv_seq <| gv_region <| pN 3 [10, 61, 62] [(10, (.int .i64 j158)), (62, (.agg #[(.int .i64 0), (.int .i64 0)]))] ?_
        refine gv_store0 25 0 (.agg #[(.int .i64 0), (.int .i64 0)]) #[(.int .i64 0), (.int .i64 0)] hb163 kr kr kr ?_
        intro w164 hg165 hb166 hz167
        refine gv_nil <| gv_cret ?_
        have e := sj h0; subst e
        refine gv_ret (gv_done [(.int .i64 j158), (.agg #[(.int .i64 0), (.int .i64 0)])] rfl ⟨kr, ⟨⟨b1, 0, none⟩, kr, run_loadVar_row w164 b1 _ 25 _ _ _ hb166 Tryd.underlying25 rfl kr⟩, trivial⟩ ?_)
        have hB168 := bg hB161 hg165 (rowlo hlo25)
        exact ⟨grown_of_below hB168, rfl⟩

theorem bytes_Clone_ok (fuel : Nat) (pa0_0 : Option Addr) (pc0_0 : Nat) (b_0 : (List UInt8)) (w0 : World) (X0 : Nat → Prop) (hX0 : ∀ k, X0 k → k < w0.heap.size) (hpa0_0 : Rd bE w0 X0 pa0_0 pc0_0 b_0) (r0 : (List UInt8)) (h0 : bytes_Clone fuel b_0 = some r0) :
    Calls Tryd.prog 56 ([(.slice pa0_0 (length b_0) pc0_0)] : List Value).toArray w0 (Ret fun v w' => w0.grownBy w' none ∧ ∃ (a0_0r : Option Addr) (c0_0r : Nat), v = tup [(.slice a0_0r (length r0) c0_0r)] ∧ Gv.Own bE 5 w' (fun _ => False) a0_0r c0_0r r0 ∧ (∀ g, blk a0_0r = some g → w0.heap.size ≤ g)) := by
 have hB0 : Below w0.heap.size w0 w0 := Below.refl _ _
 unfold bytes_Clone at h0
 refine calls_run Tryd.func56 rfl Tryd.ntmps56 kr ?_
 refine gv_sub [0] (σ' := [(0, (.slice pa0_0 (length b_0) pc0_0))]) kr ?_
 refine gv_seq <| gv_region <| pN 1 [2] [] ?_
 refine gv_nil <| gv_seq <| gv_seq <| gv_region <| pN 1 [3] [(3, (.slice pa0_0 (length b_0) pc0_0))] ?_
 refine gv_nilcmp (t := 22) (x := (.tmp 3)) (y := (.const (.slice none 0 0))) (a := pa0_0) (len := length b_0) (cap := pc0_0) [] (fun e => by cases e) rfl rfl rfl kr kr Tryd.underlying22 rfl ?_
 refine gv_nil ?_
 have hc1n := fun e => nil_of_none (hpa0_0.below hB0 hX0) e
 refine gv_cond (b := (Option.isNone pa0_0)) kr (fun hc1 => ?_) (fun hc1 => ?_)
 ·skip
  replace h0 : (some (([] : List UInt8))) = some r0 := by have e := hc1n hc1; simp only [e] at h0; simpa [app] using h0
  refine gv_seq <| gv_region <| pN 1 [2] [(2, (.slice none (length ([] : List UInt8)) 0))] ?_
  refine gv_nil <| gv_cret ?_
  have e := sj h0; subst e
  refine gv_ret (gv_done [(.slice none (length ([] : List UInt8)) 0)] rfl ⟨kr, trivial⟩ ?_)
  exact ⟨grown_of_below hB0, none, 0, rfl, (Gv.Own.nil bE 5 w0 (fun _ => False)), (fun _ h => by cases h)⟩
 ·skip
  refine gv_skip <| gv_seq <| gv_region <| gv_new0 (fun b => .slice (some ⟨b, 0, none⟩) 0 0) #[] 5 kr kr ?_
  intro b2 w3 hg4 hb5 hbe6 hz7
  have ho8 : Gv.Own bE 5 w3 (fun _ => False) (some ⟨b2, 0, none⟩) 0 ([] : List UInt8) := Box.ownE hb5 rfl (show 0 ≤ maxLen by decide) (fun h => h)
  have hl9 : ∀ g, blk (some ⟨b2, 0, none⟩) = some g → w0.heap.size ≤ g := loo hbe6 hB0.size
  refine pN 1 [6] [(6, (.slice pa0_0 (length b_0) pc0_0))] ?_
  refine bindE h0 ?_; clear h0; intro l13 hx14 h0
  have hB21 := bg hB0 hg4 nb
  refine gv_append bE (t := 22) (ty := 22) (e := 5) (a := (some ⟨b2, 0, none⟩)) (ax := pa0_0) (cap := 0) (cx := pc0_0) (xs := ([] : List UInt8)) (ys := b_0) l13 (X := (fun _ => False)) (Y := X0) (by decide) rfl rfl kr kr Tryd.underlying22 info5 ho8 (hpa0_0.below hB21 hX0) hx14 (.inr fun _ _ _ _ _ h => h) (fun _ h => h.elim) ?_
  intro a15 c16 w17 hg18 ho19 hk20
  refine ⟨(fun e => by cases e), ?_⟩
  have hl22 : ∀ g, blk a15 = some g → w0.heap.size ≤ g := blk_step hk20 hl9 hB21.size
  refine pN 1 [2] [(2, (.slice a15 (length l13) c16))] ?_
  refine gv_nil <| gv_cret ?_
  have e := sj h0; subst e
  refine gv_ret (gv_done [(.slice a15 (length l13) c16)] rfl ⟨kr, trivial⟩ ?_)
  have hB23 := bg hB21 hg18 hl9
  exact ⟨grown_of_below hB23, a15, c16, rfl, ho19, hl22⟩

theorem bytestr_Split_ok (fuel : Nat) (pa0_0 : Option Addr) (pc0_0 : Nat) (b_0 : (List UInt8)) (pa1_0 : Option Addr) (pc1_0 : Nat) (sep_1 : (List UInt8)) (most_2 : Int) (w0 : World) (X0 : Nat → Prop) (hX0 : ∀ k, X0 k → k < w0.heap.size) (hpa0_0 : Rd bE w0 X0 pa0_0 pc0_0 b_0) (hpa1_0 : Rd bE w0 X0 pa1_0 pc1_0 sep_1) {gmx : Int} (hG2 : Rd (iE .i64) w0 X0 (some ⟨2, 0, none⟩) 1 [gmx]) (hcp0 : pc0_0 ≤ 9223372036854775807) (r0 : ((List (List UInt8)) × (Int × Int))) (h0 : bytestr_Split fuel b_0 sep_1 most_2 = some r0) :
    Calls Tryd.prog 32 ([(.slice pa0_0 (length b_0) pc0_0), (.slice pa1_0 (length sep_1) pc1_0), (.int .i64 most_2)] : List Value).toArray w0 (Ret fun v w' => w0.grownBy w' none ∧ ∃ (a0_0r : Option Addr) (c0_0r : Nat), ∃ (X0_0r : Nat → Prop), v = tup [(.slice a0_0r (length r0.1) c0_0r), (.agg #[(.int .i64 r0.2.1), (.int .i64 r0.2.2)])] ∧ Gv.Own (slE bE) 22 w' X0_0r a0_0r c0_0r r0.1 ∧ (∀ g, blk a0_0r = some g → w0.heap.size ≤ g) ∧ (∀ k, X0_0r k → k < w'.heap.size ∧ (X0 k ∨ w0.heap.size ≤ k))) := by
 have hB0 : Below w0.heap.size w0 w0 := Below.refl _ _
 unfold bytestr_Split at h0
 refine calls_run Tryd.func32 rfl Tryd.ntmps32 kr ?_
 refine gv_sub [0, 1, 2] (σ' := [(0, (.slice pa0_0 (length b_0) pc0_0)), (1, (.slice pa1_0 (length sep_1) pc1_0)), (2, (.int .i64 most_2))]) kr ?_
 refine gv_seq <| gv_region <| pN 1 [6] [] ?_
 refine gv_new0 (fun b => .pointer (some ⟨b, 0, none⟩)) #[(.int .i64 0), (.int .i64 0)] 25 kr kr ?_
 intro b1 w2 hg3 hb4 hbe5 hz6
 refine gv_nil <| gv_seq <| gv_seq <| gv_region <| pN 2 [12, 13] [(12, (.slice pa0_0 (length b_0) pc0_0)), (13, (.slice pa1_0 (length sep_1) pc1_0))] ?_
 refine gv_new0 (fun b => .slice (some ⟨b, 0, none⟩) 2 2) #[(.slice pa0_0 (length b_0) pc0_0), (.slice pa1_0 (length sep_1) pc1_0)] 22 kr kr ?_
 intro b7 w8 hg9 hb10 hbe11 hz12
 obtain ⟨X18, e⟩ : ∃ X : Nat → Prop, X = (fun k => X0 k) := ⟨_, rfl⟩
 have hB19 := bg hB0 hg3 nb
 have hx16 : ∀ k, X18 k → k < w2.heap.size := fun k h => by rw [e] at h; exact (fun k (hk : X0 k) => ltl (hX0 k hk) hB19.size) k h
 have hz20 := hg9.size
 have hx15 : ∀ k, X18 k → k < w8.heap.size := fun k h => ltl (hx16 k h) hz20
 have hx17 : ∀ k, X18 k → X0 k ∨ w0.heap.size ≤ k := fun k h => by rw [e] at h; exact (fun k (hk : X0 k) => Or.inl hk) k h
 have hB21 := bg hB19 hg9 nb
 have ho13 : Gv.Own (slE bE) 22 w8 X18 (some ⟨b7, 0, none⟩) 2 ([b_0, sep_1] : List (List UInt8)) := Box.ownE hb10 (by rw [e]; exact ⟨[(.slice pa0_0 (length b_0) pc0_0)], [(.slice pa1_0 (length sep_1) pc1_0)], rfl, ⟨pa0_0, pc0_0, rfl, ((hpa0_0.below hB21 hX0).wide (fun _ h => h))⟩, ⟨[(.slice pa1_0 (length sep_1) pc1_0)], [], rfl, ⟨pa1_0, pc1_0, rfl, ((hpa1_0.below hB21 hX0).wide (fun _ h => h))⟩, rfl⟩⟩) (show 2 ≤ maxLen by decide) (fun h => noteq hbe11 (hx16 _ h))
 have hx22 : ∀ k, X18 k → (fun k => X0 k) k := fun k h => by rw [e] at h; exact h
 clear e
 have hl14 : ∀ g, blk (some ⟨b7, 0, none⟩) = some g → w0.heap.size ≤ g := loo hbe11 hB19.size
 have ap23 : ∀ g, blk (some ⟨b7, 0, none⟩) = some g → ¬ (· = b1) g := fun g e hx => nl (lowo hbe11 g e) ((ltb hb4) _ hx)
 have hlo25 : w0.heap.size ≤ b1 := lob hbe5 hB0.size
 have ap24 : ¬ (fun k => blk (some ⟨b7, 0, none⟩) = some k ∨ X18 k) b1 := fun h => h.elim (fun h => nl (lowo hbe11 _ h) ((ltb hb4) _ rfl)) (fun h => ((fun (hx : X0 b1) => nl hlo25 (hX0 _ hx)))  (hx22 _ h))
 refine bindE h0 ?_; clear h0; intro r26 hr27 h0
 refine gv_call0 kr rfl kr enters37 (bytestr_check_ok fuel (some ⟨b7, 0, none⟩) 2 ([b_0, sep_1] : List (List UInt8)) w8 (fun k => (fun k => blk (some ⟨b7, 0, none⟩) = some k ∨ X18 k) k) (fun k hk => (fun k (hk : blk (some ⟨b7, 0, none⟩) = some k ∨ X18 k) => hk.elim (fun h => ho13.lt k h) (fun h => hx15 k h)) k hk) ((ho13.rd (Y := fun k => blk (some ⟨b7, 0, none⟩) = some k ∨ X18 k) (fun _ h => .inr h) (fun g e => .inl e)).wide (fun k hk => hk)) r26 hr27) ?_
 rintro v30 w28 ⟨hg29, rfl⟩
 refine gv_new0 (fun b => .pointer (some ⟨b, 0, none⟩)) #[(.int .i64 0), (.int .i64 0)] 25 kr kr ?_
 intro b31 w32 hg33 hb34 hbe35 hz36
 refine gv_store0 25 0 (.agg #[(.int .i64 r26.1), (.int .i64 r26.2)]) #[(.int .i64 r26.1), (.int .i64 r26.2)] hb34 kr kr kr ?_
 intro w37 hg38 hb39 hz40
 refine gv_nil <| gv_seq <| gv_region <| pN 1 [16] [(16, (bp b31))] ?_
 refine gv_load (t := 3) (A := ⟨b31, 0, none⟩) (.int .i64 r26.1) [] (fun e => by cases e) rfl rfl rfl kr kr kr (inw0 (hb39.cell 0 rfl)) rfl ?_
 refine pN 1 [18] [(18, (.bool (r26.1 != 0)))] ?_
 refine gv_nil <| gv_cond (b := (r26.1 != 0)) kr (fun hc41 => ?_) (fun hc41 => ?_)
 ·replace h0 := ite_t hc41 h0
  refine gv_seq <| gv_drawA kr ?_
  intro w42 hg43
  refine gv_pre [1] (bA 3 [1]) 2 kr kr ?_
  refine pN 1 [6] [(6, (.slice none (length ([] : List (List UInt8))) 0))] ?_
  refine gv_nil <| gv_goA ?_
  refine gv_stage (Cls w42 []) [0] [(0, some true)] (bA 3 [0, 1]) 1 kr kr (Cls.refl _ _) ?_
  have hC44 := Cls.refl w42 []
  have hk45 := hb39.grown hg43 nb
  refine gv_loadBox (t := 25) (b := b31) (t' := 25) (fr := (0, 0)) #[(.int .i64 r26.1), (.int .i64 r26.2)] [] (fun e => by cases e) rfl rfl rfl kr kr kr kr (inw1 fun w' hC' => (hC'.box hk45 nm_nil)) rfl ?_
  refine gv_nil <| gv_goA ?_
  refine gv_stage (fun _ => True) [2] [(2, some false)] (bA 3 [0, 1, 2]) 0 kr kr trivial ?_
  have hg50 := (grown_trans (grown_trans hg9 hg29) hg33)
  have hg51 := (grown_trans hg9 hg29)
  have hk52 := hb4.grown hg51 nb
  have lt53 := ltl ((ltb hk52) _ rfl) ((lowb hbe35) _ rfl)
  have hk54 := ((hb4.grown hg50 nb).grown hg38 (rowne (ng lt53))).grown hg43 nb
  refine gv_store (t := 25) (b := b1) (off := 0) (v := (.agg #[(.int .i64 r26.1), (.int .i64 r26.2)])) (t' := 25) (cs := #[(.int .i64 0), (.int .i64 0)]) #[(.int .i64 r26.1), (.int .i64 r26.2)] (by decide) rfl rfl kr kr kr (by intro u hu; simp [Value.cells] at hu; rcases hu with rfl | rfl <;> rfl) (show 0 + 2 ≤ 2 by decide) (by rfl) hk54 ?_
  intro w46 hg47 hb48 hz49
  refine ⟨(fun _ => trivial), ?_⟩
  refine gv_nil <| gv_goA ?_
  refine gv_stageE kr ?_
  refine gv_cret ?_
  have e := sj h0; subst e
  refine gv_ret (gv_done [(.slice none (length ([] : List (List UInt8))) 0), (.agg #[(.int .i64 r26.1), (.int .i64 r26.2)])] rfl ⟨kr, ⟨⟨b1, 0, none⟩, kr, run_loadVar_row w46 b1 _ 25 _ _ _ hb48 Tryd.underlying25 rfl kr⟩, trivial⟩ ?_)
  have hg55 := (grown_trans hg29 hg33)
  have hB56 := bg hB21 hg55 nb
  have hB57 := bg hB21 hg29 nb
  have hlo58 : w0.heap.size ≤ b31 := lob hbe35 hB57.size
  have hB59 := bg hB56 hg38 (rowlo hlo58)
  have hB60 := bg hB59 hg43 nb
  have hB61 := bg hB60 hg47 (rowlo hlo25)
  exact ⟨grown_of_below hB61, none, 0, (fun _ => False), rfl, (Gv.Own.nil (slE bE) 22 w46 (fun _ => False)), (fun _ h => by cases h), (fun k hk => ⟨(fun _ h => h.elim) k hk, (fun _ h => h.elim) k hk⟩)⟩
 ·replace h0 := ite_f hc41 h0
  refine gv_skip <| gv_seq <| gv_seq <| gv_region <| pN 3 [20, 21, 22] [(22, (.bool (((length sep_1 : Nat) : Int) == 0)))] ?_
  refine gv_nil <| gv_cond (b := (((length sep_1 : Nat) : Int) == 0)) kr (fun hc62 => ?_) (fun hc62 => ?_)
  ·replace h0 := ite_t hc62 h0
   refine gv_seq <| gv_region <| bindE h0 ?_; clear h0; intro r63 hr64 h0
   refine gv_call0 kr rfl kr enters38 (bytestr_at_ok fuel 10 (-2) w37  r63 hr64) ?_
   rintro v67 w65 ⟨hg66, rfl⟩
   clear hr64 hc62 hc41 hz40 hb39 hz36 hb34 hr27 ap24 ap23 hl14 hx22 ho13 hx17 hx15 hz20 hx16 hB19 hz12 hbe11 hb10 hz6 hbe5 hg3
   refine pN 1 [6] [(6, (.slice none (length ([] : List (List UInt8))) 0))] ?_
   have hg72 := (grown_trans (grown_trans hg9 hg29) hg33)
   have hg73 := (grown_trans hg9 hg29)
   have hk74 := hb4.grown hg73 nb
   have lt75 := ltl ((ltb hk74) _ rfl) ((lowb hbe35) _ rfl)
   have hk76 := ((hb4.grown hg72 nb).grown hg38 (rowne (ng lt75))).grown hg66 nb
   refine gv_store0 25 0 (.agg #[(.int .i64 r63.1), (.int .i64 r63.2)]) #[(.int .i64 r63.1), (.int .i64 r63.2)] hk76 kr kr kr ?_
   intro w68 hg69 hb70 hz71
   refine gv_nil <| gv_cret ?_
   have e := sj h0; subst e
   refine gv_ret (gv_done [(.slice none (length ([] : List (List UInt8))) 0), (.agg #[(.int .i64 r63.1), (.int .i64 r63.2)])] rfl ⟨kr, ⟨⟨b1, 0, none⟩, kr, run_loadVar_row w68 b1 _ 25 _ _ _ hb70 Tryd.underlying25 rfl kr⟩, trivial⟩ ?_)
   have hg77 := (grown_trans hg29 hg33)
   have hB78 := bg hB21 hg77 nb
   have hB79 := bg hB21 hg29 nb
   have hlo80 : w0.heap.size ≤ b31 := lob hbe35 hB79.size
   have hB81 := bg hB78 hg38 (rowlo hlo80)
   have hB82 := bg hB81 hg66 nb
   have hB83 := bg hB82 hg69 (rowlo hlo25)
   exact ⟨grown_of_below hB83, none, 0, (fun _ => False), rfl, (Gv.Own.nil (slE bE) 22 w68 (fun _ => False)), (fun _ h => by cases h), (fun k hk => ⟨(fun _ h => h.elim) k hk, (fun _ h => h.elim) k hk⟩)⟩
  ·replace h0 := ite_f hc62 h0
   refine gv_skip <| gv_seq <| gv_seq <| gv_region <| gv_cut_ops (J := fun a w84 => w37 = w84 ∧ a.defers = [] ∧ a.tmps.size = 52 ∧ Ok [(0, (.slice pa0_0 (length b_0) pc0_0)), (1, (.slice pa1_0 (length sep_1) pc1_0)), (2, (.int .i64 most_2)), (7, (bp b1)), (29, (.bool ((decide (most_2 < 0)) || (decide (most_2 > 4000)))))] a.tmps) ?_ ?_
   ·skip
    refine pN 3 [24, 25, 26] [(26, (.bool (decide (most_2 < 0))))] ?_
    refine gv_split (s := 26) (g := (decide (most_2 < 0))) kr (fun hc85 => ?_) (fun hc85 => ?_)
    ·skip
     refine pN 3 [27, 28, 29] [(29, (.bool true))] ?_
     refine gv_nil <| gv_sub [0, 1, 2, 7, 29] (σ' := [(0, (.slice pa0_0 (length b_0) pc0_0)), (1, (.slice pa1_0 (length sep_1) pc1_0)), (2, (.int .i64 most_2)), (7, (bp b1)), (29, (.bool true))]) kr ?_
     refine gv_goal fun a hd hs hok => ⟨rfl, hd, hs, ?_⟩
     obtain ⟨q0, q1, q2, q7, q29, _⟩ := hok
     exact ⟨q0, q1, q2, q7, (by rw [hc85]; exact q29), trivial⟩
    ·skip
     refine pN 3 [27, 28, 29] [(29, (.bool (decide (most_2 > 4000))))] ?_
     refine gv_nil <| gv_sub [0, 1, 2, 7, 29] (σ' := [(0, (.slice pa0_0 (length b_0) pc0_0)), (1, (.slice pa1_0 (length sep_1) pc1_0)), (2, (.int .i64 most_2)), (7, (bp b1)), (29, (.bool (decide (most_2 > 4000))))]) kr ?_
     refine gv_goal fun a hd hs hok => ⟨rfl, hd, hs, ?_⟩
     obtain ⟨q0, q1, q2, q7, q29, _⟩ := hok
     exact ⟨q0, q1, q2, q7, (by rw [hc85]; exact q29), trivial⟩
   ·rintro a w84 ⟨e, hd, hs, hok⟩; subst e
    refine gv_in ?_ hd hs hok
    clear hd hs hok
    refine bindE h0 ?_; clear h0; intro j86 h1 h0
    refine gv_cut_code (J := fun a w87 => Below w0.heap.size w0 w87 ∧ w37.heap.size ≤ w87.heap.size ∧ Box w87 b1 25 #[(.int .i64 0), (.int .i64 0)] ∧ a.defers = [] ∧ a.tmps.size = 52 ∧ Ok [(0, (.slice pa0_0 (length b_0) pc0_0)), (1, (.slice pa1_0 (length sep_1) pc1_0)), (2, (.int .i64 j86)), (7, (bp b1))] a.tmps) ?_ ?_
    ·skip
     refine gv_cond (b := ((decide (most_2 < 0)) || (decide (most_2 > 4000)))) kr (fun hc88 => ?_) (fun hc88 => ?_)
     ·replace h1 := ite_t hc88 h1
      refine gv_region <| pN 1 [2] [(2, (.int .i64 4000))] ?_
      refine gv_nil ?_
      have e := sj h1; subst e
      refine gv_goal fun a hd hs hok => ?_
      have hg89 := (grown_trans hg29 hg33)
      have hB90 := bg hB21 hg89 nb
      have hB91 := bg hB21 hg29 nb
      have hlo92 : w0.heap.size ≤ b31 := lob hbe35 hB91.size
      have hB93 := bg hB90 hg38 (rowlo hlo92)
      have hg94 := (grown_trans hg9 hg89)
      have hg95 := (grown_trans hg9 hg29)
      have hk96 := hb4.grown hg95 nb
      have lt97 := ltl ((ltb hk96) _ rfl) ((lowb hbe35) _ rfl)
      have hk98 := (hb4.grown hg94 nb).grown hg38 (rowne (ng lt97))
      exact ⟨hB93, nrf, hk98, hd, hs, okp [0, 1, 2, 7] hok⟩
     ·replace h1 := ite_f hc88 h1
      refine gv_skip ?_
      have e := sj h1; subst e
      refine gv_goal fun a hd hs hok => ?_
      have hg99 := (grown_trans hg29 hg33)
      have hB100 := bg hB21 hg99 nb
      have hB101 := bg hB21 hg29 nb
      have hlo102 : w0.heap.size ≤ b31 := lob hbe35 hB101.size
      have hB103 := bg hB100 hg38 (rowlo hlo102)
      have hg104 := (grown_trans hg9 hg99)
      have hg105 := (grown_trans hg9 hg29)
      have hk106 := hb4.grown hg105 nb
      have lt107 := ltl ((ltb hk106) _ rfl) ((lowb hbe35) _ rfl)
      have hk108 := (hb4.grown hg104 nb).grown hg38 (rowne (ng lt107))
      exact ⟨hB103, nrf, hk108, hd, hs, okp [0, 1, 2, 7] hok⟩
    ·rintro a w87 ⟨hB109, hz110, hb111, hd, hs, hok⟩
     refine gv_in ?_ hd hs hok
     clear hd hs hok
     clear hz110 hc62 hc41 hz40 hb39 hg38 hz36 hbe35 hb34 hg33 hg29 hr27 ap24 ap23 hl14 hx22 ho13 hB21 hx17 hx15 hz20 hx16 hB19 hz12 hbe11 hb10 hg9 hz6 hbe5 hb4 hg3
     refine gv_seq <| gv_region <| pN 1 [9] [(9, (.slice none (length ([] : List (List UInt8))) 0))] ?_
     refine gv_nil <| gv_seq <| gv_seq <| gv_region <| pN 4 [30, 31, 32, 33] [(30, (.slice pa0_0 (length b_0) pc0_0)), (31, (.slice pa1_0 (length sep_1) pc1_0)), (33, (.int .i64 (IntKind.i64.wrap (j86 + 1))))] ?_
     refine bindE h0 ?_; clear h0; intro r112 hr113 h0
     refine gv_call0 kr rfl kr enters55 (bytes_SplitN_ok fuel pa0_0 pc0_0 b_0 pa1_0 pc1_0 sep_1 (IntKind.i64.wrap (j86 + 1)) w87 (fun k => X0 k ∨ X0 k ∨ X0 k) (fun k hk => (hk).elim (fun h => (fun k (hk : X0 k) => ltl (hX0 k hk) hB109.size) k h) (fun h => (h).elim (fun h => (fun k (hk : X0 k) => ltl (hX0 k hk) hB109.size) k h) (fun h => (fun k (hk : X0 k) => ltl (hX0 k hk) hB109.size) k h))) ((hpa0_0.below hB109 hX0).wide (fun k hk => (.inl hk))) ((hpa1_0.below hB109 hX0).wide (fun k hk => (.inr (.inl hk)))) ((hG2.below hB109 hX0).wide (fun k hk => (.inr (.inr hk)))) hcp0 r112 hr113) ?_
     rintro v116 w114 ⟨hg115, a117, c118, X120, rfl, ho119, hx121⟩
     have hx122 : ∀ k, X120 k → k < w114.heap.size := fun k hk => (hx121 k hk).1
     have hx123 : ∀ k, X120 k → X0 k ∨ w0.heap.size ≤ k := fun k hk => (hx121 k hk).2.elim (fun h => (h).elim (fun h => (fun k (hk : X0 k) => Or.inl hk) k h) (fun h => (h).elim (fun h => (fun k (hk : X0 k) => Or.inl hk) k h) (fun h => (fun k (hk : X0 k) => Or.inl hk) k h))) (fun h => .inr (Nat.le_trans hB109.size h))
     refine pN 2 [35, 36] [(35, (.int .i64 ((length r112 : Nat) : Int))), (36, (.int .i64 0))] ?_
     refine gv_nil <| bindE h0 ?_; clear h0; intro j124 h1 h0
     refine gv_cut_code (J := fun a w126 => ∃ s125 : ((List (List UInt8)) × (Int × Int)), j124 = .inl s125 ∧ ∃ (a9_0j : Option Addr) (c9_0j : Nat), ∃ (X9_0j : Nat → Prop), Below w0.heap.size w0 w126 ∧ w114.heap.size ≤ w126.heap.size ∧ Gv.Own (slE bE) 22 w126 X9_0j a9_0j c9_0j s125.1 ∧ (∀ g, blk a9_0j = some g → w0.heap.size ≤ g) ∧ (∀ k, X9_0j k → k < w126.heap.size) ∧ (∀ k, X9_0j k → X0 k ∨ w0.heap.size ≤ k) ∧ (∀ g, blk a9_0j = some g → ¬ (· = b1) g) ∧ ¬ (fun k => blk a9_0j = some k ∨ X9_0j k) b1 ∧ Box w126 b1 25 #[(.int .i64 s125.2.1), (.int .i64 s125.2.2)] ∧ a.defers = [] ∧ a.tmps.size = 52 ∧ Ok [(7, (bp b1)), (9, (.slice a9_0j (length s125.1) c9_0j))] a.tmps) ?_ ?_
     ·skip
      refine gv_block <| gv_loop (A := fun (s127 : ((List (List UInt8)) × Int × (Int × Int))) a w128 => ∃ (a9_0j : Option Addr) (c9_0j : Nat), ∃ (X9_0j : Nat → Prop), Below w0.heap.size w0 w128 ∧ w114.heap.size ≤ w128.heap.size ∧ Gv.Own (slE bE) 22 w128 X9_0j a9_0j c9_0j s127.1 ∧ (∀ g, blk a9_0j = some g → w0.heap.size ≤ g) ∧ (∀ k, X9_0j k → k < w128.heap.size) ∧ (∀ k, X9_0j k → X0 k ∨ w0.heap.size ≤ k) ∧ (∀ g, blk a9_0j = some g → ¬ (· = b1) g) ∧ (∀ g, blk a9_0j = some g → ¬ X120 g) ∧ ¬ (fun k => blk a9_0j = some k ∨ X9_0j k) b1 ∧ Box w128 b1 25 #[(.int .i64 s127.2.2.1), (.int .i64 s127.2.2.2)] ∧ Rd (slE bE) w128 X120 a117 c118 r112 ∧ a.defers = [] ∧ a.tmps.size = 52 ∧ Ok [(7, (bp b1)), (9, (.slice a9_0j (length s127.1) c9_0j)), (34, (.slice a117 (length r112) c118)), (35, (.int .i64 ((length r112 : Nat) : Int))), (36, (.int .i64 s127.2.1))] a.tmps) h1 ?_ ?_
      ·intro a hd hs hok
       have hB129 := bg hB109 hg115 nb
       have hk130 := hb111.grown hg115 nb
       exact ⟨none, 0, (fun _ => False), hB129, nrf, (Gv.Own.nil (slE bE) 22 w114 (fun _ => False)), (fun _ h => by cases h), (fun _ h => h.elim), (fun _ h => h.elim), (fun _ h => by cases h), (fun _ h => by cases h), (fun h => h.elim (fun e => by cases e) (fun e => e)), hk130, ho119, hd, hs, okp [7, 9, 34, 35, 36] hok⟩
      ·rintro s127 r2 h2 hR2 a w128 ⟨a133, c134, X133, hB131, hz132, ho135, hl136, hx137, hx138, ap139, ap140, ap141, hb142, hk143, hd, hs, hok⟩
       refine gv_in ?_ hd hs hok
       clear hd hs hok
       clear ho119 hg115 hr113 hB109
       refine gv_seq <| gv_region <| pN 1 [37] [(37, (.bool (decide (s127.2.1 < ((length r112 : Nat) : Int)))))] ?_
       refine gv_nil <| gv_seq <| gv_cond (b := (decide (s127.2.1 < ((length r112 : Nat) : Int)))) kr (fun hc144 => ?_) (fun hc144 => ?_)
       ·replace h2 := ite_t hc144 h2
        refine gv_skip <| gv_seq <| gv_block <| gv_seq <| gv_region <| bindE h2 ?_; clear h2; intro x145 hx146 h2
        refine gv_idxaddr (t := 23) (e := 22) (a := a117) (len := length r112) (cap := c118) (kk := .i64) (i := s127.2.1) (sz := 1) [] (fun e => by cases e) rfl rfl rfl kr kr Tryd.underlying23 kr (hk143.has hx146) (idx_spec hx146).1 (idx_spec hx146).2.1 rfl ?_
        obtain ⟨_, ⟨a148, c149, rfl, hr150⟩, hc147⟩ := hk143.cellsK hx146
        refine gv_load (t := 22) (A := (elemAddr a117 ((s127.2.1 : Int).toNat * 1))) (.slice a148 (length x145) c149) [] (fun e => by cases e) rfl rfl rfl kr kr kr (inw0 ((hc147 w128 (fun _ _ => rfl)).zero rfl)) rfl ?_
        refine pN 1 [11] [(11, (.slice a148 (length x145) c149))] ?_
        refine gv_nil <| gv_seq <| gv_seq <| gv_region <| pN 3 [40, 41, 42] [(42, (.bool (((length s127.1 : Nat) : Int) == 1000)))] ?_
        refine gv_nil <| gv_cond (b := (((length s127.1 : Nat) : Int) == 1000)) kr (fun hc151 => ?_) (fun hc151 => ?_)
        ·replace h2 := ite_t hc151 h2
         refine gv_seq <| gv_region <| bindE h2 ?_; clear h2; intro r152 hr153 h2
         refine gv_call0 kr rfl kr enters38 (bytestr_at_ok fuel 2 (-1) w128  r152 hr153) ?_
         rintro v156 w154 ⟨hg155, rfl⟩
         refine pN 1 [6] [(6, (.slice none (length ([] : List (List UInt8))) 0))] ?_
         have hk161 := hb142.grown hg155 nb
         refine gv_store0 25 0 (.agg #[(.int .i64 r152.1), (.int .i64 r152.2)]) #[(.int .i64 r152.1), (.int .i64 r152.2)] hk161 kr kr kr ?_
         intro w157 hg158 hb159 hz160
         refine gv_nil <| gv_cret ?_
         have e := sj h2; subst e
         replace h1 := congrArg some (hR2 _ rfl)
         have e := sj h1; subst e
         replace h0 := cont_inr h0
         have e := sj h0; subst e
         refine gv_ret (gv_done [(.slice none (length ([] : List (List UInt8))) 0), (.agg #[(.int .i64 r152.1), (.int .i64 r152.2)])] rfl ⟨kr, ⟨⟨b1, 0, none⟩, kr, run_loadVar_row w157 b1 _ 25 _ _ _ hb159 Tryd.underlying25 rfl kr⟩, trivial⟩ ?_)
         have hB162 := bg hB131 hg155 nb
         have hB163 := bg hB162 hg158 (rowlo hlo25)
         exact ⟨grown_of_below hB163, none, 0, (fun _ => False), rfl, (Gv.Own.nil (slE bE) 22 w157 (fun _ => False)), (fun _ h => by cases h), (fun k hk => ⟨(fun _ h => h.elim) k hk, (fun _ h => h.elim) k hk⟩)⟩
        ·replace h2 := ite_f hc151 h2
         refine gv_skip <| gv_region <| pN 2 [44, 45] [(44, (.slice a133 (length s127.1) c134)), (45, (.slice a148 (length x145) c149))] ?_
         refine bindE h2 ?_; clear h2; intro r164 hr165 h2
         refine gv_call0 kr rfl kr enters56 (bytes_Clone_ok fuel a148 c149 x145 w128 (fun k => X120 k) (fun k hk => (fun k hk => ltl (hx122 k hk) hz132) k hk) (hr150.wide (fun k hk => hk)) r164 hr165) ?_
         rintro v168 w166 ⟨hg167, a169, c170, rfl, ho171, hl172⟩
         have hl173 : ∀ g, blk a169 = some g → w0.heap.size ≤ g := fun g e => Nat.le_trans hB131.size (hl172 g e)
         refine gv_new0 (fun b => .slice (some ⟨b, 0, none⟩) 1 1) #[(.slice a169 (length r164) c170)] 22 kr kr ?_
         intro b174 w175 hg176 hb177 hbe178 hz179
         obtain ⟨X185, e⟩ : ∃ X : Nat → Prop, X = (fun k => (fun k => blk a169 = some k) k) := ⟨_, rfl⟩
         have hx183 : ∀ k, X185 k → k < w166.heap.size := fun k h => by rw [e] at h; exact (fun k (hk : blk a169 = some k) => ho171.lt k hk) k h
         have hz186 := hg176.size
         have hx182 : ∀ k, X185 k → k < w175.heap.size := fun k h => ltl (hx183 k h) hz186
         have hx184 : ∀ k, X185 k → X0 k ∨ w0.heap.size ≤ k := fun k h => by rw [e] at h; exact (fun k (hk : blk a169 = some k) => Or.inr (hl173 k hk)) k h
         have hk187 := ho171.grown hg176 (fun _ h => h.elim) nb
         have ho180 : Gv.Own (slE bE) 22 w175 X185 (some ⟨b174, 0, none⟩) 1 ([r164] : List (List UInt8)) := Box.ownE hb177 (by rw [e]; exact ⟨[(.slice a169 (length r164) c170)], [], rfl, ⟨a169, c170, rfl, ((hk187.rd (Y := fun k => blk a169 = some k) (fun _ h => h.elim) (fun g e => e)).wide (fun _ h => h))⟩, rfl⟩) (show 1 ≤ maxLen by decide) (fun h => noteq hbe178 (hx183 _ h))
         have hx188 : ∀ k, X185 k → (fun k => (fun k => blk a169 = some k) k) k := fun k h => by rw [e] at h; exact h
         clear e
         have hB189 := bg hB131 hg167 nb
         have hl181 : ∀ g, blk (some ⟨b174, 0, none⟩) = some g → w0.heap.size ≤ g := loo hbe178 hB189.size
         have hk191 := ho135.grown hg167 hx137 nb
         have hx192 := ltx hx137 hg167.size
         have ap190 : ∀ g, blk (some ⟨b174, 0, none⟩) = some g → ¬ (fun k => blk a133 = some k ∨ X133 k) g := fun g e hx => nl (lowo hbe178 g e) ((fun k (hk : blk a133 = some k ∨ X133 k) => hk.elim (fun h => hk191.lt k h) (fun h => hx192 k h)) _ hx)
         have ap194 : ∀ g, blk a133 = some g → ¬ (fun k => blk a169 = some k) g := fun g e hx => nl ((show ∀ k, blk a169 = some k → w128.heap.size ≤ k from hl172) _ hx) ((fun k (hk : blk a133 = some k ∨ X133 k) => hk.elim (fun h => ho135.lt k h) (fun h => hx137 k h)) g (.inl e))
         have ap193 : ∀ g, blk a133 = some g → ¬ (fun k => blk (some ⟨b174, 0, none⟩) = some k ∨ X185 k) g := fun g e h => h.elim (fun h => nl (lowo hbe178 _ h) ((fun k (hk : blk a133 = some k ∨ X133 k) => hk.elim (fun h => hk191.lt k h) (fun h => hx192 k h)) g (.inl e))) (fun h => (ap194) g e (hx188 _ h))
         have hk196 := hb142.grown hg167 nb
         have ap195 : ∀ g, blk (some ⟨b174, 0, none⟩) = some g → ¬ (· = b1) g := fun g e hx => nl (lowo hbe178 g e) ((ltb hk196) _ hx)
         have ap198 : ¬ (fun k => blk a169 = some k) b1 := fun hx => nl ((show ∀ k, blk a169 = some k → w128.heap.size ≤ k from hl172) _ hx) ((ltb hb142) _ rfl)
         have ap197 : ¬ (fun k => blk (some ⟨b174, 0, none⟩) = some k ∨ X185 k) b1 := fun h => h.elim (fun h => nl (lowo hbe178 _ h) ((ltb hk196) _ rfl)) (fun h => (ap198)  (hx188 _ h))
         have hx200 := ltx (fun k hk => ltl (hx122 k hk) hz132) hg167.size
         have ap199 : ∀ g, blk (some ⟨b174, 0, none⟩) = some g → ¬ X120 g := fun g e hx => nl (lowo hbe178 g e) (hx200 _ hx)
         have hx202 := ltx (fun k hk => ltl (hx122 k hk) hz132) hg167.size
         have ap201 : ∀ g, blk (some ⟨b174, 0, none⟩) = some g → ¬ X120 g := fun g e hx => nl (lowo hbe178 g e) (hx202 _ hx)
         have ap203 : ∀ g, blk (some ⟨b174, 0, none⟩) = some g → ¬ (fun k => blk a169 = some k) g := fun g e hx => nl (lowo hbe178 g e) ((fun k (hk : blk a169 = some k) => ho171.lt k hk) _ hx)
         refine bindE h2 ?_; clear h2; intro l204 hx205 h2
         obtain ⟨X206, e⟩ : ∃ X : Nat → Prop, X = fun k => X133 k ∨ (fun k => blk (some ⟨b174, 0, none⟩) = some k ∨ X185 k) k := ⟨_, rfl⟩
         have hx210 := ltx hx192 hg176.size
         have hx207 : ∀ k, X206 k → k < w175.heap.size := fun k hk => by rw [e] at hk; exact hk.elim (fun h => hx210 k h) (fun h => (fun k (hk : blk (some ⟨b174, 0, none⟩) = some k ∨ X185 k) => hk.elim (fun h => ho180.lt k h) (fun h => hx182 k h)) k h)
         have hx208 : ∀ k, X206 k → X0 k ∨ w0.heap.size ≤ k := fun k hk => by rw [e] at hk; exact hk.elim (fun h => hx138 k h) (fun h => (fun k (hk : blk (some ⟨b174, 0, none⟩) = some k ∨ X185 k) => hk.elim (fun h => Or.inr (hl181 k h)) (fun h => hx184 k h)) k h)
         have hk211 := hk191.grown hg176 hx192 nb
         have ho209 : Gv.Own (slE bE) 22 w175 X206 a133 c134 s127.1 := (hk211).wide (fun k hk => by rw [e]; exact .inl hk) (fun g e1 hk => by rw [e] at hk; exact hk.elim (fun h => (hk211).out g e1 h) (fun h => ap193 g e1 h))
         have hx212 : ∀ k, (fun k => blk (some ⟨b174, 0, none⟩) = some k ∨ X185 k) k → X206 k := fun k hk => by rw [e]; exact .inr hk
         have hx213 : ∀ k, X206 k → X133 k ∨ (fun k => blk (some ⟨b174, 0, none⟩) = some k ∨ X185 k) k := fun k hk => by rw [e] at hk; exact hk
         clear e
         refine gv_append (slE bE) (t := 23) (ty := 23) (e := 22) (a := a133) (ax := (some ⟨b174, 0, none⟩)) (cap := c134) (cx := 1) (xs := s127.1) (ys := ([r164] : List (List UInt8))) l204 (X := X206) (Y := (fun k => blk (some ⟨b174, 0, none⟩) = some k ∨ X185 k)) (by decide) rfl rfl kr kr Tryd.underlying23 info22 ho209 (ho180.rd (Y := fun k => blk (some ⟨b174, 0, none⟩) = some k ∨ X185 k) (fun _ h => .inr h) (fun g e => .inl e)) hx205 (.inl hx212) hx207 ?_
         intro a214 c215 w216 hg217 ho218 hk219
         refine ⟨(fun e => by cases e), ?_⟩
         have hB221 := bg hB189 hg176 nb
         have hl220 : ∀ g, blk a214 = some g → w0.heap.size ≤ g := blk_step hk219 hl136 hB221.size
         have hx222 : ∀ k, X206 k → k < w216.heap.size := fun k hk => ltl (hx207 k hk) hg217.size
         have hk224 := hk196.grown hg176 nb
         have ap223 : ∀ g, blk a214 = some g → ¬ (· = b1) g := blk_neX hk219 ap139 (ltb hk224)
         have ap225 : ¬ (fun k => blk a214 = some k ∨ X206 k) b1 := fun h => h.elim (fun h => blk_rev hk219 (fun h => (ap141) (.inl h)) (hk224.lt) h) (fun h => (hx213 _ h).elim (fun h => (ap141) (.inr h)) (fun h => (ap197) h))
         have hx227 := ltx hx200 hg176.size
         have ap226 : ∀ g, blk a214 = some g → ¬ X120 g := blk_neX hk219 ap140 hx227
         have hx229 := ltx hx202 hg176.size
         have ap228 : ∀ g, blk a214 = some g → ¬ X120 g := blk_neX hk219 ap140 hx229
         have ap230 : ∀ g, blk a214 = some g → ¬ (fun k => blk a169 = some k) g := blk_neX hk219 ap194 (fun k (hk : blk a169 = some k) => hk187.lt k hk)
         have ap232 : ∀ g, blk a214 = some g → ¬ (fun k => blk (some ⟨b174, 0, none⟩) = some k ∨ X185 k) g := blk_neX hk219 ap193 (fun k (hk : blk (some ⟨b174, 0, none⟩) = some k ∨ X185 k) => hk.elim (fun h => ho180.lt k h) (fun h => hx182 k h))
         refine pN 1 [9] [(9, (.slice a214 (length l204) c215))] ?_
         refine gv_nil <| gv_blk <| gv_region <| pN 2 [36, 49] [(36, (.int .i64 (IntKind.i64.wrap (s127.2.1 + 1))))] ?_
         refine gv_nil ?_
         have e := sj h2; subst e
         refine gv_goal fun a hd hs hok => ?_
         have hB234 := bg hB221 hg217 hl136
         have hz235 := (nt (nt (nt hz132 hg167.size) hg176.size) hg217.size)
         have hk236 := hk224.grown hg217 ap139
         have hg237 := (grown_trans hg167 hg176)
         have hk238 := (hk143.grown hg237 (fun k hk => ltl (hx122 k hk) hz132) nb).grown hg217 hx227 ap140
         exact ⟨(l204, (IntKind.i64.wrap (s127.2.1 + 1)), (s127.2.2.1, s127.2.2.2)), rfl, a214, c215, X206, hB234, hz235, ho218, hl220, hx222, hx208, ap223, ap226, ap225, hk236, hk238, hd, hs, okp [7, 9, 34, 35, 36] hok⟩
       ·replace h2 := ite_f hc144 h2
        refine gv_cexit <| gv_exit rfl ?_
        have e := sj h2; subst e
        replace h1 := congrArg some (hR2 _ rfl)
        have e := sj h1; subst e
        refine gv_goal fun a hd hs hok => ?_
        have hz239 := hz132
        exact ⟨(s127.1, (s127.2.2.1, s127.2.2.2)), rfl, a133, c134, X133, hB131, hz239, ho135, hl136, hx137, hx138, ap139, ap141, hb142, hd, hs, okp [7, 9] hok⟩
     ·rintro a w126 ⟨s125, e, a242, c243, X242, hB240, hz241, ho244, hl245, hx246, hx247, ap248, ap249, hb250, hd, hs, hok⟩
      subst e
      refine gv_in ?_ hd hs hok
      clear hd hs hok
      replace h0 := cont_inl h0
      clear hz241 hx123 hx122 hx121 ho119 hg115 hr113 hb111 hB109
      refine gv_seq <| gv_region <| pN 3 [6, 50, 51] [(6, (.slice a242 (length s125.1) c243)), (51, (.agg #[(.int .i64 0), (.int .i64 0)]))] ?_
      refine gv_store0 25 0 (.agg #[(.int .i64 0), (.int .i64 0)]) #[(.int .i64 0), (.int .i64 0)] hb250 kr kr kr ?_
      intro w251 hg252 hb253 hz254
      refine gv_nil <| gv_cret ?_
      have e := sj h0; subst e
      refine gv_ret (gv_done [(.slice a242 (length s125.1) c243), (.agg #[(.int .i64 0), (.int .i64 0)])] rfl ⟨kr, ⟨⟨b1, 0, none⟩, kr, run_loadVar_row w251 b1 _ 25 _ _ _ hb253 Tryd.underlying25 rfl kr⟩, trivial⟩ ?_)
      have hB255 := bg hB240 hg252 (rowlo hlo25)
      have hk256 := ho244.grown hg252 hx246 (rdnx (rowne ap249))
      have hx257 := ltx hx246 hg252.size
      exact ⟨grown_of_below hB255, a242, c243, X242, rfl, hk256, hl245, (fun k hk => ⟨hx257 k hk, hx247 k hk⟩)⟩

theorem law4_codes_ok (fuel : Nat) (pa0_0 : Option Addr) (pc0_0 : Nat) (b_0 : (List UInt8)) (w0 : World) (X0 : Nat → Prop) (hX0 : ∀ k, X0 k → k < w0.heap.size) (hpa0_0 : Rd bE w0 X0 pa0_0 pc0_0 b_0) (r0 : (List Int)) (h0 : law4_codes fuel b_0 = some r0) :
    Calls Tryd.prog 33 ([(.slice pa0_0 (length b_0) pc0_0)] : List Value).toArray w0 (Ret fun v w' => w0.grownBy w' none ∧ ∃ (a0_0r : Option Addr) (c0_0r : Nat), v = tup [(.slice a0_0r (length r0) c0_0r)] ∧ Gv.Own (iE .i64) 3 w' (fun _ => False) a0_0r c0_0r r0 ∧ (∀ g, blk a0_0r = some g → w0.heap.size ≤ g)) := by
 have hB0 : Below w0.heap.size w0 w0 := Below.refl _ _
 unfold law4_codes at h0
 refine calls_run Tryd.func33 rfl Tryd.ntmps33 kr ?_
 refine gv_sub [0] (σ' := [(0, (.slice pa0_0 (length b_0) pc0_0))]) kr ?_
 refine gv_seq <| gv_region <| pN 1 [2] [] ?_
 refine gv_nil <| gv_seq <| gv_region <| pN 1 [3] [(3, (.slice none (length ([] : List Int)) 0))] ?_
 refine gv_nil <| gv_seq <| gv_seq <| gv_region <| pN 1 [4] [(4, (.int .i64 0))] ?_
 refine gv_nil <| bindE h0 ?_; clear h0; intro j1 h1 h0
 refine gv_cut_code (J := fun a w2 => ∃ (a3_0j : Option Addr) (c3_0j : Nat), Below w0.heap.size w0 w2 ∧ w0.heap.size ≤ w2.heap.size ∧ Gv.Own (iE .i64) 3 w2 (fun _ => False) a3_0j c3_0j j1 ∧ (∀ g, blk a3_0j = some g → w0.heap.size ≤ g) ∧ a.defers = [] ∧ a.tmps.size = 20 ∧ Ok [(3, (.slice a3_0j (length j1) c3_0j))] a.tmps) ?_ ?_
 ·skip
  refine gv_block <| gv_loop (A := fun (s3 : ((List Int) × Int)) a w4 => ∃ (a3_0j : Option Addr) (c3_0j : Nat), Below w0.heap.size w0 w4 ∧ w0.heap.size ≤ w4.heap.size ∧ Gv.Own (iE .i64) 3 w4 (fun _ => False) a3_0j c3_0j s3.1 ∧ (∀ g, blk a3_0j = some g → w0.heap.size ≤ g) ∧ a.defers = [] ∧ a.tmps.size = 20 ∧ Ok [(0, (.slice pa0_0 (length b_0) pc0_0)), (3, (.slice a3_0j (length s3.1) c3_0j)), (4, (.int .i64 s3.2))] a.tmps) h1 ?_ ?_
  ·intro a hd hs hok
   exact ⟨none, 0, hB0, nrf, (Gv.Own.nil (iE .i64) 3 w0 (fun _ => False)), (fun _ h => by cases h), hd, hs, okp [0, 3, 4] hok⟩
  ·rintro s3 r2 h2 hR2 a w4 ⟨a7, c8, hB5, hz6, ho9, hl10, hd, hs, hok⟩
   refine gv_in ?_ hd hs hok
   clear hd hs hok
   refine gv_seq <| gv_seq <| gv_region <| pN 4 [5, 6, 7, 8] [(8, (.bool (decide (s3.2 < ((length b_0 : Nat) : Int)))))] ?_
   refine gv_nil <| gv_cond (b := (decide (s3.2 < ((length b_0 : Nat) : Int)))) kr (fun hc11 => ?_) (fun hc11 => ?_)
   ·replace h2 := ite_t hc11 h2
    refine gv_skip <| gv_seq <| gv_block <| gv_region <| pN 3 [11, 12, 13] [(11, (.slice a7 (length s3.1) c8)), (12, (.slice pa0_0 (length b_0) pc0_0)), (13, (.int .i64 s3.2))] ?_
    refine bindE h2 ?_; clear h2; intro x12 hx13 h2
    refine gv_idxaddr (t := 22) (e := 5) (a := pa0_0) (len := length b_0) (cap := pc0_0) (kk := .i64) (i := s3.2) (sz := 1) [] (fun e => by cases e) rfl rfl rfl kr kr Tryd.underlying22 kr ((hpa0_0.below hB5 hX0).has hx13) (idx_spec hx13).1 (idx_spec hx13).2.1 rfl ?_
    refine gv_load (t := 5) (A := (elemAddr pa0_0 ((s3.2 : Int).toNat * 1))) (.int .u8 ((x12).toNat : Int)) [] (fun e => by cases e) rfl rfl rfl kr kr kr (inw0 ((hpa0_0.below hB5 hX0).cell hx13)) rfl ?_
    refine pN 1 [16] [(16, (.int .i64 (IntKind.i64.wrap (((x12).toNat : Int)))))] ?_
    refine gv_new0 (fun b => .slice (some ⟨b, 0, none⟩) 1 1) #[(.int .i64 (IntKind.i64.wrap (((x12).toNat : Int))))] 3 kr kr ?_
    intro b14 w15 hg16 hb17 hbe18 hz19
    have ho20 : Gv.Own (iE .i64) 3 w15 (fun _ => False) (some ⟨b14, 0, none⟩) 1 ([(IntKind.i64.wrap (((x12).toNat : Int)))] : List Int) := Box.ownE hb17 ⟨[(.int .i64 (IntKind.i64.wrap (((x12).toNat : Int))))], [], rfl, rfl, rfl⟩ (show 1 ≤ maxLen by decide) (fun h => h)
    have hl21 : ∀ g, blk (some ⟨b14, 0, none⟩) = some g → w0.heap.size ≤ g := loo hbe18 hB5.size
    refine bindE h2 ?_; clear h2; intro l25 hx26 h2
    have hk33 := ho9.grown hg16 (fun _ h => h.elim) nb
    refine gv_append (iE .i64) (t := 45) (ty := 45) (e := 3) (a := a7) (ax := (some ⟨b14, 0, none⟩)) (cap := c8) (cx := 1) (xs := s3.1) (ys := ([(IntKind.i64.wrap (((x12).toNat : Int)))] : List Int)) l25 (X := (fun _ => False)) (Y := (fun k => blk (some ⟨b14, 0, none⟩) = some k)) (by decide) rfl rfl kr kr Tryd.underlying45 info3 hk33 (ho20.rd (Y := fun k => blk (some ⟨b14, 0, none⟩) = some k) (fun _ h => h.elim) (fun g e => e)) hx26 (.inr fun _ _ _ _ _ h => h) (fun _ h => h.elim) ?_
    intro a27 c28 w29 hg30 ho31 hk32
    refine ⟨(fun e => by cases e), ?_⟩
    have hB35 := bg hB5 hg16 nb
    have hl34 : ∀ g, blk a27 = some g → w0.heap.size ≤ g := blk_step hk32 hl10 hB35.size
    have ap37 : ∀ g, blk a7 = some g → ¬ (fun k => blk (some ⟨b14, 0, none⟩) = some k) g := fun g e hx => nl ((lowo hbe18) _ hx) ((fun k (hk : blk a7 = some k) => ho9.lt k hk) g e)
    have ap36 : ∀ g, blk a27 = some g → ¬ (fun k => blk (some ⟨b14, 0, none⟩) = some k) g := blk_neX hk32 ap37 (fun k (hk : blk (some ⟨b14, 0, none⟩) = some k) => ho20.lt k hk)
    have ap39 : ∀ g, blk (some ⟨b14, 0, none⟩) = some g → ¬ (fun k => blk a7 = some k) g := fun g e hx => nl ((lowo hbe18) g e) ((fun k (hk : blk a7 = some k) => ho9.lt k hk) _ hx)
    have ap38 : ∀ g, blk (some ⟨b14, 0, none⟩) = some g → ¬ (fun k => blk a27 = some k) g := fun g e h => blk_rev hk32 (fun h => ((ap39) g e) h) (ho20.lt g e) h
    refine pN 1 [3] [(3, (.slice a27 (length l25) c28))] ?_
    refine gv_nil <| gv_blk <| gv_region <| pN 3 [4, 9, 10] [(4, (.int .i64 (IntKind.i64.wrap (s3.2 + 1))))] ?_
    refine gv_nil ?_
    have e := sj h2; subst e
    refine gv_goal fun a hd hs hok => ?_
    have hB40 := bg hB35 hg30 hl10
    have hz41 := (nt (nt hz6 hg16.size) hg30.size)
    exact ⟨(l25, (IntKind.i64.wrap (s3.2 + 1))), rfl, a27, c28, hB40, hz41, ho31, hl34, hd, hs, okp [0, 3, 4] hok⟩
   ·replace h2 := ite_f hc11 h2
    refine gv_cexit <| gv_exit rfl ?_
    have e := sj h2; subst e
    replace h1 := congrArg some (hR2 _ rfl)
    have e := sj h1; subst e
    refine gv_goal fun a hd hs hok => ?_
    have hz42 := hz6
    exact ⟨a7, c8, hB5, hz42, ho9, hl10, hd, hs, okp [3] hok⟩
 ·rintro a w2 ⟨a45, c46, hB43, hz44, ho47, hl48, hd, hs, hok⟩
  refine gv_in ?_ hd hs hok
  clear hd hs hok
  refine gv_seq <| gv_region <| pN 2 [2, 19] [(2, (.slice a45 (length j1) c46))] ?_
  refine gv_nil <| gv_cret ?_
  have e := sj h0; subst e
  refine gv_ret (gv_done [(.slice a45 (length j1) c46)] rfl ⟨kr, trivial⟩ ?_)
  exact ⟨grown_of_below hB43, a45, c46, rfl, ho47, hl48⟩

theorem ref4_Numbers_ok (fuel : Nat) (pa0_0 : Option Addr) (pc0_0 : Nat) (a_0 : (List Int)) (pa1_0 : Option Addr) (pc1_0 : Nat) (b_1 : (List Int)) (w0 : World) (X0 : Nat → Prop) (hX0 : ∀ k, X0 k → k < w0.heap.size) (hpa0_0 : Rd (iE .i64) w0 X0 pa0_0 pc0_0 a_0) (hpa1_0 : Rd (iE .i64) w0 X0 pa1_0 pc1_0 b_1) (r0 : Bool) (h0 : ref4_Numbers fuel a_0 b_1 = some r0) :
    Calls Tryd.prog 80 ([(.slice pa0_0 (length a_0) pc0_0), (.slice pa1_0 (length b_1) pc1_0)] : List Value).toArray w0 (Ret fun v w' => w0.grownBy w' none ∧ v = tup [(.bool r0)]) := by
 have hB0 : Below w0.heap.size w0 w0 := Below.refl _ _
 unfold ref4_Numbers at h0
 refine calls_run Tryd.func80 rfl Tryd.ntmps80 kr ?_
 refine gv_sub [0, 1] (σ' := [(0, (.slice pa0_0 (length a_0) pc0_0)), (1, (.slice pa1_0 (length b_1) pc1_0))]) kr ?_
 refine gv_seq <| gv_region <| pN 1 [4] [] ?_
 refine gv_nil <| gv_seq <| gv_seq <| gv_region <| pN 5 [6, 7, 8, 9, 10] [(10, (.bool (((length a_0 : Nat) : Int) != ((length b_1 : Nat) : Int))))] ?_
 refine gv_nil <| gv_cond (b := (((length a_0 : Nat) : Int) != ((length b_1 : Nat) : Int))) kr (fun hc1 => ?_) (fun hc1 => ?_)
 ·replace h0 := ite_t hc1 h0
  refine gv_seq <| gv_region <| pN 1 [4] [(4, (.bool false))] ?_
  refine gv_nil <| gv_cret ?_
  have e := sj h0; subst e
  refine gv_ret (gv_done [(.bool false)] rfl ⟨kr, trivial⟩ ?_)
  exact ⟨grown_of_below hB0, rfl⟩
 ·replace h0 := ite_f hc1 h0
  refine gv_skip <| gv_seq <| gv_seq <| gv_region <| pN 1 [5] [(5, (.int .i64 0))] ?_
  refine gv_nil <| bindE h0 ?_; clear h0; intro j2 h1 h0
  refine gv_cut_code (J := fun a w4 => ∃ s3 : Unit, j2 = .inl s3 ∧ Below w0.heap.size w0 w4 ∧ w0.heap.size ≤ w4.heap.size ∧ a.defers = [] ∧ a.tmps.size = 26 ∧ Ok [] a.tmps) ?_ ?_
  ·skip
   refine gv_block <| gv_loop (A := fun (s5 : Int) a w6 => Below w0.heap.size w0 w6 ∧ w0.heap.size ≤ w6.heap.size ∧ a.defers = [] ∧ a.tmps.size = 26 ∧ Ok [(0, (.slice pa0_0 (length a_0) pc0_0)), (1, (.slice pa1_0 (length b_1) pc1_0)), (5, (.int .i64 s5))] a.tmps) h1 ?_ ?_
   ·intro a hd hs hok
    exact ⟨hB0, nrf, hd, hs, okp [0, 1, 5] hok⟩
   ·rintro s5 r2 h2 hR2 a w6 ⟨hB7, hz8, hd, hs, hok⟩
    refine gv_in ?_ hd hs hok
    clear hd hs hok
    refine gv_seq <| gv_seq <| gv_region <| pN 4 [11, 12, 13, 14] [(14, (.bool (decide (s5 < ((length a_0 : Nat) : Int)))))] ?_
    refine gv_nil <| gv_cond (b := (decide (s5 < ((length a_0 : Nat) : Int)))) kr (fun hc9 => ?_) (fun hc9 => ?_)
    ·replace h2 := ite_t hc9 h2
     refine gv_skip <| gv_seq <| gv_block <| gv_seq <| gv_drawA kr ?_
     intro w10 hg11
     refine gv_pre [0, 1, 2, 4, 5, 6] (bA 9 [0, 1, 2, 4, 5, 6]) 3 kr kr ?_
     refine pN 2 [17, 18] [(17, (.slice pa0_0 (length a_0) pc0_0)), (18, (.int .i64 s5))] ?_
     refine bindE h2 ?_; clear h2; intro x12 hx13 h2
     have hB14 := bg hB7 hg11 nb
     refine gv_idxaddr (t := 45) (e := 3) (a := pa0_0) (len := length a_0) (cap := pc0_0) (kk := .i64) (i := s5) (sz := 1) [] (fun e => by cases e) rfl rfl rfl kr kr Tryd.underlying45 kr ((hpa0_0.below hB14 hX0).has hx13) (idx_spec hx13).1 (idx_spec hx13).2.1 rfl ?_
     refine pN 2 [21, 22] [(21, (.slice pa1_0 (length b_1) pc1_0)), (22, (.int .i64 s5))] ?_
     refine bindE h2 ?_; clear h2; intro x15 hx16 h2
     refine gv_idxaddr (t := 45) (e := 3) (a := pa1_0) (len := length b_1) (cap := pc1_0) (kk := .i64) (i := s5) (sz := 1) [] (fun e => by cases e) rfl rfl rfl kr kr Tryd.underlying45 kr ((hpa1_0.below hB14 hX0).has hx16) (idx_spec hx16).1 (idx_spec hx16).2.1 rfl ?_
     refine gv_nil <| gv_goA ?_
     refine gv_stage (Cls w10 []) [3, 7] [(3, some true), (7, some true)] (bA 9 [0, 1, 2, 3, 4, 5, 6, 7]) 1 kr kr (Cls.refl _ _) ?_
     have hC17 := Cls.refl w10 []
     refine gv_load (t := 3) (A := (elemAddr pa0_0 ((s5 : Int).toNat * 1))) (.int .i64 x12) [] (fun e => by cases e) rfl rfl rfl kr kr kr (inw1 fun w' hC' => ((hC'.rd (hpa0_0.below hB14 hX0) (fun k (hk : X0 k) => ltl (hX0 k hk) hB14.size) nmx_nil).cell hx13)) rfl ?_
     refine gv_load (t := 3) (A := (elemAddr pa1_0 ((s5 : Int).toNat * 1))) (.int .i64 x15) [] (fun e => by cases e) rfl rfl rfl kr kr kr (inw1 fun w' hC' => ((hC'.rd (hpa1_0.below hB14 hX0) (fun k (hk : X0 k) => ltl (hX0 k hk) hB14.size) nmx_nil).cell hx16)) rfl ?_
     refine gv_nil <| gv_goA ?_
     refine gv_pre [8] (bA 9 [0, 1, 2, 3, 4, 5, 6, 7, 8]) 0 kr kr ?_
     refine pN 1 [25] [(25, (.bool (x12 != x15)))] ?_
     refine gv_nil <| gv_goA ?_
     refine gv_stageE kr ?_
     refine gv_cond (b := (x12 != x15)) kr (fun hc18 => ?_) (fun hc18 => ?_)
     ·replace h2 := ite_t hc18 h2
      refine gv_seq <| gv_region <| pN 1 [4] [(4, (.bool false))] ?_
      refine gv_nil <| gv_cret ?_
      have e := sj h2; subst e
      replace h1 := congrArg some (hR2 _ rfl)
      have e := sj h1; subst e
      replace h0 := cont_inr h0
      have e := sj h0; subst e
      refine gv_ret (gv_done [(.bool false)] rfl ⟨kr, trivial⟩ ?_)
      exact ⟨grown_of_below hB14, rfl⟩
     ·replace h2 := ite_f hc18 h2
      refine gv_skip <| gv_blk <| gv_region <| pN 3 [5, 15, 16] [(5, (.int .i64 (IntKind.i64.wrap (s5 + 1))))] ?_
      refine gv_nil ?_
      have e := sj h2; subst e
      refine gv_goal fun a hd hs hok => ?_
      have hz19 := (nt hz8 hg11.size)
      exact ⟨(IntKind.i64.wrap (s5 + 1)), rfl, hB14, hz19, hd, hs, okp [0, 1, 5] hok⟩
    ·replace h2 := ite_f hc9 h2
     refine gv_cexit <| gv_exit rfl ?_
     have e := sj h2; subst e
     replace h1 := congrArg some (hR2 _ rfl)
     have e := sj h1; subst e
     refine gv_goal fun a hd hs hok => ?_
     have hz20 := hz8
     exact ⟨(), rfl, hB7, hz20, hd, hs, okp [] hok⟩
  ·rintro a w4 ⟨s3, e, hB21, hz22, hd, hs, hok⟩
   subst e
   refine gv_in ?_ hd hs hok
   clear hd hs hok
   replace h0 := cont_inl h0
   refine gv_seq <| gv_region <| pN 1 [4] [(4, (.bool true))] ?_
   refine gv_nil <| gv_cret ?_
   have e := sj h0; subst e
   refine gv_ret (gv_done [(.bool true)] rfl ⟨kr, trivial⟩ ?_)
   exact ⟨grown_of_below hB21, rfl⟩

theorem ref4_here_ok (fuel : Nat) (pa0_0 : Option Addr) (pc0_0 : Nat) (l_0 : (List Int)) (pa1_0 : Option Addr) (pc1_0 : Nat) (sub_1 : (List Int)) (at_2 : Int) (w0 : World) (X0 : Nat → Prop) (hX0 : ∀ k, X0 k → k < w0.heap.size) (hpa0_0 : Rd (iE .i64) w0 X0 pa0_0 pc0_0 l_0) (hpa1_0 : Rd (iE .i64) w0 X0 pa1_0 pc1_0 sub_1) (r0 : Bool) (h0 : ref4_here fuel l_0 sub_1 at_2 = some r0) :
    Calls Tryd.prog 57 ([(.slice pa0_0 (length l_0) pc0_0), (.slice pa1_0 (length sub_1) pc1_0), (.int .i64 at_2)] : List Value).toArray w0 (Ret fun v w' => w0.grownBy w' none ∧ v = tup [(.bool r0)]) := by
 have hB0 : Below w0.heap.size w0 w0 := Below.refl _ _
 unfold ref4_here at h0
 refine calls_run Tryd.func57 rfl Tryd.ntmps57 kr ?_
 refine gv_sub [0, 1, 2] (σ' := [(0, (.slice pa0_0 (length l_0) pc0_0)), (1, (.slice pa1_0 (length sub_1) pc1_0)), (2, (.int .i64 at_2))]) kr ?_
 refine gv_seq <| gv_region <| pN 1 [6] [] ?_
 refine gv_nil <| gv_seq <| gv_region <| bindE h0 ?_; clear h0; intro j1 h1 h0
 refine gv_cut_ops (J := fun a w2 => Below w0.heap.size w0 w2 ∧ w0.heap.size ≤ w2.heap.size ∧ a.defers = [] ∧ a.tmps.size = 29 ∧ Ok [(6, (.bool j1))] a.tmps) ?_ ?_
 ·skip
  refine pN 3 [7, 8, 9] [(9, (.bool (decide (at_2 ≥ 0))))] ?_
  refine gv_split (s := 9) (g := (decide (at_2 ≥ 0))) kr (fun hc3 => ?_) (fun hc3 => ?_)
  ·skip
   replace h1 := ite_t hc3 h1
   refine pN 9 [10, 11, 12, 13, 14, 15, 16, 17, 18] [(18, (.bool (decide ((IntKind.i64.wrap (at_2 + ((length sub_1 : Nat) : Int))) ≤ ((length l_0 : Nat) : Int)))))] ?_
   refine gv_split (s := 18) (g := (decide ((IntKind.i64.wrap (at_2 + ((length sub_1 : Nat) : Int))) ≤ ((length l_0 : Nat) : Int)))) kr (fun hc4 => ?_) (fun hc4 => ?_)
   ·skip
    replace h1 := ite_t hc4 h1
    refine pN 6 [19, 20, 21, 22, 23, 24] [(19, (.slice pa0_0 (length l_0) pc0_0)), (20, (.int .i64 at_2)), (24, (.int .i64 (IntKind.i64.wrap (at_2 + ((length sub_1 : Nat) : Int)))))] ?_
    refine bindE h1 ?_; clear h1; intro x5 hx6 h1
    refine gv_ssl2 (iE .i64) (t := 45) (e := 3) (xs := l_0) (a := pa0_0) (cap := pc0_0) (lo := (some (.int .i64 at_2))) (hi := (some (.int .i64 (IntKind.i64.wrap (at_2 + ((length sub_1 : Nat) : Int)))))) at_2 (IntKind.i64.wrap (at_2 + ((length sub_1 : Nat) : Int))) x5 (fun e => by cases e) rfl rfl rfl kr kr Tryd.underlying45 kr (.inr ⟨_, rfl⟩) (.inr ⟨_, rfl⟩) hx6 (hpa0_0.below hB0 hX0).1 ?_
    intro a7 c8 hsub9
    have hp10 := hsub9 _ _ hpa0_0
    refine pN 1 [26] [(26, (.slice pa1_0 (length sub_1) pc1_0))] ?_
    refine bindE h1 ?_; clear h1; intro r11 hr12 h1
    refine gv_call0 kr rfl kr enters80 (ref4_Numbers_ok fuel a7 c8 x5 pa1_0 pc1_0 sub_1 w0 (fun k => X0 k ∨ X0 k) (fun k hk => (hk).elim (fun h => (fun k (hk : X0 k) => ltl (hX0 k hk) hB0.size) k h) (fun h => (fun k (hk : X0 k) => ltl (hX0 k hk) hB0.size) k h)) ((hp10.below hB0 hX0).wide (fun k hk => (.inl hk))) ((hpa1_0.below hB0 hX0).wide (fun k hk => (.inr hk))) r11 hr12) ?_
    rintro v15 w13 ⟨hg14, rfl⟩
    refine pN 2 [6, 28] [(6, (.bool r11))] ?_
    refine gv_nil ?_
    have e := sj h1; subst e
    refine gv_goal fun a hd hs hok => ?_
    have hB16 := bg hB0 hg14 nb
    have hz17 := hg14.size
    exact ⟨hB16, hz17, hd, hs, okp [6] hok⟩
   ·skip
    replace h1 := ite_f hc4 h1
    refine pN 11 [6, 19, 20, 21, 22, 23, 24, 25, 26, 27, 28] [(6, (.bool false))] ?_
    refine gv_nil ?_
    have e := sj h1; subst e
    refine gv_goal fun a hd hs hok => ?_
    exact ⟨hB0, nrf, hd, hs, okp [6] hok⟩
  ·skip
   replace h1 := ite_f hc3 h1
   refine pN 20 [6, 10, 11, 12, 13, 14, 15, 16, 17, 18, 19, 20, 21, 22, 23, 24, 25, 26, 27, 28] [(6, (.bool false))] ?_
   refine gv_nil ?_
   have e := sj h1; subst e
   refine gv_goal fun a hd hs hok => ?_
   exact ⟨hB0, nrf, hd, hs, okp [6] hok⟩
 ·rintro a w2 ⟨hB18, hz19, hd, hs, hok⟩
  refine gv_in ?_ hd hs hok
  clear hd hs hok
  refine gv_cret ?_
  have e := sj h0; subst e
  refine gv_ret (gv_done [(.bool j1)] rfl ⟨kr, trivial⟩ ?_)
  exact ⟨grown_of_below hB18, rfl⟩

theorem ref4_Occurs_ok (fuel : Nat) (pa0_0 : Option Addr) (pc0_0 : Nat) (l_0 : (List Int)) (pa1_0 : Option Addr) (pc1_0 : Nat) (sub_1 : (List Int)) (from_2 : Int) (to_3 : Int) (last_4 : Bool) (w0 : World) (X0 : Nat → Prop) (hX0 : ∀ k, X0 k → k < w0.heap.size) (hpa0_0 : Rd (iE .i64) w0 X0 pa0_0 pc0_0 l_0) (hpa1_0 : Rd (iE .i64) w0 X0 pa1_0 pc1_0 sub_1) (r0 : Int) (h0 : ref4_Occurs fuel l_0 sub_1 from_2 to_3 last_4 = some r0) :
    Calls Tryd.prog 34 ([(.slice pa0_0 (length l_0) pc0_0), (.slice pa1_0 (length sub_1) pc1_0), (.int .i64 from_2), (.int .i64 to_3), (.bool last_4)] : List Value).toArray w0 (Ret fun v w' => w0.grownBy w' none ∧ v = tup [(.int .i64 r0)]) := by
 have hB0 : Below w0.heap.size w0 w0 := Below.refl _ _
 unfold ref4_Occurs at h0
 refine calls_run Tryd.func34 rfl Tryd.ntmps34 kr ?_
 refine gv_sub [0, 1, 2, 3, 4] (σ' := [(0, (.slice pa0_0 (length l_0) pc0_0)), (1, (.slice pa1_0 (length sub_1) pc1_0)), (2, (.int .i64 from_2)), (3, (.int .i64 to_3)), (4, (.bool last_4))]) kr ?_
 refine gv_seq <| gv_region <| pN 1 [10] [] ?_
 refine gv_nil <| gv_seq <| gv_region <| pN 1 [11] [(11, (.int .i64 (-1)))] ?_
 refine gv_nil <| gv_seq <| gv_seq <| gv_region <| pN 2 [12, 13] [(12, (.int .i64 from_2))] ?_
 refine gv_nil <| bindE h0 ?_; clear h0; intro j1 h1 h0
 refine gv_cut_code (J := fun a w2 => Below w0.heap.size w0 w2 ∧ w0.heap.size ≤ w2.heap.size ∧ a.defers = [] ∧ a.tmps.size = 35 ∧ Ok [(11, (.int .i64 j1))] a.tmps) ?_ ?_
 ·skip
  refine gv_block <| gv_loop (A := fun (s3 : (Int × Int)) a w4 => Below w0.heap.size w0 w4 ∧ w0.heap.size ≤ w4.heap.size ∧ a.defers = [] ∧ a.tmps.size = 35 ∧ Ok [(0, (.slice pa0_0 (length l_0) pc0_0)), (1, (.slice pa1_0 (length sub_1) pc1_0)), (3, (.int .i64 to_3)), (4, (.bool last_4)), (11, (.int .i64 s3.1)), (12, (.int .i64 s3.2))] a.tmps) h1 ?_ ?_
  ·intro a hd hs hok
   exact ⟨hB0, nrf, hd, hs, okp [0, 1, 3, 4, 11, 12] hok⟩
  ·rintro s3 r2 h2 hR2 a w4 ⟨hB5, hz6, hd, hs, hok⟩
   refine gv_in ?_ hd hs hok
   clear hd hs hok
   refine gv_seq <| gv_seq <| gv_region <| pN 6 [14, 15, 16, 17, 18, 19] [(19, (.bool (decide ((IntKind.i64.wrap (s3.2 + ((length sub_1 : Nat) : Int))) ≤ to_3))))] ?_
   refine gv_nil <| gv_cond (b := (decide ((IntKind.i64.wrap (s3.2 + ((length sub_1 : Nat) : Int))) ≤ to_3))) kr (fun hc7 => ?_) (fun hc7 => ?_)
   ·replace h2 := ite_t hc7 h2
    refine gv_skip <| gv_seq <| gv_block <| gv_seq <| gv_region <| bindE h2 ?_; clear h2; intro j8 h3 h2
    refine gv_cut_ops (J := fun a w9 => Below w0.heap.size w0 w9 ∧ w4.heap.size ≤ w9.heap.size ∧ a.defers = [] ∧ a.tmps.size = 35 ∧ Ok [(0, (.slice pa0_0 (length l_0) pc0_0)), (1, (.slice pa1_0 (length sub_1) pc1_0)), (3, (.int .i64 to_3)), (4, (.bool last_4)), (11, (.int .i64 s3.1)), (12, (.int .i64 s3.2)), (32, (.bool j8))] a.tmps) ?_ ?_
    ·skip
     refine pN 3 [22, 23, 24] [(22, (.slice pa0_0 (length l_0) pc0_0)), (23, (.slice pa1_0 (length sub_1) pc1_0)), (24, (.int .i64 s3.2))] ?_
     refine bindE h3 ?_; clear h3; intro r10 hr11 h3
     refine gv_call0 kr rfl kr enters57 (ref4_here_ok fuel pa0_0 pc0_0 l_0 pa1_0 pc1_0 sub_1 s3.2 w4 (fun k => X0 k ∨ X0 k) (fun k hk => (hk).elim (fun h => (fun k (hk : X0 k) => ltl (hX0 k hk) hB5.size) k h) (fun h => (fun k (hk : X0 k) => ltl (hX0 k hk) hB5.size) k h)) ((hpa0_0.below hB5 hX0).wide (fun k hk => (.inl hk))) ((hpa1_0.below hB5 hX0).wide (fun k hk => (.inr hk))) r10 hr11) ?_
     rintro v14 w12 ⟨hg13, rfl⟩
     refine pN 1 [26] [(26, (.bool r10))] ?_
     refine gv_split (s := 26) (g := r10) kr (fun hc15 => ?_) (fun hc15 => ?_)
     ·skip
      replace h3 := ite_t hc15 h3
      refine pN 3 [27, 28, 29] [(29, (.bool (decide (s3.1 < 0))))] ?_
      refine gv_split (s := 29) (g := (decide (s3.1 < 0))) kr (fun hc16 => ?_) (fun hc16 => ?_)
      ·skip
       replace h3 := ite_t hc16 h3
       refine pN 3 [30, 31, 32] [(32, (.bool true))] ?_
       refine gv_nil ?_
       have e := sj h3; subst e
       refine gv_goal fun a hd hs hok => ?_
       have hB17 := bg hB5 hg13 nb
       have hz18 := hg13.size
       exact ⟨hB17, hz18, hd, hs, okp [0, 1, 3, 4, 11, 12, 32] hok⟩
      ·skip
       replace h3 := ite_f hc16 h3
       refine pN 3 [30, 31, 32] [(32, (.bool last_4))] ?_
       refine gv_nil ?_
       have e := sj h3; subst e
       refine gv_goal fun a hd hs hok => ?_
       have hB19 := bg hB5 hg13 nb
       have hz20 := hg13.size
       exact ⟨hB19, hz20, hd, hs, okp [0, 1, 3, 4, 11, 12, 32] hok⟩
     ·skip
      replace h3 := ite_f hc15 h3
      refine pN 6 [27, 28, 29, 30, 31, 32] [(32, (.bool false))] ?_
      refine gv_nil ?_
      have e := sj h3; subst e
      refine gv_goal fun a hd hs hok => ?_
      have hB21 := bg hB5 hg13 nb
      have hz22 := hg13.size
      exact ⟨hB21, hz22, hd, hs, okp [0, 1, 3, 4, 11, 12, 32] hok⟩
    ·rintro a w9 ⟨hB23, hz24, hd, hs, hok⟩
     refine gv_in ?_ hd hs hok
     clear hd hs hok
     have hz25 := (nt hz6 hz24)
     clear hz24 hc7 hz6 hB5
     refine bindE h2 ?_; clear h2; intro j26 h3 h2
     refine gv_cut_code (J := fun a w27 => Below w0.heap.size w0 w27 ∧ w9.heap.size ≤ w27.heap.size ∧ a.defers = [] ∧ a.tmps.size = 35 ∧ Ok [(0, (.slice pa0_0 (length l_0) pc0_0)), (1, (.slice pa1_0 (length sub_1) pc1_0)), (3, (.int .i64 to_3)), (4, (.bool last_4)), (11, (.int .i64 j26)), (12, (.int .i64 s3.2))] a.tmps) ?_ ?_
     ·skip
      refine gv_cond (b := j8) kr (fun hc28 => ?_) (fun hc28 => ?_)
      ·replace h3 := ite_t hc28 h3
       refine gv_region <| pN 2 [11, 33] [(11, (.int .i64 s3.2))] ?_
       refine gv_nil ?_
       have e := sj h3; subst e
       refine gv_goal fun a hd hs hok => ?_
       exact ⟨hB23, nrf, hd, hs, okp [0, 1, 3, 4, 11, 12] hok⟩
      ·replace h3 := ite_f hc28 h3
       refine gv_skip ?_
       have e := sj h3; subst e
       refine gv_goal fun a hd hs hok => ?_
       exact ⟨hB23, nrf, hd, hs, okp [0, 1, 3, 4, 11, 12] hok⟩
     ·rintro a w27 ⟨hB29, hz30, hd, hs, hok⟩
      refine gv_in ?_ hd hs hok
      clear hd hs hok
      have hz31 := (nt hz25 hz30)
      refine gv_blk <| gv_region <| pN 3 [12, 20, 21] [(12, (.int .i64 (IntKind.i64.wrap (s3.2 + 1))))] ?_
      refine gv_nil ?_
      have e := sj h2; subst e
      refine gv_goal fun a hd hs hok => ?_
      have hz32 := hz31
      exact ⟨(j26, (IntKind.i64.wrap (s3.2 + 1))), rfl, hB29, hz32, hd, hs, okp [0, 1, 3, 4, 11, 12] hok⟩
   ·replace h2 := ite_f hc7 h2
    refine gv_cexit <| gv_exit rfl ?_
    have e := sj h2; subst e
    replace h1 := congrArg some (hR2 _ rfl)
    have e := sj h1; subst e
    refine gv_goal fun a hd hs hok => ?_
    have hz33 := hz6
    exact ⟨hB5, hz33, hd, hs, okp [11] hok⟩
 ·rintro a w2 ⟨hB34, hz35, hd, hs, hok⟩
  refine gv_in ?_ hd hs hok
  clear hd hs hok
  refine gv_seq <| gv_region <| pN 2 [10, 34] [(10, (.int .i64 j1))] ?_
  refine gv_nil <| gv_cret ?_
  have e := sj h0; subst e
  refine gv_ret (gv_done [(.int .i64 j1)] rfl ⟨kr, trivial⟩ ?_)
  exact ⟨grown_of_below hB34, rfl⟩

theorem ref4_Places_ok (fuel : Nat) (pa0_0 : Option Addr) (pc0_0 : Nat) (l_0 : (List Int)) (pa1_0 : Option Addr) (pc1_0 : Nat) (sub_1 : (List Int)) (w0 : World) (X0 : Nat → Prop) (hX0 : ∀ k, X0 k → k < w0.heap.size) (hpa0_0 : Rd (iE .i64) w0 X0 pa0_0 pc0_0 l_0) (hpa1_0 : Rd (iE .i64) w0 X0 pa1_0 pc1_0 sub_1) (r0 : (List Int)) (h0 : ref4_Places fuel l_0 sub_1 = some r0) :
    Calls Tryd.prog 36 ([(.slice pa0_0 (length l_0) pc0_0), (.slice pa1_0 (length sub_1) pc1_0)] : List Value).toArray w0 (Ret fun v w' => w0.grownBy w' none ∧ ∃ (a0_0r : Option Addr) (c0_0r : Nat), v = tup [(.slice a0_0r (length r0) c0_0r)] ∧ Gv.Own (iE .i64) 3 w' (fun _ => False) a0_0r c0_0r r0 ∧ (∀ g, blk a0_0r = some g → w0.heap.size ≤ g)) := by
 have hB0 : Below w0.heap.size w0 w0 := Below.refl _ _
 unfold ref4_Places at h0
 refine calls_run Tryd.func36 rfl Tryd.ntmps36 kr ?_
 refine gv_sub [0, 1] (σ' := [(0, (.slice pa0_0 (length l_0) pc0_0)), (1, (.slice pa1_0 (length sub_1) pc1_0))]) kr ?_
 refine gv_seq <| gv_region <| pN 1 [4] [] ?_
 refine gv_nil <| gv_seq <| gv_region <| pN 1 [5] [(5, (.slice none (length ([] : List Int)) 0))] ?_
 refine gv_nil <| gv_seq <| gv_seq <| gv_region <| pN 1 [6] [(6, (.int .i64 0))] ?_
 refine gv_nil <| bindE h0 ?_; clear h0; intro j1 h1 h0
 refine gv_cut_code (J := fun a w2 => ∃ (a5_0j : Option Addr) (c5_0j : Nat), Below w0.heap.size w0 w2 ∧ w0.heap.size ≤ w2.heap.size ∧ Gv.Own (iE .i64) 3 w2 (fun _ => False) a5_0j c5_0j j1 ∧ (∀ g, blk a5_0j = some g → w0.heap.size ≤ g) ∧ a.defers = [] ∧ a.tmps.size = 35 ∧ Ok [(5, (.slice a5_0j (length j1) c5_0j))] a.tmps) ?_ ?_
 ·skip
  refine gv_block <| gv_loop (A := fun (s3 : ((List Int) × Int)) a w4 => ∃ (a5_0j : Option Addr) (c5_0j : Nat), Below w0.heap.size w0 w4 ∧ w0.heap.size ≤ w4.heap.size ∧ Gv.Own (iE .i64) 3 w4 (fun _ => False) a5_0j c5_0j s3.1 ∧ (∀ g, blk a5_0j = some g → w0.heap.size ≤ g) ∧ a.defers = [] ∧ a.tmps.size = 35 ∧ Ok [(0, (.slice pa0_0 (length l_0) pc0_0)), (1, (.slice pa1_0 (length sub_1) pc1_0)), (5, (.slice a5_0j (length s3.1) c5_0j)), (6, (.int .i64 s3.2))] a.tmps) h1 ?_ ?_
  ·intro a hd hs hok
   exact ⟨none, 0, hB0, nrf, (Gv.Own.nil (iE .i64) 3 w0 (fun _ => False)), (fun _ h => by cases h), hd, hs, okp [0, 1, 5, 6] hok⟩
  ·rintro s3 r2 h2 hR2 a w4 ⟨a7, c8, hB5, hz6, ho9, hl10, hd, hs, hok⟩
   refine gv_in ?_ hd hs hok
   clear hd hs hok
   refine gv_seq <| gv_seq <| gv_region <| pN 7 [7, 8, 9, 10, 11, 12, 13] [(13, (.bool (decide ((IntKind.i64.wrap (s3.2 + ((length sub_1 : Nat) : Int))) ≤ ((length l_0 : Nat) : Int)))))] ?_
   refine gv_nil <| gv_cond (b := (decide ((IntKind.i64.wrap (s3.2 + ((length sub_1 : Nat) : Int))) ≤ ((length l_0 : Nat) : Int)))) kr (fun hc11 => ?_) (fun hc11 => ?_)
   ·replace h2 := ite_t hc11 h2
    refine gv_skip <| gv_block <| gv_seq <| gv_seq <| gv_region <| pN 3 [14, 15, 16] [(14, (.slice pa0_0 (length l_0) pc0_0)), (15, (.slice pa1_0 (length sub_1) pc1_0)), (16, (.int .i64 s3.2))] ?_
    refine bindE h2 ?_; clear h2; intro r12 hr13 h2
    refine gv_call0 kr rfl kr enters57 (ref4_here_ok fuel pa0_0 pc0_0 l_0 pa1_0 pc1_0 sub_1 s3.2 w4 (fun k => X0 k ∨ X0 k) (fun k hk => (hk).elim (fun h => (fun k (hk : X0 k) => ltl (hX0 k hk) hB5.size) k h) (fun h => (fun k (hk : X0 k) => ltl (hX0 k hk) hB5.size) k h)) ((hpa0_0.below hB5 hX0).wide (fun k hk => (.inl hk))) ((hpa1_0.below hB5 hX0).wide (fun k hk => (.inr hk))) r12 hr13) ?_
    rintro v16 w14 ⟨hg15, rfl⟩
    refine pN 1 [18] [(18, (.bool (!r12)))] ?_
    refine gv_nil <| gv_cond (b := (!r12)) kr (fun hc17 => ?_) (fun hc17 => ?_)
    ·replace h2 := ite_t hc17 h2
     refine gv_seq <| gv_region <| pN 3 [6, 19, 20] [(6, (.int .i64 (IntKind.i64.wrap (s3.2 + 1))))] ?_
     refine gv_nil <| gv_cexit <| gv_exit rfl ?_
     have e := sj h2; subst e
     refine gv_goal fun a hd hs hok => ?_
     have hB18 := bg hB5 hg15 nb
     have hz19 := (nt hz6 hg15.size)
     have hk20 := ho9.grown hg15 (fun _ h => h.elim) nb
     exact ⟨(s3.1, (IntKind.i64.wrap (s3.2 + 1))), rfl, a7, c8, hB18, hz19, hk20, hl10, hd, hs, okp [0, 1, 5, 6] hok⟩
    ·replace h2 := ite_f hc17 h2
     refine gv_skip <| gv_seq <| gv_region <| pN 2 [21, 22] [(21, (.slice a7 (length s3.1) c8)), (22, (.int .i64 s3.2))] ?_
     refine gv_new0 (fun b => .slice (some ⟨b, 0, none⟩) 1 1) #[(.int .i64 s3.2)] 3 kr kr ?_
     intro b21 w22 hg23 hb24 hbe25 hz26
     have ho27 : Gv.Own (iE .i64) 3 w22 (fun _ => False) (some ⟨b21, 0, none⟩) 1 ([s3.2] : List Int) := Box.ownE hb24 ⟨[(.int .i64 s3.2)], [], rfl, rfl, rfl⟩ (show 1 ≤ maxLen by decide) (fun h => h)
     have hB32 := bg hB5 hg15 nb
     have hl28 : ∀ g, blk (some ⟨b21, 0, none⟩) = some g → w0.heap.size ≤ g := loo hbe25 hB32.size
     refine bindE h2 ?_; clear h2; intro l33 hx34 h2
     have hg41 := (grown_trans hg15 hg23)
     have hk42 := ho9.grown hg41 (fun _ h => h.elim) nb
     refine gv_append (iE .i64) (t := 45) (ty := 45) (e := 3) (a := a7) (ax := (some ⟨b21, 0, none⟩)) (cap := c8) (cx := 1) (xs := s3.1) (ys := ([s3.2] : List Int)) l33 (X := (fun _ => False)) (Y := (fun k => blk (some ⟨b21, 0, none⟩) = some k)) (by decide) rfl rfl kr kr Tryd.underlying45 info3 hk42 (ho27.rd (Y := fun k => blk (some ⟨b21, 0, none⟩) = some k) (fun _ h => h.elim) (fun g e => e)) hx34 (.inr fun _ _ _ _ _ h => h) (fun _ h => h.elim) ?_
     intro a35 c36 w37 hg38 ho39 hk40
     refine ⟨(fun e => by cases e), ?_⟩
     have hB44 := bg hB32 hg23 nb
     have hl43 : ∀ g, blk a35 = some g → w0.heap.size ≤ g := blk_step hk40 hl10 hB44.size
     have hk46 := ho9.grown hg15 (fun _ h => h.elim) nb
     have ap47 : ∀ g, blk a7 = some g → ¬ (fun k => blk (some ⟨b21, 0, none⟩) = some k) g := fun g e hx => nl ((lowo hbe25) _ hx) ((fun k (hk : blk a7 = some k) => hk46.lt k hk) g e)
     have ap45 : ∀ g, blk a35 = some g → ¬ (fun k => blk (some ⟨b21, 0, none⟩) = some k) g := blk_neX hk40 ap47 (fun k (hk : blk (some ⟨b21, 0, none⟩) = some k) => ho27.lt k hk)
     have ap49 : ∀ g, blk (some ⟨b21, 0, none⟩) = some g → ¬ (fun k => blk a7 = some k) g := fun g e hx => nl ((lowo hbe25) g e) ((fun k (hk : blk a7 = some k) => hk46.lt k hk) _ hx)
     have ap48 : ∀ g, blk (some ⟨b21, 0, none⟩) = some g → ¬ (fun k => blk a35 = some k) g := fun g e h => blk_rev hk40 (fun h => ((ap49) g e) h) (ho27.lt g e) h
     refine pN 1 [5] [(5, (.slice a35 (length l33) c36))] ?_
     refine gv_nil <| gv_seq <| gv_region <| pN 5 [6, 25, 26, 27, 28] [(6, (.int .i64 (IntKind.i64.wrap (s3.2 + ((length sub_1 : Nat) : Int)))))] ?_
     refine bindE h2 ?_; clear h2; intro n50 hn51 h2
     refine gv_name (s := 6) (v := (.int .i64 (IntKind.i64.wrap (s3.2 + ((length sub_1 : Nat) : Int))))) (v' := (.int .i64 n50)) kr (congrArg (Value.int .i64) (sj hn51)) ?_
     refine gv_nil <| gv_seq <| gv_region <| pN 3 [29, 30, 31] [(31, (.bool (((length sub_1 : Nat) : Int) == 0)))] ?_
     refine gv_nil <| bindE h2 ?_; clear h2; intro j52 h3 h2
     refine gv_cut_code (J := fun a w53 => Below w0.heap.size w0 w53 ∧ w37.heap.size ≤ w53.heap.size ∧ Gv.Own (iE .i64) 3 w53 (fun _ => False) a35 c36 l33 ∧ a.defers = [] ∧ a.tmps.size = 35 ∧ Ok [(0, (.slice pa0_0 (length l_0) pc0_0)), (1, (.slice pa1_0 (length sub_1) pc1_0)), (5, (.slice a35 (length l33) c36)), (6, (.int .i64 j52))] a.tmps) ?_ ?_
     ·skip
      refine gv_cond (b := (((length sub_1 : Nat) : Int) == 0)) kr (fun hc54 => ?_) (fun hc54 => ?_)
      ·replace h3 := ite_t hc54 h3
       refine gv_region <| pN 3 [6, 32, 33] [(6, (.int .i64 (IntKind.i64.wrap (n50 + 1))))] ?_
       refine gv_nil ?_
       have e := sj h3; subst e
       refine gv_goal fun a hd hs hok => ?_
       have hB55 := bg hB44 hg38 hl10
       exact ⟨hB55, nrf, ho39, hd, hs, okp [0, 1, 5, 6] hok⟩
      ·replace h3 := ite_f hc54 h3
       refine gv_skip ?_
       have e := sj h3; subst e
       refine gv_goal fun a hd hs hok => ?_
       have hB56 := bg hB44 hg38 hl10
       exact ⟨hB56, nrf, ho39, hd, hs, okp [0, 1, 5, 6] hok⟩
     ·rintro a w53 ⟨hB57, hz58, hk59, hd, hs, hok⟩
      refine gv_in ?_ hd hs hok
      clear hd hs hok
      have hz60 := (nt (nt (nt (nt hz6 hg15.size) hg23.size) hg38.size) hz58)
      clear hz58 hn51 ap48 ap49 ap45 ap47 hk46 hB44 hk40 ho39 hg38 hk42 hg41 hx34 hl28 hB32 ho27 hz26 hbe25 hb24 hg23 hc17 hg15 hr13 hc11 hl10 ho9 hz6 hB5
      refine gv_blk ?_
      have e := sj h2; subst e
      refine gv_goal fun a hd hs hok => ?_
      have hz61 := hz60
      exact ⟨(l33, j52), rfl, a35, c36, hB57, hz61, hk59, hl43, hd, hs, okp [0, 1, 5, 6] hok⟩
   ·replace h2 := ite_f hc11 h2
    refine gv_cexit <| gv_exit rfl ?_
    have e := sj h2; subst e
    replace h1 := congrArg some (hR2 _ rfl)
    have e := sj h1; subst e
    refine gv_goal fun a hd hs hok => ?_
    have hz62 := hz6
    exact ⟨a7, c8, hB5, hz62, ho9, hl10, hd, hs, okp [5] hok⟩
 ·rintro a w2 ⟨a65, c66, hB63, hz64, ho67, hl68, hd, hs, hok⟩
  refine gv_in ?_ hd hs hok
  clear hd hs hok
  refine gv_seq <| gv_region <| pN 2 [4, 34] [(4, (.slice a65 (length j1) c66))] ?_
  refine gv_nil <| gv_cret ?_
  have e := sj h0; subst e
  refine gv_ret (gv_done [(.slice a65 (length j1) c66)] rfl ⟨kr, trivial⟩ ?_)
  exact ⟨grown_of_below hB63, a65, c66, rfl, ho67, hl68⟩

theorem ref4_FirstOf_ok (fuel : Nat) (pa0_0 : Option Addr) (pc0_0 : Nat) (l_0 : (List Int)) (most_1 : Int) (w0 : World) (X0 : Nat → Prop) (hX0 : ∀ k, X0 k → k < w0.heap.size) (hpa0_0 : Rd (iE .i64) w0 X0 pa0_0 pc0_0 l_0) (r0 : (List Int)) (h0 : ref4_FirstOf fuel l_0 most_1 = some r0) :
    Calls Tryd.prog 35 ([(.slice pa0_0 (length l_0) pc0_0), (.int .i64 most_1)] : List Value).toArray w0 (Ret fun v w' => w0.grownBy w' none ∧ ∃ (a0_0r : Option Addr) (c0_0r : Nat), ∃ (X0_0r : Nat → Prop), v = tup [(.slice a0_0r (length r0) c0_0r)] ∧ Rd (iE .i64) w' X0_0r a0_0r c0_0r r0 ∧ (∀ k, X0_0r k → k < w'.heap.size ∧ (X0 k ∨ w0.heap.size ≤ k))) := by
 have hB0 : Below w0.heap.size w0 w0 := Below.refl _ _
 unfold ref4_FirstOf at h0
 refine calls_run Tryd.func35 rfl Tryd.ntmps35 kr ?_
 refine gv_sub [0, 1] (σ' := [(0, (.slice pa0_0 (length l_0) pc0_0)), (1, (.int .i64 most_1))]) kr ?_
 refine gv_seq <| gv_region <| pN 1 [4] [] ?_
 refine gv_nil <| gv_seq <| gv_seq <| gv_region <| gv_cut_ops (J := fun a w1 => w0 = w1 ∧ a.defers = [] ∧ a.tmps.size = 17 ∧ Ok [(0, (.slice pa0_0 (length l_0) pc0_0)), (1, (.int .i64 most_1)), (12, (.bool ((decide (most_1 ≥ 0)) && (decide (most_1 < ((length l_0 : Nat) : Int))))))] a.tmps) ?_ ?_
 ·skip
  refine pN 3 [5, 6, 7] [(7, (.bool (decide (most_1 ≥ 0))))] ?_
  refine gv_split (s := 7) (g := (decide (most_1 ≥ 0))) kr (fun hc2 => ?_) (fun hc2 => ?_)
  ·skip
   refine pN 5 [8, 9, 10, 11, 12] [(12, (.bool (decide (most_1 < ((length l_0 : Nat) : Int)))))] ?_
   refine gv_nil <| gv_sub [0, 1, 12] (σ' := [(0, (.slice pa0_0 (length l_0) pc0_0)), (1, (.int .i64 most_1)), (12, (.bool (decide (most_1 < ((length l_0 : Nat) : Int)))))]) kr ?_
   refine gv_goal fun a hd hs hok => ⟨rfl, hd, hs, ?_⟩
   obtain ⟨q0, q1, q12, _⟩ := hok
   exact ⟨q0, q1, (by rw [hc2]; exact q12), trivial⟩
  ·skip
   refine pN 5 [8, 9, 10, 11, 12] [(12, (.bool false))] ?_
   refine gv_nil <| gv_sub [0, 1, 12] (σ' := [(0, (.slice pa0_0 (length l_0) pc0_0)), (1, (.int .i64 most_1)), (12, (.bool false))]) kr ?_
   refine gv_goal fun a hd hs hok => ⟨rfl, hd, hs, ?_⟩
   obtain ⟨q0, q1, q12, _⟩ := hok
   exact ⟨q0, q1, (by rw [hc2]; exact q12), trivial⟩
 ·rintro a w1 ⟨e, hd, hs, hok⟩; subst e
  refine gv_in ?_ hd hs hok
  clear hd hs hok
  refine gv_cond (b := ((decide (most_1 ≥ 0)) && (decide (most_1 < ((length l_0 : Nat) : Int))))) kr (fun hc3 => ?_) (fun hc3 => ?_)
  ·replace h0 := ite_t hc3 h0
   refine gv_seq <| gv_region <| pN 2 [13, 14] [(13, (.slice pa0_0 (length l_0) pc0_0)), (14, (.int .i64 most_1))] ?_
   refine bindE h0 ?_; clear h0; intro x4 hx5 h0
   refine gv_ssl2 (iE .i64) (t := 45) (e := 3) (xs := l_0) (a := pa0_0) (cap := pc0_0) (lo := none) (hi := (some (.int .i64 most_1))) 0 most_1 x4 (fun e => by cases e) rfl rfl rfl kr kr Tryd.underlying45 kr (.inl ⟨rfl, rfl⟩) (.inr ⟨_, rfl⟩) hx5 (hpa0_0.below hB0 hX0).1 ?_
   intro a6 c7 hsub8
   have hp9 := hsub8 _ _ hpa0_0
   refine pN 1 [4] [(4, (.slice a6 (length x4) c7))] ?_
   refine gv_nil <| gv_cret ?_
   have e := sj h0; subst e
   refine gv_ret (gv_done [(.slice a6 (length x4) c7)] rfl ⟨kr, trivial⟩ ?_)
   exact ⟨grown_of_below hB0, a6, c7, X0, rfl, (hp9.below hB0 hX0), (fun k hk => ⟨(fun k (hk : X0 k) => ltl (hX0 k hk) hB0.size) k hk, (fun k (hk : X0 k) => Or.inl hk) k hk⟩)⟩
  ·replace h0 := ite_f hc3 h0
   refine gv_skip <| gv_seq <| gv_region <| pN 2 [4, 16] [(4, (.slice pa0_0 (length l_0) pc0_0))] ?_
   refine gv_nil <| gv_cret ?_
   have e := sj h0; subst e
   refine gv_ret (gv_done [(.slice pa0_0 (length l_0) pc0_0)] rfl ⟨kr, trivial⟩ ?_)
   exact ⟨grown_of_below hB0, pa0_0, pc0_0, X0, rfl, (hpa0_0.below hB0 hX0), (fun k hk => ⟨(fun k (hk : X0 k) => ltl (hX0 k hk) hB0.size) k hk, (fun k (hk : X0 k) => Or.inl hk) k hk⟩)⟩

theorem law4_BytestrParts_ok (fuel : Nat) (pa0_0 : Option Addr) (pc0_0 : Nat) (b_0 : (List UInt8)) (pa1_0 : Option Addr) (pc1_0 : Nat) (sub_1 : (List UInt8)) (from_2 : Int) (to_3 : Int) (last_4 : Bool) (most_5 : Int) (w0 : World) (X0 : Nat → Prop) (hX0 : ∀ k, X0 k → k < w0.heap.size) (hpa0_0 : Rd bE w0 X0 pa0_0 pc0_0 b_0) (hpa1_0 : Rd bE w0 X0 pa1_0 pc1_0 sub_1) (hG0 : Rd bE w0 X0 (some ⟨0, 0, none⟩) 256 utf8First) (hG1 : Rd (prE (iE .u8) (iE .u8)) w0 X0 (some ⟨1, 0, none⟩) 16 utf8Acc) {gmx : Int} (hG2 : Rd (iE .i64) w0 X0 (some ⟨2, 0, none⟩) 1 [gmx]) (hcp0 : pc0_0 ≤ 9223372036854775807) (r0 : Bool) (h0 : law4_BytestrParts fuel b_0 sub_1 from_2 to_3 last_4 most_5 = some r0) :
    Calls Tryd.prog 8 ([(.slice pa0_0 (length b_0) pc0_0), (.slice pa1_0 (length sub_1) pc1_0), (.int .i64 from_2), (.int .i64 to_3), (.bool last_4), (.int .i64 most_5)] : List Value).toArray w0 (Ret fun v w' => w0.grownBy w' none ∧ v = tup [(.bool r0)]) := by
 have hB0 : Below w0.heap.size w0 w0 := Below.refl _ _
 unfold law4_BytestrParts at h0
 refine calls_run Tryd.func8 rfl Tryd.ntmps8 kr ?_
 refine gv_sub [0, 1, 2, 3, 4, 5] (σ' := [(0, (.slice pa0_0 (length b_0) pc0_0)), (1, (.slice pa1_0 (length sub_1) pc1_0)), (2, (.int .i64 from_2)), (3, (.int .i64 to_3)), (4, (.bool last_4)), (5, (.int .i64 most_5))]) kr ?_
 refine gv_seq <| gv_region <| pN 1 [12] [] ?_
 refine gv_nil <| gv_seq <| gv_region <| pN 5 [27, 28, 29, 30, 31] [(27, (.slice pa0_0 (length b_0) pc0_0)), (28, (.slice pa1_0 (length sub_1) pc1_0)), (29, (.int .i64 from_2)), (30, (.int .i64 to_3)), (31, (.bool last_4))] ?_
 refine bindE h0 ?_; clear h0; intro r1 hr2 h0
 refine gv_call0 kr rfl kr enters31 (bytestr_Find_ok fuel pa0_0 pc0_0 b_0 pa1_0 pc1_0 sub_1 from_2 to_3 last_4 w0 (fun k => X0 k ∨ X0 k ∨ X0 k) (fun k hk => (hk).elim (fun h => (fun k (hk : X0 k) => ltl (hX0 k hk) hB0.size) k h) (fun h => (h).elim (fun h => (fun k (hk : X0 k) => ltl (hX0 k hk) hB0.size) k h) (fun h => (fun k (hk : X0 k) => ltl (hX0 k hk) hB0.size) k h))) ((hpa0_0.below hB0 hX0).wide (fun k hk => (.inl hk))) ((hpa1_0.below hB0 hX0).wide (fun k hk => (.inr (.inl hk)))) ((hG2.below hB0 hX0).wide (fun k hk => (.inr (.inr hk)))) r1 hr2) ?_
 rintro v5 w3 ⟨hg4, rfl⟩
 refine pN 3 [26, 33, 34] [(33, (.int .i64 r1.1)), (34, (.agg #[(.int .i64 r1.2.1), (.int .i64 r1.2.2)]))] ?_
 refine gv_new0 (fun b => .pointer (some ⟨b, 0, none⟩)) #[(.int .i64 0), (.int .i64 0)] 25 kr kr ?_
 intro b6 w7 hg8 hb9 hbe10 hz11
 refine pN 1 [13] [(13, (.int .i64 r1.1))] ?_
 refine gv_store0 25 0 (.agg #[(.int .i64 r1.2.1), (.int .i64 r1.2.2)]) #[(.int .i64 r1.2.1), (.int .i64 r1.2.2)] hb9 kr kr kr ?_
 intro w12 hg13 hb14 hz15
 refine gv_nil <| gv_seq <| gv_region <| pN 3 [36, 37, 38] [(36, (.slice pa0_0 (length b_0) pc0_0)), (37, (.slice pa1_0 (length sub_1) pc1_0)), (38, (.int .i64 most_5))] ?_
 refine bindE h0 ?_; clear h0; intro r16 hr17 h0
 have hg18 := (grown_trans hg4 hg8)
 have hB19 := bg hB0 hg18 nb
 have hB20 := bg hB0 hg4 nb
 have hlo21 : w0.heap.size ≤ b6 := lob hbe10 hB20.size
 have hB22 := bg hB19 hg13 (rowlo hlo21)
 refine gv_call0 kr rfl kr enters32 (bytestr_Split_ok fuel pa0_0 pc0_0 b_0 pa1_0 pc1_0 sub_1 most_5 w12 (fun k => X0 k ∨ X0 k ∨ X0 k) (fun k hk => (hk).elim (fun h => (fun k (hk : X0 k) => ltl (hX0 k hk) hB22.size) k h) (fun h => (h).elim (fun h => (fun k (hk : X0 k) => ltl (hX0 k hk) hB22.size) k h) (fun h => (fun k (hk : X0 k) => ltl (hX0 k hk) hB22.size) k h))) ((hpa0_0.below hB22 hX0).wide (fun k hk => (.inl hk))) ((hpa1_0.below hB22 hX0).wide (fun k hk => (.inr (.inl hk)))) ((hG2.below hB22 hX0).wide (fun k hk => (.inr (.inr hk)))) hcp0 r16 hr17) ?_
 rintro v25 w23 ⟨hg24, a26, c27, X30, rfl, ho28, hl29, hx31⟩
 have hl32 : ∀ g, blk a26 = some g → w0.heap.size ≤ g := fun g e => Nat.le_trans hB22.size (hl29 g e)
 have hx33 : ∀ k, X30 k → k < w23.heap.size := fun k hk => (hx31 k hk).1
 have hx34 : ∀ k, X30 k → X0 k ∨ w0.heap.size ≤ k := fun k hk => (hx31 k hk).2.elim (fun h => (h).elim (fun h => (fun k (hk : X0 k) => Or.inl hk) k h) (fun h => (h).elim (fun h => (fun k (hk : X0 k) => Or.inl hk) k h) (fun h => (fun k (hk : X0 k) => Or.inl hk) k h))) (fun h => .inr (Nat.le_trans hB22.size h))
 refine pN 3 [35, 40, 41] [(40, (.slice a26 (length r16.1) c27)), (41, (.agg #[(.int .i64 r16.2.1), (.int .i64 r16.2.2)]))] ?_
 refine gv_new0 (fun b => .pointer (some ⟨b, 0, none⟩)) #[(.int .i64 0), (.int .i64 0)] 25 kr kr ?_
 intro b35 w36 hg37 hb38 hbe39 hz40
 refine pN 1 [15] [(15, (.slice a26 (length r16.1) c27))] ?_
 refine gv_store0 25 0 (.agg #[(.int .i64 r16.2.1), (.int .i64 r16.2.2)]) #[(.int .i64 r16.2.1), (.int .i64 r16.2.2)] hb38 kr kr kr ?_
 intro w41 hg42 hb43 hz44
 refine gv_nil <| gv_seq <| gv_region <| pN 2 [43, 44] [(43, (.slice a26 (length r16.1) c27)), (44, (.slice pa1_0 (length sub_1) pc1_0))] ?_
 refine gv_sub [0, 1, 2, 3, 4, 5, 13, 14, 15, 16, 43, 44] (σ' := [(0, (.slice pa0_0 (length b_0) pc0_0)), (1, (.slice pa1_0 (length sub_1) pc1_0)), (2, (.int .i64 from_2)), (3, (.int .i64 to_3)), (4, (.bool last_4)), (5, (.int .i64 most_5)), (13, (.int .i64 r1.1)), (14, (bp b6)), (15, (.slice a26 (length r16.1) c27)), (16, (bp b35)), (43, (.slice a26 (length r16.1) c27)), (44, (.slice pa1_0 (length sub_1) pc1_0))]) kr ?_
 refine bindE h0 ?_; clear h0; intro r45 hr46 h0
 have ap47 : ¬ (fun k => blk a26 = some k ∨ X30 k) b35 := fun hx => nl ((lowb hbe39) _ rfl) ((fun k (hk : blk a26 = some k ∨ X30 k) => hk.elim (fun h => ho28.lt k h) (fun h => hx33 k h)) _ hx)
 have hx48 := ltx hx33 hg37.size
 have hk49 := (ho28.grown hg37 hx33 nb).grown hg42 hx48 (rdnx (rowne ap47))
 have hx50 := ltx hx48 hg42.size
 have hg51 := (grown_trans hg24 hg37)
 have hB52 := bg hB22 hg51 nb
 have hB53 := bg hB22 hg24 nb
 have hlo54 : w0.heap.size ≤ b35 := lob hbe39 hB53.size
 have hB55 := bg hB52 hg42 (rowlo hlo54)
 refine gv_call0 kr rfl kr enters10 (bytestr_Join_ok fuel a26 c27 r16.1 pa1_0 pc1_0 sub_1 w41 (fun k => (fun k => blk a26 = some k ∨ X30 k) k ∨ X0 k) (fun k hk => (hk).elim (fun h => (fun k (hk : blk a26 = some k ∨ X30 k) => hk.elim (fun h => hk49.lt k h) (fun h => hx50 k h)) k h) (fun h => (fun k (hk : X0 k) => ltl (hX0 k hk) hB55.size) k h)) ((hk49.rd (Y := fun k => blk a26 = some k ∨ X30 k) (fun _ h => .inr h) (fun g e => .inl e)).wide (fun k hk => (.inl hk))) ((hpa1_0.below hB55 hX0).wide (fun k hk => (.inr hk))) r45 hr46) ?_
 rintro v58 w56 ⟨hg57, a59, c60, X62, rfl, ho61, hx63⟩
 have hx64 : ∀ k, X62 k → k < w56.heap.size := fun k hk => (hx63 k hk).1
 have hx65 : ∀ k, X62 k → X0 k ∨ w0.heap.size ≤ k := fun k hk => (hx63 k hk).2.elim (fun h => (h).elim (fun h => (fun k (hk : blk a26 = some k ∨ X30 k) => hk.elim (fun h => Or.inr (hl32 k h)) (fun h => hx34 k h)) k h) (fun h => (fun k (hk : X0 k) => Or.inl hk) k h)) (fun h => .inr (Nat.le_trans hB55.size h))
 refine pN 3 [42, 46, 47] [(46, (.slice a59 (length r45.1) c60)), (47, (.agg #[(.int .i64 r45.2.1), (.int .i64 r45.2.2)]))] ?_
 refine gv_new0 (fun b => .pointer (some ⟨b, 0, none⟩)) #[(.int .i64 0), (.int .i64 0)] 25 kr kr ?_
 intro b66 w67 hg68 hb69 hbe70 hz71
 clear hz71 hB53 hB52 hg51 hx48 hr46 hz44 hz40 hb38 hB22 hB20 hB19 hg18 hr17 hz15 hg13 hz11 hbe10 hb9 hg8 hg4 hr2
 refine pN 1 [17] [(17, (.slice a59 (length r45.1) c60))] ?_
 refine gv_store0 25 0 (.agg #[(.int .i64 r45.2.1), (.int .i64 r45.2.2)]) #[(.int .i64 r45.2.1), (.int .i64 r45.2.2)] hb69 kr kr kr ?_
 intro w72 hg73 hb74 hz75
 refine gv_nil <| gv_seq <| gv_seq <| gv_region <| bindE h0 ?_; clear h0; intro r76 hr77 h0
 have hg78 := (grown_trans hg57 hg68)
 have hB79 := bg hB55 hg78 nb
 have hB80 := bg hB55 hg57 nb
 have hlo81 : w0.heap.size ≤ b66 := lob hbe70 hB80.size
 have hB82 := bg hB79 hg73 (rowlo hlo81)
 refine gv_call0 kr rfl kr enters11 (law4_bytesOf_ok fuel  w72 (fun k => X0 k ∨ X0 k) (fun k hk => (hk).elim (fun h => (fun k (hk : X0 k) => ltl (hX0 k hk) hB82.size) k h) (fun h => (fun k (hk : X0 k) => ltl (hX0 k hk) hB82.size) k h)) ((hG0.below hB82 hX0).wide (fun k hk => (.inl hk))) ((hG1.below hB82 hX0).wide (fun k hk => (.inr hk))) r76 hr77) ?_
 rintro v85 w83 ⟨hg84, rfl⟩
 refine pN 1 [49] [(49, (.bool (!r76)))] ?_
 refine gv_nil <| gv_cond (b := (!r76)) kr (fun hc86 => ?_) (fun hc86 => ?_)
 ·replace h0 := ite_t hc86 h0
  refine gv_seq <| gv_region <| pN 1 [12] [(12, (.bool false))] ?_
  refine gv_nil <| gv_cret ?_
  have e := sj h0; subst e
  refine gv_ret (gv_done [(.bool false)] rfl ⟨kr, trivial⟩ ?_)
  have hB87 := bg hB82 hg84 nb
  exact ⟨grown_of_below hB87, rfl⟩
 ·replace h0 := ite_f hc86 h0
  refine gv_skip <| gv_seq <| gv_region <| pN 1 [50] [(50, (.agg #[(.int .i64 0), (.int .i64 0)]))] ?_
  refine gv_new0 (fun b => .pointer (some ⟨b, 0, none⟩)) #[(.int .i64 0), (.int .i64 0)] 25 kr kr ?_
  intro b88 w89 hg90 hb91 hbe92 hz93
  refine gv_store0 25 0 (.agg #[(.int .i64 0), (.int .i64 0)]) #[(.int .i64 0), (.int .i64 0)] hb91 kr kr kr ?_
  intro w94 hg95 hb96 hz97
  refine gv_nil <| gv_seq <| gv_seq <| gv_region <| pN 3 [51, 52, 53] [(53, (.bool (decide (((length b_0 : Nat) : Int) > 4000))))] ?_
  refine gv_nil <| bindE h0 ?_; clear h0; intro j98 h1 h0
  refine gv_cut_code (J := fun a w99 => Below w0.heap.size w0 w99 ∧ w94.heap.size ≤ w99.heap.size ∧ Box w99 b6 25 #[(.int .i64 r1.2.1), (.int .i64 r1.2.2)] ∧ Box w99 b35 25 #[(.int .i64 r16.2.1), (.int .i64 r16.2.2)] ∧ Box w99 b66 25 #[(.int .i64 r45.2.1), (.int .i64 r45.2.2)] ∧ Box w99 b88 25 #[(.int .i64 j98.1), (.int .i64 j98.2)] ∧ Gv.Own (slE bE) 22 w99 X30 a26 c27 r16.1 ∧ Rd bE w99 X62 a59 c60 r45.1 ∧ a.defers = [] ∧ a.tmps.size = 215 ∧ Ok [(0, (.slice pa0_0 (length b_0) pc0_0)), (1, (.slice pa1_0 (length sub_1) pc1_0)), (2, (.int .i64 from_2)), (3, (.int .i64 to_3)), (4, (.bool last_4)), (5, (.int .i64 most_5)), (13, (.int .i64 r1.1)), (14, (bp b6)), (15, (.slice a26 (length r16.1) c27)), (16, (bp b35)), (17, (.slice a59 (length r45.1) c60)), (18, (bp b66)), (19, (bp b88))] a.tmps) ?_ ?_
  ·skip
   refine gv_cond (b := (decide (((length b_0 : Nat) : Int) > 4000))) kr (fun hc100 => ?_) (fun hc100 => ?_)
   ·replace h1 := ite_t hc100 h1
    refine gv_region <| bindE h1 ?_; clear h1; intro r101 hr102 h1
    refine gv_call0 kr rfl kr enters12 (ref4_At_ok fuel 3 (-1) w94  r101 hr102) ?_
    rintro v105 w103 ⟨hg104, rfl⟩
    have hk110 := hb96.grown hg104 nb
    refine gv_store0 25 0 (.agg #[(.int .i64 r101.1), (.int .i64 r101.2)]) #[(.int .i64 r101.1), (.int .i64 r101.2)] hk110 kr kr kr ?_
    intro w106 hg107 hb108 hz109
    refine gv_nil ?_
    have e := sj h1; subst e
    refine gv_goal fun a hd hs hok => ?_
    have hg111 := (grown_trans hg84 hg90)
    have hB112 := bg hB82 hg111 nb
    have hB113 := bg hB82 hg84 nb
    have hlo114 : w0.heap.size ≤ b88 := lob hbe92 hB113.size
    have hB115 := bg hB112 hg95 (rowlo hlo114)
    have hB116 := bg hB115 hg104 nb
    have hB117 := bg hB116 hg107 (rowlo hlo114)
    have hz118 := (nt hg104.size hg107.size)
    have hg119 := (grown_trans hg24 hg37)
    have hk120 := hb14.grown hg24 nb
    have lt121 := ltl ((ltb hk120) _ rfl) ((lowb hbe39) _ rfl)
    have hk122 := hb43.grown hg57 nb
    have lt123 := ltl ((ltb hk122) _ rfl) ((lowb hbe70) _ rfl)
    have lt124 := ltt lt121 lt123
    have hk125 := hb74.grown hg84 nb
    have lt126 := ltl ((ltb hk125) _ rfl) ((lowb hbe92) _ rfl)
    have lt127 := ltt lt124 lt126
    have hk128 := (((((((hb14.grown hg119 nb).grown hg42 (rowne (ng lt121))).grown hg78 nb).grown hg73 (rowne (ng lt124))).grown hg111 nb).grown hg95 (rowne (ng lt127))).grown hg104 nb).grown hg107 (rowne (ng lt127))
    have lt129 := ltt lt123 lt126
    have hk130 := (((((hk122.grown hg68 nb).grown hg73 (rowne (ng lt123))).grown hg111 nb).grown hg95 (rowne (ng lt129))).grown hg104 nb).grown hg107 (rowne (ng lt129))
    have hk131 := (((hk125.grown hg90 nb).grown hg95 (rowne (ng lt126))).grown hg104 nb).grown hg107 (rowne (ng lt126))
    have hk132 := hk49.grown hg57 hx50 nb
    have hx133 := ltx hx50 hg57.size
    have ap134 : ¬ (fun k => blk a26 = some k ∨ X30 k) b66 := fun hx => nl ((lowb hbe70) _ rfl) ((fun k (hk : blk a26 = some k ∨ X30 k) => hk.elim (fun h => hk132.lt k h) (fun h => hx133 k h)) _ hx)
    have hx135 := ltx hx133 hg68.size
    have hx136 := ltx hx135 hg73.size
    have hk137 := ((hk132.grown hg68 hx133 nb).grown hg73 hx135 (rdnx (rowne ap134))).grown hg84 hx136 nb
    have hx138 := ltx hx136 hg84.size
    have ap139 : ¬ (fun k => blk a26 = some k ∨ X30 k) b88 := fun hx => nl ((lowb hbe92) _ rfl) ((fun k (hk : blk a26 = some k ∨ X30 k) => hk.elim (fun h => hk137.lt k h) (fun h => hx138 k h)) _ hx)
    have hx140 := ltx hx138 hg90.size
    have hx141 := ltx hx140 hg95.size
    have hx142 := ltx hx141 hg104.size
    have hk143 := (((((hk49.grown hg78 hx50 nb).grown hg73 hx135 (rdnx (rowne ap134))).grown hg111 hx136 nb).grown hg95 hx140 (rdnx (rowne ap139))).grown hg104 hx141 nb).grown hg107 hx142 (rdnx (rowne ap139))
    have ap144 : ¬ X62 b66 := fun hx => nl ((lowb hbe70) _ rfl) (hx64 _ hx)
    have hx145 := ltx hx64 hg68.size
    have hx146 := ltx hx145 hg73.size
    have hx147 := ltx hx146 hg84.size
    have ap148 : ¬ X62 b88 := fun hx => nl ((lowb hbe92) _ rfl) (hx147 _ hx)
    have hx149 := ltx hx147 hg90.size
    have hx150 := ltx hx149 hg95.size
    have hx151 := ltx hx150 hg104.size
    have hk152 := (((((ho61.grown hg68 hx64 nb).grown hg73 hx145 (rowne ap144)).grown hg111 hx146 nb).grown hg95 hx149 (rowne ap148)).grown hg104 hx150 nb).grown hg107 hx151 (rowne ap148)
    exact ⟨hB117, hz118, hk128, hk130, hk131, hb108, hk143, hk152, hd, hs, okp [0, 1, 2, 3, 4, 5, 13, 14, 15, 16, 17, 18, 19] hok⟩
   ·replace h1 := ite_f hc100 h1
    refine gv_seq <| gv_region <| pN 3 [55, 56, 57] [(57, (.bool (decide (((length sub_1 : Nat) : Int) > 4000))))] ?_
    refine gv_nil <| gv_cond (b := (decide (((length sub_1 : Nat) : Int) > 4000))) kr (fun hc153 => ?_) (fun hc153 => ?_)
    ·replace h1 := ite_t hc153 h1
     refine gv_region <| bindE h1 ?_; clear h1; intro r154 hr155 h1
     refine gv_call0 kr rfl kr enters12 (ref4_At_ok fuel 3 (-2) w94  r154 hr155) ?_
     rintro v158 w156 ⟨hg157, rfl⟩
     have hk163 := hb96.grown hg157 nb
     refine gv_store0 25 0 (.agg #[(.int .i64 r154.1), (.int .i64 r154.2)]) #[(.int .i64 r154.1), (.int .i64 r154.2)] hk163 kr kr kr ?_
     intro w159 hg160 hb161 hz162
     have hz164 := (nt hg157.size hg160.size)
     clear hz162 hk163 hr155 hc153 hc100 hz97 hb96 hz93 hb91 hc86 hB80 hB79 hg78 hr77 hz75 hb69 hB55
     refine gv_nil ?_
     have e := sj h1; subst e
     refine gv_goal fun a hd hs hok => ?_
     have hg165 := (grown_trans hg84 hg90)
     have hB166 := bg hB82 hg165 nb
     have hB167 := bg hB82 hg84 nb
     have hlo168 : w0.heap.size ≤ b88 := lob hbe92 hB167.size
     have hB169 := bg hB166 hg95 (rowlo hlo168)
     have hB170 := bg hB169 hg157 nb
     have hB171 := bg hB170 hg160 (rowlo hlo168)
     have hz172 := hz164
     have hg173 := (grown_trans hg24 hg37)
     have hk174 := hb14.grown hg24 nb
     have lt175 := ltl ((ltb hk174) _ rfl) ((lowb hbe39) _ rfl)
     have hg176 := (grown_trans hg57 hg68)
     have hk177 := hb43.grown hg57 nb
     have lt178 := ltl ((ltb hk177) _ rfl) ((lowb hbe70) _ rfl)
     have lt179 := ltt lt175 lt178
     have hk180 := hb74.grown hg84 nb
     have lt181 := ltl ((ltb hk180) _ rfl) ((lowb hbe92) _ rfl)
     have lt182 := ltt lt179 lt181
     have hk183 := (((((((hb14.grown hg173 nb).grown hg42 (rowne (ng lt175))).grown hg176 nb).grown hg73 (rowne (ng lt179))).grown hg165 nb).grown hg95 (rowne (ng lt182))).grown hg157 nb).grown hg160 (rowne (ng lt182))
     have lt184 := ltt lt178 lt181
     have hk185 := (((((hk177.grown hg68 nb).grown hg73 (rowne (ng lt178))).grown hg165 nb).grown hg95 (rowne (ng lt184))).grown hg157 nb).grown hg160 (rowne (ng lt184))
     have hk186 := (((hk180.grown hg90 nb).grown hg95 (rowne (ng lt181))).grown hg157 nb).grown hg160 (rowne (ng lt181))
     have hk187 := hk49.grown hg57 hx50 nb
     have hx188 := ltx hx50 hg57.size
     have ap189 : ¬ (fun k => blk a26 = some k ∨ X30 k) b66 := fun hx => nl ((lowb hbe70) _ rfl) ((fun k (hk : blk a26 = some k ∨ X30 k) => hk.elim (fun h => hk187.lt k h) (fun h => hx188 k h)) _ hx)
     have hx190 := ltx hx188 hg68.size
     have hx191 := ltx hx190 hg73.size
     have hk192 := ((hk187.grown hg68 hx188 nb).grown hg73 hx190 (rdnx (rowne ap189))).grown hg84 hx191 nb
     have hx193 := ltx hx191 hg84.size
     have ap194 : ¬ (fun k => blk a26 = some k ∨ X30 k) b88 := fun hx => nl ((lowb hbe92) _ rfl) ((fun k (hk : blk a26 = some k ∨ X30 k) => hk.elim (fun h => hk192.lt k h) (fun h => hx193 k h)) _ hx)
     have hx195 := ltx hx193 hg90.size
     have hx196 := ltx hx195 hg95.size
     have hx197 := ltx hx196 hg157.size
     have hk198 := (((((hk49.grown hg176 hx50 nb).grown hg73 hx190 (rdnx (rowne ap189))).grown hg165 hx191 nb).grown hg95 hx195 (rdnx (rowne ap194))).grown hg157 hx196 nb).grown hg160 hx197 (rdnx (rowne ap194))
     have ap199 : ¬ X62 b66 := fun hx => nl ((lowb hbe70) _ rfl) (hx64 _ hx)
     have hx200 := ltx hx64 hg68.size
     have hx201 := ltx hx200 hg73.size
     have hx202 := ltx hx201 hg84.size
     have ap203 : ¬ X62 b88 := fun hx => nl ((lowb hbe92) _ rfl) (hx202 _ hx)
     have hx204 := ltx hx202 hg90.size
     have hx205 := ltx hx204 hg95.size
     have hx206 := ltx hx205 hg157.size
     have hk207 := (((((ho61.grown hg68 hx64 nb).grown hg73 hx200 (rowne ap199)).grown hg165 hx201 nb).grown hg95 hx204 (rowne ap203)).grown hg157 hx205 nb).grown hg160 hx206 (rowne ap203)
     exact ⟨hB171, hz172, hk183, hk185, hk186, hb161, hk198, hk207, hd, hs, okp [0, 1, 2, 3, 4, 5, 13, 14, 15, 16, 17, 18, 19] hok⟩
    ·replace h1 := ite_f hc153 h1
     refine gv_skip ?_
     have e := sj h1; subst e
     refine gv_goal fun a hd hs hok => ?_
     have hg208 := (grown_trans hg84 hg90)
     have hB209 := bg hB82 hg208 nb
     have hB210 := bg hB82 hg84 nb
     have hlo211 : w0.heap.size ≤ b88 := lob hbe92 hB210.size
     have hB212 := bg hB209 hg95 (rowlo hlo211)
     have hg213 := (grown_trans hg24 hg37)
     have hk214 := hb14.grown hg24 nb
     have lt215 := ltl ((ltb hk214) _ rfl) ((lowb hbe39) _ rfl)
     have hk216 := hb43.grown hg57 nb
     have lt217 := ltl ((ltb hk216) _ rfl) ((lowb hbe70) _ rfl)
     have lt218 := ltt lt215 lt217
     have hk219 := hb74.grown hg84 nb
     have lt220 := ltl ((ltb hk219) _ rfl) ((lowb hbe92) _ rfl)
     have lt221 := ltt lt218 lt220
     have hk222 := (((((hb14.grown hg213 nb).grown hg42 (rowne (ng lt215))).grown hg78 nb).grown hg73 (rowne (ng lt218))).grown hg208 nb).grown hg95 (rowne (ng lt221))
     have lt223 := ltt lt217 lt220
     have hk224 := (((hk216.grown hg68 nb).grown hg73 (rowne (ng lt217))).grown hg208 nb).grown hg95 (rowne (ng lt223))
     have hk225 := (hk219.grown hg90 nb).grown hg95 (rowne (ng lt220))
     have hk226 := hk49.grown hg57 hx50 nb
     have hx227 := ltx hx50 hg57.size
     have ap228 : ¬ (fun k => blk a26 = some k ∨ X30 k) b66 := fun hx => nl ((lowb hbe70) _ rfl) ((fun k (hk : blk a26 = some k ∨ X30 k) => hk.elim (fun h => hk226.lt k h) (fun h => hx227 k h)) _ hx)
     have hx229 := ltx hx227 hg68.size
     have hx230 := ltx hx229 hg73.size
     have hk231 := ((hk226.grown hg68 hx227 nb).grown hg73 hx229 (rdnx (rowne ap228))).grown hg84 hx230 nb
     have hx232 := ltx hx230 hg84.size
     have ap233 : ¬ (fun k => blk a26 = some k ∨ X30 k) b88 := fun hx => nl ((lowb hbe92) _ rfl) ((fun k (hk : blk a26 = some k ∨ X30 k) => hk.elim (fun h => hk231.lt k h) (fun h => hx232 k h)) _ hx)
     have hx234 := ltx hx232 hg90.size
     have hk235 := (((hk49.grown hg78 hx50 nb).grown hg73 hx229 (rdnx (rowne ap228))).grown hg208 hx230 nb).grown hg95 hx234 (rdnx (rowne ap233))
     have ap236 : ¬ X62 b66 := fun hx => nl ((lowb hbe70) _ rfl) (hx64 _ hx)
     have hx237 := ltx hx64 hg68.size
     have hx238 := ltx hx237 hg73.size
     have hx239 := ltx hx238 hg84.size
     have ap240 : ¬ X62 b88 := fun hx => nl ((lowb hbe92) _ rfl) (hx239 _ hx)
     have hx241 := ltx hx239 hg90.size
     have hk242 := (((ho61.grown hg68 hx64 nb).grown hg73 hx237 (rowne ap236)).grown hg208 hx238 nb).grown hg95 hx241 (rowne ap240)
     exact ⟨hB212, nrf, hk222, hk224, hk225, hb96, hk235, hk242, hd, hs, okp [0, 1, 2, 3, 4, 5, 13, 14, 15, 16, 17, 18, 19] hok⟩
  ·rintro a w99 ⟨hB243, hz244, hb245, hb246, hb247, hb248, hk249, hk250, hd, hs, hok⟩
   refine gv_in ?_ hd hs hok
   clear hd hs hok
   clear hz97 hb96 hz93 hb91 hc86 hB80 hB79 hg78 hr77 hz75 hb69 ho61 hB55
   refine gv_seq <| gv_seq <| gv_region <| pN 1 [59] [(59, (bp b88))] ?_
   refine gv_load (t := 3) (A := ⟨b88, 0, none⟩) (.int .i64 j98.1) [] (fun e => by cases e) rfl rfl rfl kr kr kr (inw0 (hb248.cell 0 rfl)) rfl ?_
   refine pN 1 [61] [(61, (.bool (j98.1 != 0)))] ?_
   refine gv_nil <| gv_cond (b := (j98.1 != 0)) kr (fun hc251 => ?_) (fun hc251 => ?_)
   ·replace h0 := ite_t hc251 h0
    refine gv_seq <| gv_region <| bindE h0 ?_; clear h0; intro j252 h1 h0
    refine gv_cut_ops (J := fun a w253 => Below w0.heap.size w0 w253 ∧ w99.heap.size ≤ w253.heap.size ∧ a.defers = [] ∧ a.tmps.size = 215 ∧ Ok [(12, (.bool j252))] a.tmps) ?_ ?_
    ·skip
     refine gv_loadBox (t := 25) (b := b6) (t' := 25) (fr := (0, 0)) #[(.int .i64 r1.2.1), (.int .i64 r1.2.2)] [] (fun e => by cases e) rfl rfl rfl kr kr kr kr (inw0 hb245) rfl ?_
     refine gv_loadBox (t := 25) (b := b88) (t' := 25) (fr := (0, 0)) #[(.int .i64 j98.1), (.int .i64 j98.2)] [] (fun e => by cases e) rfl rfl rfl kr kr kr kr (inw0 hb248) rfl ?_
     refine gv_eqs (t := 25) (op := .eql) (x := (.tmp 62)) (y := (.tmp 63)) (xs := #[(.int .i64 r1.2.1), (.int .i64 r1.2.2)]) (ys := #[(.int .i64 j98.1), (.int .i64 j98.2)]) ((r1.2.1 == j98.1) && (r1.2.2 == j98.2)) [] (fun e => by cases e) rfl rfl rfl kr kr (fun w' => eqs25eql r1.2.1 r1.2.2 j98.1 j98.2 _ _ w') rfl ?_
     refine pN 1 [65] [(65, (.bool ((r1.2.1 == j98.1) && (r1.2.2 == j98.2))))] ?_
     refine gv_split (s := 65) (g := ((r1.2.1 == j98.1) && (r1.2.2 == j98.2))) kr (fun hc254 => ?_) (fun hc254 => ?_)
     ·skip
      replace h1 := ite_t hc254 h1
      refine gv_loadBox (t := 25) (b := b35) (t' := 25) (fr := (0, 0)) #[(.int .i64 r16.2.1), (.int .i64 r16.2.2)] [] (fun e => by cases e) rfl rfl rfl kr kr kr kr (inw0 hb246) rfl ?_
      refine gv_loadBox (t := 25) (b := b88) (t' := 25) (fr := (0, 0)) #[(.int .i64 j98.1), (.int .i64 j98.2)] [] (fun e => by cases e) rfl rfl rfl kr kr kr kr (inw0 hb248) rfl ?_
      refine gv_eqs (t := 25) (op := .eql) (x := (.tmp 66)) (y := (.tmp 67)) (xs := #[(.int .i64 r16.2.1), (.int .i64 r16.2.2)]) (ys := #[(.int .i64 j98.1), (.int .i64 j98.2)]) ((r16.2.1 == j98.1) && (r16.2.2 == j98.2)) [] (fun e => by cases e) rfl rfl rfl kr kr (fun w' => eqs25eql r16.2.1 r16.2.2 j98.1 j98.2 _ _ w') rfl ?_
      refine pN 2 [69, 70] [(70, (.bool ((r16.2.1 == j98.1) && (r16.2.2 == j98.2))))] ?_
      refine gv_split (s := 70) (g := ((r16.2.1 == j98.1) && (r16.2.2 == j98.2))) kr (fun hc255 => ?_) (fun hc255 => ?_)
      ·skip
       replace h1 := ite_t hc255 h1
       refine pN 4 [71, 72, 73, 74] [(74, (.bool (r1.1 == 0)))] ?_
       refine gv_split (s := 74) (g := (r1.1 == 0)) kr (fun hc256 => ?_) (fun hc256 => ?_)
       ·skip
        replace h1 := ite_t hc256 h1
        refine pN 5 [75, 76, 77, 78, 79] [(79, (.bool (((length r16.1 : Nat) : Int) == 0)))] ?_
        refine gv_split (s := 79) (g := (((length r16.1 : Nat) : Int) == 0)) kr (fun hc257 => ?_) (fun hc257 => ?_)
        ·skip
         replace h1 := ite_t hc257 h1
         refine pN 5 [12, 80, 81, 82, 83] [(12, (.bool (((length r45.1 : Nat) : Int) == 0)))] ?_
         refine gv_sub [12] (σ' := [(12, (.bool (((length r45.1 : Nat) : Int) == 0)))]) kr ?_
         refine gv_nil ?_
         have e := sj h1; subst e
         refine gv_goal fun a hd hs hok => ?_
         exact ⟨hB243, nrf, hd, hs, okp [12] hok⟩
        ·skip
         replace h1 := ite_f hc257 h1
         refine pN 5 [12, 80, 81, 82, 83] [(12, (.bool false))] ?_
         refine gv_sub [12] (σ' := [(12, (.bool false))]) kr ?_
         refine gv_nil ?_
         have e := sj h1; subst e
         refine gv_goal fun a hd hs hok => ?_
         exact ⟨hB243, nrf, hd, hs, okp [12] hok⟩
       ·skip
        replace h1 := ite_f hc256 h1
        refine pN 10 [12, 75, 76, 77, 78, 79, 80, 81, 82, 83] [(12, (.bool false))] ?_
        refine gv_nil ?_
        have e := sj h1; subst e
        refine gv_goal fun a hd hs hok => ?_
        exact ⟨hB243, nrf, hd, hs, okp [12] hok⟩
      ·skip
       replace h1 := ite_f hc255 h1
       refine pN 14 [12, 71, 72, 73, 74, 75, 76, 77, 78, 79, 80, 81, 82, 83] [(12, (.bool false))] ?_
       refine gv_nil ?_
       have e := sj h1; subst e
       refine gv_goal fun a hd hs hok => ?_
       exact ⟨hB243, nrf, hd, hs, okp [12] hok⟩
     ·skip
      replace h1 := ite_f hc254 h1
      refine pN 19 [12, 66, 67, 68, 69, 70, 71, 72, 73, 74, 75, 76, 77, 78, 79, 80, 81, 82, 83] [(12, (.bool false))] ?_
      refine gv_nil ?_
      have e := sj h1; subst e
      refine gv_goal fun a hd hs hok => ?_
      exact ⟨hB243, nrf, hd, hs, okp [12] hok⟩
    ·rintro a w253 ⟨hB258, hz259, hd, hs, hok⟩
     refine gv_in ?_ hd hs hok
     clear hd hs hok
     clear hz259 hc251 hk250 hk249 hb248 hb247 hb246 hb245 hz244 hB243 hg95 hbe92 hg90 hg84 hB82 hlo81 hb74 hg73 hbe70 hg68 hx65 hx64 hx63 hg57 hlo54 hx50 hk49 ap47 hb43 hg42 hbe39 hg37 hx34 hx33 hl32 hx31 hl29 ho28 hg24 hlo21 hb14
     refine gv_cret ?_
     have e := sj h0; subst e
     refine gv_ret (gv_done [(.bool j252)] rfl ⟨kr, trivial⟩ ?_)
     exact ⟨grown_of_below hB258, rfl⟩
   ·replace h0 := ite_f hc251 h0
    refine gv_skip <| gv_seq <| gv_region <| pN 1 [84] [(84, (.slice pa0_0 (length b_0) pc0_0))] ?_
    refine bindE h0 ?_; clear h0; intro r260 hr261 h0
    refine gv_call0 kr rfl kr enters33 (law4_codes_ok fuel pa0_0 pc0_0 b_0 w99 (fun k => X0 k) (fun k hk => (fun k (hk : X0 k) => ltl (hX0 k hk) hB243.size) k hk) ((hpa0_0.below hB243 hX0).wide (fun k hk => hk)) r260 hr261) ?_
    rintro v264 w262 ⟨hg263, a265, c266, rfl, ho267, hl268⟩
    have hl269 : ∀ g, blk a265 = some g → w0.heap.size ≤ g := fun g e => Nat.le_trans hB243.size (hl268 g e)
    refine pN 1 [86] [(86, (.slice pa1_0 (length sub_1) pc1_0))] ?_
    refine bindE h0 ?_; clear h0; intro r270 hr271 h0
    have hB272 := bg hB243 hg263 nb
    refine gv_call0 kr rfl kr enters33 (law4_codes_ok fuel pa1_0 pc1_0 sub_1 w262 (fun k => X0 k) (fun k hk => (fun k (hk : X0 k) => ltl (hX0 k hk) hB272.size) k hk) ((hpa1_0.below hB272 hX0).wide (fun k hk => hk)) r270 hr271) ?_
    rintro v275 w273 ⟨hg274, a276, c277, rfl, ho278, hl279⟩
    have hl280 : ∀ g, blk a276 = some g → w0.heap.size ≤ g := fun g e => Nat.le_trans hB272.size (hl279 g e)
    refine pN 2 [20, 21] [(20, (.slice a265 (length r260) c266)), (21, (.slice a276 (length r270) c277))] ?_
    refine gv_nil <| gv_seq <| gv_block <| gv_seq <| gv_region <| gv_cut_ops (J := fun a w281 => w273 = w281 ∧ a.defers = [] ∧ a.tmps.size = 215 ∧ Ok [(0, (.slice pa0_0 (length b_0) pc0_0)), (1, (.slice pa1_0 (length sub_1) pc1_0)), (2, (.int .i64 from_2)), (3, (.int .i64 to_3)), (4, (.bool last_4)), (5, (.int .i64 most_5)), (13, (.int .i64 r1.1)), (14, (bp b6)), (15, (.slice a26 (length r16.1) c27)), (16, (bp b35)), (17, (.slice a59 (length r45.1) c60)), (18, (bp b66)), (19, (bp b88)), (20, (.slice a265 (length r260) c266)), (21, (.slice a276 (length r270) c277)), (88, (.bool ((decide (from_2 < 0)) || (decide (from_2 > ((length b_0 : Nat) : Int))))))] a.tmps) ?_ ?_
    ·skip
     refine pN 3 [89, 90, 91] [(91, (.bool (decide (from_2 < 0))))] ?_
     refine gv_split (s := 91) (g := (decide (from_2 < 0))) kr (fun hc282 => ?_) (fun hc282 => ?_)
     ·skip
      refine pN 6 [88, 92, 93, 94, 95, 96] [(88, (.bool true))] ?_
      refine gv_nil <| gv_sub [0, 1, 2, 3, 4, 5, 13, 14, 15, 16, 17, 18, 19, 20, 21, 88] (σ' := [(0, (.slice pa0_0 (length b_0) pc0_0)), (1, (.slice pa1_0 (length sub_1) pc1_0)), (2, (.int .i64 from_2)), (3, (.int .i64 to_3)), (4, (.bool last_4)), (5, (.int .i64 most_5)), (13, (.int .i64 r1.1)), (14, (bp b6)), (15, (.slice a26 (length r16.1) c27)), (16, (bp b35)), (17, (.slice a59 (length r45.1) c60)), (18, (bp b66)), (19, (bp b88)), (20, (.slice a265 (length r260) c266)), (21, (.slice a276 (length r270) c277)), (88, (.bool true))]) kr ?_
      refine gv_goal fun a hd hs hok => ⟨rfl, hd, hs, ?_⟩
      obtain ⟨q0, q1, q2, q3, q4, q5, q13, q14, q15, q16, q17, q18, q19, q20, q21, q88, _⟩ := hok
      exact ⟨q0, q1, q2, q3, q4, q5, q13, q14, q15, q16, q17, q18, q19, q20, q21, (by rw [hc282]; exact q88), trivial⟩
     ·skip
      refine pN 6 [88, 92, 93, 94, 95, 96] [(88, (.bool (decide (from_2 > ((length b_0 : Nat) : Int)))))] ?_
      refine gv_nil <| gv_sub [0, 1, 2, 3, 4, 5, 13, 14, 15, 16, 17, 18, 19, 20, 21, 88] (σ' := [(0, (.slice pa0_0 (length b_0) pc0_0)), (1, (.slice pa1_0 (length sub_1) pc1_0)), (2, (.int .i64 from_2)), (3, (.int .i64 to_3)), (4, (.bool last_4)), (5, (.int .i64 most_5)), (13, (.int .i64 r1.1)), (14, (bp b6)), (15, (.slice a26 (length r16.1) c27)), (16, (bp b35)), (17, (.slice a59 (length r45.1) c60)), (18, (bp b66)), (19, (bp b88)), (20, (.slice a265 (length r260) c266)), (21, (.slice a276 (length r270) c277)), (88, (.bool (decide (from_2 > ((length b_0 : Nat) : Int)))))]) kr ?_
      refine gv_goal fun a hd hs hok => ⟨rfl, hd, hs, ?_⟩
      obtain ⟨q0, q1, q2, q3, q4, q5, q13, q14, q15, q16, q17, q18, q19, q20, q21, q88, _⟩ := hok
      exact ⟨q0, q1, q2, q3, q4, q5, q13, q14, q15, q16, q17, q18, q19, q20, q21, (by rw [hc282]; exact q88), trivial⟩
    ·rintro a w281 ⟨e, hd, hs, hok⟩; subst e
     refine gv_in ?_ hd hs hok
     clear hd hs hok
     refine bindE h0 ?_; clear h0; intro j283 h1 h0
     refine gv_cut_code (J := fun a w284 => Below w0.heap.size w0 w284 ∧ w273.heap.size ≤ w284.heap.size ∧ Box w284 b6 25 #[(.int .i64 r1.2.1), (.int .i64 r1.2.2)] ∧ Box w284 b35 25 #[(.int .i64 r16.2.1), (.int .i64 r16.2.2)] ∧ Box w284 b66 25 #[(.int .i64 r45.2.1), (.int .i64 r45.2.2)] ∧ Box w284 b88 25 #[(.int .i64 j283.1), (.int .i64 j283.2)] ∧ Gv.Own (slE bE) 22 w284 X30 a26 c27 r16.1 ∧ Rd bE w284 X62 a59 c60 r45.1 ∧ Gv.Own (iE .i64) 3 w284 (fun _ => False) a265 c266 r260 ∧ Gv.Own (iE .i64) 3 w284 (fun _ => False) a276 c277 r270 ∧ a.defers = [] ∧ a.tmps.size = 215 ∧ Ok [(0, (.slice pa0_0 (length b_0) pc0_0)), (1, (.slice pa1_0 (length sub_1) pc1_0)), (2, (.int .i64 from_2)), (3, (.int .i64 to_3)), (4, (.bool last_4)), (5, (.int .i64 most_5)), (13, (.int .i64 r1.1)), (14, (bp b6)), (15, (.slice a26 (length r16.1) c27)), (16, (bp b35)), (17, (.slice a59 (length r45.1) c60)), (18, (bp b66)), (19, (bp b88)), (20, (.slice a265 (length r260) c266)), (21, (.slice a276 (length r270) c277))] a.tmps) ?_ ?_
     ·skip
      refine gv_cond (b := ((decide (from_2 < 0)) || (decide (from_2 > ((length b_0 : Nat) : Int))))) kr (fun hc285 => ?_) (fun hc285 => ?_)
      ·replace h1 := ite_t hc285 h1
       refine gv_region <| bindE h1 ?_; clear h1; intro r286 hr287 h1
       refine gv_call0 kr rfl kr enters12 (ref4_At_ok fuel 4 (-3) w273  r286 hr287) ?_
       rintro v290 w288 ⟨hg289, rfl⟩
       have hg295 := (grown_trans (grown_trans hg263 hg274) hg289)
       have hk296 := hb248.grown hg295 nb
       refine gv_store0 25 0 (.agg #[(.int .i64 r286.1), (.int .i64 r286.2)]) #[(.int .i64 r286.1), (.int .i64 r286.2)] hk296 kr kr kr ?_
       intro w291 hg292 hb293 hz294
       refine gv_nil ?_
       have e := sj h1; subst e
       refine gv_goal fun a hd hs hok => ?_
       have hg297 := (grown_trans hg274 hg289)
       have hB298 := bg hB272 hg297 nb
       have hB299 := bg hB82 hg84 nb
       have hlo300 : w0.heap.size ≤ b88 := lob hbe92 hB299.size
       have hB301 := bg hB298 hg292 (rowlo hlo300)
       have hz302 := (nt hg289.size hg292.size)
       have hk303 := hb14.grown hg24 nb
       have lt304 := ltl ((ltb hk303) _ rfl) ((lowb hbe39) _ rfl)
       have hk305 := hb43.grown hg57 nb
       have lt306 := ltl ((ltb hk305) _ rfl) ((lowb hbe70) _ rfl)
       have lt307 := ltt lt304 lt306
       have hk308 := hb74.grown hg84 nb
       have lt309 := ltl ((ltb hk308) _ rfl) ((lowb hbe92) _ rfl)
       have lt310 := ltt lt307 lt309
       have hk311 := (hb245.grown hg295 nb).grown hg292 (rowne (ng lt310))
       have lt312 := ltt lt306 lt309
       have hk313 := (hb246.grown hg295 nb).grown hg292 (rowne (ng lt312))
       have hk314 := (hb247.grown hg295 nb).grown hg292 (rowne (ng lt309))
       have hg315 := (grown_trans hg57 hg68)
       have hg316 := (grown_trans hg84 hg90)
       have hx317 := ltx (ltx (ltx (ltx hx50 hg315.size) hg73.size) hg316.size) hg95.size
       have hk318 := hk49.grown hg57 hx50 nb
       have hx319 := ltx hx50 hg57.size
       have ap320 : ¬ (fun k => blk a26 = some k ∨ X30 k) b66 := fun hx => nl ((lowb hbe70) _ rfl) ((fun k (hk : blk a26 = some k ∨ X30 k) => hk.elim (fun h => hk318.lt k h) (fun h => hx319 k h)) _ hx)
       have hx321 := ltx hx319 hg68.size
       have hx322 := ltx hx321 hg73.size
       have hk323 := ((hk49.grown hg315 hx50 nb).grown hg73 hx321 (rdnx (rowne ap320))).grown hg84 hx322 nb
       have hx324 := ltx hx322 hg84.size
       have ap325 : ¬ (fun k => blk a26 = some k ∨ X30 k) b88 := fun hx => nl ((lowb hbe92) _ rfl) ((fun k (hk : blk a26 = some k ∨ X30 k) => hk.elim (fun h => hk323.lt k h) (fun h => hx324 k h)) _ hx)
       have hx326 := ltx (fun k hk => ltl (hx317 k hk) hz244) hg295.size
       have hk327 := (hk249.grown hg295 (fun k hk => ltl (hx317 k hk) hz244) nb).grown hg292 hx326 (rdnx (rowne ap325))
       have hx328 := ltx (ltx (ltx (ltx hx64 hg68.size) hg73.size) hg316.size) hg95.size
       have hx329 := ltx (ltx (ltx hx64 hg68.size) hg73.size) hg84.size
       have ap330 : ¬ X62 b88 := fun hx => nl ((lowb hbe92) _ rfl) (hx329 _ hx)
       have hx331 := ltx (fun k hk => ltl (hx328 k hk) hz244) hg295.size
       have hk332 := (hk250.grown hg295 (fun k hk => ltl (hx328 k hk) hz244) nb).grown hg292 hx331 (rowne ap330)
       have ap333 : ¬ (fun k => blk a265 = some k) b88 := fun hx => nl ((show ∀ k, blk a265 = some k → w99.heap.size ≤ k from hl268) _ hx) ((ltb hb248) _ rfl)
       have hk334 := (ho267.grown hg297 (fun _ h => h.elim) nb).grown hg292 (fun _ h => h.elim) (rdnn (rowne ap333))
       have hk335 := hb248.grown hg263 nb
       have ap336 : ¬ (fun k => blk a276 = some k) b88 := fun hx => nl ((show ∀ k, blk a276 = some k → w262.heap.size ≤ k from hl279) _ hx) ((ltb hk335) _ rfl)
       have hk337 := (ho278.grown hg289 (fun _ h => h.elim) nb).grown hg292 (fun _ h => h.elim) (rdnn (rowne ap336))
       exact ⟨hB301, hz302, hk311, hk313, hk314, hb293, hk327, hk332, hk334, hk337, hd, hs, okp [0, 1, 2, 3, 4, 5, 13, 14, 15, 16, 17, 18, 19, 20, 21] hok⟩
      ·replace h1 := ite_f hc285 h1
       refine gv_seq <| gv_region <| gv_cut_ops (J := fun a w338 => w273 = w338 ∧ a.defers = [] ∧ a.tmps.size = 215 ∧ Ok [(0, (.slice pa0_0 (length b_0) pc0_0)), (1, (.slice pa1_0 (length sub_1) pc1_0)), (2, (.int .i64 from_2)), (3, (.int .i64 to_3)), (4, (.bool last_4)), (5, (.int .i64 most_5)), (13, (.int .i64 r1.1)), (14, (bp b6)), (15, (.slice a26 (length r16.1) c27)), (16, (bp b35)), (17, (.slice a59 (length r45.1) c60)), (18, (bp b66)), (19, (bp b88)), (20, (.slice a265 (length r260) c266)), (21, (.slice a276 (length r270) c277)), (98, (.bool ((decide (to_3 < from_2)) || (decide (to_3 > ((length b_0 : Nat) : Int))))))] a.tmps) ?_ ?_
       ·skip
        refine pN 4 [99, 100, 101, 102] [(102, (.bool (decide (to_3 < from_2))))] ?_
        refine gv_split (s := 102) (g := (decide (to_3 < from_2))) kr (fun hc339 => ?_) (fun hc339 => ?_)
        ·skip
         refine pN 6 [98, 103, 104, 105, 106, 107] [(98, (.bool true))] ?_
         refine gv_nil <| gv_sub [0, 1, 2, 3, 4, 5, 13, 14, 15, 16, 17, 18, 19, 20, 21, 98] (σ' := [(0, (.slice pa0_0 (length b_0) pc0_0)), (1, (.slice pa1_0 (length sub_1) pc1_0)), (2, (.int .i64 from_2)), (3, (.int .i64 to_3)), (4, (.bool last_4)), (5, (.int .i64 most_5)), (13, (.int .i64 r1.1)), (14, (bp b6)), (15, (.slice a26 (length r16.1) c27)), (16, (bp b35)), (17, (.slice a59 (length r45.1) c60)), (18, (bp b66)), (19, (bp b88)), (20, (.slice a265 (length r260) c266)), (21, (.slice a276 (length r270) c277)), (98, (.bool true))]) kr ?_
         refine gv_goal fun a hd hs hok => ⟨rfl, hd, hs, ?_⟩
         obtain ⟨q0, q1, q2, q3, q4, q5, q13, q14, q15, q16, q17, q18, q19, q20, q21, q98, _⟩ := hok
         exact ⟨q0, q1, q2, q3, q4, q5, q13, q14, q15, q16, q17, q18, q19, q20, q21, (by rw [hc339]; exact q98), trivial⟩
        ·skip
         refine pN 6 [98, 103, 104, 105, 106, 107] [(98, (.bool (decide (to_3 > ((length b_0 : Nat) : Int)))))] ?_
         refine gv_nil <| gv_sub [0, 1, 2, 3, 4, 5, 13, 14, 15, 16, 17, 18, 19, 20, 21, 98] (σ' := [(0, (.slice pa0_0 (length b_0) pc0_0)), (1, (.slice pa1_0 (length sub_1) pc1_0)), (2, (.int .i64 from_2)), (3, (.int .i64 to_3)), (4, (.bool last_4)), (5, (.int .i64 most_5)), (13, (.int .i64 r1.1)), (14, (bp b6)), (15, (.slice a26 (length r16.1) c27)), (16, (bp b35)), (17, (.slice a59 (length r45.1) c60)), (18, (bp b66)), (19, (bp b88)), (20, (.slice a265 (length r260) c266)), (21, (.slice a276 (length r270) c277)), (98, (.bool (decide (to_3 > ((length b_0 : Nat) : Int)))))]) kr ?_
         refine gv_goal fun a hd hs hok => ⟨rfl, hd, hs, ?_⟩
         obtain ⟨q0, q1, q2, q3, q4, q5, q13, q14, q15, q16, q17, q18, q19, q20, q21, q98, _⟩ := hok
         exact ⟨q0, q1, q2, q3, q4, q5, q13, q14, q15, q16, q17, q18, q19, q20, q21, (by rw [hc339]; exact q98), trivial⟩
       ·rintro a w338 ⟨e, hd, hs, hok⟩; subst e
        refine gv_in ?_ hd hs hok
        clear hd hs hok
        refine gv_cond (b := ((decide (to_3 < from_2)) || (decide (to_3 > ((length b_0 : Nat) : Int))))) kr (fun hc340 => ?_) (fun hc340 => ?_)
        ·replace h1 := ite_t hc340 h1
         refine gv_region <| bindE h1 ?_; clear h1; intro r341 hr342 h1
         refine gv_call0 kr rfl kr enters12 (ref4_At_ok fuel 4 (-4) w273  r341 hr342) ?_
         rintro v345 w343 ⟨hg344, rfl⟩
         have hg350 := (grown_trans (grown_trans hg263 hg274) hg344)
         have hk351 := hb248.grown hg350 nb
         refine gv_store0 25 0 (.agg #[(.int .i64 r341.1), (.int .i64 r341.2)]) #[(.int .i64 r341.1), (.int .i64 r341.2)] hk351 kr kr kr ?_
         intro w346 hg347 hb348 hz349
         refine gv_nil ?_
         have e := sj h1; subst e
         refine gv_goal fun a hd hs hok => ?_
         have hg352 := (grown_trans hg274 hg344)
         have hB353 := bg hB272 hg352 nb
         have hB354 := bg hB82 hg84 nb
         have hlo355 : w0.heap.size ≤ b88 := lob hbe92 hB354.size
         have hB356 := bg hB353 hg347 (rowlo hlo355)
         have hz357 := (nt hg344.size hg347.size)
         have hk358 := hb14.grown hg24 nb
         have lt359 := ltl ((ltb hk358) _ rfl) ((lowb hbe39) _ rfl)
         have hk360 := hb43.grown hg57 nb
         have lt361 := ltl ((ltb hk360) _ rfl) ((lowb hbe70) _ rfl)
         have lt362 := ltt lt359 lt361
         have hk363 := hb74.grown hg84 nb
         have lt364 := ltl ((ltb hk363) _ rfl) ((lowb hbe92) _ rfl)
         have lt365 := ltt lt362 lt364
         have hk366 := (hb245.grown hg350 nb).grown hg347 (rowne (ng lt365))
         have lt367 := ltt lt361 lt364
         have hk368 := (hb246.grown hg350 nb).grown hg347 (rowne (ng lt367))
         have hk369 := (hb247.grown hg350 nb).grown hg347 (rowne (ng lt364))
         have hg370 := (grown_trans hg57 hg68)
         have hg371 := (grown_trans hg84 hg90)
         have hx372 := ltx (ltx (ltx (ltx hx50 hg370.size) hg73.size) hg371.size) hg95.size
         have hk373 := hk49.grown hg57 hx50 nb
         have hx374 := ltx hx50 hg57.size
         have ap375 : ¬ (fun k => blk a26 = some k ∨ X30 k) b66 := fun hx => nl ((lowb hbe70) _ rfl) ((fun k (hk : blk a26 = some k ∨ X30 k) => hk.elim (fun h => hk373.lt k h) (fun h => hx374 k h)) _ hx)
         have hx376 := ltx hx374 hg68.size
         have hx377 := ltx hx376 hg73.size
         have hk378 := ((hk49.grown hg370 hx50 nb).grown hg73 hx376 (rdnx (rowne ap375))).grown hg84 hx377 nb
         have hx379 := ltx hx377 hg84.size
         have ap380 : ¬ (fun k => blk a26 = some k ∨ X30 k) b88 := fun hx => nl ((lowb hbe92) _ rfl) ((fun k (hk : blk a26 = some k ∨ X30 k) => hk.elim (fun h => hk378.lt k h) (fun h => hx379 k h)) _ hx)
         have hx381 := ltx (fun k hk => ltl (hx372 k hk) hz244) hg350.size
         have hk382 := (hk249.grown hg350 (fun k hk => ltl (hx372 k hk) hz244) nb).grown hg347 hx381 (rdnx (rowne ap380))
         have hx383 := ltx (ltx (ltx (ltx hx64 hg68.size) hg73.size) hg371.size) hg95.size
         have hx384 := ltx (ltx (ltx hx64 hg68.size) hg73.size) hg84.size
         have ap385 : ¬ X62 b88 := fun hx => nl ((lowb hbe92) _ rfl) (hx384 _ hx)
         have hx386 := ltx (fun k hk => ltl (hx383 k hk) hz244) hg350.size
         have hk387 := (hk250.grown hg350 (fun k hk => ltl (hx383 k hk) hz244) nb).grown hg347 hx386 (rowne ap385)
         have ap388 : ¬ (fun k => blk a265 = some k) b88 := fun hx => nl ((show ∀ k, blk a265 = some k → w99.heap.size ≤ k from hl268) _ hx) ((ltb hb248) _ rfl)
         have hk389 := (ho267.grown hg352 (fun _ h => h.elim) nb).grown hg347 (fun _ h => h.elim) (rdnn (rowne ap388))
         have hk390 := hb248.grown hg263 nb
         have ap391 : ¬ (fun k => blk a276 = some k) b88 := fun hx => nl ((show ∀ k, blk a276 = some k → w262.heap.size ≤ k from hl279) _ hx) ((ltb hk390) _ rfl)
         have hk392 := (ho278.grown hg344 (fun _ h => h.elim) nb).grown hg347 (fun _ h => h.elim) (rdnn (rowne ap391))
         exact ⟨hB356, hz357, hk366, hk368, hk369, hb348, hk382, hk387, hk389, hk392, hd, hs, okp [0, 1, 2, 3, 4, 5, 13, 14, 15, 16, 17, 18, 19, 20, 21] hok⟩
        ·replace h1 := ite_f hc340 h1
         refine gv_skip ?_
         have e := sj h1; subst e
         refine gv_goal fun a hd hs hok => ?_
         have hB393 := bg hB272 hg274 nb
         have hg394 := (grown_trans hg263 hg274)
         have hk395 := hb245.grown hg394 nb
         have hk396 := hb246.grown hg394 nb
         have hk397 := hb247.grown hg394 nb
         have hk398 := hb248.grown hg394 nb
         have hg399 := (grown_trans hg57 hg68)
         have hg400 := (grown_trans hg84 hg90)
         have hx401 := ltx (ltx (ltx (ltx hx50 hg399.size) hg73.size) hg400.size) hg95.size
         have hk402 := hk249.grown hg394 (fun k hk => ltl (hx401 k hk) hz244) nb
         have hx403 := ltx (ltx (ltx (ltx hx64 hg68.size) hg73.size) hg400.size) hg95.size
         have hk404 := hk250.grown hg394 (fun k hk => ltl (hx403 k hk) hz244) nb
         have hk405 := ho267.grown hg274 (fun _ h => h.elim) nb
         exact ⟨hB393, nrf, hk395, hk396, hk397, hk398, hk402, hk404, hk405, ho278, hd, hs, okp [0, 1, 2, 3, 4, 5, 13, 14, 15, 16, 17, 18, 19, 20, 21] hok⟩
     ·rintro a w284 ⟨hB406, hz407, hb408, hb409, hb410, hb411, hk412, hk413, hk414, hk415, hd, hs, hok⟩
      refine gv_in ?_ hd hs hok
      clear hd hs hok
      clear ho278 hB272 hr271 hr261 hc251 hk250 hB243
      refine gv_blk <| gv_seq <| gv_seq <| gv_region <| bindE h0 ?_; clear h0; intro j416 h1 h0
      refine gv_cut_ops (J := fun a w417 => Below w0.heap.size w0 w417 ∧ w284.heap.size ≤ w417.heap.size ∧ Box w417 b35 25 #[(.int .i64 r16.2.1), (.int .i64 r16.2.2)] ∧ Box w417 b66 25 #[(.int .i64 r45.2.1), (.int .i64 r45.2.2)] ∧ Gv.Own (slE bE) 22 w417 X30 a26 c27 r16.1 ∧ Rd bE w417 X62 a59 c60 r45.1 ∧ Gv.Own (iE .i64) 3 w417 (fun _ => False) a265 c266 r260 ∧ Gv.Own (iE .i64) 3 w417 (fun _ => False) a276 c277 r270 ∧ a.defers = [] ∧ a.tmps.size = 215 ∧ Ok [(0, (.slice pa0_0 (length b_0) pc0_0)), (1, (.slice pa1_0 (length sub_1) pc1_0)), (5, (.int .i64 most_5)), (15, (.slice a26 (length r16.1) c27)), (16, (bp b35)), (17, (.slice a59 (length r45.1) c60)), (18, (bp b66)), (20, (.slice a265 (length r260) c266)), (21, (.slice a276 (length r270) c277)), (135, (.bool j416))] a.tmps) ?_ ?_
      ·skip
       refine gv_loadBox (t := 25) (b := b6) (t' := 25) (fr := (0, 0)) #[(.int .i64 r1.2.1), (.int .i64 r1.2.2)] [] (fun e => by cases e) rfl rfl rfl kr kr kr kr (inw0 hb408) rfl ?_
       refine gv_loadBox (t := 25) (b := b88) (t' := 25) (fr := (0, 0)) #[(.int .i64 j283.1), (.int .i64 j283.2)] [] (fun e => by cases e) rfl rfl rfl kr kr kr kr (inw0 hb411) rfl ?_
       refine gv_eqs (t := 25) (op := .neq) (x := (.tmp 109)) (y := (.tmp 110)) (xs := #[(.int .i64 r1.2.1), (.int .i64 r1.2.2)]) (ys := #[(.int .i64 j283.1), (.int .i64 j283.2)]) (!((r1.2.1 == j283.1) && (r1.2.2 == j283.2))) [] (fun e => by cases e) rfl rfl rfl kr kr (fun w' => eqs25neq r1.2.1 r1.2.2 j283.1 j283.2 _ _ w') rfl ?_
       refine pN 1 [112] [(112, (.bool (!((r1.2.1 == j283.1) && (r1.2.2 == j283.2)))))] ?_
       refine gv_split (s := 112) (g := (!((r1.2.1 == j283.1) && (r1.2.2 == j283.2)))) kr (fun hc418 => ?_) (fun hc418 => ?_)
       ·skip
        replace h1 := ite_t hc418 h1
        refine pN 23 [113, 114, 115, 116, 117, 118, 119, 120, 121, 122, 123, 124, 125, 126, 127, 128, 129, 130, 131, 132, 133, 134, 135] [(135, (.bool true))] ?_
        refine gv_nil ?_
        have e := sj h1; subst e
        refine gv_goal fun a hd hs hok => ?_
        exact ⟨hB406, nrf, hb409, hb410, hk412, hk413, hk414, hk415, hd, hs, okp [0, 1, 5, 15, 16, 17, 18, 20, 21, 135] hok⟩
       ·skip
        replace h1 := ite_f hc418 h1
        refine pN 1 [113] [(113, (bp b88))] ?_
        refine gv_load (t := 3) (A := ⟨b88, 0, none⟩) (.int .i64 j283.1) [] (fun e => by cases e) rfl rfl rfl kr kr kr (inw0 (hb411.cell 0 rfl)) rfl ?_
        refine pN 2 [115, 116] [(116, (.bool (j283.1 != 0)))] ?_
        refine gv_split (s := 116) (g := (j283.1 != 0)) kr (fun hc419 => ?_) (fun hc419 => ?_)
        ·skip
         replace h1 := ite_t hc419 h1
         refine pN 5 [117, 118, 119, 120, 121] [(121, (.bool (r1.1 != 0)))] ?_
         refine gv_split (s := 121) (g := (r1.1 != 0)) kr (fun hc420 => ?_) (fun hc420 => ?_)
         ·skip
          replace h1 := ite_t hc420 h1
          refine pN 14 [122, 123, 124, 125, 126, 127, 128, 129, 130, 131, 132, 133, 134, 135] [(135, (.bool true))] ?_
          refine gv_nil ?_
          have e := sj h1; subst e
          refine gv_goal fun a hd hs hok => ?_
          exact ⟨hB406, nrf, hb409, hb410, hk412, hk413, hk414, hk415, hd, hs, okp [0, 1, 5, 15, 16, 17, 18, 20, 21, 135] hok⟩
         ·skip
          replace h1 := ite_f hc420 h1
          refine pN 1 [122] [(122, (bp b88))] ?_
          refine gv_load (t := 3) (A := ⟨b88, 0, none⟩) (.int .i64 j283.1) [] (fun e => by cases e) rfl rfl rfl kr kr kr (inw0 (hb411.cell 0 rfl)) rfl ?_
          refine pN 2 [124, 125] [(125, (.bool (j283.1 == 0)))] ?_
          refine gv_split (s := 125) (g := (j283.1 == 0)) kr (fun hc421 => ?_) (fun hc421 => ?_)
          ·skip
           replace h1 := ite_t hc421 h1
           refine pN 6 [126, 127, 128, 129, 130, 131] [(126, (.int .i64 r1.1)), (127, (.slice a265 (length r260) c266)), (128, (.slice a276 (length r270) c277)), (129, (.int .i64 from_2)), (130, (.int .i64 to_3)), (131, (.bool last_4))] ?_
           refine bindE h1 ?_; clear h1; intro r422 hr423 h1
           refine gv_call0 kr rfl kr enters34 (ref4_Occurs_ok fuel a265 c266 r260 a276 c277 r270 from_2 to_3 last_4 w284 (fun k => (fun k => blk a265 = some k) k ∨ (fun k => blk a276 = some k) k) (fun k hk => (hk).elim (fun h => (fun k (hk : blk a265 = some k) => hk414.lt k hk) k h) (fun h => (fun k (hk : blk a276 = some k) => hk415.lt k hk) k h)) ((hk414.rd (Y := fun k => blk a265 = some k) (fun _ h => h.elim) (fun g e => e)).wide (fun k hk => (.inl hk))) ((hk415.rd (Y := fun k => blk a276 = some k) (fun _ h => h.elim) (fun g e => e)).wide (fun k hk => (.inr hk))) r422 hr423) ?_
           rintro v426 w424 ⟨hg425, rfl⟩
           refine pN 3 [133, 134, 135] [(135, (.bool (r1.1 != r422)))] ?_
           refine gv_sub [0, 1, 5, 15, 16, 17, 18, 20, 21, 135] (σ' := [(0, (.slice pa0_0 (length b_0) pc0_0)), (1, (.slice pa1_0 (length sub_1) pc1_0)), (5, (.int .i64 most_5)), (15, (.slice a26 (length r16.1) c27)), (16, (bp b35)), (17, (.slice a59 (length r45.1) c60)), (18, (bp b66)), (20, (.slice a265 (length r260) c266)), (21, (.slice a276 (length r270) c277)), (135, (.bool (r1.1 != r422)))]) kr ?_
           refine gv_nil ?_
           have e := sj h1; subst e
           refine gv_goal fun a hd hs hok => ?_
           have hB427 := bg hB406 hg425 nb
           have hz428 := hg425.size
           have hk429 := hb409.grown hg425 nb
           have hk430 := hb410.grown hg425 nb
           have hg431 := (grown_trans hg57 hg68)
           have hg432 := (grown_trans hg84 hg90)
           have hx433 := ltx (ltx (ltx (ltx hx50 hg431.size) hg73.size) hg432.size) hg95.size
           have hg434 := (grown_trans hg263 hg274)
           have hx435 := ltx (fun k hk => ltl (hx433 k hk) hz244) hg434.size
           have hk436 := hk412.grown hg425 (fun k hk => ltl (hx435 k hk) hz407) nb
           have hx437 := ltx (ltx (ltx (ltx hx64 hg68.size) hg73.size) hg432.size) hg95.size
           have hx438 := ltx (fun k hk => ltl (hx437 k hk) hz244) hg434.size
           have hk439 := hk413.grown hg425 (fun k hk => ltl (hx438 k hk) hz407) nb
           have hk440 := hk414.grown hg425 (fun _ h => h.elim) nb
           have hk441 := hk415.grown hg425 (fun _ h => h.elim) nb
           exact ⟨hB427, hz428, hk429, hk430, hk436, hk439, hk440, hk441, hd, hs, okp [0, 1, 5, 15, 16, 17, 18, 20, 21, 135] hok⟩
          ·skip
           replace h1 := ite_f hc421 h1
           refine pN 10 [126, 127, 128, 129, 130, 131, 132, 133, 134, 135] [(135, (.bool false))] ?_
           refine gv_nil ?_
           have e := sj h1; subst e
           refine gv_goal fun a hd hs hok => ?_
           exact ⟨hB406, nrf, hb409, hb410, hk412, hk413, hk414, hk415, hd, hs, okp [0, 1, 5, 15, 16, 17, 18, 20, 21, 135] hok⟩
        ·skip
         replace h1 := ite_f hc419 h1
         refine pN 6 [117, 118, 119, 120, 121, 122] [(121, (.bool false)), (122, (bp b88))] ?_
         refine gv_load (t := 3) (A := ⟨b88, 0, none⟩) (.int .i64 j283.1) [] (fun e => by cases e) rfl rfl rfl kr kr kr (inw0 (hb411.cell 0 rfl)) rfl ?_
         refine pN 2 [124, 125] [(125, (.bool (j283.1 == 0)))] ?_
         refine gv_split (s := 125) (g := (j283.1 == 0)) kr (fun hc442 => ?_) (fun hc442 => ?_)
         ·skip
          replace h1 := ite_t hc442 h1
          refine pN 6 [126, 127, 128, 129, 130, 131] [(126, (.int .i64 r1.1)), (127, (.slice a265 (length r260) c266)), (128, (.slice a276 (length r270) c277)), (129, (.int .i64 from_2)), (130, (.int .i64 to_3)), (131, (.bool last_4))] ?_
          refine bindE h1 ?_; clear h1; intro r443 hr444 h1
          refine gv_call0 kr rfl kr enters34 (ref4_Occurs_ok fuel a265 c266 r260 a276 c277 r270 from_2 to_3 last_4 w284 (fun k => (fun k => blk a265 = some k) k ∨ (fun k => blk a276 = some k) k) (fun k hk => (hk).elim (fun h => (fun k (hk : blk a265 = some k) => hk414.lt k hk) k h) (fun h => (fun k (hk : blk a276 = some k) => hk415.lt k hk) k h)) ((hk414.rd (Y := fun k => blk a265 = some k) (fun _ h => h.elim) (fun g e => e)).wide (fun k hk => (.inl hk))) ((hk415.rd (Y := fun k => blk a276 = some k) (fun _ h => h.elim) (fun g e => e)).wide (fun k hk => (.inr hk))) r443 hr444) ?_
          rintro v447 w445 ⟨hg446, rfl⟩
          clear hr444 hc442 hc419 hc418 hb411 hb408 hb248 hb245 hbe92 hB82 hb74 hg42 hg37 hx31 hl29 hg24 hlo21 hb14
          refine pN 3 [133, 134, 135] [(135, (.bool (r1.1 != r443)))] ?_
          refine gv_nil ?_
          have e := sj h1; subst e
          refine gv_goal fun a hd hs hok => ?_
          have hB448 := bg hB406 hg446 nb
          have hz449 := hg446.size
          have hk450 := hb409.grown hg446 nb
          have hk451 := hb410.grown hg446 nb
          have hg452 := (grown_trans hg57 hg68)
          have hg453 := (grown_trans hg84 hg90)
          have hx454 := ltx (ltx (ltx (ltx hx50 hg452.size) hg73.size) hg453.size) hg95.size
          have hg455 := (grown_trans hg263 hg274)
          have hx456 := ltx (fun k hk => ltl (hx454 k hk) hz244) hg455.size
          have hk457 := hk412.grown hg446 (fun k hk => ltl (hx456 k hk) hz407) nb
          have hx458 := ltx (ltx (ltx (ltx hx64 hg68.size) hg73.size) hg453.size) hg95.size
          have hx459 := ltx (fun k hk => ltl (hx458 k hk) hz244) hg455.size
          have hk460 := hk413.grown hg446 (fun k hk => ltl (hx459 k hk) hz407) nb
          have hk461 := hk414.grown hg446 (fun _ h => h.elim) nb
          have hk462 := hk415.grown hg446 (fun _ h => h.elim) nb
          exact ⟨hB448, hz449, hk450, hk451, hk457, hk460, hk461, hk462, hd, hs, okp [0, 1, 5, 15, 16, 17, 18, 20, 21, 135] hok⟩
         ·skip
          replace h1 := ite_f hc442 h1
          refine pN 10 [126, 127, 128, 129, 130, 131, 132, 133, 134, 135] [(135, (.bool false))] ?_
          refine gv_nil ?_
          have e := sj h1; subst e
          refine gv_goal fun a hd hs hok => ?_
          exact ⟨hB406, nrf, hb409, hb410, hk412, hk413, hk414, hk415, hd, hs, okp [0, 1, 5, 15, 16, 17, 18, 20, 21, 135] hok⟩
      ·rintro a w417 ⟨hB463, hz464, hb465, hb466, hk467, hk468, hk469, hk470, hd, hs, hok⟩
       refine gv_in ?_ hd hs hok
       clear hd hs hok
       clear hk415 hk414 hk413 hk412 hb411 hb410 hb409 hb408 hB406 hb248 hb245 hbe92 hB82 hb74 hg42 hg37 hx31 hl29 hg24 hlo21 hb14
       refine gv_cond (b := j416) kr (fun hc471 => ?_) (fun hc471 => ?_)
       ·replace h0 := ite_t hc471 h0
        refine gv_seq <| gv_region <| pN 1 [12] [(12, (.bool false))] ?_
        refine gv_nil <| gv_cret ?_
        have e := sj h0; subst e
        refine gv_ret (gv_done [(.bool false)] rfl ⟨kr, trivial⟩ ?_)
        exact ⟨grown_of_below hB463, rfl⟩
       ·replace h0 := ite_f hc471 h0
        refine gv_skip <| gv_seq <| gv_seq <| gv_region <| pN 3 [136, 137, 138] [(138, (.bool (((length sub_1 : Nat) : Int) == 0)))] ?_
        refine gv_nil <| gv_cond (b := (((length sub_1 : Nat) : Int) == 0)) kr (fun hc472 => ?_) (fun hc472 => ?_)
        ·replace h0 := ite_t hc472 h0
         refine gv_seq <| bindE h0 ?_; clear h0; intro j473 h1 h0
         refine gv_cut_code (J := fun a w474 => Below w0.heap.size w0 w474 ∧ w417.heap.size ≤ w474.heap.size ∧ a.defers = [] ∧ a.tmps.size = 215 ∧ Ok [(12, (.bool j473))] a.tmps) ?_ ?_
         ·skip
          refine gv_drawA kr ?_
          intro w475 hg476
          refine gv_stage (Cls w475 []) [0, 1] [(0, some true), (1, some false)] (bA 9 [0, 1]) 7 kr kr (Cls.refl _ _) ?_
          have hC477 := Cls.refl w475 []
          have hk478 := hb465.grown hg476 nb
          refine gv_loadBox (t := 25) (b := b35) (t' := 25) (fr := (0, 0)) #[(.int .i64 r16.2.1), (.int .i64 r16.2.2)] [] (fun e => by cases e) rfl rfl rfl kr kr kr kr (inw1 fun w' hC' => (hC'.box hk478 nm_nil)) rfl ?_
          refine bindE h1 ?_; clear h1; intro r479 hr480 h1
          refine gv_call (f := 12) (vs := [(.int .i64 10), (.int .i64 (-2))]) (cap := []) _ (by decide) rfl rfl rfl kr kr enters12 (ref4_At_ok fuel 10 (-2) w475  r479 hr480) ?_
          rintro v483 w481 ⟨hg482, rfl⟩
          refine ⟨(fun _ => hC477.grown hg482 nb), ?_⟩
          refine gv_nil <| gv_goA ?_
          refine gv_pre [2, 3, 4, 5, 6, 7, 8] (bA 9 [0, 1, 2, 3, 4, 5, 6, 7, 8]) 0 kr kr ?_
          refine gv_eqs (t := 25) (op := .eql) (x := (.tmp 139)) (y := (.tmp 140)) (xs := #[(.int .i64 r16.2.1), (.int .i64 r16.2.2)]) (ys := #[(.int .i64 r479.1), (.int .i64 r479.2)]) ((r16.2.1 == r479.1) && (r16.2.2 == r479.2)) [] (fun e => by cases e) rfl rfl rfl kr kr (fun w' => eqs25eql r16.2.1 r16.2.2 r479.1 r479.2 _ _ w') rfl ?_
          refine pN 1 [142] [(142, (.bool ((r16.2.1 == r479.1) && (r16.2.2 == r479.2))))] ?_
          refine gv_split (s := 142) (g := ((r16.2.1 == r479.1) && (r16.2.2 == r479.2))) kr (fun hc484 => ?_) (fun hc484 => ?_)
          ·skip
           replace h1 := ite_t hc484 h1
           refine pN 5 [12, 143, 144, 145, 146] [(12, (.bool (((length r16.1 : Nat) : Int) == 0)))] ?_
           refine gv_nil <| gv_goA ?_
           refine gv_stageE kr ?_
           have e := sj h1; subst e
           refine gv_goal fun a hd hs hok => ?_
           have hg485 := (grown_trans hg476 hg482)
           have hB486 := bg hB463 hg485 nb
           have hz487 := (nt hg476.size hg482.size)
           exact ⟨hB486, hz487, hd, hs, okp [12] hok⟩
          ·skip
           replace h1 := ite_f hc484 h1
           refine pN 5 [12, 143, 144, 145, 146] [(12, (.bool false))] ?_
           refine gv_nil <| gv_goA ?_
           refine gv_stageE kr ?_
           have e := sj h1; subst e
           refine gv_goal fun a hd hs hok => ?_
           have hg488 := (grown_trans hg476 hg482)
           have hB489 := bg hB463 hg488 nb
           have hz490 := (nt hg476.size hg482.size)
           exact ⟨hB489, hz490, hd, hs, okp [12] hok⟩
         ·rintro a w474 ⟨hB491, hz492, hd, hs, hok⟩
          refine gv_in ?_ hd hs hok
          clear hd hs hok
          clear hz492 hc472 hc471 hk470 hk469 hk468 hk467 hb466 hb465 hz464 hB463 hz407 hl280 hl279 hg274 hl269 hl268 ho267 hg263 hk249 hb247 hb246 hz244 hg95 hg90 hg84 hlo81 hg73 hbe70 hg68 hx65 hx64 hx63 hg57 hlo54 hx50 hk49 ap47 hb43 hbe39 hx34 hx33 hl32 ho28
          refine gv_cret ?_
          have e := sj h0; subst e
          refine gv_ret (gv_done [(.bool j473)] rfl ⟨kr, trivial⟩ ?_)
          exact ⟨grown_of_below hB491, rfl⟩
        ·replace h0 := ite_f hc472 h0
         refine gv_skip <| gv_seq <| gv_region <| pN 2 [147, 148] [(147, (.slice a265 (length r260) c266)), (148, (.slice a276 (length r270) c277))] ?_
         refine bindE h0 ?_; clear h0; intro r493 hr494 h0
         refine gv_call0 kr rfl kr enters36 (ref4_Places_ok fuel a265 c266 r260 a276 c277 r270 w417 (fun k => (fun k => blk a265 = some k) k ∨ (fun k => blk a276 = some k) k) (fun k hk => (hk).elim (fun h => (fun k (hk : blk a265 = some k) => hk469.lt k hk) k h) (fun h => (fun k (hk : blk a276 = some k) => hk470.lt k hk) k h)) ((hk469.rd (Y := fun k => blk a265 = some k) (fun _ h => h.elim) (fun g e => e)).wide (fun k hk => (.inl hk))) ((hk470.rd (Y := fun k => blk a276 = some k) (fun _ h => h.elim) (fun g e => e)).wide (fun k hk => (.inr hk))) r493 hr494) ?_
         rintro v497 w495 ⟨hg496, a498, c499, rfl, ho500, hl501⟩
         have hl502 : ∀ g, blk a498 = some g → w0.heap.size ≤ g := fun g e => Nat.le_trans hB463.size (hl501 g e)
         refine pN 1 [150] [(150, (.int .i64 most_5))] ?_
         refine bindE h0 ?_; clear h0; intro r503 hr504 h0
         refine gv_call0 kr rfl kr enters35 (ref4_FirstOf_ok fuel a498 c499 r493 most_5 w495 (fun k => (fun k => blk a498 = some k) k) (fun k hk => (fun k (hk : blk a498 = some k) => ho500.lt k hk) k hk) ((ho500.rd (Y := fun k => blk a498 = some k) (fun _ h => h.elim) (fun g e => e)).wide (fun k hk => hk)) r503 hr504) ?_
         rintro v507 w505 ⟨hg506, a508, c509, X511, rfl, ho510, hx512⟩
         have hx513 : ∀ k, X511 k → k < w505.heap.size := fun k hk => (hx512 k hk).1
         have hB515 := bg hB463 hg496 nb
         have hx514 : ∀ k, X511 k → X0 k ∨ w0.heap.size ≤ k := fun k hk => (hx512 k hk).2.elim (fun h => (fun k (hk : blk a498 = some k) => Or.inr (hl502 k hk)) k h) (fun h => .inr (Nat.le_trans hB515.size h))
         refine pN 1 [22] [(22, (.slice a508 (length r503) c509))] ?_
         refine gv_nil <| gv_seq <| gv_seq <| gv_region <| pN 3 [152, 153, 154] [(154, (.bool (decide (((length r503 : Nat) : Int) ≥ 1000))))] ?_
         refine gv_nil <| gv_cond (b := (decide (((length r503 : Nat) : Int) ≥ 1000))) kr (fun hc516 => ?_) (fun hc516 => ?_)
         ·replace h0 := ite_t hc516 h0
          refine gv_seq <| bindE h0 ?_; clear h0; intro j517 h1 h0
          refine gv_cut_code (J := fun a w518 => Below w0.heap.size w0 w518 ∧ w505.heap.size ≤ w518.heap.size ∧ a.defers = [] ∧ a.tmps.size = 215 ∧ Ok [(12, (.bool j517))] a.tmps) ?_ ?_
          ·skip
           refine gv_drawA kr ?_
           intro w519 hg520
           refine gv_stage (Cls w519 []) [0, 1] [(0, some true), (1, some false)] (bA 9 [0, 1]) 7 kr kr (Cls.refl _ _) ?_
           have hC521 := Cls.refl w519 []
           have hg522 := (grown_trans (grown_trans hg496 hg506) hg520)
           have hk523 := hb465.grown hg522 nb
           refine gv_loadBox (t := 25) (b := b35) (t' := 25) (fr := (0, 0)) #[(.int .i64 r16.2.1), (.int .i64 r16.2.2)] [] (fun e => by cases e) rfl rfl rfl kr kr kr kr (inw1 fun w' hC' => (hC'.box hk523 nm_nil)) rfl ?_
           refine bindE h1 ?_; clear h1; intro r524 hr525 h1
           refine gv_call (f := 12) (vs := [(.int .i64 2), (.int .i64 (-1))]) (cap := []) _ (by decide) rfl rfl rfl kr kr enters12 (ref4_At_ok fuel 2 (-1) w519  r524 hr525) ?_
           rintro v528 w526 ⟨hg527, rfl⟩
           refine ⟨(fun _ => hC521.grown hg527 nb), ?_⟩
           refine gv_nil <| gv_goA ?_
           refine gv_pre [2, 3, 4, 5, 6, 7, 8] (bA 9 [0, 1, 2, 3, 4, 5, 6, 7, 8]) 0 kr kr ?_
           refine gv_eqs (t := 25) (op := .eql) (x := (.tmp 155)) (y := (.tmp 156)) (xs := #[(.int .i64 r16.2.1), (.int .i64 r16.2.2)]) (ys := #[(.int .i64 r524.1), (.int .i64 r524.2)]) ((r16.2.1 == r524.1) && (r16.2.2 == r524.2)) [] (fun e => by cases e) rfl rfl rfl kr kr (fun w' => eqs25eql r16.2.1 r16.2.2 r524.1 r524.2 _ _ w') rfl ?_
           refine pN 1 [158] [(158, (.bool ((r16.2.1 == r524.1) && (r16.2.2 == r524.2))))] ?_
           refine gv_split (s := 158) (g := ((r16.2.1 == r524.1) && (r16.2.2 == r524.2))) kr (fun hc529 => ?_) (fun hc529 => ?_)
           ·skip
            replace h1 := ite_t hc529 h1
            refine pN 5 [12, 159, 160, 161, 162] [(12, (.bool (((length r16.1 : Nat) : Int) == 0)))] ?_
            refine gv_nil <| gv_goA ?_
            refine gv_stageE kr ?_
            have e := sj h1; subst e
            refine gv_goal fun a hd hs hok => ?_
            have hg530 := (grown_trans (grown_trans hg506 hg520) hg527)
            have hB531 := bg hB515 hg530 nb
            have hz532 := (nt hg520.size hg527.size)
            exact ⟨hB531, hz532, hd, hs, okp [12] hok⟩
           ·skip
            replace h1 := ite_f hc529 h1
            refine pN 5 [12, 159, 160, 161, 162] [(12, (.bool false))] ?_
            refine gv_nil <| gv_goA ?_
            refine gv_stageE kr ?_
            have e := sj h1; subst e
            refine gv_goal fun a hd hs hok => ?_
            have hg533 := (grown_trans (grown_trans hg506 hg520) hg527)
            have hB534 := bg hB515 hg533 nb
            have hz535 := (nt hg520.size hg527.size)
            exact ⟨hB534, hz535, hd, hs, okp [12] hok⟩
          ·rintro a w518 ⟨hB536, hz537, hd, hs, hok⟩
           refine gv_in ?_ hd hs hok
           clear hd hs hok
           clear hz537 hc516 hx514 hB515 hx513 hx512 ho510 hg506 hr504 hl502 hl501 ho500 hg496 hr494 hc472 hc471 hk470 hk469 hk468 hk467 hb466 hb465 hz464 hB463 hz407 hl280 hl279 hg274 hl269 hl268 ho267 hg263 hk249 hb247 hb246 hz244 hg95 hg90 hg84 hlo81 hg73 hbe70 hg68 hx65 hx64 hx63 hg57 hlo54 hx50 hk49 ap47 hb43 hbe39 hx34 hx33 hl32 ho28
           refine gv_cret ?_
           have e := sj h0; subst e
           refine gv_ret (gv_done [(.bool j517)] rfl ⟨kr, trivial⟩ ?_)
           exact ⟨grown_of_below hB536, rfl⟩
         ·replace h0 := ite_f hc516 h0
          refine gv_skip <| gv_seq <| gv_seq <| gv_region <| bindE h0 ?_; clear h0; intro j538 h1 h0
          refine gv_cut_ops (J := fun a w539 => Below w0.heap.size w0 w539 ∧ w505.heap.size ≤ w539.heap.size ∧ Gv.Own (slE bE) 22 w539 X30 a26 c27 r16.1 ∧ Rd (iE .i64) w539 X511 a508 c509 r503 ∧ a.defers = [] ∧ a.tmps.size = 215 ∧ Ok [(0, (.slice pa0_0 (length b_0) pc0_0)), (1, (.slice pa1_0 (length sub_1) pc1_0)), (15, (.slice a26 (length r16.1) c27)), (22, (.slice a508 (length r503) c509)), (184, (.bool j538))] a.tmps) ?_ ?_
          ·skip
           refine pN 1 [163] [(163, (bp b35))] ?_
           have hg540 := (grown_trans hg496 hg506)
           have hk541 := hb465.grown hg540 nb
           refine gv_load (t := 3) (A := ⟨b35, 0, none⟩) (.int .i64 r16.2.1) [] (fun e => by cases e) rfl rfl rfl kr kr kr (inw0 (hk541.cell 0 rfl)) rfl ?_
           refine pN 2 [165, 166] [(166, (.bool (r16.2.1 != 0)))] ?_
           refine gv_split (s := 166) (g := (r16.2.1 != 0)) kr (fun hc542 => ?_) (fun hc542 => ?_)
           ·skip
            replace h1 := ite_t hc542 h1
            refine pN 18 [167, 168, 169, 170, 171, 172, 173, 174, 175, 176, 177, 178, 179, 180, 181, 182, 183, 184] [(184, (.bool true))] ?_
            refine gv_nil ?_
            have e := sj h1; subst e
            refine gv_goal fun a hd hs hok => ?_
            have hB543 := bg hB515 hg506 nb
            have hg544 := (grown_trans hg57 hg68)
            have hg545 := (grown_trans hg84 hg90)
            have hx546 := ltx (ltx (ltx (ltx hx50 hg544.size) hg73.size) hg545.size) hg95.size
            have hg547 := (grown_trans hg263 hg274)
            have hx548 := ltx (fun k hk => ltl (hx546 k hk) hz244) hg547.size
            have hk549 := hk467.grown hg540 (fun k hk => ltl ((fun k hk => ltl (hx548 k hk) hz407) k hk) hz464) nb
            exact ⟨hB543, nrf, hk549, ho510, hd, hs, okp [0, 1, 15, 22, 184] hok⟩
           ·skip
            replace h1 := ite_f hc542 h1
            refine pN 1 [167] [(167, (bp b66))] ?_
            have hk550 := hb466.grown hg540 nb
            refine gv_load (t := 3) (A := ⟨b66, 0, none⟩) (.int .i64 r45.2.1) [] (fun e => by cases e) rfl rfl rfl kr kr kr (inw0 (hk550.cell 0 rfl)) rfl ?_
            refine pN 3 [169, 170, 171] [(171, (.bool (r45.2.1 != 0)))] ?_
            refine gv_split (s := 171) (g := (r45.2.1 != 0)) kr (fun hc551 => ?_) (fun hc551 => ?_)
            ·skip
             replace h1 := ite_t hc551 h1
             refine pN 13 [172, 173, 174, 175, 176, 177, 178, 179, 180, 181, 182, 183, 184] [(184, (.bool true))] ?_
             refine gv_sub [0, 1, 15, 22, 184] (σ' := [(0, (.slice pa0_0 (length b_0) pc0_0)), (1, (.slice pa1_0 (length sub_1) pc1_0)), (15, (.slice a26 (length r16.1) c27)), (22, (.slice a508 (length r503) c509)), (184, (.bool true))]) kr ?_
             refine gv_nil ?_
             have e := sj h1; subst e
             refine gv_goal fun a hd hs hok => ?_
             have hB552 := bg hB515 hg506 nb
             have hg553 := (grown_trans hg57 hg68)
             have hg554 := (grown_trans hg84 hg90)
             have hx555 := ltx (ltx (ltx (ltx hx50 hg553.size) hg73.size) hg554.size) hg95.size
             have hg556 := (grown_trans hg263 hg274)
             have hx557 := ltx (fun k hk => ltl (hx555 k hk) hz244) hg556.size
             have hk558 := hk467.grown hg540 (fun k hk => ltl ((fun k hk => ltl (hx557 k hk) hz407) k hk) hz464) nb
             exact ⟨hB552, nrf, hk558, ho510, hd, hs, okp [0, 1, 15, 22, 184] hok⟩
            ·skip
             replace h1 := ite_f hc551 h1
             refine pN 8 [172, 173, 174, 175, 176, 177, 178, 179] [(179, (.bool (((length r16.1 : Nat) : Int) != (IntKind.i64.wrap (((length r503 : Nat) : Int) + 1)))))] ?_
             refine gv_sub [0, 1, 15, 17, 22, 179] (σ' := [(0, (.slice pa0_0 (length b_0) pc0_0)), (1, (.slice pa1_0 (length sub_1) pc1_0)), (15, (.slice a26 (length r16.1) c27)), (17, (.slice a59 (length r45.1) c60)), (22, (.slice a508 (length r503) c509)), (179, (.bool (((length r16.1 : Nat) : Int) != (IntKind.i64.wrap (((length r503 : Nat) : Int) + 1)))))]) kr ?_
             refine gv_split (s := 179) (g := (((length r16.1 : Nat) : Int) != (IntKind.i64.wrap (((length r503 : Nat) : Int) + 1)))) kr (fun hc559 => ?_) (fun hc559 => ?_)
             ·skip
              replace h1 := ite_t hc559 h1
              refine pN 5 [180, 181, 182, 183, 184] [(184, (.bool true))] ?_
              refine gv_nil ?_
              have e := sj h1; subst e
              refine gv_goal fun a hd hs hok => ?_
              have hB560 := bg hB515 hg506 nb
              have hg561 := (grown_trans hg57 hg68)
              have hg562 := (grown_trans hg84 hg90)
              have hx563 := ltx (ltx (ltx (ltx hx50 hg561.size) hg73.size) hg562.size) hg95.size
              have hg564 := (grown_trans hg263 hg274)
              have hx565 := ltx (fun k hk => ltl (hx563 k hk) hz244) hg564.size
              have hk566 := hk467.grown hg540 (fun k hk => ltl ((fun k hk => ltl (hx565 k hk) hz407) k hk) hz464) nb
              exact ⟨hB560, nrf, hk566, ho510, hd, hs, okp [0, 1, 15, 22, 184] hok⟩
             ·skip
              replace h1 := ite_f hc559 h1
              refine pN 2 [180, 181] [(180, (.slice a59 (length r45.1) c60)), (181, (.slice pa0_0 (length b_0) pc0_0))] ?_
              refine bindE h1 ?_; clear h1; intro r567 hr568 h1
              have hg569 := (grown_trans hg84 hg90)
              have hx570 := ltx (ltx (ltx (ltx hx64 hg68.size) hg73.size) hg569.size) hg95.size
              have hg571 := (grown_trans hg263 hg274)
              have hx572 := ltx (fun k hk => ltl (hx570 k hk) hz244) hg571.size
              have hx573 := ltx (fun k hk => ltl ((fun k hk => ltl (hx572 k hk) hz407) k hk) hz464) hg540.size
              have hB574 := bg hB515 hg506 nb
              have hk575 := hk468.grown hg540 (fun k hk => ltl ((fun k hk => ltl (hx572 k hk) hz407) k hk) hz464) nb
              refine gv_call0 kr rfl kr enters29 (ref4_SameBytes_ok fuel a59 c60 r45.1 pa0_0 pc0_0 b_0 w505 (fun k => X62 k ∨ X0 k) (fun k hk => (hk).elim (fun h => hx573 k h) (fun h => (fun k (hk : X0 k) => ltl (hX0 k hk) hB574.size) k h)) (hk575.wide (fun k hk => (.inl hk))) ((hpa0_0.below hB574 hX0).wide (fun k hk => (.inr hk))) r567 hr568) ?_
              rintro v578 w576 ⟨hg577, rfl⟩
              refine pN 2 [183, 184] [(184, (.bool (!r567)))] ?_
              refine gv_nil ?_
              have e := sj h1; subst e
              refine gv_goal fun a hd hs hok => ?_
              have hB579 := bg hB574 hg577 nb
              have hz580 := hg577.size
              have hg581 := (grown_trans hg540 hg577)
              have hg582 := (grown_trans hg57 hg68)
              have hx583 := ltx (ltx (ltx (ltx hx50 hg582.size) hg73.size) hg569.size) hg95.size
              have hx584 := ltx (fun k hk => ltl (hx583 k hk) hz244) hg571.size
              have hk585 := hk467.grown hg581 (fun k hk => ltl ((fun k hk => ltl (hx584 k hk) hz407) k hk) hz464) nb
              have hk586 := ho510.grown hg577 hx513 nb
              exact ⟨hB579, hz580, hk585, hk586, hd, hs, okp [0, 1, 15, 22, 184] hok⟩
          ·rintro a w539 ⟨hB587, hz588, hk589, hk590, hd, hs, hok⟩
           refine gv_in ?_ hd hs hok
           clear hd hs hok
           clear hc516 hB515 ho510 hr504 hl502 ho500 hr494 hc472 hc471 hk470 hk469 hk468 hb466 hb465 hB463 hl280 hl279 hl269 hl268 ho267 hk249 hb247 hb246 hlo81 hbe70 hx65 hx64 hx63 hlo54 hk49 ap47 hb43 hbe39 hx33 ho28
           refine gv_cond (b := j538) kr (fun hc591 => ?_) (fun hc591 => ?_)
           ·replace h0 := ite_t hc591 h0
            refine gv_seq <| gv_region <| pN 1 [12] [(12, (.bool false))] ?_
            refine gv_nil <| gv_cret ?_
            have e := sj h0; subst e
            refine gv_ret (gv_done [(.bool false)] rfl ⟨kr, trivial⟩ ?_)
            exact ⟨grown_of_below hB587, rfl⟩
           ·replace h0 := ite_f hc591 h0
            refine gv_skip <| gv_seq <| gv_region <| pN 1 [23] [(23, (.int .i64 0))] ?_
            refine gv_nil <| gv_seq <| gv_seq <| gv_region <| pN 1 [24] [(24, (.int .i64 0))] ?_
            refine gv_nil <| bindE h0 ?_; clear h0; intro j592 h1 h0
            refine gv_cut_code (J := fun a w594 => ∃ s593 : Unit, j592 = .inl s593 ∧ Below w0.heap.size w0 w594 ∧ w539.heap.size ≤ w594.heap.size ∧ a.defers = [] ∧ a.tmps.size = 215 ∧ Ok [] a.tmps) ?_ ?_
            ·skip
             refine gv_block <| gv_loop (A := fun (s595 : (Int × Int)) a w596 => Below w0.heap.size w0 w596 ∧ w539.heap.size ≤ w596.heap.size ∧ Gv.Own (slE bE) 22 w596 X30 a26 c27 r16.1 ∧ Rd (iE .i64) w596 X511 a508 c509 r503 ∧ a.defers = [] ∧ a.tmps.size = 215 ∧ Ok [(0, (.slice pa0_0 (length b_0) pc0_0)), (1, (.slice pa1_0 (length sub_1) pc1_0)), (15, (.slice a26 (length r16.1) c27)), (22, (.slice a508 (length r503) c509)), (23, (.int .i64 s595.1)), (24, (.int .i64 s595.2))] a.tmps) h1 ?_ ?_
             ·intro a hd hs hok
              exact ⟨hB587, nrf, hk589, hk590, hd, hs, okp [0, 1, 15, 22, 23, 24] hok⟩
             ·rintro s595 r2 h2 hR2 a w596 ⟨hB597, hz598, hk599, hk600, hd, hs, hok⟩
              refine gv_in ?_ hd hs hok
              clear hd hs hok
              clear hc591 hk590 hk589 hB587
              refine gv_seq <| gv_seq <| gv_region <| pN 4 [185, 186, 187, 188] [(188, (.bool (decide (s595.2 < ((length r16.1 : Nat) : Int)))))] ?_
              refine gv_nil <| gv_cond (b := (decide (s595.2 < ((length r16.1 : Nat) : Int)))) kr (fun hc601 => ?_) (fun hc601 => ?_)
              ·replace h2 := ite_t hc601 h2
               refine gv_skip <| gv_seq <| gv_block <| gv_seq <| gv_region <| pN 3 [25, 191, 192] [(25, (.int .i64 ((length b_0 : Nat) : Int)))] ?_
               refine gv_nil <| gv_seq <| gv_seq <| gv_region <| pN 4 [193, 194, 195, 196] [(196, (.bool (decide (s595.2 < ((length r503 : Nat) : Int)))))] ?_
               refine gv_nil <| bindE h2 ?_; clear h2; intro j602 h3 h2
               refine gv_cut_code (J := fun a w603 => Below w0.heap.size w0 w603 ∧ w596.heap.size ≤ w603.heap.size ∧ Gv.Own (slE bE) 22 w603 X30 a26 c27 r16.1 ∧ Rd (iE .i64) w603 X511 a508 c509 r503 ∧ a.defers = [] ∧ a.tmps.size = 215 ∧ Ok [(0, (.slice pa0_0 (length b_0) pc0_0)), (1, (.slice pa1_0 (length sub_1) pc1_0)), (15, (.slice a26 (length r16.1) c27)), (22, (.slice a508 (length r503) c509)), (23, (.int .i64 s595.1)), (24, (.int .i64 s595.2)), (25, (.int .i64 j602))] a.tmps) ?_ ?_
               ·skip
                refine gv_cond (b := (decide (s595.2 < ((length r503 : Nat) : Int)))) kr (fun hc604 => ?_) (fun hc604 => ?_)
                ·replace h3 := ite_t hc604 h3
                 refine gv_region <| pN 2 [197, 198] [(197, (.slice a508 (length r503) c509)), (198, (.int .i64 s595.2))] ?_
                 refine bindE h3 ?_; clear h3; intro x605 hx606 h3
                 refine gv_idxaddr (t := 45) (e := 3) (a := a508) (len := length r503) (cap := c509) (kk := .i64) (i := s595.2) (sz := 1) [] (fun e => by cases e) rfl rfl rfl kr kr Tryd.underlying45 kr (hk600.has hx606) (idx_spec hx606).1 (idx_spec hx606).2.1 rfl ?_
                 refine gv_load (t := 3) (A := (elemAddr a508 ((s595.2 : Int).toNat * 1))) (.int .i64 x605) [] (fun e => by cases e) rfl rfl rfl kr kr kr (inw0 (hk600.cell hx606)) rfl ?_
                 refine pN 1 [25] [(25, (.int .i64 x605))] ?_
                 refine gv_nil ?_
                 have e := sj h3; subst e
                 refine gv_goal fun a hd hs hok => ?_
                 exact ⟨hB597, nrf, hk599, hk600, hd, hs, okp [0, 1, 15, 22, 23, 24, 25] hok⟩
                ·replace h3 := ite_f hc604 h3
                 refine gv_skip ?_
                 have e := sj h3; subst e
                 refine gv_goal fun a hd hs hok => ?_
                 exact ⟨hB597, nrf, hk599, hk600, hd, hs, okp [0, 1, 15, 22, 23, 24, 25] hok⟩
               ·rintro a w603 ⟨hB607, hz608, hk609, hk610, hd, hs, hok⟩
                refine gv_in ?_ hd hs hok
                clear hd hs hok
                have hz611 := (nt hz598 hz608)
                clear hc601 hk600 hk599 hB597
                refine gv_seq <| gv_seq <| gv_drawA kr ?_
                intro w612 hg613
                refine gv_pre [0, 1, 2, 4, 5, 6, 7] (bA 10 [0, 1, 2, 4, 5, 6, 7]) 3 kr kr ?_
                have hz614 := (nt hz611 hg613.size)
                refine pN 2 [201, 202] [(201, (.slice a26 (length r16.1) c27)), (202, (.int .i64 s595.2))] ?_
                refine bindE h2 ?_; clear h2; intro x615 hx616 h2
                have hg617 := (grown_trans hg57 hg68)
                have hg618 := (grown_trans hg84 hg90)
                have hx619 := ltx (ltx (ltx (ltx hx50 hg617.size) hg73.size) hg618.size) hg95.size
                have hg620 := (grown_trans hg263 hg274)
                have hx621 := ltx (fun k hk => ltl (hx619 k hk) hz244) hg620.size
                have hg622 := (grown_trans hg496 hg506)
                have hx623 := ltx (fun k hk => ltl ((fun k hk => ltl (hx621 k hk) hz407) k hk) hz464) hg622.size
                have hk624 := hk609.grown hg613 (fun k hk => ltl ((fun k hk => ltl ((fun k hk => ltl (hx623 k hk) hz588) k hk) hz598) k hk) hz608) nb
                refine gv_idxaddr (t := 23) (e := 22) (a := a26) (len := length r16.1) (cap := c27) (kk := .i64) (i := s595.2) (sz := 1) [] (fun e => by cases e) rfl rfl rfl kr kr Tryd.underlying23 kr ((hk624.rd (Y := fun k => blk a26 = some k ∨ X30 k) (fun _ h => .inr h) (fun g e => .inl e)).has hx616) (idx_spec hx616).1 (idx_spec hx616).2.1 rfl ?_
                refine pN 3 [205, 206, 207] [(205, (.slice pa0_0 (length b_0) pc0_0)), (206, (.int .i64 s595.1)), (207, (.int .i64 j602))] ?_
                refine bindE h2 ?_; clear h2; intro x625 hx626 h2
                have hB630 := bg hB607 hg613 nb
                refine gv_ssl2 bE (t := 22) (e := 5) (xs := b_0) (a := pa0_0) (cap := pc0_0) (lo := (some (.int .i64 s595.1))) (hi := (some (.int .i64 j602))) s595.1 j602 x625 (fun e => by cases e) rfl rfl rfl kr kr Tryd.underlying22 kr (.inr ⟨_, rfl⟩) (.inr ⟨_, rfl⟩) hx626 (hpa0_0.below hB630 hX0).1 ?_
                intro a627 c628 hsub629
                have hp631 := hsub629 _ _ hpa0_0
                refine gv_nil <| gv_goA ?_
                refine gv_stage (Cls w612 []) [3] [(3, some true)] (bA 10 [0, 1, 2, 3, 4, 5, 6, 7]) 2 kr kr (Cls.refl _ _) ?_
                have hC632 := Cls.refl w612 []
                obtain ⟨_, ⟨a634, c635, rfl, hr636⟩, hc633⟩ := hk624.cellsK hx616
                have hx637 := ltx (fun k hk => ltl ((fun k hk => ltl ((fun k hk => ltl (hx623 k hk) hz588) k hk) hz598) k hk) hz608) hg613.size
                refine gv_load (t := 22) (A := (elemAddr a26 ((s595.2 : Int).toNat * 1))) (.slice a634 (length x615) c635) [] (fun e => by cases e) rfl rfl rfl kr kr kr (inw1 fun w' hC' => ((hc633 w' (fun k hk => hC'.2 k ((fun k (hk : blk a26 = some k ∨ X30 k) => hk.elim (fun h => hk624.lt k h) (fun h => hx637 k h)) k hk) (fun hg => (nmx_nil (X := (fun k => blk a26 = some k ∨ X30 k))) k hg hk))).zero rfl)) rfl ?_
                refine gv_nil <| gv_goA ?_
                refine gv_stage (fun _ => True) [8] [(8, some false)] (bA 10 [0, 1, 2, 3, 4, 5, 6, 7, 8]) 1 kr kr trivial ?_
                refine bindE h2 ?_; clear h2; intro r638 hr639 h2
                refine gv_call (f := 29) (vs := [(.slice a634 (length x615) c635), (.slice a627 (length x625) c628)]) (cap := []) _ (by decide) rfl rfl rfl kr kr enters29 (ref4_SameBytes_ok fuel a634 c635 x615 a627 c628 x625 w612 (fun k => X30 k ∨ X0 k) (fun k hk => (hk).elim (fun h => hx637 k h) (fun h => (fun k (hk : X0 k) => ltl (hX0 k hk) hB630.size) k h)) (hr636.wide (fun k hk => (.inl hk))) ((hp631.below hB630 hX0).wide (fun k hk => (.inr hk))) r638 hr639) ?_
                rintro v642 w640 ⟨hg641, rfl⟩
                refine ⟨(fun _ => trivial), ?_⟩
                refine gv_nil <| gv_goA ?_
                refine gv_pre [9] (bA 10 [0, 1, 2, 3, 4, 5, 6, 7, 8, 9]) 0 kr kr ?_
                refine pN 1 [210] [(210, (.bool (!r638)))] ?_
                refine gv_nil <| gv_goA ?_
                refine gv_stageE kr ?_
                refine gv_cond (b := (!r638)) kr (fun hc643 => ?_) (fun hc643 => ?_)
                ·replace h2 := ite_t hc643 h2
                 refine gv_seq <| gv_region <| pN 1 [12] [(12, (.bool false))] ?_
                 refine gv_nil <| gv_cret ?_
                 have e := sj h2; subst e
                 replace h1 := congrArg some (hR2 _ rfl)
                 have e := sj h1; subst e
                 replace h0 := cont_inr h0
                 have e := sj h0; subst e
                 refine gv_ret (gv_done [(.bool false)] rfl ⟨kr, trivial⟩ ?_)
                 have hB644 := bg hB630 hg641 nb
                 exact ⟨grown_of_below hB644, rfl⟩
                ·replace h2 := ite_f hc643 h2
                 refine gv_skip <| gv_region <| pN 5 [23, 211, 212, 213, 214] [(23, (.int .i64 (IntKind.i64.wrap (j602 + ((length sub_1 : Nat) : Int)))))] ?_
                 refine bindE h2 ?_; clear h2; intro n645 hn646 h2
                 refine gv_name (s := 23) (v := (.int .i64 (IntKind.i64.wrap (j602 + ((length sub_1 : Nat) : Int))))) (v' := (.int .i64 n645)) kr (congrArg (Value.int .i64) (sj hn646)) ?_
                 refine gv_nil <| gv_blk <| gv_region <| pN 3 [24, 189, 190] [(24, (.int .i64 (IntKind.i64.wrap (s595.2 + 1))))] ?_
                 refine gv_nil ?_
                 have e := sj h2; subst e
                 refine gv_goal fun a hd hs hok => ?_
                 have hB647 := bg hB630 hg641 nb
                 have hz648 := (nt hz614 hg641.size)
                 have hk649 := hk624.grown hg641 hx637 nb
                 have hg650 := (grown_trans hg613 hg641)
                 have hk651 := hk610.grown hg650 (fun k hk => ltl ((fun k hk => ltl ((fun k hk => ltl (hx513 k hk) hz588) k hk) hz598) k hk) hz608) nb
                 exact ⟨(n645, (IntKind.i64.wrap (s595.2 + 1))), rfl, hB647, hz648, hk649, hk651, hd, hs, okp [0, 1, 15, 22, 23, 24] hok⟩
              ·replace h2 := ite_f hc601 h2
               refine gv_cexit <| gv_exit rfl ?_
               have e := sj h2; subst e
               replace h1 := congrArg some (hR2 _ rfl)
               have e := sj h1; subst e
               refine gv_goal fun a hd hs hok => ?_
               have hz652 := hz598
               exact ⟨(), rfl, hB597, hz652, hd, hs, okp [] hok⟩
            ·rintro a w594 ⟨s593, e, hB653, hz654, hd, hs, hok⟩
             subst e
             refine gv_in ?_ hd hs hok
             clear hd hs hok
             replace h0 := cont_inl h0
             clear hz654 hc591 hk590 hk589 hz588 hB587 hx514 hx513 hx512 hg506 hl501 hg496 hk467 hz464 hz407 hg274 hg263 hz244 hg95 hg90 hg84 hg73 hg68 hg57 hx50 hx34 hl32
             refine gv_seq <| gv_region <| pN 1 [12] [(12, (.bool true))] ?_
             refine gv_nil <| gv_cret ?_
             have e := sj h0; subst e
             refine gv_ret (gv_done [(.bool true)] rfl ⟨kr, trivial⟩ ?_)
             exact ⟨grown_of_below hB653, rfl⟩

end Go.Proofs.YtlclmpegnkomcaaDoor
