import Derived.Test.YtdpmkphjcjacfaaDoorP1
set_option linter.all false
set_option maxHeartbeats 4000000
set_option maxRecDepth 100000
/- Own work, printed by a program of mine: the walk of each function: a call returns what the plain function says. -/
namespace Go.Proofs.YtdpmkphjcjacfaaDoor
open Go.Gv Go.Gv.D Go.RowKit
theorem law4_PackingShortest_ok (fuel : Nat) (a_0 : Int) (b_1 : Int) (w0 : World) (X0 : Nat → Prop) (hX0 : ∀ k, X0 k → k < w0.heap.size) {erx : TypeId × Value} (hG2 : Rd eE w0 X0 (some ⟨2, 0, none⟩) 1 [erx]) (r0 : Bool) (h0 : law4_PackingShortest fuel a_0 b_1 = some r0) :
    Calls Tryd.prog 5 ([(.int .i64 a_0), (.int .i64 b_1)] : List Value).toArray w0 (Ret fun v w' => w0.grownBy w' none ∧ v = tup [(.bool r0)]) := by
 have hB0 : Below w0.heap.size w0 w0 := Below.refl _ _
 unfold law4_PackingShortest at h0
 refine calls_run Tryd.func5 rfl Tryd.ntmps5 (by kernel_rfl) ?_
 refine gv_sub [0, 1] (σ' := [(0, (.int .i64 a_0)), (1, (.int .i64 b_1))]) (by kernel_rfl) ?_
 refine gv_seq <| gv_region <| gv_pureN 1 [4] [] (by kernel_rfl) ?_
 refine gv_nil <| gv_seq <| gv_region <| gv_pureN 1 [19] [(19, (.agg #[(.int .u8 118), (.int .i64 1), (.bool false)]))] (by kernel_rfl) ?_
 refine gv_new0 (fun b => .slice (some ⟨b, 0, none⟩) 1 1) #[(.int .u8 118), (.int .i64 1), (.bool false)] 31 (by kernel_rfl) (by kernel_rfl) ?_
 intro b1 w2 hg3 hb4 hbe5 hz6
 have ho7 : Gv.Own (prE (iE .u8) (prE (iE .i64) tE)) 31 w2 (fun _ => False) (some ⟨b1, 0, none⟩) 1 ([(118, 1, false)] : List (Int × Int × Bool)) := Box.ownE hb4 ⟨[(.int .u8 118), (.int .i64 1), (.bool false)], [], rfl, ⟨[(.int .u8 118)], [(.int .i64 1), (.bool false)], rfl, rfl, ⟨[(.int .i64 1)], [(.bool false)], rfl, rfl, rfl⟩⟩, rfl⟩ (show 1 ≤ maxLen by decide) (fun h => h)
 have hl8 : ∀ g, blk (some ⟨b1, 0, none⟩) = some g → w0.heap.size ≤ g := loo hbe5 hB0.size
 refine gv_pureN 1 [5] [(5, (.slice (some ⟨b1, 0, none⟩) (List.length ([(118, 1, false)] : List (Int × Int × Bool))) 1))] (by kernel_rfl) ?_
 refine gv_nil <| gv_seq <| gv_region <| gv_pureN 2 [22, 23] [(22, (.slice (some ⟨b1, 0, none⟩) (List.length ([(118, 1, false)] : List (Int × Int × Bool))) 1)), (23, (.int .i64 a_0))] (by kernel_rfl) ?_
 refine bindE h0 ?_; clear h0; intro r12 hr13 h0
 refine gv_call0 (by kernel_rfl) rfl (by kernel_rfl) enters17 (law4_whole_ok fuel a_0 w2  r12 hr13) ?_
 rintro v16 w14 ⟨hg15, a17, c18, a21, c22, rfl, ho19, hl20, ho23, hl24, ap25⟩
 have hB27 := bg hB0 hg3 nb
 have hl26 : ∀ g, blk a17 = some g → w0.heap.size ≤ g := fun g e => Nat.le_trans hB27.size (hl20 g e)
 have hl28 : ∀ g, blk a21 = some g → w0.heap.size ≤ g := fun g e => Nat.le_trans hB27.size (hl24 g e)
 refine gv_new0 (fun b => .slice (some ⟨b, 0, none⟩) 1 1) #[(.int .i64 r12.1), (.bool r12.2.1.1), (.slice a17 (List.length r12.2.1.2) c18), (.bool r12.2.2.1.1), (.slice a21 (List.length r12.2.2.1.2) c22), (.string r12.2.2.2.1), (.int .i64 r12.2.2.2.2)] 48 (by kernel_rfl) (by kernel_rfl) ?_
 intro b29 w30 hg31 hb32 hbe33 hz34
 obtain ⟨X40, e⟩ : ∃ X : Nat → Prop, X = (fun k => (fun k => blk a17 = some k) k ∨ (fun k => blk a21 = some k) k) := ⟨_, rfl⟩
 have hx38 : ∀ k, X40 k → k < w14.heap.size := fun k h => by rw [e] at h; exact (h).elim (fun h => (fun k (hk : blk a17 = some k) => ho19.lt k hk) k h) (fun h => (fun k (hk : blk a21 = some k) => ho23.lt k hk) k h)
 have hz41 := hg31.size
 have hx37 : ∀ k, X40 k → k < w30.heap.size := fun k h => ltl (hx38 k h) hz41
 have hx39 : ∀ k, X40 k → X0 k ∨ w0.heap.size ≤ k := fun k h => by rw [e] at h; exact (h).elim (fun h => (fun k (hk : blk a17 = some k) => Or.inr (hl26 k hk)) k h) (fun h => (fun k (hk : blk a21 = some k) => Or.inr (hl28 k hk)) k h)
 have hk42 := ho19.grown hg31 (fun _ h => h.elim) nb
 have hk43 := ho23.grown hg31 (fun _ h => h.elim) nb
 have ho35 : Gv.Own (prE (iE .i64) (prE (prE tE (slE (iE .u32))) (prE (prE tE (slE (iE .u32))) (prE sE (iE .i64))))) 48 w30 X40 (some ⟨b29, 0, none⟩) 1 ([(r12.1, (r12.2.1.1, r12.2.1.2), (r12.2.2.1.1, r12.2.2.1.2), r12.2.2.2.1, r12.2.2.2.2)] : List (Int × (Bool × (List Int)) × (Bool × (List Int)) × ByteArray × Int)) := Box.ownE hb32 (by rw [e]; exact ⟨[(.int .i64 r12.1), (.bool r12.2.1.1), (.slice a17 (List.length r12.2.1.2) c18), (.bool r12.2.2.1.1), (.slice a21 (List.length r12.2.2.1.2) c22), (.string r12.2.2.2.1), (.int .i64 r12.2.2.2.2)], [], rfl, ⟨[(.int .i64 r12.1)], [(.bool r12.2.1.1), (.slice a17 (List.length r12.2.1.2) c18), (.bool r12.2.2.1.1), (.slice a21 (List.length r12.2.2.1.2) c22), (.string r12.2.2.2.1), (.int .i64 r12.2.2.2.2)], rfl, rfl, ⟨[(.bool r12.2.1.1), (.slice a17 (List.length r12.2.1.2) c18)], [(.bool r12.2.2.1.1), (.slice a21 (List.length r12.2.2.1.2) c22), (.string r12.2.2.2.1), (.int .i64 r12.2.2.2.2)], rfl, ⟨[(.bool r12.2.1.1)], [(.slice a17 (List.length r12.2.1.2) c18)], rfl, rfl, ⟨a17, c18, rfl, ((hk42.rd (Y := fun k => blk a17 = some k) (fun _ h => h.elim) (fun g e => e)).wide (fun _ h => (.inl h)))⟩⟩, ⟨[(.bool r12.2.2.1.1), (.slice a21 (List.length r12.2.2.1.2) c22)], [(.string r12.2.2.2.1), (.int .i64 r12.2.2.2.2)], rfl, ⟨[(.bool r12.2.2.1.1)], [(.slice a21 (List.length r12.2.2.1.2) c22)], rfl, rfl, ⟨a21, c22, rfl, ((hk43.rd (Y := fun k => blk a21 = some k) (fun _ h => h.elim) (fun g e => e)).wide (fun _ h => (.inr h)))⟩⟩, ⟨[(.string r12.2.2.2.1)], [(.int .i64 r12.2.2.2.2)], rfl, rfl, rfl⟩⟩⟩⟩, rfl⟩) (show 1 ≤ maxLen by decide) (fun h => noteq hbe33 (hx38 _ h))
 have hx44 : ∀ k, X40 k → (fun k => (fun k => blk a17 = some k) k ∨ (fun k => blk a21 = some k) k) k := fun k h => by rw [e] at h; exact h
 clear e
 have hB45 := bg hB27 hg15 nb
 have hl36 : ∀ g, blk (some ⟨b29, 0, none⟩) = some g → w0.heap.size ≤ g := loo hbe33 hB45.size
 have hk47 := ho7.grown hg15 (fun _ h => h.elim) nb
 have ap46 : ∀ g, blk (some ⟨b29, 0, none⟩) = some g → ¬ (fun k => blk (some ⟨b1, 0, none⟩) = some k) g := fun g e hx => nl (lowo hbe33 g e) ((fun k (hk : blk (some ⟨b1, 0, none⟩) = some k) => hk47.lt k hk) _ hx)
 have ap49 : ∀ g, blk (some ⟨b1, 0, none⟩) = some g → ¬ (fun k => blk a17 = some k) g := fun g e hx => nl ((show ∀ k, blk a17 = some k → w2.heap.size ≤ k from hl20) _ hx) ((fun k (hk : blk (some ⟨b1, 0, none⟩) = some k) => ho7.lt k hk) g e)
 have ap50 : ∀ g, blk (some ⟨b1, 0, none⟩) = some g → ¬ (fun k => blk a21 = some k) g := fun g e hx => nl ((show ∀ k, blk a21 = some k → w2.heap.size ≤ k from hl24) _ hx) ((fun k (hk : blk (some ⟨b1, 0, none⟩) = some k) => ho7.lt k hk) g e)
 have ap48 : ∀ g, blk (some ⟨b1, 0, none⟩) = some g → ¬ (fun k => blk (some ⟨b29, 0, none⟩) = some k ∨ X40 k) g := fun g e h => h.elim (fun h => nl (lowo hbe33 _ h) ((fun k (hk : blk (some ⟨b1, 0, none⟩) = some k) => hk47.lt k hk) g e)) (fun h => ((hx44 _ h)).elim (fun h => (ap49) g e h) (fun h => (ap50) g e h))
 have ap51 : ∀ g, blk (some ⟨b29, 0, none⟩) = some g → ¬ (fun k => blk a17 = some k) g := fun g e hx => nl (lowo hbe33 g e) ((fun k (hk : blk a17 = some k) => ho19.lt k hk) _ hx)
 have ap52 : ∀ g, blk (some ⟨b29, 0, none⟩) = some g → ¬ (fun k => blk a21 = some k) g := fun g e hx => nl (lowo hbe33 g e) ((fun k (hk : blk a21 = some k) => ho23.lt k hk) _ hx)
 refine bindE h0 ?_; clear h0; intro r53 hr54 h0
 have hk55 := hk47.grown hg31 (fun _ h => h.elim) nb
 refine gv_call0 (by kernel_rfl) rfl (by kernel_rfl) enters6 (packing_Pack_ok fuel (some ⟨b1, 0, none⟩) 1 ([(118, 1, false)] : List (Int × Int × Bool)) (some ⟨b29, 0, none⟩) 1 ([(r12.1, (r12.2.1.1, r12.2.1.2), (r12.2.2.1.1, r12.2.2.1.2), r12.2.2.2.1, r12.2.2.2.2)] : List (Int × (Bool × (List Int)) × (Bool × (List Int)) × ByteArray × Int)) w30 (fun k => (fun k => blk (some ⟨b1, 0, none⟩) = some k) k ∨ (fun k => blk (some ⟨b29, 0, none⟩) = some k ∨ X40 k) k) (fun k hk => (hk).elim (fun h => (fun k (hk : blk (some ⟨b1, 0, none⟩) = some k) => hk55.lt k hk) k h) (fun h => (fun k (hk : blk (some ⟨b29, 0, none⟩) = some k ∨ X40 k) => hk.elim (fun h => ho35.lt k h) (fun h => hx37 k h)) k h)) ((hk55.rd (Y := fun k => blk (some ⟨b1, 0, none⟩) = some k) (fun _ h => h.elim) (fun g e => e)).wide (fun k hk => (.inl hk))) ((ho35.rd (Y := fun k => blk (some ⟨b29, 0, none⟩) = some k ∨ X40 k) (fun _ h => .inr h) (fun g e => .inl e)).wide (fun k hk => (.inr hk))) r53 hr54) ?_
 rintro v58 w56 ⟨hg57, a59, c60, rfl, ho61, hl62⟩
 have hB64 := bg hB45 hg31 nb
 have hl63 : ∀ g, blk a59 = some g → w0.heap.size ≤ g := fun g e => Nat.le_trans hB64.size (hl62 g e)
 refine gv_pureN 3 [21, 27, 28] [(27, (.slice a59 (List.length r53.1) c60)), (28, (.agg #[(.int .i64 r53.2.1), (.int .i64 r53.2.2)]))] (by kernel_rfl) ?_
 refine gv_new0 (fun b => .pointer (some ⟨b, 0, none⟩)) #[(.int .i64 0), (.int .i64 0)] 26 (by kernel_rfl) (by kernel_rfl) ?_
 intro b65 w66 hg67 hb68 hbe69 hz70
 refine gv_pureN 1 [6] [(6, (.slice a59 (List.length r53.1) c60))] (by kernel_rfl) ?_
 refine gv_store0 26 0 (.agg #[(.int .i64 r53.2.1), (.int .i64 r53.2.2)]) #[(.int .i64 r53.2.1), (.int .i64 r53.2.2)] hb68 (by kernel_rfl) (by kernel_rfl) (by kernel_rfl) ?_
 intro w71 hg72 hb73 hz74
 refine gv_nil <| gv_seq <| gv_region <| gv_pureN 2 [30, 31] [(30, (.slice (some ⟨b1, 0, none⟩) (List.length ([(118, 1, false)] : List (Int × Int × Bool))) 1)), (31, (.int .i64 b_1))] (by kernel_rfl) ?_
 refine bindE h0 ?_; clear h0; intro r75 hr76 h0
 refine gv_call0 (by kernel_rfl) rfl (by kernel_rfl) enters17 (law4_whole_ok fuel b_1 w71  r75 hr76) ?_
 rintro v79 w77 ⟨hg78, a80, c81, a84, c85, rfl, ho82, hl83, ho86, hl87, ap88⟩
 have hg90 := (grown_trans hg57 hg67)
 have hB91 := bg hB64 hg90 nb
 have hB92 := bg hB64 hg57 nb
 have hlo93 : w0.heap.size ≤ b65 := lob hbe69 hB92.size
 have hB94 := bg hB91 hg72 (rowlo hlo93)
 have hl89 : ∀ g, blk a80 = some g → w0.heap.size ≤ g := fun g e => Nat.le_trans hB94.size (hl83 g e)
 have hl95 : ∀ g, blk a84 = some g → w0.heap.size ≤ g := fun g e => Nat.le_trans hB94.size (hl87 g e)
 refine gv_sub [0, 1, 5, 6, 7, 30, 32] (σ' := [(0, (.int .i64 a_0)), (1, (.int .i64 b_1)), (5, (.slice (some ⟨b1, 0, none⟩) (List.length ([(118, 1, false)] : List (Int × Int × Bool))) 1)), (6, (.slice a59 (List.length r53.1) c60)), (7, (bp b65)), (30, (.slice (some ⟨b1, 0, none⟩) (List.length ([(118, 1, false)] : List (Int × Int × Bool))) 1)), (32, (.agg #[(.int .i64 r75.1), (.bool r75.2.1.1), (.slice a80 (List.length r75.2.1.2) c81), (.bool r75.2.2.1.1), (.slice a84 (List.length r75.2.2.1.2) c85), (.string r75.2.2.2.1), (.int .i64 r75.2.2.2.2)]))]) (by kernel_rfl) ?_
 refine gv_new0 (fun b => .slice (some ⟨b, 0, none⟩) 1 1) #[(.int .i64 r75.1), (.bool r75.2.1.1), (.slice a80 (List.length r75.2.1.2) c81), (.bool r75.2.2.1.1), (.slice a84 (List.length r75.2.2.1.2) c85), (.string r75.2.2.2.1), (.int .i64 r75.2.2.2.2)] 48 (by kernel_rfl) (by kernel_rfl) ?_
 intro b96 w97 hg98 hb99 hbe100 hz101
 obtain ⟨X107, e⟩ : ∃ X : Nat → Prop, X = (fun k => (fun k => blk a80 = some k) k ∨ (fun k => blk a84 = some k) k) := ⟨_, rfl⟩
 have hx105 : ∀ k, X107 k → k < w77.heap.size := fun k h => by rw [e] at h; exact (h).elim (fun h => (fun k (hk : blk a80 = some k) => ho82.lt k hk) k h) (fun h => (fun k (hk : blk a84 = some k) => ho86.lt k hk) k h)
 have hz108 := hg98.size
 have hx104 : ∀ k, X107 k → k < w97.heap.size := fun k h => ltl (hx105 k h) hz108
 have hx106 : ∀ k, X107 k → X0 k ∨ w0.heap.size ≤ k := fun k h => by rw [e] at h; exact (h).elim (fun h => (fun k (hk : blk a80 = some k) => Or.inr (hl89 k hk)) k h) (fun h => (fun k (hk : blk a84 = some k) => Or.inr (hl95 k hk)) k h)
 have hk109 := ho82.grown hg98 (fun _ h => h.elim) nb
 have hk110 := ho86.grown hg98 (fun _ h => h.elim) nb
 have ho102 : Gv.Own (prE (iE .i64) (prE (prE tE (slE (iE .u32))) (prE (prE tE (slE (iE .u32))) (prE sE (iE .i64))))) 48 w97 X107 (some ⟨b96, 0, none⟩) 1 ([(r75.1, (r75.2.1.1, r75.2.1.2), (r75.2.2.1.1, r75.2.2.1.2), r75.2.2.2.1, r75.2.2.2.2)] : List (Int × (Bool × (List Int)) × (Bool × (List Int)) × ByteArray × Int)) := Box.ownE hb99 (by rw [e]; exact ⟨[(.int .i64 r75.1), (.bool r75.2.1.1), (.slice a80 (List.length r75.2.1.2) c81), (.bool r75.2.2.1.1), (.slice a84 (List.length r75.2.2.1.2) c85), (.string r75.2.2.2.1), (.int .i64 r75.2.2.2.2)], [], rfl, ⟨[(.int .i64 r75.1)], [(.bool r75.2.1.1), (.slice a80 (List.length r75.2.1.2) c81), (.bool r75.2.2.1.1), (.slice a84 (List.length r75.2.2.1.2) c85), (.string r75.2.2.2.1), (.int .i64 r75.2.2.2.2)], rfl, rfl, ⟨[(.bool r75.2.1.1), (.slice a80 (List.length r75.2.1.2) c81)], [(.bool r75.2.2.1.1), (.slice a84 (List.length r75.2.2.1.2) c85), (.string r75.2.2.2.1), (.int .i64 r75.2.2.2.2)], rfl, ⟨[(.bool r75.2.1.1)], [(.slice a80 (List.length r75.2.1.2) c81)], rfl, rfl, ⟨a80, c81, rfl, ((hk109.rd (Y := fun k => blk a80 = some k) (fun _ h => h.elim) (fun g e => e)).wide (fun _ h => (.inl h)))⟩⟩, ⟨[(.bool r75.2.2.1.1), (.slice a84 (List.length r75.2.2.1.2) c85)], [(.string r75.2.2.2.1), (.int .i64 r75.2.2.2.2)], rfl, ⟨[(.bool r75.2.2.1.1)], [(.slice a84 (List.length r75.2.2.1.2) c85)], rfl, rfl, ⟨a84, c85, rfl, ((hk110.rd (Y := fun k => blk a84 = some k) (fun _ h => h.elim) (fun g e => e)).wide (fun _ h => (.inr h)))⟩⟩, ⟨[(.string r75.2.2.2.1)], [(.int .i64 r75.2.2.2.2)], rfl, rfl, rfl⟩⟩⟩⟩, rfl⟩) (show 1 ≤ maxLen by decide) (fun h => noteq hbe100 (hx105 _ h))
 have hx111 : ∀ k, X107 k → (fun k => (fun k => blk a80 = some k) k ∨ (fun k => blk a84 = some k) k) k := fun k h => by rw [e] at h; exact h
 clear e
 have hB112 := bg hB94 hg78 nb
 have hl103 : ∀ g, blk (some ⟨b96, 0, none⟩) = some g → w0.heap.size ≤ g := loo hbe100 hB112.size
 have hk114 := hk55.grown hg57 (fun _ h => h.elim) nb
 have ap115 : ¬ (fun k => blk (some ⟨b1, 0, none⟩) = some k) b65 := fun hx => nl ((lowb hbe69) _ rfl) ((fun k (hk : blk (some ⟨b1, 0, none⟩) = some k) => hk114.lt k hk) _ hx)
 have hk116 := ((hk55.grown hg90 (fun _ h => h.elim) nb).grown hg72 (fun _ h => h.elim) (rdnn (rowne ap115))).grown hg78 (fun _ h => h.elim) nb
 have ap113 : ∀ g, blk (some ⟨b96, 0, none⟩) = some g → ¬ (fun k => blk (some ⟨b1, 0, none⟩) = some k) g := fun g e hx => nl (lowo hbe100 g e) ((fun k (hk : blk (some ⟨b1, 0, none⟩) = some k) => hk116.lt k hk) _ hx)
 have hk118 := (hk114.grown hg67 (fun _ h => h.elim) nb).grown hg72 (fun _ h => h.elim) (rdnn (rowne ap115))
 have ap119 : ∀ g, blk (some ⟨b1, 0, none⟩) = some g → ¬ (fun k => blk a80 = some k) g := fun g e hx => nl ((show ∀ k, blk a80 = some k → w71.heap.size ≤ k from hl83) _ hx) ((fun k (hk : blk (some ⟨b1, 0, none⟩) = some k) => hk118.lt k hk) g e)
 have ap120 : ∀ g, blk (some ⟨b1, 0, none⟩) = some g → ¬ (fun k => blk a84 = some k) g := fun g e hx => nl ((show ∀ k, blk a84 = some k → w71.heap.size ≤ k from hl87) _ hx) ((fun k (hk : blk (some ⟨b1, 0, none⟩) = some k) => hk118.lt k hk) g e)
 have ap117 : ∀ g, blk (some ⟨b1, 0, none⟩) = some g → ¬ (fun k => blk (some ⟨b96, 0, none⟩) = some k ∨ X107 k) g := fun g e h => h.elim (fun h => nl (lowo hbe100 _ h) ((fun k (hk : blk (some ⟨b1, 0, none⟩) = some k) => hk116.lt k hk) g e)) (fun h => ((hx111 _ h)).elim (fun h => (ap119) g e h) (fun h => (ap120) g e h))
 have hk122 := hk42.grown hg57 (fun _ h => h.elim) nb
 have ap123 : ¬ (fun k => blk a17 = some k) b65 := fun hx => nl ((lowb hbe69) _ rfl) ((fun k (hk : blk a17 = some k) => hk122.lt k hk) _ hx)
 have hk124 := ((hk42.grown hg90 (fun _ h => h.elim) nb).grown hg72 (fun _ h => h.elim) (rdnn (rowne ap123))).grown hg78 (fun _ h => h.elim) nb
 have ap121 : ∀ g, blk (some ⟨b96, 0, none⟩) = some g → ¬ (fun k => blk a17 = some k) g := fun g e hx => nl (lowo hbe100 g e) ((fun k (hk : blk a17 = some k) => hk124.lt k hk) _ hx)
 have hk126 := (hk122.grown hg67 (fun _ h => h.elim) nb).grown hg72 (fun _ h => h.elim) (rdnn (rowne ap123))
 have ap127 : ∀ g, blk a17 = some g → ¬ (fun k => blk a80 = some k) g := fun g e hx => nl ((show ∀ k, blk a80 = some k → w71.heap.size ≤ k from hl83) _ hx) ((fun k (hk : blk a17 = some k) => hk126.lt k hk) g e)
 have ap128 : ∀ g, blk a17 = some g → ¬ (fun k => blk a84 = some k) g := fun g e hx => nl ((show ∀ k, blk a84 = some k → w71.heap.size ≤ k from hl87) _ hx) ((fun k (hk : blk a17 = some k) => hk126.lt k hk) g e)
 have ap125 : ∀ g, blk a17 = some g → ¬ (fun k => blk (some ⟨b96, 0, none⟩) = some k ∨ X107 k) g := fun g e h => h.elim (fun h => nl (lowo hbe100 _ h) ((fun k (hk : blk a17 = some k) => hk124.lt k hk) g e)) (fun h => ((hx111 _ h)).elim (fun h => (ap127) g e h) (fun h => (ap128) g e h))
 have hk130 := hk43.grown hg57 (fun _ h => h.elim) nb
 have ap131 : ¬ (fun k => blk a21 = some k) b65 := fun hx => nl ((lowb hbe69) _ rfl) ((fun k (hk : blk a21 = some k) => hk130.lt k hk) _ hx)
 have hk132 := ((hk43.grown hg90 (fun _ h => h.elim) nb).grown hg72 (fun _ h => h.elim) (rdnn (rowne ap131))).grown hg78 (fun _ h => h.elim) nb
 have ap129 : ∀ g, blk (some ⟨b96, 0, none⟩) = some g → ¬ (fun k => blk a21 = some k) g := fun g e hx => nl (lowo hbe100 g e) ((fun k (hk : blk a21 = some k) => hk132.lt k hk) _ hx)
 have hk134 := (hk130.grown hg67 (fun _ h => h.elim) nb).grown hg72 (fun _ h => h.elim) (rdnn (rowne ap131))
 have ap135 : ∀ g, blk a21 = some g → ¬ (fun k => blk a80 = some k) g := fun g e hx => nl ((show ∀ k, blk a80 = some k → w71.heap.size ≤ k from hl83) _ hx) ((fun k (hk : blk a21 = some k) => hk134.lt k hk) g e)
 have ap136 : ∀ g, blk a21 = some g → ¬ (fun k => blk a84 = some k) g := fun g e hx => nl ((show ∀ k, blk a84 = some k → w71.heap.size ≤ k from hl87) _ hx) ((fun k (hk : blk a21 = some k) => hk134.lt k hk) g e)
 have ap133 : ∀ g, blk a21 = some g → ¬ (fun k => blk (some ⟨b96, 0, none⟩) = some k ∨ X107 k) g := fun g e h => h.elim (fun h => nl (lowo hbe100 _ h) ((fun k (hk : blk a21 = some k) => hk132.lt k hk) g e)) (fun h => ((hx111 _ h)).elim (fun h => (ap135) g e h) (fun h => (ap136) g e h))
 have hk138 := ho35.grown hg57 hx37 nb
 have hx139 := ltx hx37 hg57.size
 have ap140 : ¬ (fun k => blk (some ⟨b29, 0, none⟩) = some k ∨ X40 k) b65 := fun hx => nl ((lowb hbe69) _ rfl) ((fun k (hk : blk (some ⟨b29, 0, none⟩) = some k ∨ X40 k) => hk.elim (fun h => hk138.lt k h) (fun h => hx139 k h)) _ hx)
 have hx141 := ltx hx139 hg67.size
 have hx142 := ltx hx141 hg72.size
 have hk143 := ((ho35.grown hg90 hx37 nb).grown hg72 hx141 (rdnx (rowne ap140))).grown hg78 hx142 nb
 have hx144 := ltx hx142 hg78.size
 have ap137 : ∀ g, blk (some ⟨b96, 0, none⟩) = some g → ¬ (fun k => blk (some ⟨b29, 0, none⟩) = some k ∨ X40 k) g := fun g e hx => nl (lowo hbe100 g e) ((fun k (hk : blk (some ⟨b29, 0, none⟩) = some k ∨ X40 k) => hk.elim (fun h => hk143.lt k h) (fun h => hx144 k h)) _ hx)
 have hk146 := (hk138.grown hg67 hx139 nb).grown hg72 hx141 (rdnx (rowne ap140))
 have ap147 : ∀ g, blk (some ⟨b29, 0, none⟩) = some g → ¬ (fun k => blk a80 = some k) g := fun g e hx => nl ((show ∀ k, blk a80 = some k → w71.heap.size ≤ k from hl83) _ hx) ((fun k (hk : blk (some ⟨b29, 0, none⟩) = some k ∨ X40 k) => hk.elim (fun h => hk146.lt k h) (fun h => hx142 k h)) g (.inl e))
 have ap148 : ∀ g, blk (some ⟨b29, 0, none⟩) = some g → ¬ (fun k => blk a84 = some k) g := fun g e hx => nl ((show ∀ k, blk a84 = some k → w71.heap.size ≤ k from hl87) _ hx) ((fun k (hk : blk (some ⟨b29, 0, none⟩) = some k ∨ X40 k) => hk.elim (fun h => hk146.lt k h) (fun h => hx142 k h)) g (.inl e))
 have ap145 : ∀ g, blk (some ⟨b29, 0, none⟩) = some g → ¬ (fun k => blk (some ⟨b96, 0, none⟩) = some k ∨ X107 k) g := fun g e h => h.elim (fun h => nl (lowo hbe100 _ h) ((fun k (hk : blk (some ⟨b29, 0, none⟩) = some k ∨ X40 k) => hk.elim (fun h => hk143.lt k h) (fun h => hx144 k h)) g (.inl e))) (fun h => ((hx111 _ h)).elim (fun h => (ap147) g e h) (fun h => (ap148) g e h))
 have ap150 : ¬ (fun k => blk a59 = some k) b65 := fun hx => nl ((lowb hbe69) _ rfl) ((fun k (hk : blk a59 = some k) => ho61.lt k hk) _ hx)
 have hk151 := ((ho61.grown hg67 (fun _ h => h.elim) nb).grown hg72 (fun _ h => h.elim) (rdnn (rowne ap150))).grown hg78 (fun _ h => h.elim) nb
 have ap149 : ∀ g, blk (some ⟨b96, 0, none⟩) = some g → ¬ (fun k => blk a59 = some k) g := fun g e hx => nl (lowo hbe100 g e) ((fun k (hk : blk a59 = some k) => hk151.lt k hk) _ hx)
 have hk153 := (ho61.grown hg67 (fun _ h => h.elim) nb).grown hg72 (fun _ h => h.elim) (rdnn (rowne ap150))
 have ap154 : ∀ g, blk a59 = some g → ¬ (fun k => blk a80 = some k) g := fun g e hx => nl ((show ∀ k, blk a80 = some k → w71.heap.size ≤ k from hl83) _ hx) ((fun k (hk : blk a59 = some k) => hk153.lt k hk) g e)
 have ap155 : ∀ g, blk a59 = some g → ¬ (fun k => blk a84 = some k) g := fun g e hx => nl ((show ∀ k, blk a84 = some k → w71.heap.size ≤ k from hl87) _ hx) ((fun k (hk : blk a59 = some k) => hk153.lt k hk) g e)
 have ap152 : ∀ g, blk a59 = some g → ¬ (fun k => blk (some ⟨b96, 0, none⟩) = some k ∨ X107 k) g := fun g e h => h.elim (fun h => nl (lowo hbe100 _ h) ((fun k (hk : blk a59 = some k) => hk151.lt k hk) g e)) (fun h => ((hx111 _ h)).elim (fun h => (ap154) g e h) (fun h => (ap155) g e h))
 have hk157 := hb73.grown hg78 nb
 have ap156 : ∀ g, blk (some ⟨b96, 0, none⟩) = some g → ¬ (· = b65) g := fun g e hx => nl (lowo hbe100 g e) ((ltb hk157) _ hx)
 have ap159 : ¬ (fun k => blk a80 = some k) b65 := fun hx => nl ((show ∀ k, blk a80 = some k → w71.heap.size ≤ k from hl83) _ hx) ((ltb hb73) _ rfl)
 have ap160 : ¬ (fun k => blk a84 = some k) b65 := fun hx => nl ((show ∀ k, blk a84 = some k → w71.heap.size ≤ k from hl87) _ hx) ((ltb hb73) _ rfl)
 have ap158 : ¬ (fun k => blk (some ⟨b96, 0, none⟩) = some k ∨ X107 k) b65 := fun h => h.elim (fun h => nl (lowo hbe100 _ h) ((ltb hk157) _ rfl)) (fun h => ((hx111 _ h)).elim (fun h => (ap159)  h) (fun h => (ap160)  h))
 have ap161 : ∀ g, blk (some ⟨b96, 0, none⟩) = some g → ¬ (fun k => blk a80 = some k) g := fun g e hx => nl (lowo hbe100 g e) ((fun k (hk : blk a80 = some k) => ho82.lt k hk) _ hx)
 have ap162 : ∀ g, blk (some ⟨b96, 0, none⟩) = some g → ¬ (fun k => blk a84 = some k) g := fun g e hx => nl (lowo hbe100 g e) ((fun k (hk : blk a84 = some k) => ho86.lt k hk) _ hx)
 clear ap162 ap161 ap160 ap159 ap155 ap154 hk153 ap145 ap148 ap147 hk146 ap137 hx144 hk143 hx142 hx141 ap140 hx139 hk138 ap133 ap136 ap135 hk134 ap129 hk132 ap131 hk130 ap125 ap128 ap127 hk126 ap121 hk124 ap123 hk122 ap120 ap119 hk118 hx111 hk110 hk109 hz108 hx105 hz101 hbe100 hb99 hl95 hl89 hB94 hB92 hB91 hg90 ap88 hl87 ho86 hl83 ho82 hg78 hr76 hz74 hb73 hg72 hz70 hb68 hg67 hB64 hg57 hr54 ap52 ap51 ap48 ap50 ap49 ap46 hk47 hl36 hB45 hx44 ho35 hk43 hk42 hx39 hx37 hz41 hx38 hz34 hbe33 hb32 hg31 hl28 hl26 hB27 ap25 hl24 ho23 hl20 ho19 hg15 hr13 ho7 hz6 hbe5 hb4 hg3
 refine bindE h0 ?_; clear h0; intro r163 hr164 h0
 have hk165 := hk116.grown hg98 (fun _ h => h.elim) nb
 refine gv_call0 (by kernel_rfl) rfl (by kernel_rfl) enters6 (packing_Pack_ok fuel (some ⟨b1, 0, none⟩) 1 ([(118, 1, false)] : List (Int × Int × Bool)) (some ⟨b96, 0, none⟩) 1 ([(r75.1, (r75.2.1.1, r75.2.1.2), (r75.2.2.1.1, r75.2.2.1.2), r75.2.2.2.1, r75.2.2.2.2)] : List (Int × (Bool × (List Int)) × (Bool × (List Int)) × ByteArray × Int)) w97 (fun k => (fun k => blk (some ⟨b1, 0, none⟩) = some k) k ∨ (fun k => blk (some ⟨b96, 0, none⟩) = some k ∨ X107 k) k) (fun k hk => (hk).elim (fun h => (fun k (hk : blk (some ⟨b1, 0, none⟩) = some k) => hk165.lt k hk) k h) (fun h => (fun k (hk : blk (some ⟨b96, 0, none⟩) = some k ∨ X107 k) => hk.elim (fun h => ho102.lt k h) (fun h => hx104 k h)) k h)) ((hk165.rd (Y := fun k => blk (some ⟨b1, 0, none⟩) = some k) (fun _ h => h.elim) (fun g e => e)).wide (fun k hk => (.inl hk))) ((ho102.rd (Y := fun k => blk (some ⟨b96, 0, none⟩) = some k ∨ X107 k) (fun _ h => .inr h) (fun g e => .inl e)).wide (fun k hk => (.inr hk))) r163 hr164) ?_
 rintro v168 w166 ⟨hg167, a169, c170, rfl, ho171, hl172⟩
 have hB174 := bg hB112 hg98 nb
 have hl173 : ∀ g, blk a169 = some g → w0.heap.size ≤ g := fun g e => Nat.le_trans hB174.size (hl172 g e)
 refine gv_pureN 3 [29, 35, 36] [(35, (.slice a169 (List.length r163.1) c170)), (36, (.agg #[(.int .i64 r163.2.1), (.int .i64 r163.2.2)]))] (by kernel_rfl) ?_
 refine gv_new0 (fun b => .pointer (some ⟨b, 0, none⟩)) #[(.int .i64 0), (.int .i64 0)] 26 (by kernel_rfl) (by kernel_rfl) ?_
 intro b175 w176 hg177 hb178 hbe179 hz180
 refine gv_pureN 1 [8] [(8, (.slice a169 (List.length r163.1) c170))] (by kernel_rfl) ?_
 refine gv_store0 26 0 (.agg #[(.int .i64 r163.2.1), (.int .i64 r163.2.2)]) #[(.int .i64 r163.2.1), (.int .i64 r163.2.2)] hb178 (by kernel_rfl) (by kernel_rfl) (by kernel_rfl) ?_
 intro w181 hg182 hb183 hz184
 refine gv_nil <| gv_seq <| gv_region <| gv_pureN 1 [38] [(38, (.slice (some ⟨b1, 0, none⟩) (List.length ([(118, 1, false)] : List (Int × Int × Bool))) 1))] (by kernel_rfl) ?_
 refine bindE h0 ?_; clear h0; intro r185 hr186 h0
 have hg187 := (grown_trans hg167 hg177)
 have hk188 := hk165.grown hg167 (fun _ h => h.elim) nb
 have ap189 : ¬ (fun k => blk (some ⟨b1, 0, none⟩) = some k) b175 := fun hx => nl ((lowb hbe179) _ rfl) ((fun k (hk : blk (some ⟨b1, 0, none⟩) = some k) => hk188.lt k hk) _ hx)
 have hk190 := (hk165.grown hg187 (fun _ h => h.elim) nb).grown hg182 (fun _ h => h.elim) (rdnn (rowne ap189))
 refine gv_call0 (by kernel_rfl) rfl (by kernel_rfl) enters11 (packing_Sizes_ok fuel (some ⟨b1, 0, none⟩) 1 ([(118, 1, false)] : List (Int × Int × Bool)) w181 (fun k => (fun k => blk (some ⟨b1, 0, none⟩) = some k) k) (fun k hk => (fun k (hk : blk (some ⟨b1, 0, none⟩) = some k) => hk190.lt k hk) k hk) ((hk190.rd (Y := fun k => blk (some ⟨b1, 0, none⟩) = some k) (fun _ h => h.elim) (fun g e => e)).wide (fun k hk => hk)) r185 hr186) ?_
 rintro v193 w191 ⟨hg192, rfl⟩
 refine gv_pureN 4 [37, 40, 41, 42] [(40, (.int .i64 r185.1)), (41, (.int .i64 r185.2.1)), (42, (.agg #[(.int .i64 r185.2.2.1), (.int .i64 r185.2.2.2)]))] (by kernel_rfl) ?_
 refine gv_new0 (fun b => .pointer (some ⟨b, 0, none⟩)) #[(.int .i64 0), (.int .i64 0)] 26 (by kernel_rfl) (by kernel_rfl) ?_
 intro b194 w195 hg196 hb197 hbe198 hz199
 refine gv_pureN 2 [10, 11] [(10, (.int .i64 r185.1)), (11, (.int .i64 r185.2.1))] (by kernel_rfl) ?_
 refine gv_store0 26 0 (.agg #[(.int .i64 r185.2.2.1), (.int .i64 r185.2.2.2)]) #[(.int .i64 r185.2.2.1), (.int .i64 r185.2.2.2)] hb197 (by kernel_rfl) (by kernel_rfl) (by kernel_rfl) ?_
 intro w200 hg201 hb202 hz203
 refine gv_nil <| gv_seq <| gv_seq <| gv_region <| bindE h0 ?_; clear h0; intro j204 h1 h0
 refine gv_cut_ops (J := fun a w205 => Below w0.heap.size w0 w205 ∧ w200.heap.size ≤ w205.heap.size ∧ Gv.Own (prE (iE .u8) (prE (iE .i64) tE)) 31 w205 (fun _ => False) (some ⟨b1, 0, none⟩) 1 ([(118, 1, false)] : List (Int × Int × Bool)) ∧ Gv.Own bE 5 w205 (fun _ => False) a59 c60 r53.1 ∧ Gv.Own bE 5 w205 (fun _ => False) a169 c170 r163.1 ∧ a.defers = [] ∧ a.tmps.size = 146 ∧ Ok [(0, (.int .i64 a_0)), (1, (.int .i64 b_1)), (5, (.slice (some ⟨b1, 0, none⟩) (List.length ([(118, 1, false)] : List (Int × Int × Bool))) 1)), (6, (.slice a59 (List.length r53.1) c60)), (8, (.slice a169 (List.length r163.1) c170)), (88, (.bool j204))] a.tmps) ?_ ?_
 ·skip
  refine bindE h1 ?_; clear h1; intro r206 hr207 h1
  have hB208 := bg hB174 hg187 nb
  have hB209 := bg hB174 hg167 nb
  have hlo210 : w0.heap.size ≤ b175 := lob hbe179 hB209.size
  have hB211 := bg hB208 hg182 (rowlo hlo210)
  have hg212 := (grown_trans hg192 hg196)
  have hB213 := bg hB211 hg212 nb
  have hB214 := bg hB209 hg177 nb
  have hB215 := bg hB214 hg182 (rowlo hlo210)
  have hB216 := bg hB215 hg192 nb
  have hlo217 : w0.heap.size ≤ b194 := lob hbe198 hB216.size
  have hB218 := bg hB213 hg201 (rowlo hlo217)
  refine gv_call0 (by kernel_rfl) rfl (by kernel_rfl) enters7 (law4_packs_ok fuel  w200 (fun k => X0 k) (fun k hk => (fun k (hk : X0 k) => ltl (hX0 k hk) hB218.size) k hk) ((hG2.below hB218 hX0).wide (fun k hk => hk)) r206 hr207) ?_
  rintro v221 w219 ⟨hg220, rfl⟩
  refine gv_pureN 2 [44, 45] [(45, (.bool (!r206)))] (by kernel_rfl) ?_
  refine gv_sub [0, 1, 5, 6, 7, 8, 9, 10, 11, 12, 45] (σ' := [(0, (.int .i64 a_0)), (1, (.int .i64 b_1)), (5, (.slice (some ⟨b1, 0, none⟩) (List.length ([(118, 1, false)] : List (Int × Int × Bool))) 1)), (6, (.slice a59 (List.length r53.1) c60)), (7, (bp b65)), (8, (.slice a169 (List.length r163.1) c170)), (9, (bp b175)), (10, (.int .i64 r185.1)), (11, (.int .i64 r185.2.1)), (12, (bp b194)), (45, (.bool (!r206)))]) (by kernel_rfl) ?_
  refine gv_split (s := 45) (g := (!r206)) (by kernel_rfl) (fun hc222 => ?_) (fun hc222 => ?_)
  ·skip
   replace h1 := ite_t hc222 h1
   refine gv_pureN 43 [46, 47, 48, 49, 50, 51, 52, 53, 54, 55, 56, 57, 58, 59, 60, 61, 62, 63, 64, 65, 66, 67, 68, 69, 70, 71, 72, 73, 74, 75, 76, 77, 78, 79, 80, 81, 82, 83, 84, 85, 86, 87, 88] [(88, (.bool true))] (by kernel_rfl) ?_
   refine gv_nil ?_
   have e := sj h1; subst e
   refine gv_goal fun a hd hs hok => ?_
   have hB223 := bg hB218 hg220 nb
   have hz224 := hg220.size
   have hk225 := hk190.grown hg192 (fun _ h => h.elim) nb
   have ap226 : ¬ (fun k => blk (some ⟨b1, 0, none⟩) = some k) b194 := fun hx => nl ((lowb hbe198) _ rfl) ((fun k (hk : blk (some ⟨b1, 0, none⟩) = some k) => hk225.lt k hk) _ hx)
   have hk227 := ((hk190.grown hg212 (fun _ h => h.elim) nb).grown hg201 (fun _ h => h.elim) (rdnn (rowne ap226))).grown hg220 (fun _ h => h.elim) nb
   have hg228 := (grown_trans hg98 hg187)
   have hg229 := (grown_trans hg98 hg167)
   have hk230 := hk151.grown hg229 (fun _ h => h.elim) nb
   have ap231 : ¬ (fun k => blk a59 = some k) b175 := fun hx => nl ((lowb hbe179) _ rfl) ((fun k (hk : blk a59 = some k) => hk230.lt k hk) _ hx)
   have hk232 := ((hk230.grown hg177 (fun _ h => h.elim) nb).grown hg182 (fun _ h => h.elim) (rdnn (rowne ap231))).grown hg192 (fun _ h => h.elim) nb
   have ap233 : ¬ (fun k => blk a59 = some k) b194 := fun hx => nl ((lowb hbe198) _ rfl) ((fun k (hk : blk a59 = some k) => hk232.lt k hk) _ hx)
   have hk234 := ((((hk151.grown hg228 (fun _ h => h.elim) nb).grown hg182 (fun _ h => h.elim) (rdnn (rowne ap231))).grown hg212 (fun _ h => h.elim) nb).grown hg201 (fun _ h => h.elim) (rdnn (rowne ap233))).grown hg220 (fun _ h => h.elim) nb
   have ap235 : ¬ (fun k => blk a169 = some k) b175 := fun hx => nl ((lowb hbe179) _ rfl) ((fun k (hk : blk a169 = some k) => ho171.lt k hk) _ hx)
   have hk236 := ((ho171.grown hg177 (fun _ h => h.elim) nb).grown hg182 (fun _ h => h.elim) (rdnn (rowne ap235))).grown hg192 (fun _ h => h.elim) nb
   have ap237 : ¬ (fun k => blk a169 = some k) b194 := fun hx => nl ((lowb hbe198) _ rfl) ((fun k (hk : blk a169 = some k) => hk236.lt k hk) _ hx)
   have hk238 := ((((ho171.grown hg177 (fun _ h => h.elim) nb).grown hg182 (fun _ h => h.elim) (rdnn (rowne ap235))).grown hg212 (fun _ h => h.elim) nb).grown hg201 (fun _ h => h.elim) (rdnn (rowne ap237))).grown hg220 (fun _ h => h.elim) nb
   exact ⟨hB223, hz224, hk227, hk234, hk238, hd, hs, ok_pick [0, 1, 5, 6, 8, 88] hok (by kernel_rfl)⟩
  ·skip
   replace h1 := ite_f hc222 h1
   refine gv_pureN 1 [46] [(46, (bp b65))] (by kernel_rfl) ?_
   have hg239 := (grown_trans hg98 hg187)
   have hg240 := (grown_trans hg98 hg167)
   have hk241 := hk157.grown hg240 nb
   have lt242 := ltl ((ltb hk241) _ rfl) ((lowb hbe179) _ rfl)
   have hk243 := hb183.grown hg192 nb
   have lt244 := ltl ((ltb hk243) _ rfl) ((lowb hbe198) _ rfl)
   have lt245 := ltt lt242 lt244
   have hk246 := ((((hk157.grown hg239 nb).grown hg182 (rowne (ng lt242))).grown hg212 nb).grown hg201 (rowne (ng lt245))).grown hg220 nb
   refine gv_load (t := 3) (A := ⟨b65, 0, none⟩) (.int .i64 r53.2.1) [] (fun e => by cases e) rfl rfl rfl (by kernel_rfl) (by kernel_rfl) (by kernel_rfl) (inw0 (hk246.cell 0 rfl)) rfl ?_
   refine gv_pureN 3 [48, 49, 50] [(50, (.bool (r53.2.1 != 0)))] (by kernel_rfl) ?_
   refine gv_split (s := 50) (g := (r53.2.1 != 0)) (by kernel_rfl) (fun hc247 => ?_) (fun hc247 => ?_)
   ·skip
    replace h1 := ite_t hc247 h1
    refine gv_pureN 38 [51, 52, 53, 54, 55, 56, 57, 58, 59, 60, 61, 62, 63, 64, 65, 66, 67, 68, 69, 70, 71, 72, 73, 74, 75, 76, 77, 78, 79, 80, 81, 82, 83, 84, 85, 86, 87, 88] [(88, (.bool true))] (by kernel_rfl) ?_
    refine gv_nil ?_
    have e := sj h1; subst e
    refine gv_goal fun a hd hs hok => ?_
    have hB248 := bg hB218 hg220 nb
    have hz249 := hg220.size
    have hk250 := hk190.grown hg192 (fun _ h => h.elim) nb
    have ap251 : ¬ (fun k => blk (some ⟨b1, 0, none⟩) = some k) b194 := fun hx => nl ((lowb hbe198) _ rfl) ((fun k (hk : blk (some ⟨b1, 0, none⟩) = some k) => hk250.lt k hk) _ hx)
    have hk252 := ((hk190.grown hg212 (fun _ h => h.elim) nb).grown hg201 (fun _ h => h.elim) (rdnn (rowne ap251))).grown hg220 (fun _ h => h.elim) nb
    have hk253 := hk151.grown hg240 (fun _ h => h.elim) nb
    have ap254 : ¬ (fun k => blk a59 = some k) b175 := fun hx => nl ((lowb hbe179) _ rfl) ((fun k (hk : blk a59 = some k) => hk253.lt k hk) _ hx)
    have hk255 := ((hk253.grown hg177 (fun _ h => h.elim) nb).grown hg182 (fun _ h => h.elim) (rdnn (rowne ap254))).grown hg192 (fun _ h => h.elim) nb
    have ap256 : ¬ (fun k => blk a59 = some k) b194 := fun hx => nl ((lowb hbe198) _ rfl) ((fun k (hk : blk a59 = some k) => hk255.lt k hk) _ hx)
    have hk257 := ((((hk151.grown hg239 (fun _ h => h.elim) nb).grown hg182 (fun _ h => h.elim) (rdnn (rowne ap254))).grown hg212 (fun _ h => h.elim) nb).grown hg201 (fun _ h => h.elim) (rdnn (rowne ap256))).grown hg220 (fun _ h => h.elim) nb
    have ap258 : ¬ (fun k => blk a169 = some k) b175 := fun hx => nl ((lowb hbe179) _ rfl) ((fun k (hk : blk a169 = some k) => ho171.lt k hk) _ hx)
    have hk259 := ((ho171.grown hg177 (fun _ h => h.elim) nb).grown hg182 (fun _ h => h.elim) (rdnn (rowne ap258))).grown hg192 (fun _ h => h.elim) nb
    have ap260 : ¬ (fun k => blk a169 = some k) b194 := fun hx => nl ((lowb hbe198) _ rfl) ((fun k (hk : blk a169 = some k) => hk259.lt k hk) _ hx)
    have hk261 := ((((ho171.grown hg177 (fun _ h => h.elim) nb).grown hg182 (fun _ h => h.elim) (rdnn (rowne ap258))).grown hg212 (fun _ h => h.elim) nb).grown hg201 (fun _ h => h.elim) (rdnn (rowne ap260))).grown hg220 (fun _ h => h.elim) nb
    exact ⟨hB248, hz249, hk252, hk257, hk261, hd, hs, ok_pick [0, 1, 5, 6, 8, 88] hok (by kernel_rfl)⟩
   ·skip
    replace h1 := ite_f hc247 h1
    refine gv_pureN 1 [51] [(51, (bp b175))] (by kernel_rfl) ?_
    have hk262 := ((hk243.grown hg196 nb).grown hg201 (rowne (ng lt244))).grown hg220 nb
    refine gv_load (t := 3) (A := ⟨b175, 0, none⟩) (.int .i64 r163.2.1) [] (fun e => by cases e) rfl rfl rfl (by kernel_rfl) (by kernel_rfl) (by kernel_rfl) (inw0 (hk262.cell 0 rfl)) rfl ?_
    refine gv_pureN 3 [53, 54, 55] [(55, (.bool (r163.2.1 != 0)))] (by kernel_rfl) ?_
    refine gv_split (s := 55) (g := (r163.2.1 != 0)) (by kernel_rfl) (fun hc263 => ?_) (fun hc263 => ?_)
    ·skip
     replace h1 := ite_t hc263 h1
     refine gv_pureN 33 [56, 57, 58, 59, 60, 61, 62, 63, 64, 65, 66, 67, 68, 69, 70, 71, 72, 73, 74, 75, 76, 77, 78, 79, 80, 81, 82, 83, 84, 85, 86, 87, 88] [(88, (.bool true))] (by kernel_rfl) ?_
     refine gv_nil ?_
     have e := sj h1; subst e
     refine gv_goal fun a hd hs hok => ?_
     have hB264 := bg hB218 hg220 nb
     have hz265 := hg220.size
     have hk266 := hk190.grown hg192 (fun _ h => h.elim) nb
     have ap267 : ¬ (fun k => blk (some ⟨b1, 0, none⟩) = some k) b194 := fun hx => nl ((lowb hbe198) _ rfl) ((fun k (hk : blk (some ⟨b1, 0, none⟩) = some k) => hk266.lt k hk) _ hx)
     have hk268 := ((hk190.grown hg212 (fun _ h => h.elim) nb).grown hg201 (fun _ h => h.elim) (rdnn (rowne ap267))).grown hg220 (fun _ h => h.elim) nb
     have hk269 := hk151.grown hg240 (fun _ h => h.elim) nb
     have ap270 : ¬ (fun k => blk a59 = some k) b175 := fun hx => nl ((lowb hbe179) _ rfl) ((fun k (hk : blk a59 = some k) => hk269.lt k hk) _ hx)
     have hk271 := ((hk269.grown hg177 (fun _ h => h.elim) nb).grown hg182 (fun _ h => h.elim) (rdnn (rowne ap270))).grown hg192 (fun _ h => h.elim) nb
     have ap272 : ¬ (fun k => blk a59 = some k) b194 := fun hx => nl ((lowb hbe198) _ rfl) ((fun k (hk : blk a59 = some k) => hk271.lt k hk) _ hx)
     have hk273 := ((((hk151.grown hg239 (fun _ h => h.elim) nb).grown hg182 (fun _ h => h.elim) (rdnn (rowne ap270))).grown hg212 (fun _ h => h.elim) nb).grown hg201 (fun _ h => h.elim) (rdnn (rowne ap272))).grown hg220 (fun _ h => h.elim) nb
     have ap274 : ¬ (fun k => blk a169 = some k) b175 := fun hx => nl ((lowb hbe179) _ rfl) ((fun k (hk : blk a169 = some k) => ho171.lt k hk) _ hx)
     have hk275 := ((ho171.grown hg177 (fun _ h => h.elim) nb).grown hg182 (fun _ h => h.elim) (rdnn (rowne ap274))).grown hg192 (fun _ h => h.elim) nb
     have ap276 : ¬ (fun k => blk a169 = some k) b194 := fun hx => nl ((lowb hbe198) _ rfl) ((fun k (hk : blk a169 = some k) => hk275.lt k hk) _ hx)
     have hk277 := ((((ho171.grown hg177 (fun _ h => h.elim) nb).grown hg182 (fun _ h => h.elim) (rdnn (rowne ap274))).grown hg212 (fun _ h => h.elim) nb).grown hg201 (fun _ h => h.elim) (rdnn (rowne ap276))).grown hg220 (fun _ h => h.elim) nb
     exact ⟨hB264, hz265, hk268, hk273, hk277, hd, hs, ok_pick [0, 1, 5, 6, 8, 88] hok (by kernel_rfl)⟩
    ·skip
     replace h1 := ite_f hc263 h1
     refine gv_pureN 1 [56] [(56, (bp b194))] (by kernel_rfl) ?_
     have hk278 := hb202.grown hg220 nb
     refine gv_load (t := 3) (A := ⟨b194, 0, none⟩) (.int .i64 r185.2.2.1) [] (fun e => by cases e) rfl rfl rfl (by kernel_rfl) (by kernel_rfl) (by kernel_rfl) (inw0 (hk278.cell 0 rfl)) rfl ?_
     refine gv_pureN 3 [58, 59, 60] [(60, (.bool (r185.2.2.1 != 0)))] (by kernel_rfl) ?_
     refine gv_split (s := 60) (g := (r185.2.2.1 != 0)) (by kernel_rfl) (fun hc279 => ?_) (fun hc279 => ?_)
     ·skip
      replace h1 := ite_t hc279 h1
      refine gv_pureN 28 [61, 62, 63, 64, 65, 66, 67, 68, 69, 70, 71, 72, 73, 74, 75, 76, 77, 78, 79, 80, 81, 82, 83, 84, 85, 86, 87, 88] [(88, (.bool true))] (by kernel_rfl) ?_
      refine gv_nil ?_
      have e := sj h1; subst e
      refine gv_goal fun a hd hs hok => ?_
      have hB280 := bg hB218 hg220 nb
      have hz281 := hg220.size
      have hk282 := hk190.grown hg192 (fun _ h => h.elim) nb
      have ap283 : ¬ (fun k => blk (some ⟨b1, 0, none⟩) = some k) b194 := fun hx => nl ((lowb hbe198) _ rfl) ((fun k (hk : blk (some ⟨b1, 0, none⟩) = some k) => hk282.lt k hk) _ hx)
      have hk284 := ((hk190.grown hg212 (fun _ h => h.elim) nb).grown hg201 (fun _ h => h.elim) (rdnn (rowne ap283))).grown hg220 (fun _ h => h.elim) nb
      have hk285 := hk151.grown hg240 (fun _ h => h.elim) nb
      have ap286 : ¬ (fun k => blk a59 = some k) b175 := fun hx => nl ((lowb hbe179) _ rfl) ((fun k (hk : blk a59 = some k) => hk285.lt k hk) _ hx)
      have hk287 := ((hk285.grown hg177 (fun _ h => h.elim) nb).grown hg182 (fun _ h => h.elim) (rdnn (rowne ap286))).grown hg192 (fun _ h => h.elim) nb
      have ap288 : ¬ (fun k => blk a59 = some k) b194 := fun hx => nl ((lowb hbe198) _ rfl) ((fun k (hk : blk a59 = some k) => hk287.lt k hk) _ hx)
      have hk289 := ((((hk151.grown hg239 (fun _ h => h.elim) nb).grown hg182 (fun _ h => h.elim) (rdnn (rowne ap286))).grown hg212 (fun _ h => h.elim) nb).grown hg201 (fun _ h => h.elim) (rdnn (rowne ap288))).grown hg220 (fun _ h => h.elim) nb
      have ap290 : ¬ (fun k => blk a169 = some k) b175 := fun hx => nl ((lowb hbe179) _ rfl) ((fun k (hk : blk a169 = some k) => ho171.lt k hk) _ hx)
      have hk291 := ((ho171.grown hg177 (fun _ h => h.elim) nb).grown hg182 (fun _ h => h.elim) (rdnn (rowne ap290))).grown hg192 (fun _ h => h.elim) nb
      have ap292 : ¬ (fun k => blk a169 = some k) b194 := fun hx => nl ((lowb hbe198) _ rfl) ((fun k (hk : blk a169 = some k) => hk291.lt k hk) _ hx)
      have hk293 := ((((ho171.grown hg177 (fun _ h => h.elim) nb).grown hg182 (fun _ h => h.elim) (rdnn (rowne ap290))).grown hg212 (fun _ h => h.elim) nb).grown hg201 (fun _ h => h.elim) (rdnn (rowne ap292))).grown hg220 (fun _ h => h.elim) nb
      exact ⟨hB280, hz281, hk284, hk289, hk293, hd, hs, ok_pick [0, 1, 5, 6, 8, 88] hok (by kernel_rfl)⟩
     ·skip
      replace h1 := ite_f hc279 h1
      refine gv_pureN 5 [61, 62, 63, 64, 65] [(65, (.bool (((List.length r53.1 : Nat) : Int) == 0)))] (by kernel_rfl) ?_
      refine gv_split (s := 65) (g := (((List.length r53.1 : Nat) : Int) == 0)) (by kernel_rfl) (fun hc294 => ?_) (fun hc294 => ?_)
      ·skip
       replace h1 := ite_t hc294 h1
       refine gv_pureN 23 [66, 67, 68, 69, 70, 71, 72, 73, 74, 75, 76, 77, 78, 79, 80, 81, 82, 83, 84, 85, 86, 87, 88] [(88, (.bool true))] (by kernel_rfl) ?_
       refine gv_nil ?_
       have e := sj h1; subst e
       refine gv_goal fun a hd hs hok => ?_
       have hB295 := bg hB218 hg220 nb
       have hz296 := hg220.size
       have hk297 := hk190.grown hg192 (fun _ h => h.elim) nb
       have ap298 : ¬ (fun k => blk (some ⟨b1, 0, none⟩) = some k) b194 := fun hx => nl ((lowb hbe198) _ rfl) ((fun k (hk : blk (some ⟨b1, 0, none⟩) = some k) => hk297.lt k hk) _ hx)
       have hk299 := ((hk190.grown hg212 (fun _ h => h.elim) nb).grown hg201 (fun _ h => h.elim) (rdnn (rowne ap298))).grown hg220 (fun _ h => h.elim) nb
       have hk300 := hk151.grown hg240 (fun _ h => h.elim) nb
       have ap301 : ¬ (fun k => blk a59 = some k) b175 := fun hx => nl ((lowb hbe179) _ rfl) ((fun k (hk : blk a59 = some k) => hk300.lt k hk) _ hx)
       have hk302 := ((hk300.grown hg177 (fun _ h => h.elim) nb).grown hg182 (fun _ h => h.elim) (rdnn (rowne ap301))).grown hg192 (fun _ h => h.elim) nb
       have ap303 : ¬ (fun k => blk a59 = some k) b194 := fun hx => nl ((lowb hbe198) _ rfl) ((fun k (hk : blk a59 = some k) => hk302.lt k hk) _ hx)
       have hk304 := ((((hk151.grown hg239 (fun _ h => h.elim) nb).grown hg182 (fun _ h => h.elim) (rdnn (rowne ap301))).grown hg212 (fun _ h => h.elim) nb).grown hg201 (fun _ h => h.elim) (rdnn (rowne ap303))).grown hg220 (fun _ h => h.elim) nb
       have ap305 : ¬ (fun k => blk a169 = some k) b175 := fun hx => nl ((lowb hbe179) _ rfl) ((fun k (hk : blk a169 = some k) => ho171.lt k hk) _ hx)
       have hk306 := ((ho171.grown hg177 (fun _ h => h.elim) nb).grown hg182 (fun _ h => h.elim) (rdnn (rowne ap305))).grown hg192 (fun _ h => h.elim) nb
       have ap307 : ¬ (fun k => blk a169 = some k) b194 := fun hx => nl ((lowb hbe198) _ rfl) ((fun k (hk : blk a169 = some k) => hk306.lt k hk) _ hx)
       have hk308 := ((((ho171.grown hg177 (fun _ h => h.elim) nb).grown hg182 (fun _ h => h.elim) (rdnn (rowne ap305))).grown hg212 (fun _ h => h.elim) nb).grown hg201 (fun _ h => h.elim) (rdnn (rowne ap307))).grown hg220 (fun _ h => h.elim) nb
       exact ⟨hB295, hz296, hk299, hk304, hk308, hd, hs, ok_pick [0, 1, 5, 6, 8, 88] hok (by kernel_rfl)⟩
      ·skip
       replace h1 := ite_f hc294 h1
       refine gv_pureN 6 [66, 67, 68, 69, 70, 71] [(71, (.bool (decide (((List.length r53.1 : Nat) : Int) < r185.1))))] (by kernel_rfl) ?_
       refine gv_split (s := 71) (g := (decide (((List.length r53.1 : Nat) : Int) < r185.1))) (by kernel_rfl) (fun hc309 => ?_) (fun hc309 => ?_)
       ·skip
        replace h1 := ite_t hc309 h1
        refine gv_pureN 17 [72, 73, 74, 75, 76, 77, 78, 79, 80, 81, 82, 83, 84, 85, 86, 87, 88] [(88, (.bool true))] (by kernel_rfl) ?_
        refine gv_nil ?_
        have e := sj h1; subst e
        refine gv_goal fun a hd hs hok => ?_
        have hB310 := bg hB218 hg220 nb
        have hz311 := hg220.size
        have hk312 := hk190.grown hg192 (fun _ h => h.elim) nb
        have ap313 : ¬ (fun k => blk (some ⟨b1, 0, none⟩) = some k) b194 := fun hx => nl ((lowb hbe198) _ rfl) ((fun k (hk : blk (some ⟨b1, 0, none⟩) = some k) => hk312.lt k hk) _ hx)
        have hk314 := ((hk190.grown hg212 (fun _ h => h.elim) nb).grown hg201 (fun _ h => h.elim) (rdnn (rowne ap313))).grown hg220 (fun _ h => h.elim) nb
        have hk315 := hk151.grown hg240 (fun _ h => h.elim) nb
        have ap316 : ¬ (fun k => blk a59 = some k) b175 := fun hx => nl ((lowb hbe179) _ rfl) ((fun k (hk : blk a59 = some k) => hk315.lt k hk) _ hx)
        have hk317 := ((hk315.grown hg177 (fun _ h => h.elim) nb).grown hg182 (fun _ h => h.elim) (rdnn (rowne ap316))).grown hg192 (fun _ h => h.elim) nb
        have ap318 : ¬ (fun k => blk a59 = some k) b194 := fun hx => nl ((lowb hbe198) _ rfl) ((fun k (hk : blk a59 = some k) => hk317.lt k hk) _ hx)
        have hk319 := ((((hk151.grown hg239 (fun _ h => h.elim) nb).grown hg182 (fun _ h => h.elim) (rdnn (rowne ap316))).grown hg212 (fun _ h => h.elim) nb).grown hg201 (fun _ h => h.elim) (rdnn (rowne ap318))).grown hg220 (fun _ h => h.elim) nb
        have ap320 : ¬ (fun k => blk a169 = some k) b175 := fun hx => nl ((lowb hbe179) _ rfl) ((fun k (hk : blk a169 = some k) => ho171.lt k hk) _ hx)
        have hk321 := ((ho171.grown hg177 (fun _ h => h.elim) nb).grown hg182 (fun _ h => h.elim) (rdnn (rowne ap320))).grown hg192 (fun _ h => h.elim) nb
        have ap322 : ¬ (fun k => blk a169 = some k) b194 := fun hx => nl ((lowb hbe198) _ rfl) ((fun k (hk : blk a169 = some k) => hk321.lt k hk) _ hx)
        have hk323 := ((((ho171.grown hg177 (fun _ h => h.elim) nb).grown hg182 (fun _ h => h.elim) (rdnn (rowne ap320))).grown hg212 (fun _ h => h.elim) nb).grown hg201 (fun _ h => h.elim) (rdnn (rowne ap322))).grown hg220 (fun _ h => h.elim) nb
        exact ⟨hB310, hz311, hk314, hk319, hk323, hd, hs, ok_pick [0, 1, 5, 6, 8, 88] hok (by kernel_rfl)⟩
       ·skip
        replace h1 := ite_f hc309 h1
        refine gv_pureN 6 [72, 73, 74, 75, 76, 77] [(77, (.bool (decide (((List.length r53.1 : Nat) : Int) > r185.2.1))))] (by kernel_rfl) ?_
        refine gv_split (s := 77) (g := (decide (((List.length r53.1 : Nat) : Int) > r185.2.1))) (by kernel_rfl) (fun hc324 => ?_) (fun hc324 => ?_)
        ·skip
         replace h1 := ite_t hc324 h1
         refine gv_pureN 11 [78, 79, 80, 81, 82, 83, 84, 85, 86, 87, 88] [(88, (.bool true))] (by kernel_rfl) ?_
         refine gv_nil ?_
         have e := sj h1; subst e
         refine gv_goal fun a hd hs hok => ?_
         have hB325 := bg hB218 hg220 nb
         have hz326 := hg220.size
         have hk327 := hk190.grown hg192 (fun _ h => h.elim) nb
         have ap328 : ¬ (fun k => blk (some ⟨b1, 0, none⟩) = some k) b194 := fun hx => nl ((lowb hbe198) _ rfl) ((fun k (hk : blk (some ⟨b1, 0, none⟩) = some k) => hk327.lt k hk) _ hx)
         have hk329 := ((hk190.grown hg212 (fun _ h => h.elim) nb).grown hg201 (fun _ h => h.elim) (rdnn (rowne ap328))).grown hg220 (fun _ h => h.elim) nb
         have hk330 := hk151.grown hg240 (fun _ h => h.elim) nb
         have ap331 : ¬ (fun k => blk a59 = some k) b175 := fun hx => nl ((lowb hbe179) _ rfl) ((fun k (hk : blk a59 = some k) => hk330.lt k hk) _ hx)
         have hk332 := ((hk330.grown hg177 (fun _ h => h.elim) nb).grown hg182 (fun _ h => h.elim) (rdnn (rowne ap331))).grown hg192 (fun _ h => h.elim) nb
         have ap333 : ¬ (fun k => blk a59 = some k) b194 := fun hx => nl ((lowb hbe198) _ rfl) ((fun k (hk : blk a59 = some k) => hk332.lt k hk) _ hx)
         have hk334 := ((((hk151.grown hg239 (fun _ h => h.elim) nb).grown hg182 (fun _ h => h.elim) (rdnn (rowne ap331))).grown hg212 (fun _ h => h.elim) nb).grown hg201 (fun _ h => h.elim) (rdnn (rowne ap333))).grown hg220 (fun _ h => h.elim) nb
         have ap335 : ¬ (fun k => blk a169 = some k) b175 := fun hx => nl ((lowb hbe179) _ rfl) ((fun k (hk : blk a169 = some k) => ho171.lt k hk) _ hx)
         have hk336 := ((ho171.grown hg177 (fun _ h => h.elim) nb).grown hg182 (fun _ h => h.elim) (rdnn (rowne ap335))).grown hg192 (fun _ h => h.elim) nb
         have ap337 : ¬ (fun k => blk a169 = some k) b194 := fun hx => nl ((lowb hbe198) _ rfl) ((fun k (hk : blk a169 = some k) => hk336.lt k hk) _ hx)
         have hk338 := ((((ho171.grown hg177 (fun _ h => h.elim) nb).grown hg182 (fun _ h => h.elim) (rdnn (rowne ap335))).grown hg212 (fun _ h => h.elim) nb).grown hg201 (fun _ h => h.elim) (rdnn (rowne ap337))).grown hg220 (fun _ h => h.elim) nb
         exact ⟨hB325, hz326, hk329, hk334, hk338, hd, hs, ok_pick [0, 1, 5, 6, 8, 88] hok (by kernel_rfl)⟩
        ·skip
         replace h1 := ite_f hc324 h1
         refine gv_pureN 6 [78, 79, 80, 81, 82, 83] [(83, (.bool (decide (((List.length r163.1 : Nat) : Int) < r185.1))))] (by kernel_rfl) ?_
         refine gv_split (s := 83) (g := (decide (((List.length r163.1 : Nat) : Int) < r185.1))) (by kernel_rfl) (fun hc339 => ?_) (fun hc339 => ?_)
         ·skip
          replace h1 := ite_t hc339 h1
          refine gv_pureN 5 [84, 85, 86, 87, 88] [(88, (.bool true))] (by kernel_rfl) ?_
          refine gv_sub [0, 1, 5, 6, 8, 88] (σ' := [(0, (.int .i64 a_0)), (1, (.int .i64 b_1)), (5, (.slice (some ⟨b1, 0, none⟩) (List.length ([(118, 1, false)] : List (Int × Int × Bool))) 1)), (6, (.slice a59 (List.length r53.1) c60)), (8, (.slice a169 (List.length r163.1) c170)), (88, (.bool true))]) (by kernel_rfl) ?_
          refine gv_nil ?_
          have e := sj h1; subst e
          refine gv_goal fun a hd hs hok => ?_
          have hB340 := bg hB218 hg220 nb
          have hz341 := hg220.size
          have hk342 := hk190.grown hg192 (fun _ h => h.elim) nb
          have ap343 : ¬ (fun k => blk (some ⟨b1, 0, none⟩) = some k) b194 := fun hx => nl ((lowb hbe198) _ rfl) ((fun k (hk : blk (some ⟨b1, 0, none⟩) = some k) => hk342.lt k hk) _ hx)
          have hk344 := ((hk190.grown hg212 (fun _ h => h.elim) nb).grown hg201 (fun _ h => h.elim) (rdnn (rowne ap343))).grown hg220 (fun _ h => h.elim) nb
          have hk345 := hk151.grown hg240 (fun _ h => h.elim) nb
          have ap346 : ¬ (fun k => blk a59 = some k) b175 := fun hx => nl ((lowb hbe179) _ rfl) ((fun k (hk : blk a59 = some k) => hk345.lt k hk) _ hx)
          have hk347 := ((hk345.grown hg177 (fun _ h => h.elim) nb).grown hg182 (fun _ h => h.elim) (rdnn (rowne ap346))).grown hg192 (fun _ h => h.elim) nb
          have ap348 : ¬ (fun k => blk a59 = some k) b194 := fun hx => nl ((lowb hbe198) _ rfl) ((fun k (hk : blk a59 = some k) => hk347.lt k hk) _ hx)
          have hk349 := ((((hk151.grown hg239 (fun _ h => h.elim) nb).grown hg182 (fun _ h => h.elim) (rdnn (rowne ap346))).grown hg212 (fun _ h => h.elim) nb).grown hg201 (fun _ h => h.elim) (rdnn (rowne ap348))).grown hg220 (fun _ h => h.elim) nb
          have ap350 : ¬ (fun k => blk a169 = some k) b175 := fun hx => nl ((lowb hbe179) _ rfl) ((fun k (hk : blk a169 = some k) => ho171.lt k hk) _ hx)
          have hk351 := ((ho171.grown hg177 (fun _ h => h.elim) nb).grown hg182 (fun _ h => h.elim) (rdnn (rowne ap350))).grown hg192 (fun _ h => h.elim) nb
          have ap352 : ¬ (fun k => blk a169 = some k) b194 := fun hx => nl ((lowb hbe198) _ rfl) ((fun k (hk : blk a169 = some k) => hk351.lt k hk) _ hx)
          have hk353 := ((((ho171.grown hg177 (fun _ h => h.elim) nb).grown hg182 (fun _ h => h.elim) (rdnn (rowne ap350))).grown hg212 (fun _ h => h.elim) nb).grown hg201 (fun _ h => h.elim) (rdnn (rowne ap352))).grown hg220 (fun _ h => h.elim) nb
          exact ⟨hB340, hz341, hk344, hk349, hk353, hd, hs, ok_pick [0, 1, 5, 6, 8, 88] hok (by kernel_rfl)⟩
         ·skip
          replace h1 := ite_f hc339 h1
          refine gv_pureN 5 [84, 85, 86, 87, 88] [(88, (.bool (decide (((List.length r163.1 : Nat) : Int) > r185.2.1))))] (by kernel_rfl) ?_
          refine gv_sub [0, 1, 5, 6, 8, 88] (σ' := [(0, (.int .i64 a_0)), (1, (.int .i64 b_1)), (5, (.slice (some ⟨b1, 0, none⟩) (List.length ([(118, 1, false)] : List (Int × Int × Bool))) 1)), (6, (.slice a59 (List.length r53.1) c60)), (8, (.slice a169 (List.length r163.1) c170)), (88, (.bool (decide (((List.length r163.1 : Nat) : Int) > r185.2.1))))]) (by kernel_rfl) ?_
          refine gv_nil ?_
          have e := sj h1; subst e
          refine gv_goal fun a hd hs hok => ?_
          have hB354 := bg hB218 hg220 nb
          have hz355 := hg220.size
          have hk356 := hk190.grown hg192 (fun _ h => h.elim) nb
          have ap357 : ¬ (fun k => blk (some ⟨b1, 0, none⟩) = some k) b194 := fun hx => nl ((lowb hbe198) _ rfl) ((fun k (hk : blk (some ⟨b1, 0, none⟩) = some k) => hk356.lt k hk) _ hx)
          have hk358 := ((hk190.grown hg212 (fun _ h => h.elim) nb).grown hg201 (fun _ h => h.elim) (rdnn (rowne ap357))).grown hg220 (fun _ h => h.elim) nb
          have hk359 := hk151.grown hg240 (fun _ h => h.elim) nb
          have ap360 : ¬ (fun k => blk a59 = some k) b175 := fun hx => nl ((lowb hbe179) _ rfl) ((fun k (hk : blk a59 = some k) => hk359.lt k hk) _ hx)
          have hk361 := ((hk359.grown hg177 (fun _ h => h.elim) nb).grown hg182 (fun _ h => h.elim) (rdnn (rowne ap360))).grown hg192 (fun _ h => h.elim) nb
          have ap362 : ¬ (fun k => blk a59 = some k) b194 := fun hx => nl ((lowb hbe198) _ rfl) ((fun k (hk : blk a59 = some k) => hk361.lt k hk) _ hx)
          have hk363 := ((((hk151.grown hg239 (fun _ h => h.elim) nb).grown hg182 (fun _ h => h.elim) (rdnn (rowne ap360))).grown hg212 (fun _ h => h.elim) nb).grown hg201 (fun _ h => h.elim) (rdnn (rowne ap362))).grown hg220 (fun _ h => h.elim) nb
          have ap364 : ¬ (fun k => blk a169 = some k) b175 := fun hx => nl ((lowb hbe179) _ rfl) ((fun k (hk : blk a169 = some k) => ho171.lt k hk) _ hx)
          have hk365 := ((ho171.grown hg177 (fun _ h => h.elim) nb).grown hg182 (fun _ h => h.elim) (rdnn (rowne ap364))).grown hg192 (fun _ h => h.elim) nb
          have ap366 : ¬ (fun k => blk a169 = some k) b194 := fun hx => nl ((lowb hbe198) _ rfl) ((fun k (hk : blk a169 = some k) => hk365.lt k hk) _ hx)
          have hk367 := ((((ho171.grown hg177 (fun _ h => h.elim) nb).grown hg182 (fun _ h => h.elim) (rdnn (rowne ap364))).grown hg212 (fun _ h => h.elim) nb).grown hg201 (fun _ h => h.elim) (rdnn (rowne ap366))).grown hg220 (fun _ h => h.elim) nb
          exact ⟨hB354, hz355, hk358, hk363, hk367, hd, hs, ok_pick [0, 1, 5, 6, 8, 88] hok (by kernel_rfl)⟩
 ·rintro a w205 ⟨hB368, hz369, hk370, hk371, hk372, hd, hs, hok⟩
  refine gv_in ?_ hd hs hok
  clear hd hs hok
  clear hz369 hz203 hb202 hg201 hz199 hbe198 hb197 hg196 hg192 hk190 ap189 hk188 hg187 hr186 hz184 hb183 hg182 hz180 hbe179 hb178 hg177 hB174 ho171 hg167 hr164 ap158 ap156 hk157 ap152 ap149 ap150 ap117 ap113 hk116 ap115 hk114 hl103 hB112 ho102 hx106 hx104 hlo93 hbe69 ho61
  refine gv_cond (b := j204) (by kernel_rfl) (fun hc373 => ?_) (fun hc373 => ?_)
  ·replace h0 := ite_t hc373 h0
   refine gv_seq <| gv_region <| gv_pureN 1 [4] [(4, (.bool false))] (by kernel_rfl) ?_
   refine gv_nil <| gv_cret ?_
   have e := sj h0; subst e
   refine gv_ret (gv_done [(.bool false)] rfl ⟨(by kernel_rfl), trivial⟩ ?_)
   exact ⟨grown_of_below hB368, rfl⟩
  ·replace h0 := ite_f hc373 h0
   refine gv_skip <| gv_seq <| gv_region <| gv_pureN 4 [13, 14, 89, 90] [(13, (.int .i64 a_0)), (14, (.int .i64 b_1))] (by kernel_rfl) ?_
   refine gv_nil <| gv_seq <| gv_seq <| gv_region <| gv_pureN 2 [91, 92] [(92, (.bool (decide (a_0 < 0))))] (by kernel_rfl) ?_
   refine gv_nil <| bindE h0 ?_; clear h0; intro j374 h1 h0
   refine gv_cut_code (J := fun a w375 => Below w0.heap.size w0 w375 ∧ w205.heap.size ≤ w375.heap.size ∧ Gv.Own (prE (iE .u8) (prE (iE .i64) tE)) 31 w375 (fun _ => False) (some ⟨b1, 0, none⟩) 1 ([(118, 1, false)] : List (Int × Int × Bool)) ∧ Gv.Own bE 5 w375 (fun _ => False) a59 c60 r53.1 ∧ Gv.Own bE 5 w375 (fun _ => False) a169 c170 r163.1 ∧ a.defers = [] ∧ a.tmps.size = 146 ∧ Ok [(0, (.int .i64 a_0)), (1, (.int .i64 b_1)), (5, (.slice (some ⟨b1, 0, none⟩) (List.length ([(118, 1, false)] : List (Int × Int × Bool))) 1)), (6, (.slice a59 (List.length r53.1) c60)), (8, (.slice a169 (List.length r163.1) c170)), (13, (.int .i64 j374)), (14, (.int .i64 b_1))] a.tmps) ?_ ?_
   ·skip
    refine gv_cond (b := (decide (a_0 < 0))) (by kernel_rfl) (fun hc376 => ?_) (fun hc376 => ?_)
    ·replace h1 := ite_t hc376 h1
     refine gv_region <| gv_pureN 3 [13, 93, 94] [(13, (.int .i64 (IntKind.i64.wrap ((-1) - a_0))))] (by kernel_rfl) ?_
     refine gv_nil ?_
     have e := sj h1; subst e
     refine gv_goal fun a hd hs hok => ?_
     exact ⟨hB368, (Nat.le_refl _), hk370, hk371, hk372, hd, hs, ok_pick [0, 1, 5, 6, 8, 13, 14] hok (by kernel_rfl)⟩
    ·replace h1 := ite_f hc376 h1
     refine gv_skip ?_
     have e := sj h1; subst e
     refine gv_goal fun a hd hs hok => ?_
     exact ⟨hB368, (Nat.le_refl _), hk370, hk371, hk372, hd, hs, ok_pick [0, 1, 5, 6, 8, 13, 14] hok (by kernel_rfl)⟩
   ·rintro a w375 ⟨hB377, hz378, hk379, hk380, hk381, hd, hs, hok⟩
    refine gv_in ?_ hd hs hok
    clear hd hs hok
    clear hz378 hc373 hk372 hk371 hk370 hB368
    refine gv_seq <| gv_seq <| gv_region <| gv_pureN 2 [95, 96] [(96, (.bool (decide (b_1 < 0))))] (by kernel_rfl) ?_
    refine gv_nil <| bindE h0 ?_; clear h0; intro j382 h1 h0
    refine gv_cut_code (J := fun a w383 => Below w0.heap.size w0 w383 ∧ w375.heap.size ≤ w383.heap.size ∧ Gv.Own (prE (iE .u8) (prE (iE .i64) tE)) 31 w383 (fun _ => False) (some ⟨b1, 0, none⟩) 1 ([(118, 1, false)] : List (Int × Int × Bool)) ∧ Gv.Own bE 5 w383 (fun _ => False) a59 c60 r53.1 ∧ Gv.Own bE 5 w383 (fun _ => False) a169 c170 r163.1 ∧ a.defers = [] ∧ a.tmps.size = 146 ∧ Ok [(0, (.int .i64 a_0)), (1, (.int .i64 b_1)), (5, (.slice (some ⟨b1, 0, none⟩) (List.length ([(118, 1, false)] : List (Int × Int × Bool))) 1)), (6, (.slice a59 (List.length r53.1) c60)), (8, (.slice a169 (List.length r163.1) c170)), (13, (.int .i64 j374)), (14, (.int .i64 j382))] a.tmps) ?_ ?_
    ·skip
     refine gv_cond (b := (decide (b_1 < 0))) (by kernel_rfl) (fun hc384 => ?_) (fun hc384 => ?_)
     ·replace h1 := ite_t hc384 h1
      refine gv_region <| gv_pureN 3 [14, 97, 98] [(14, (.int .i64 (IntKind.i64.wrap ((-1) - b_1))))] (by kernel_rfl) ?_
      refine gv_nil ?_
      have e := sj h1; subst e
      refine gv_goal fun a hd hs hok => ?_
      exact ⟨hB377, (Nat.le_refl _), hk379, hk380, hk381, hd, hs, ok_pick [0, 1, 5, 6, 8, 13, 14] hok (by kernel_rfl)⟩
     ·replace h1 := ite_f hc384 h1
      refine gv_skip ?_
      have e := sj h1; subst e
      refine gv_goal fun a hd hs hok => ?_
      exact ⟨hB377, (Nat.le_refl _), hk379, hk380, hk381, hd, hs, ok_pick [0, 1, 5, 6, 8, 13, 14] hok (by kernel_rfl)⟩
    ·rintro a w383 ⟨hB385, hz386, hk387, hk388, hk389, hd, hs, hok⟩
     refine gv_in ?_ hd hs hok
     clear hd hs hok
     clear hz386 hk381 hk380 hk379 hB377
     refine gv_seq <| gv_seq <| gv_region <| bindE h0 ?_; clear h0; intro j390 h1 h0
     refine gv_cut_ops (J := fun a w391 => Below w0.heap.size w0 w391 ∧ w383.heap.size ≤ w391.heap.size ∧ Gv.Own (prE (iE .u8) (prE (iE .i64) tE)) 31 w391 (fun _ => False) (some ⟨b1, 0, none⟩) 1 ([(118, 1, false)] : List (Int × Int × Bool)) ∧ Gv.Own bE 5 w391 (fun _ => False) a59 c60 r53.1 ∧ a.defers = [] ∧ a.tmps.size = 146 ∧ Ok [(5, (.slice (some ⟨b1, 0, none⟩) (List.length ([(118, 1, false)] : List (Int × Int × Bool))) 1)), (6, (.slice a59 (List.length r53.1) c60)), (118, (.bool j390))] a.tmps) ?_ ?_
     ·skip
      refine gv_pureN 4 [99, 100, 101, 102] [(102, (.bool (decide (j374 ≤ j382))))] (by kernel_rfl) ?_
      refine gv_split (s := 102) (g := (decide (j374 ≤ j382))) (by kernel_rfl) (fun hc392 => ?_) (fun hc392 => ?_)
      ·skip
       replace h1 := ite_t hc392 h1
       refine gv_pureN 7 [103, 104, 105, 106, 107, 108, 109] [(109, (.bool (decide (((List.length r53.1 : Nat) : Int) > ((List.length r163.1 : Nat) : Int)))))] (by kernel_rfl) ?_
       refine gv_split (s := 109) (g := (decide (((List.length r53.1 : Nat) : Int) > ((List.length r163.1 : Nat) : Int)))) (by kernel_rfl) (fun hc393 => ?_) (fun hc393 => ?_)
       ·skip
        replace h1 := ite_t hc393 h1
        refine gv_pureN 9 [110, 111, 112, 113, 114, 115, 116, 117, 118] [(118, (.bool true))] (by kernel_rfl) ?_
        refine gv_nil ?_
        have e := sj h1; subst e
        refine gv_goal fun a hd hs hok => ?_
        exact ⟨hB385, (Nat.le_refl _), hk387, hk388, hd, hs, ok_pick [5, 6, 118] hok (by kernel_rfl)⟩
       ·skip
        replace h1 := ite_f hc393 h1
        refine gv_pureN 4 [110, 111, 112, 113] [(113, (.bool (a_0 != b_1)))] (by kernel_rfl) ?_
        refine gv_split (s := 113) (g := (a_0 != b_1)) (by kernel_rfl) (fun hc394 => ?_) (fun hc394 => ?_)
        ·skip
         replace h1 := ite_t hc394 h1
         refine gv_pureN 2 [114, 115] [(114, (.slice a59 (List.length r53.1) c60)), (115, (.slice a169 (List.length r163.1) c170))] (by kernel_rfl) ?_
         refine bindE h1 ?_; clear h1; intro r395 hr396 h1
         refine gv_call0 (by kernel_rfl) rfl (by kernel_rfl) enters8 (ref4_SameBytes_ok fuel a59 c60 r53.1 a169 c170 r163.1 w383 (fun k => (fun k => blk a59 = some k) k ∨ (fun k => blk a169 = some k) k) (fun k hk => (hk).elim (fun h => (fun k (hk : blk a59 = some k) => hk388.lt k hk) k h) (fun h => (fun k (hk : blk a169 = some k) => hk389.lt k hk) k h)) ((hk388.rd (Y := fun k => blk a59 = some k) (fun _ h => h.elim) (fun g e => e)).wide (fun k hk => (.inl hk))) ((hk389.rd (Y := fun k => blk a169 = some k) (fun _ h => h.elim) (fun g e => e)).wide (fun k hk => (.inr hk))) r395 hr396) ?_
         rintro v399 w397 ⟨hg398, rfl⟩
         clear hr396 hc394 hc393 hc392 hk389 hl173 hl172 hk165 hk151 hg98
         refine gv_pureN 2 [117, 118] [(118, (.bool r395))] (by kernel_rfl) ?_
         refine gv_nil ?_
         have e := sj h1; subst e
         refine gv_goal fun a hd hs hok => ?_
         have hB400 := bg hB385 hg398 nb
         have hz401 := hg398.size
         have hk402 := hk387.grown hg398 (fun _ h => h.elim) nb
         have hk403 := hk388.grown hg398 (fun _ h => h.elim) nb
         exact ⟨hB400, hz401, hk402, hk403, hd, hs, ok_pick [5, 6, 118] hok (by kernel_rfl)⟩
        ·skip
         replace h1 := ite_f hc394 h1
         refine gv_pureN 5 [114, 115, 116, 117, 118] [(118, (.bool false))] (by kernel_rfl) ?_
         refine gv_nil ?_
         have e := sj h1; subst e
         refine gv_goal fun a hd hs hok => ?_
         exact ⟨hB385, (Nat.le_refl _), hk387, hk388, hd, hs, ok_pick [5, 6, 118] hok (by kernel_rfl)⟩
      ·skip
       replace h1 := ite_f hc392 h1
       refine gv_pureN 11 [103, 104, 105, 106, 107, 108, 109, 110, 111, 112, 113] [(109, (.bool false)), (113, (.bool (a_0 != b_1)))] (by kernel_rfl) ?_
       refine gv_split (s := 113) (g := (a_0 != b_1)) (by kernel_rfl) (fun hc404 => ?_) (fun hc404 => ?_)
       ·skip
        replace h1 := ite_t hc404 h1
        refine gv_pureN 2 [114, 115] [(114, (.slice a59 (List.length r53.1) c60)), (115, (.slice a169 (List.length r163.1) c170))] (by kernel_rfl) ?_
        refine bindE h1 ?_; clear h1; intro r405 hr406 h1
        refine gv_call0 (by kernel_rfl) rfl (by kernel_rfl) enters8 (ref4_SameBytes_ok fuel a59 c60 r53.1 a169 c170 r163.1 w383 (fun k => (fun k => blk a59 = some k) k ∨ (fun k => blk a169 = some k) k) (fun k hk => (hk).elim (fun h => (fun k (hk : blk a59 = some k) => hk388.lt k hk) k h) (fun h => (fun k (hk : blk a169 = some k) => hk389.lt k hk) k h)) ((hk388.rd (Y := fun k => blk a59 = some k) (fun _ h => h.elim) (fun g e => e)).wide (fun k hk => (.inl hk))) ((hk389.rd (Y := fun k => blk a169 = some k) (fun _ h => h.elim) (fun g e => e)).wide (fun k hk => (.inr hk))) r405 hr406) ?_
        rintro v409 w407 ⟨hg408, rfl⟩
        refine gv_pureN 2 [117, 118] [(118, (.bool r405))] (by kernel_rfl) ?_
        refine gv_nil ?_
        have e := sj h1; subst e
        refine gv_goal fun a hd hs hok => ?_
        have hB410 := bg hB385 hg408 nb
        have hz411 := hg408.size
        have hk412 := hk387.grown hg408 (fun _ h => h.elim) nb
        have hk413 := hk388.grown hg408 (fun _ h => h.elim) nb
        exact ⟨hB410, hz411, hk412, hk413, hd, hs, ok_pick [5, 6, 118] hok (by kernel_rfl)⟩
       ·skip
        replace h1 := ite_f hc404 h1
        refine gv_pureN 5 [114, 115, 116, 117, 118] [(118, (.bool false))] (by kernel_rfl) ?_
        refine gv_nil ?_
        have e := sj h1; subst e
        refine gv_goal fun a hd hs hok => ?_
        exact ⟨hB385, (Nat.le_refl _), hk387, hk388, hd, hs, ok_pick [5, 6, 118] hok (by kernel_rfl)⟩
     ·rintro a w391 ⟨hB414, hz415, hk416, hk417, hd, hs, hok⟩
      refine gv_in ?_ hd hs hok
      clear hd hs hok
      clear hz415 hk389 hk388 hk387 hB385 hl173 hl172 hk165 hk151 hg98
      refine gv_cond (b := j390) (by kernel_rfl) (fun hc418 => ?_) (fun hc418 => ?_)
      ·replace h0 := ite_t hc418 h0
       refine gv_seq <| gv_region <| gv_pureN 1 [4] [(4, (.bool false))] (by kernel_rfl) ?_
       refine gv_nil <| gv_cret ?_
       have e := sj h0; subst e
       refine gv_ret (gv_done [(.bool false)] rfl ⟨(by kernel_rfl), trivial⟩ ?_)
       exact ⟨grown_of_below hB414, rfl⟩
      ·replace h0 := ite_f hc418 h0
       refine gv_skip <| gv_seq <| gv_region <| gv_pureN 5 [120, 121, 122, 123, 124] [(120, (.slice (some ⟨b1, 0, none⟩) (List.length ([(118, 1, false)] : List (Int × Int × Bool))) 1)), (121, (.slice a59 (List.length r53.1) c60)), (124, (.int .i64 (IntKind.i64.wrap (((List.length r53.1 : Nat) : Int) - 1))))] (by kernel_rfl) ?_
       refine bindE h0 ?_; clear h0; intro x419 hx420 h0
       refine gv_ssl2 bE (t := 24) (e := 5) (xs := r53.1) (a := a59) (cap := c60) (lo := none) (hi := (some (.int .i64 (IntKind.i64.wrap (((List.length r53.1 : Nat) : Int) - 1))))) 0 (IntKind.i64.wrap (((List.length r53.1 : Nat) : Int) - 1)) x419 (fun e => by cases e) rfl rfl rfl (by kernel_rfl) (by kernel_rfl) Tryd.underlying24 (by kernel_rfl) (.inl ⟨rfl, rfl⟩) (.inr ⟨_, rfl⟩) hx420 (hk417.rd (Y := fun k => blk a59 = some k) (fun _ h => h.elim) (fun g e => e)).1 ?_
       intro a421 c422 hsub423
       have hr424 := hsub423 _ _ (hk417.rd (Y := fun k => blk a59 = some k) (fun _ h => h.elim) (fun g e => e))
       refine bindE h0 ?_; clear h0; intro r425 hr426 h0
       refine gv_call0 (by kernel_rfl) rfl (by kernel_rfl) enters18 (packing_Unpack_ok fuel (some ⟨b1, 0, none⟩) 1 ([(118, 1, false)] : List (Int × Int × Bool)) a421 c422 x419 w391 (fun k => (fun k => blk (some ⟨b1, 0, none⟩) = some k) k ∨ (fun k => blk a59 = some k) k) (fun k hk => (hk).elim (fun h => (fun k (hk : blk (some ⟨b1, 0, none⟩) = some k) => hk416.lt k hk) k h) (fun h => (fun k (hk : blk a59 = some k) => hk417.lt k hk) k h)) ((hk416.rd (Y := fun k => blk (some ⟨b1, 0, none⟩) = some k) (fun _ h => h.elim) (fun g e => e)).wide (fun k hk => (.inl hk))) (hr424.wide (fun k hk => (.inr hk))) r425 hr426) ?_
       rintro v429 w427 ⟨hg428, a430, c431, X434, rfl, ho432, hl433, hx435⟩
       have hl436 : ∀ g, blk a430 = some g → w0.heap.size ≤ g := fun g e => Nat.le_trans hB414.size (hl433 g e)
       have hx437 : ∀ k, X434 k → k < w427.heap.size := fun k hk => (hx435 k hk).1
       have hx438 : ∀ k, X434 k → X0 k ∨ w0.heap.size ≤ k := fun k hk => (hx435 k hk).2.elim (fun h => (h).elim (fun h => (fun k (hk : blk (some ⟨b1, 0, none⟩) = some k) => Or.inr (hl8 k hk)) k h) (fun h => (fun k (hk : blk a59 = some k) => Or.inr (hl63 k hk)) k h)) (fun h => .inr (Nat.le_trans hB414.size h))
       refine gv_pureN 3 [119, 127, 128] [(127, (.slice a430 (List.length r425.1) c431)), (128, (.agg #[(.int .i64 r425.2.1), (.int .i64 r425.2.2)]))] (by kernel_rfl) ?_
       refine gv_new0 (fun b => .pointer (some ⟨b, 0, none⟩)) #[(.int .i64 0), (.int .i64 0)] 26 (by kernel_rfl) (by kernel_rfl) ?_
       intro b439 w440 hg441 hb442 hbe443 hz444
       refine gv_pureN 1 [15] [] (by kernel_rfl) ?_
       refine gv_store0 26 0 (.agg #[(.int .i64 r425.2.1), (.int .i64 r425.2.2)]) #[(.int .i64 r425.2.1), (.int .i64 r425.2.2)] hb442 (by kernel_rfl) (by kernel_rfl) (by kernel_rfl) ?_
       intro w445 hg446 hb447 hz448
       refine gv_nil <| gv_seq <| gv_region <| gv_pureN 2 [130, 131] [(130, (.slice (some ⟨b1, 0, none⟩) (List.length ([(118, 1, false)] : List (Int × Int × Bool))) 1)), (131, (.slice a59 (List.length r53.1) c60))] (by kernel_rfl) ?_
       refine bindE h0 ?_; clear h0; intro l449 hx450 h0
       have hg457 := (grown_trans hg428 hg441)
       have hk458 := hk417.grown hg428 (fun _ h => h.elim) nb
       have ap459 : ¬ (fun k => blk a59 = some k) b439 := fun hx => nl ((lowb hbe443) _ rfl) ((fun k (hk : blk a59 = some k) => hk458.lt k hk) _ hx)
       have hk460 := (hk417.grown hg457 (fun _ h => h.elim) nb).grown hg446 (fun _ h => h.elim) (rdnn (rowne ap459))
       refine gv_append bE (t := 24) (ty := 24) (e := 5) (a := none) (ax := a59) (cap := 0) (cx := c60) (xs := ([] : List UInt8)) (ys := r53.1) l449 (X := (fun _ => False)) (Y := (fun k => blk a59 = some k)) (by decide) rfl rfl (by kernel_rfl) (by kernel_rfl) Tryd.underlying24 info5 (Gv.Own.nil bE 5 w445 (fun _ => False)) (hk460.rd (Y := fun k => blk a59 = some k) (fun _ h => h.elim) (fun g e => e)) hx450 (.inr fun _ _ _ _ _ h => h) (fun _ h => h.elim) ?_
       intro a451 c452 w453 hg454 ho455 hk456
       refine ⟨(fun e => by cases e), ?_⟩
       have hB462 := bg hB414 hg457 nb
       have hB463 := bg hB414 hg428 nb
       have hlo464 : w0.heap.size ≤ b439 := lob hbe443 hB463.size
       have hB465 := bg hB462 hg446 (rowlo hlo464)
       have hl461 : ∀ g, blk a451 = some g → w0.heap.size ≤ g := blk_step hk456 (fun _ h => by cases h) hB465.size
       have hk467 := hk416.grown hg428 (fun _ h => h.elim) nb
       have ap468 : ¬ (fun k => blk (some ⟨b1, 0, none⟩) = some k) b439 := fun hx => nl ((lowb hbe443) _ rfl) ((fun k (hk : blk (some ⟨b1, 0, none⟩) = some k) => hk467.lt k hk) _ hx)
       have hk469 := (hk416.grown hg457 (fun _ h => h.elim) nb).grown hg446 (fun _ h => h.elim) (rdnn (rowne ap468))
       have ap466 : ∀ g, blk a451 = some g → ¬ (fun k => blk (some ⟨b1, 0, none⟩) = some k) g := blk_neX hk456 (fun _ h => by cases h) (fun k (hk : blk (some ⟨b1, 0, none⟩) = some k) => hk469.lt k hk)
       have ap470 : ∀ g, blk (some ⟨b1, 0, none⟩) = some g → ¬ (fun k => blk a451 = some k) g := fun g e h => blk_rev hk456 (fun h => by cases h) (hk469.lt g e) h
       have ap471 : ∀ g, blk a451 = some g → ¬ (fun k => blk a59 = some k) g := blk_neX hk456 (fun _ h => by cases h) (fun k (hk : blk a59 = some k) => hk460.lt k hk)
       have ap472 : ∀ g, blk a59 = some g → ¬ (fun k => blk a451 = some k) g := fun g e h => blk_rev hk456 (fun h => by cases h) (hk460.lt g e) h
       have hx474 := ltx (ltx (fun k (hk : blk a59 = some k) => hk417.lt k hk) hg457.size) hg446.size
       have ap473 : ∀ g, blk a451 = some g → ¬ (fun k => blk a59 = some k) g := blk_neX hk456 (fun _ h => by cases h) hx474
       have ap476 : ¬ (fun k => blk a430 = some k ∨ X434 k) b439 := fun hx => nl ((lowb hbe443) _ rfl) ((fun k (hk : blk a430 = some k ∨ X434 k) => hk.elim (fun h => ho432.lt k h) (fun h => hx437 k h)) _ hx)
       have hx477 := ltx hx437 hg441.size
       have hk478 := (ho432.grown hg441 hx437 nb).grown hg446 hx477 (rdnx (rowne ap476))
       have hx479 := ltx hx477 hg446.size
       have ap475 : ∀ g, blk a451 = some g → ¬ (fun k => blk a430 = some k ∨ X434 k) g := blk_neX hk456 (fun _ h => by cases h) (fun k (hk : blk a430 = some k ∨ X434 k) => hk.elim (fun h => hk478.lt k h) (fun h => hx479 k h))
       have ap480 : ∀ g, blk a430 = some g → ¬ (fun k => blk a451 = some k) g := fun g e h => blk_rev hk456 (fun h => by cases h) (hk478.lt g e) h
       have ap481 : ∀ g, blk a451 = some g → ¬ (· = b439) g := blk_neX hk456 (fun _ h => by cases h) (ltb hb447)
       have ap482 : ¬ (fun k => blk a451 = some k) b439 := fun h => blk_rev hk456 (fun h => by cases h) (hb447.lt) h
       refine gv_new0 (fun b => .slice (some ⟨b, 0, none⟩) 1 1) #[(.int .u8 0)] 5 (by kernel_rfl) (by kernel_rfl) ?_
       intro b483 w484 hg485 hb486 hbe487 hz488
       have ho489 : Gv.Own bE 5 w484 (fun _ => False) (some ⟨b483, 0, none⟩) 1 ([(0 : UInt8)] : List UInt8) := Box.ownE hb486 ⟨[(.int .u8 0)], [], rfl, rfl, rfl⟩ (show 1 ≤ maxLen by decide) (fun h => h)
       have hB494 := bg hB465 hg454 nb
       have hl490 : ∀ g, blk (some ⟨b483, 0, none⟩) = some g → w0.heap.size ≤ g := loo hbe487 hB494.size
       refine bindE h0 ?_; clear h0; intro l495 hx496 h0
       have hk503 := ho455.grown hg485 (fun _ h => h.elim) nb
       refine gv_append bE (t := 24) (ty := 24) (e := 5) (a := a451) (ax := (some ⟨b483, 0, none⟩)) (cap := c452) (cx := 1) (xs := l449) (ys := ([(0 : UInt8)] : List UInt8)) l495 (X := (fun _ => False)) (Y := (fun k => blk (some ⟨b483, 0, none⟩) = some k)) (by decide) rfl rfl (by kernel_rfl) (by kernel_rfl) Tryd.underlying24 info5 hk503 (ho489.rd (Y := fun k => blk (some ⟨b483, 0, none⟩) = some k) (fun _ h => h.elim) (fun g e => e)) hx496 (.inr fun _ _ _ _ _ h => h) (fun _ h => h.elim) ?_
       intro a497 c498 w499 hg500 ho501 hk502
       refine ⟨(fun e => by cases e), ?_⟩
       have hB505 := bg hB494 hg485 nb
       have hl504 : ∀ g, blk a497 = some g → w0.heap.size ≤ g := blk_step hk502 hl461 hB505.size
       have hg507 := (grown_trans hg454 hg485)
       have hk508 := hk469.grown hg507 (fun _ h => h.elim) nb
       have ap506 : ∀ g, blk a497 = some g → ¬ (fun k => blk (some ⟨b1, 0, none⟩) = some k) g := blk_neX hk502 ap466 (fun k (hk : blk (some ⟨b1, 0, none⟩) = some k) => hk508.lt k hk)
       have ap509 : ∀ g, blk (some ⟨b1, 0, none⟩) = some g → ¬ (fun k => blk a497 = some k) g := fun g e h => blk_rev hk502 (fun h => ((ap470) g e) h) (hk508.lt g e) h
       have hk511 := hk460.grown hg507 (fun _ h => h.elim) nb
       have ap510 : ∀ g, blk a497 = some g → ¬ (fun k => blk a59 = some k) g := blk_neX hk502 ap471 (fun k (hk : blk a59 = some k) => hk511.lt k hk)
       have ap512 : ∀ g, blk a59 = some g → ¬ (fun k => blk a497 = some k) g := fun g e h => blk_rev hk502 (fun h => ((ap472) g e) h) (hk511.lt g e) h
       have hx514 := ltx hx474 hg507.size
       have ap513 : ∀ g, blk a497 = some g → ¬ (fun k => blk a59 = some k) g := blk_neX hk502 ap473 hx514
       have hk516 := hk478.grown hg507 hx479 nb
       have hx517 := ltx hx479 hg507.size
       have ap515 : ∀ g, blk a497 = some g → ¬ (fun k => blk a430 = some k ∨ X434 k) g := blk_neX hk502 ap475 (fun k (hk : blk a430 = some k ∨ X434 k) => hk.elim (fun h => hk516.lt k h) (fun h => hx517 k h))
       have ap518 : ∀ g, blk a430 = some g → ¬ (fun k => blk a497 = some k) g := fun g e h => blk_rev hk502 (fun h => ((ap480) g e) h) (hk516.lt g e) h
       have hk520 := hb447.grown hg507 nb
       have ap519 : ∀ g, blk a497 = some g → ¬ (· = b439) g := blk_neX hk502 ap481 (ltb hk520)
       have ap521 : ¬ (fun k => blk a497 = some k) b439 := fun h => blk_rev hk502 (fun h => (ap482) h) (hk520.lt) h
       have ap523 : ∀ g, blk a451 = some g → ¬ (fun k => blk (some ⟨b483, 0, none⟩) = some k) g := fun g e hx => nl ((lowo hbe487) _ hx) ((fun k (hk : blk a451 = some k) => ho455.lt k hk) g e)
       have ap522 : ∀ g, blk a497 = some g → ¬ (fun k => blk (some ⟨b483, 0, none⟩) = some k) g := blk_neX hk502 ap523 (fun k (hk : blk (some ⟨b483, 0, none⟩) = some k) => ho489.lt k hk)
       have ap525 : ∀ g, blk (some ⟨b483, 0, none⟩) = some g → ¬ (fun k => blk a451 = some k) g := fun g e hx => nl ((lowo hbe487) g e) ((fun k (hk : blk a451 = some k) => ho455.lt k hk) _ hx)
       have ap524 : ∀ g, blk (some ⟨b483, 0, none⟩) = some g → ¬ (fun k => blk a497 = some k) g := fun g e h => blk_rev hk502 (fun h => ((ap525) g e) h) (ho489.lt g e) h
       refine bindE h0 ?_; clear h0; intro r526 hr527 h0
       have hk528 := hk508.grown hg500 (fun _ h => h.elim) (rdnn ap466)
       refine gv_call0 (by kernel_rfl) rfl (by kernel_rfl) enters18 (packing_Unpack_ok fuel (some ⟨b1, 0, none⟩) 1 ([(118, 1, false)] : List (Int × Int × Bool)) a497 c498 l495 w499 (fun k => (fun k => blk (some ⟨b1, 0, none⟩) = some k) k ∨ (fun k => blk a497 = some k) k) (fun k hk => (hk).elim (fun h => (fun k (hk : blk (some ⟨b1, 0, none⟩) = some k) => hk528.lt k hk) k h) (fun h => (fun k (hk : blk a497 = some k) => ho501.lt k hk) k h)) ((hk528.rd (Y := fun k => blk (some ⟨b1, 0, none⟩) = some k) (fun _ h => h.elim) (fun g e => e)).wide (fun k hk => (.inl hk))) ((ho501.rd (Y := fun k => blk a497 = some k) (fun _ h => h.elim) (fun g e => e)).wide (fun k hk => (.inr hk))) r526 hr527) ?_
       rintro v531 w529 ⟨hg530, a532, c533, X536, rfl, ho534, hl535, hx537⟩
       have hB539 := bg hB505 hg500 hl461
       have hl538 : ∀ g, blk a532 = some g → w0.heap.size ≤ g := fun g e => Nat.le_trans hB539.size (hl535 g e)
       have hx540 : ∀ k, X536 k → k < w529.heap.size := fun k hk => (hx537 k hk).1
       have hx541 : ∀ k, X536 k → X0 k ∨ w0.heap.size ≤ k := fun k hk => (hx537 k hk).2.elim (fun h => (h).elim (fun h => (fun k (hk : blk (some ⟨b1, 0, none⟩) = some k) => Or.inr (hl8 k hk)) k h) (fun h => (fun k (hk : blk a497 = some k) => Or.inr (hl504 k hk)) k h)) (fun h => .inr (Nat.le_trans hB539.size h))
       clear hk528 hr527 ap524 ap525 ap522 ap523 ap519 ap518 ap515 hx517 hk516 ap513 hx514 ap512 ap510 hk511 ap509 ap506 hk508 hg507 hl504 hB505 hk502 ho501 hk503 hx496 hl490 hB494 ho489 hz488 hbe487 hb486 hg485 ap482 ap480 ap475 hx479 hk478 hx477 ap476 ap473 hx474 ap472 ap471 ap470 ap466 hk469 hk467 hl461 hB465 hB463 hB462 hk456 ho455 hg454 hk460 ap459 hk458 hg457 hx450 hz448 hb447 hg446 hz444 hbe443 hb442 hg441 hx438 hx437 hl436 hx435 hl433 ho432 hg428 hr426 hr424 hsub423 hx420 hc418 hk417 hk416 hB414 hl63 hl62 hk55 hl8
       refine gv_pureN 3 [129, 136, 137] [(136, (.slice a532 (List.length r526.1) c533)), (137, (.agg #[(.int .i64 r526.2.1), (.int .i64 r526.2.2)]))] (by kernel_rfl) ?_
       refine gv_new0 (fun b => .pointer (some ⟨b, 0, none⟩)) #[(.int .i64 0), (.int .i64 0)] 26 (by kernel_rfl) (by kernel_rfl) ?_
       intro b542 w543 hg544 hb545 hbe546 hz547
       refine gv_pureN 1 [17] [] (by kernel_rfl) ?_
       refine gv_sub [16, 18, 137] (σ' := [(16, (bp b439)), (18, (bp b542)), (137, (.agg #[(.int .i64 r526.2.1), (.int .i64 r526.2.2)]))]) (by kernel_rfl) ?_
       refine gv_store0 26 0 (.agg #[(.int .i64 r526.2.1), (.int .i64 r526.2.2)]) #[(.int .i64 r526.2.1), (.int .i64 r526.2.2)] hb545 (by kernel_rfl) (by kernel_rfl) (by kernel_rfl) ?_
       intro w548 hg549 hb550 hz551
       refine gv_nil <| gv_seq <| bindE h0 ?_; clear h0; intro j552 h1 h0
       refine gv_cut_code (J := fun a w553 => Below w0.heap.size w0 w553 ∧ w548.heap.size ≤ w553.heap.size ∧ a.defers = [] ∧ a.tmps.size = 146 ∧ Ok [(4, (.bool j552))] a.tmps) ?_ ?_
       ·skip
        refine gv_drawA (by kernel_rfl) ?_
        intro w554 hg555
        refine gv_stage (Cls w554 []) [0, 1] [(0, some true), (1, some false)] (bA 9 [0, 1]) 7 (by kernel_rfl) (by kernel_rfl) (Cls.refl _ _) ?_
        have hC556 := Cls.refl w554 []
        have hg557 := (grown_trans hg530 hg544)
        have hk558 := (hk520.grown hg500 ap481).grown hg530 nb
        have lt559 := ltl ((ltb hk558) _ rfl) ((lowb hbe546) _ rfl)
        have hk560 := (((hk520.grown hg500 ap481).grown hg557 nb).grown hg549 (rowne (ng lt559))).grown hg555 nb
        refine gv_loadBox (t := 26) (b := b439) (t' := 26) (fr := (0, 0)) #[(.int .i64 r425.2.1), (.int .i64 r425.2.2)] [] (fun e => by cases e) rfl rfl rfl (by kernel_rfl) (by kernel_rfl) (by kernel_rfl) (by kernel_rfl) (inw1 fun w' hC' => (hC'.box hk560 nm_nil)) rfl ?_
        refine bindE h1 ?_; clear h1; intro r561 hr562 h1
        refine gv_call (f := 19) (vs := [(.int .i64 15), (.int .i64 0)]) (cap := []) _ (by decide) rfl rfl rfl (by kernel_rfl) (by kernel_rfl) enters19 (ref4_At_ok fuel 15 0 w554  r561 hr562) ?_
        rintro v565 w563 ⟨hg564, rfl⟩
        refine ⟨(fun _ => hC556.grown hg564 nb), ?_⟩
        refine gv_nil <| gv_goA ?_
        refine gv_pre [2, 3] (bA 9 [0, 1, 2, 3]) 5 (by kernel_rfl) (by kernel_rfl) ?_
        refine gv_eqs (t := 26) (op := .eql) (x := (.tmp 138)) (y := (.tmp 139)) (xs := #[(.int .i64 r425.2.1), (.int .i64 r425.2.2)]) (ys := #[(.int .i64 r561.1), (.int .i64 r561.2)]) ((r425.2.1 == r561.1) && (r425.2.2 == r561.2)) [] (fun e => by cases e) rfl rfl rfl (by kernel_rfl) (by kernel_rfl) (fun w' => eqs26eql r425.2.1 r425.2.2 r561.1 r561.2 _ _ w') rfl ?_
        refine gv_pureN 1 [141] [(141, (.bool ((r425.2.1 == r561.1) && (r425.2.2 == r561.2))))] (by kernel_rfl) ?_
        refine gv_nil <| gv_goA ?_
        refine gv_stage (Cls w563 []) [0, 1, 2, 3, 4, 5] [(4, some true), (5, some false)] (bA 9 [0, 1, 2, 3, 4, 5]) 3 (by kernel_rfl) (by kernel_rfl) (Cls.refl _ _) ?_
        have hC566 := Cls.refl w563 []
        refine gv_split (s := 141) (g := ((r425.2.1 == r561.1) && (r425.2.2 == r561.2))) (by kernel_rfl) (fun hc567 => ?_) (fun hc567 => ?_)
        ·skip
         replace h1 := ite_t hc567 h1
         have hg568 := (grown_trans hg555 hg564)
         have hk569 := hb550.grown hg568 nb
         refine gv_loadBox (t := 26) (b := b542) (t' := 26) (fr := (0, 0)) #[(.int .i64 r526.2.1), (.int .i64 r526.2.2)] [] (fun e => by cases e) rfl rfl rfl (by kernel_rfl) (by kernel_rfl) (by kernel_rfl) (by kernel_rfl) (inw1 fun w' hC' => (hC'.box hk569 nm_nil)) rfl ?_
         refine bindE h1 ?_; clear h1; intro r570 hr571 h1
         refine gv_call (f := 19) (vs := [(.int .i64 3), (.int .i64 (-2))]) (cap := []) _ (by decide) rfl rfl rfl (by kernel_rfl) (by kernel_rfl) enters19 (ref4_At_ok fuel 3 (-2) w563  r570 hr571) ?_
         rintro v574 w572 ⟨hg573, rfl⟩
         refine ⟨(fun _ => hC566.grown hg573 nb), ?_⟩
         refine gv_nil <| gv_goA ?_
         refine gv_pre [6, 7, 8] (bA 9 [0, 1, 2, 3, 4, 5, 6, 7, 8]) 0 (by kernel_rfl) (by kernel_rfl) ?_
         refine gv_eqs (t := 26) (op := .eql) (x := (.tmp 142)) (y := (.tmp 143)) (xs := #[(.int .i64 r526.2.1), (.int .i64 r526.2.2)]) (ys := #[(.int .i64 r570.1), (.int .i64 r570.2)]) ((r526.2.1 == r570.1) && (r526.2.2 == r570.2)) [] (fun e => by cases e) rfl rfl rfl (by kernel_rfl) (by kernel_rfl) (fun w' => eqs26eql r526.2.1 r526.2.2 r570.1 r570.2 _ _ w') rfl ?_
         refine gv_pureN 2 [4, 145] [(4, (.bool ((r526.2.1 == r570.1) && (r526.2.2 == r570.2))))] (by kernel_rfl) ?_
         refine bindE h1 ?_; clear h1; intro n575 hn576 h1
         refine gv_name (s := 4) (v := (.bool ((r526.2.1 == r570.1) && (r526.2.2 == r570.2)))) (v' := (.bool n575)) (by kernel_rfl) (congrArg (Value.bool) (sj hn576)) ?_
         refine gv_nil <| gv_goA ?_
         refine gv_stageE (by kernel_rfl) ?_
         have e := sj h1; subst e
         refine gv_goal fun a hd hs hok => ?_
         have hB577 := bg hB539 hg557 nb
         have hB578 := bg hB539 hg530 nb
         have hlo579 : w0.heap.size ≤ b542 := lob hbe546 hB578.size
         have hB580 := bg hB577 hg549 (rowlo hlo579)
         have hg581 := (grown_trans hg568 hg573)
         have hB582 := bg hB580 hg581 nb
         have hz583 := (nt (nt hg555.size hg564.size) hg573.size)
         exact ⟨hB582, hz583, hd, hs, ok_pick [4] hok (by kernel_rfl)⟩
        ·skip
         replace h1 := ite_f hc567 h1
         refine gv_pureNC hC566 2 [142, 143] [(142, undef), (143, undef)] (by kernel_rfl) ?_
         refine gv_nil <| gv_goA ?_
         refine gv_pre [6, 7, 8] (bA 9 [0, 1, 2, 3, 4, 5, 6, 7, 8]) 0 (by kernel_rfl) (by kernel_rfl) ?_
         refine gv_pureN 3 [4, 144, 145] [(4, (.bool false))] (by kernel_rfl) ?_
         refine gv_nil <| gv_goA ?_
         refine gv_stageE (by kernel_rfl) ?_
         have e := sj h1; subst e
         refine gv_goal fun a hd hs hok => ?_
         have hB584 := bg hB539 hg557 nb
         have hB585 := bg hB539 hg530 nb
         have hlo586 : w0.heap.size ≤ b542 := lob hbe546 hB585.size
         have hB587 := bg hB584 hg549 (rowlo hlo586)
         have hg588 := (grown_trans hg555 hg564)
         have hB589 := bg hB587 hg588 nb
         have hz590 := (nt hg555.size hg564.size)
         exact ⟨hB589, hz590, hd, hs, ok_pick [4] hok (by kernel_rfl)⟩
       ·rintro a w553 ⟨hB591, hz592, hd, hs, hok⟩
        refine gv_in ?_ hd hs hok
        clear hd hs hok
        clear hz592 hz551 hb550 hg549 hz547 hbe546 hb545 hg544 hx541 hx540 hl538 hB539 hx537 hl535 ho534 hg530 ap521 hk520 hg500 ap481 ap468 hlo464
        refine gv_cret ?_
        have e := sj h0; subst e
        refine gv_ret (gv_done [(.bool j552)] rfl ⟨(by kernel_rfl), trivial⟩ ?_)
        exact ⟨grown_of_below hB591, rfl⟩

end Go.Proofs.YtdpmkphjcjacfaaDoor
