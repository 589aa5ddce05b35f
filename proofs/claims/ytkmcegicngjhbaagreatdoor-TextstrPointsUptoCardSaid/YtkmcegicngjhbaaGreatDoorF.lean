/- The law TextstrPoints answers true for every input of bulk at most 1048576, and its arguments read as before; the two listed tables of unicode/utf8 are tied to the text of the program. -/
import Derived.Test.YtkmcegicngjhbaaGreatDoorCards
import Derived.Test.YtkmcegicngjhbaaGreatDoorTie
import Derived.SevenTiedAt
import Derived.Test.YtkmcegicngjhbaaGreatDoorGl
import Derived.Test.YtkmcegicngjhbaaGreatDoorRows
import Derived.Test.YtkmcegicngjhbaaGreatDoorGo
import Derived.Test.YtkmcegicngjhbaaGreatDoorP3
import Derived.Test.YtkmcegicngjhbaaGreatDoorS8
namespace Go.Proofs.YtkmcegicngjhbaaGreatDoor.textstrPointsF
open Go.ChangeShapes Go.WideShapes Go.ChangeAt Go.RowKit Go.Gv Go.Gv.D
set_option linter.all false

theorem own : ownKnob Tryz.prog.godebug = none := by kernel_rfl
theorem laidOut : laidOutB Tryz.prog = true := by kernel_rfl
theorem o9 : Opens Tryz.prog 9 sE (fun s => s.size ≤ maxLen) (fun s => s.size + 1) := (opens_string Tryz.underlying9 (by kernel_rfl))
theorem o22 : Opens Tryz.prog 22 (slE (iE .i64)) (fun xs => (∀ x ∈ xs, (inK .i64) x) ∧ xs.length ≤ maxLen) (sumL (fun _ => 1)) := (opens_slice (E := (iE .i64)) (wf := (inK .i64)) (m := (fun _ => 1)) Tryz.underlying22 (by kernel_rfl) (opens_int Tryz.underlying3 (by kernel_rfl)) (by kernel_rfl))
theorem o27 : Opens Tryz.prog 27 (prE (prE tE (slE (iE .u32))) (prE (prE tE (slE (iE .u32))) (prE (prE tE (slE (iE .u32))) (prE tE (prE tE tE))))) (fun x => (fun x => (fun _ => True) x.1 ∧ (fun xs => (∀ x ∈ xs, (inK .u32) x) ∧ xs.length ≤ maxLen) x.2) x.1 ∧ (fun x => (fun x => (fun _ => True) x.1 ∧ (fun xs => (∀ x ∈ xs, (inK .u32) x) ∧ xs.length ≤ maxLen) x.2) x.1 ∧ (fun x => (fun x => (fun _ => True) x.1 ∧ (fun xs => (∀ x ∈ xs, (inK .u32) x) ∧ xs.length ≤ maxLen) x.2) x.1 ∧ (fun x => (fun _ => True) x.1 ∧ (fun x => (fun _ => True) x.1 ∧ (fun _ => True) x.2) x.2) x.2) x.2) x.2) (fun x => (fun x => (fun x => (fun x => (fun _ => 1) x.1 + (sumL (fun _ => 1)) x.2) x + 1) x.1 + (fun x => (fun x => (fun x => (fun _ => 1) x.1 + (sumL (fun _ => 1)) x.2) x + 1) x.1 + (fun x => (fun x => (fun x => (fun _ => 1) x.1 + (sumL (fun _ => 1)) x.2) x + 1) x.1 + (fun x => (fun _ => 1) x.1 + (fun x => (fun _ => 1) x.1 + (fun _ => 1) x.2) x.2) x.2) x.2) x.2) x + 1) := (opens_struct (E := (prE (prE tE (slE (iE .u32))) (prE (prE tE (slE (iE .u32))) (prE (prE tE (slE (iE .u32))) (prE tE (prE tE tE)))))) (wf := (fun x => (fun x => (fun _ => True) x.1 ∧ (fun xs => (∀ x ∈ xs, (inK .u32) x) ∧ xs.length ≤ maxLen) x.2) x.1 ∧ (fun x => (fun x => (fun _ => True) x.1 ∧ (fun xs => (∀ x ∈ xs, (inK .u32) x) ∧ xs.length ≤ maxLen) x.2) x.1 ∧ (fun x => (fun x => (fun _ => True) x.1 ∧ (fun xs => (∀ x ∈ xs, (inK .u32) x) ∧ xs.length ≤ maxLen) x.2) x.1 ∧ (fun x => (fun _ => True) x.1 ∧ (fun x => (fun _ => True) x.1 ∧ (fun _ => True) x.2) x.2) x.2) x.2) x.2)) (m := (fun x => (fun x => (fun x => (fun _ => 1) x.1 + (sumL (fun _ => 1)) x.2) x + 1) x.1 + (fun x => (fun x => (fun x => (fun _ => 1) x.1 + (sumL (fun _ => 1)) x.2) x + 1) x.1 + (fun x => (fun x => (fun x => (fun _ => 1) x.1 + (sumL (fun _ => 1)) x.2) x + 1) x.1 + (fun x => (fun _ => 1) x.1 + (fun x => (fun _ => 1) x.1 + (fun _ => 1) x.2) x.2) x.2) x.2) x.2)) Tryz.underlying27 (by kernel_rfl) (opensF_cons 25 (E := (prE tE (slE (iE .u32)))) (F := (prE (prE tE (slE (iE .u32))) (prE (prE tE (slE (iE .u32))) (prE tE (prE tE tE))))) (wf := (fun x => (fun _ => True) x.1 ∧ (fun xs => (∀ x ∈ xs, (inK .u32) x) ∧ xs.length ≤ maxLen) x.2)) (wg := (fun x => (fun x => (fun _ => True) x.1 ∧ (fun xs => (∀ x ∈ xs, (inK .u32) x) ∧ xs.length ≤ maxLen) x.2) x.1 ∧ (fun x => (fun x => (fun _ => True) x.1 ∧ (fun xs => (∀ x ∈ xs, (inK .u32) x) ∧ xs.length ≤ maxLen) x.2) x.1 ∧ (fun x => (fun _ => True) x.1 ∧ (fun x => (fun _ => True) x.1 ∧ (fun _ => True) x.2) x.2) x.2) x.2)) (m := (fun x => (fun x => (fun _ => 1) x.1 + (sumL (fun _ => 1)) x.2) x + 1)) (m' := (fun x => (fun x => (fun x => (fun _ => 1) x.1 + (sumL (fun _ => 1)) x.2) x + 1) x.1 + (fun x => (fun x => (fun x => (fun _ => 1) x.1 + (sumL (fun _ => 1)) x.2) x + 1) x.1 + (fun x => (fun _ => 1) x.1 + (fun x => (fun _ => 1) x.1 + (fun _ => 1) x.2) x.2) x.2) x.2)) (by kernel_rfl) (by kernel_rfl) (opens_struct (E := (prE tE (slE (iE .u32)))) (wf := (fun x => (fun _ => True) x.1 ∧ (fun xs => (∀ x ∈ xs, (inK .u32) x) ∧ xs.length ≤ maxLen) x.2)) (m := (fun x => (fun _ => 1) x.1 + (sumL (fun _ => 1)) x.2)) Tryz.underlying25 (by kernel_rfl) (opensF_cons 4 (E := tE) (F := (slE (iE .u32))) (wf := (fun _ => True)) (wg := (fun xs => (∀ x ∈ xs, (inK .u32) x) ∧ xs.length ≤ maxLen)) (m := (fun _ => 1)) (m' := (sumL (fun _ => 1))) (by kernel_rfl) (by kernel_rfl) (opens_bool Tryz.underlying4 (by kernel_rfl)) (opensF_one 23 (E := (slE (iE .u32))) (wf := (fun xs => (∀ x ∈ xs, (inK .u32) x) ∧ xs.length ≤ maxLen)) (m := (sumL (fun _ => 1))) (by kernel_rfl) (by kernel_rfl) (opens_slice (E := (iE .u32)) (wf := (inK .u32)) (m := (fun _ => 1)) Tryz.underlying23 (by kernel_rfl) (opens_int Tryz.underlying76 (by kernel_rfl)) (by kernel_rfl))))) (opensF_cons 25 (E := (prE tE (slE (iE .u32)))) (F := (prE (prE tE (slE (iE .u32))) (prE tE (prE tE tE)))) (wf := (fun x => (fun _ => True) x.1 ∧ (fun xs => (∀ x ∈ xs, (inK .u32) x) ∧ xs.length ≤ maxLen) x.2)) (wg := (fun x => (fun x => (fun _ => True) x.1 ∧ (fun xs => (∀ x ∈ xs, (inK .u32) x) ∧ xs.length ≤ maxLen) x.2) x.1 ∧ (fun x => (fun _ => True) x.1 ∧ (fun x => (fun _ => True) x.1 ∧ (fun _ => True) x.2) x.2) x.2)) (m := (fun x => (fun x => (fun _ => 1) x.1 + (sumL (fun _ => 1)) x.2) x + 1)) (m' := (fun x => (fun x => (fun x => (fun _ => 1) x.1 + (sumL (fun _ => 1)) x.2) x + 1) x.1 + (fun x => (fun _ => 1) x.1 + (fun x => (fun _ => 1) x.1 + (fun _ => 1) x.2) x.2) x.2)) (by kernel_rfl) (by kernel_rfl) (opens_struct (E := (prE tE (slE (iE .u32)))) (wf := (fun x => (fun _ => True) x.1 ∧ (fun xs => (∀ x ∈ xs, (inK .u32) x) ∧ xs.length ≤ maxLen) x.2)) (m := (fun x => (fun _ => 1) x.1 + (sumL (fun _ => 1)) x.2)) Tryz.underlying25 (by kernel_rfl) (opensF_cons 4 (E := tE) (F := (slE (iE .u32))) (wf := (fun _ => True)) (wg := (fun xs => (∀ x ∈ xs, (inK .u32) x) ∧ xs.length ≤ maxLen)) (m := (fun _ => 1)) (m' := (sumL (fun _ => 1))) (by kernel_rfl) (by kernel_rfl) (opens_bool Tryz.underlying4 (by kernel_rfl)) (opensF_one 23 (E := (slE (iE .u32))) (wf := (fun xs => (∀ x ∈ xs, (inK .u32) x) ∧ xs.length ≤ maxLen)) (m := (sumL (fun _ => 1))) (by kernel_rfl) (by kernel_rfl) (opens_slice (E := (iE .u32)) (wf := (inK .u32)) (m := (fun _ => 1)) Tryz.underlying23 (by kernel_rfl) (opens_int Tryz.underlying76 (by kernel_rfl)) (by kernel_rfl))))) (opensF_cons 25 (E := (prE tE (slE (iE .u32)))) (F := (prE tE (prE tE tE))) (wf := (fun x => (fun _ => True) x.1 ∧ (fun xs => (∀ x ∈ xs, (inK .u32) x) ∧ xs.length ≤ maxLen) x.2)) (wg := (fun x => (fun _ => True) x.1 ∧ (fun x => (fun _ => True) x.1 ∧ (fun _ => True) x.2) x.2)) (m := (fun x => (fun x => (fun _ => 1) x.1 + (sumL (fun _ => 1)) x.2) x + 1)) (m' := (fun x => (fun _ => 1) x.1 + (fun x => (fun _ => 1) x.1 + (fun _ => 1) x.2) x.2)) (by kernel_rfl) (by kernel_rfl) (opens_struct (E := (prE tE (slE (iE .u32)))) (wf := (fun x => (fun _ => True) x.1 ∧ (fun xs => (∀ x ∈ xs, (inK .u32) x) ∧ xs.length ≤ maxLen) x.2)) (m := (fun x => (fun _ => 1) x.1 + (sumL (fun _ => 1)) x.2)) Tryz.underlying25 (by kernel_rfl) (opensF_cons 4 (E := tE) (F := (slE (iE .u32))) (wf := (fun _ => True)) (wg := (fun xs => (∀ x ∈ xs, (inK .u32) x) ∧ xs.length ≤ maxLen)) (m := (fun _ => 1)) (m' := (sumL (fun _ => 1))) (by kernel_rfl) (by kernel_rfl) (opens_bool Tryz.underlying4 (by kernel_rfl)) (opensF_one 23 (E := (slE (iE .u32))) (wf := (fun xs => (∀ x ∈ xs, (inK .u32) x) ∧ xs.length ≤ maxLen)) (m := (sumL (fun _ => 1))) (by kernel_rfl) (by kernel_rfl) (opens_slice (E := (iE .u32)) (wf := (inK .u32)) (m := (fun _ => 1)) Tryz.underlying23 (by kernel_rfl) (opens_int Tryz.underlying76 (by kernel_rfl)) (by kernel_rfl))))) (opensF_cons 4 (E := tE) (F := (prE tE tE)) (wf := (fun _ => True)) (wg := (fun x => (fun _ => True) x.1 ∧ (fun _ => True) x.2)) (m := (fun _ => 1)) (m' := (fun x => (fun _ => 1) x.1 + (fun _ => 1) x.2)) (by kernel_rfl) (by kernel_rfl) (opens_bool Tryz.underlying4 (by kernel_rfl)) (opensF_cons 4 (E := tE) (F := tE) (wf := (fun _ => True)) (wg := (fun _ => True)) (m := (fun _ => 1)) (m' := (fun _ => 1)) (by kernel_rfl) (by kernel_rfl) (opens_bool Tryz.underlying4 (by kernel_rfl)) (opensF_one 4 (E := tE) (wf := (fun _ => True)) (m := (fun _ => 1)) (by kernel_rfl) (by kernel_rfl) (opens_bool Tryz.underlying4 (by kernel_rfl)))))))))
mutual
theorem bulk_eq {H : Type} : ∀ d : DataW H, Rows.uptoBulk d = bulk d
  | .lit l => by cases l <;> simp [Rows.uptoBulk, bulk]
  | .nil => by simp [Rows.uptoBulk, bulk]
  | .ptr d => by simp [Rows.uptoBulk, bulk, bulk_eq d]
  | .slice a b => by simp [Rows.uptoBulk, bulk, bulkAll_eq a, bulkAll_eq b]
  | .agg a => by simp [Rows.uptoBulk, bulk, bulkAll_eq a]
  | .iface _ d => by simp [Rows.uptoBulk, bulk, bulk_eq d]
  | .map m => by simp [Rows.uptoBulk, bulk, bulkEntries_eq m]
  | .held _ => by simp [Rows.uptoBulk, bulk]
theorem bulkAll_eq {H : Type} : ∀ l : List (DataW H), Rows.uptoBulkAll l = bulkAll l
  | [] => by simp [Rows.uptoBulkAll, bulkAll]
  | d :: r => by simp [Rows.uptoBulkAll, bulkAll, bulk_eq d, bulkAll_eq r]
theorem bulkEntries_eq {H : Type} : ∀ l : List (Lit × DataW H), Rows.uptoBulkEntries l = bulkEntries l
  | [] => by simp [Rows.uptoBulkEntries, bulkEntries]
  | d :: r => by simp [Rows.uptoBulkEntries, bulkEntries, bulkEntry_eq d, bulkEntries_eq r]
theorem bulkEntry_eq {H : Type} : ∀ x : Lit × DataW H, Rows.uptoBulkEntry x = bulkEntry x
  | (l, d) => by cases l <;> simp [Rows.uptoBulkEntry, bulkEntry, bulk_eq d]
end
theorem gn1 : Tryz.prog.globalNamed "unicode/utf8.acceptRanges" = some 1 := by kernel_rfl
theorem gt1 : (Tryz.prog.globals[1]?).map (·.type) = some 93 := by kernel_rfl
theorem dt1 : ((.agg (utf8Acc.map fun z => .agg [.lit (.int .u8 z.1), .lit (.int .u8 z.2)])) : DataW Unit) = Rows.laid_unicode_utf8_acceptRanges := by kernel_rfl
theorem hg1 {W : World} (hL : laidMetH Tryz.prog Rows.textstrPointsUptoRow.laid W) : Rd (prE (iE .u8) (iE .u8)) W (fun k => k < W.heap.size) (some ⟨1, 0, none⟩) 16 utf8Acc := by
  have h0 := Lib.laidMet.reads hL (n := "unicode/utf8.acceptRanges") (d := Rows.laid_unicode_utf8_acceptRanges) (.head _)
  rw [← dt1] at h0
  have h1 := rd_pairs (zs := utf8Acc) utf8Acc_len gn1 gt1 Tryz.underlying93 Tryz.underlying92 (by kernel_rfl) rfl (fun j f hj => by
    match j, hj with
    | 0, hj => simp at hj; subst hj; exact ⟨Tryz.underlying5, rfl, (by kernel_rfl)⟩
    | 1, hj => simp at hj; subst hj; exact ⟨Tryz.underlying5, rfl, (by kernel_rfl)⟩
    | j + 2, hj => simp at hj) h0
  rw [utf8Acc_len] at h1
  exact h1
theorem gn0 : Tryz.prog.globalNamed "unicode/utf8.first" = some 0 := by kernel_rfl
theorem gt0 : (Tryz.prog.globals[0]?).map (·.type) = some 90 := by kernel_rfl
theorem dt0 : ((Lib.tabData .u8 (utf8First.map fun z => (z.toNat : Int))) : DataW Unit) = Rows.laid_unicode_utf8_first := by kernel_rfl
theorem hg0 {W : World} (hL : laidMetH Tryz.prog Rows.textstrPointsUptoRow.laid W) : Rd bE W (fun k => k < W.heap.size) (some ⟨0, 0, none⟩) 256 utf8First := by
  have h0 := Lib.laidMet.reads hL (n := "unicode/utf8.first") (d := Rows.laid_unicode_utf8_first) (.tail _ (.head _))
  rw [← dt0] at h0
  have h1 := rd_tab (zs := utf8First) gn0 gt0 Tryz.underlying90 Tryz.underlying5 (by kernel_rfl) (by kernel_rfl) h0
  rw [utf8First_len] at h1
  exact h1
theorem hg2 {W : World} (hSh : W.ShapedOpen Tryz.prog) : ∃ m, Rd (iE .i64) W (fun k => k < W.heap.size) (some ⟨2, 0, none⟩) 1 [m] :=
  rd_cell (cell_of_shapedOpen_int (g := 2) (zero := #[.int .i64 0]) (t := 3) (k := .i64) hSh (of_decide_eq_true (by kernel_rfl)) (by kernel_rfl) rfl (by kernel_rfl) (by kernel_rfl) Tryz.underlying3)

set_option maxRecDepth 100000 in
set_option maxHeartbeats 4000000 in
theorem contract (H : Type) (enc : TypeId × Value → H) (W : World) (base : Nat) (args : Array Value) (ds gs : List (DataW H)) (before : List MemPlace)
    (hval : ∀ (j : Nat) t v, Tryz.f3.params[j]? = some t → args[j]? = some v → Value.okWide Tryz.prog W .any base t v)
    (hW : DataW.Whole enc Tryz.prog Tryz.f3.params.toList Rows.textstrPointsSpec.vars false W args.toList ds gs before) (hk : Rows.uptoSmall H (ds ++ gs) = true) (hL : laidMetH Tryz.prog Rows.textstrPointsUptoRow.laid W) (hSh : W.ShapedOpen Tryz.prog) :
    Calls Tryz.prog 3 args W fun e W' => ∃ v, e = .returned v ∧ Rows.textstrPointsSpec.post enc Tryz.prog Tryz.f3 false true false false W args v W' := by
  have hW' := hW
  obtain ⟨p, q, hA0, hV, rfl, hfz, hnd⟩ := hW
  have hA : DataW.TrodAll enc Tryz.prog W 0 (fun _ => true) true Tryz.f3.params.toList args.toList ds p := hA0
  rw [Tryz.params3] at hA hval
  obtain ⟨v0, vs0, d0, ds0, p0, q0, hargs, rfl, rfl, h0, r0⟩ := trodAll_cons hA
  obtain ⟨v1, vs1, d1, ds1, p1, q1, rfl, rfl, rfl, h1, r1⟩ := trodAll_cons r0
  obtain ⟨v2, vs2, d2, ds2, p2, q2, rfl, rfl, rfl, h2, r2⟩ := trodAll_cons r1
  obtain ⟨rfl, rfl, rfl⟩ := trodAll_nil r2
  obtain rfl : args = #[v0, v1, v2] := by cases args; simp_all
  obtain ⟨rfl, rfl⟩ := trodVars_none hV
  obtain ⟨x0, hr0, hw0, hm0⟩ := open_arg o9 h0
  obtain ⟨x1, hr1, hw1, hm1⟩ := open_arg o22 h1
  obtain ⟨x2, hr2, hw2, hm2⟩ := open_arg o27 h2
  simp only [List.append_nil] at hW'
  have hlt : ∀ y ∈ p0 ++ (p1 ++ (p2)), y.block < W.heap.size := fun y hy => by simpa using hW'.lt y (by simpa using hy)
  obtain ⟨_, rfl⟩ := okWide_string Tryz.underlying9 (hval 0 9 v0 rfl rfl)
  cases one_inj hr0
  obtain ⟨_, _, _, rfl⟩ := okWide_slice Tryz.underlying22 (hval 1 22 v1 rfl rfl)
  obtain ⟨a1_0, c1_0, e, hrd1_0⟩ := hr1
  obtain ⟨rfl, rfl, rfl⟩ := slice_inj (one_inj e)
  obtain ⟨cs2, rfl, _⟩ := okWide_struct Tryz.underlying27 (hval 2 27 v2 rfl rfl)
  obtain ⟨_, _, e, ⟨_, _, rfl, rfl, ⟨a2_0, c2_0, rfl, hrd2_0⟩⟩, ⟨_, _, rfl, ⟨_, _, rfl, rfl, ⟨a2_1, c2_1, rfl, hrd2_1⟩⟩, ⟨_, _, rfl, ⟨_, _, rfl, rfl, ⟨a2_2, c2_2, rfl, hrd2_2⟩⟩, ⟨_, _, rfl, rfl, ⟨_, _, rfl, rfl, rfl⟩⟩⟩⟩⟩ := hr2
  obtain rfl : cs2 = #[(.bool x2.1.1), (.slice a2_0 (List.length x2.1.2) c2_0), (.bool x2.2.1.1), (.slice a2_1 (List.length x2.2.1.2) c2_1), (.bool x2.2.2.1.1), (.slice a2_2 (List.length x2.2.2.1.2) c2_2), (.bool x2.2.2.2.1), (.bool x2.2.2.2.2.1), (.bool x2.2.2.2.2.2)] := arr_of e
  clear e
  have hb : bulkAll [d0, d1, d2] ≤ 1048576 := by
    rw [← bulkAll_eq]; simpa [Rows.uptoSmall] using hk
  simp only [bulkAll] at hb
  obtain ⟨fuel, hf⟩ := Tot.some (Go.Gv.R.TextstrPoints_said x0 x1 x2 hw0 hw1 hw2 (by omega))
  obtain ⟨gmx, hgm2⟩ := hg2 hSh
  refine (law4_TextstrPoints_ok fuel x0 a1_0 c1_0 x1 a2_0 c2_0 a2_1 c2_1 a2_2 c2_2 x2 W (fun k => k < W.heap.size) (fun k h => h) hrd1_0 hrd2_0 hrd2_1 hrd2_2 (hg0 hL) (hg1 hL) hgm2 true hf).mono fun e W' hh => ?_
  obtain ⟨v, rfl, hg, rfl⟩ := ret_elim hh
  have hbw : Below W.heap.size W W' := below_of_grown hg
  exact ⟨_, rfl, post_law hW' (trodAll_cons_mk (shut_bool Tryz.underlying4 _) trodAll_mk0) (trodAll_cons_mk (Below.trod laidOut (by kernel_rfl) (of_decide_eq_true (by kernel_rfl)) h0 hbw (fun y hy => hlt y (by simp [hy]))) (trodAll_cons_mk (Below.trod laidOut (by kernel_rfl) (of_decide_eq_true (by kernel_rfl)) h1 hbw (fun y hy => hlt y (by simp [hy]))) (trodAll_cons_mk (Below.trod laidOut (by kernel_rfl) (of_decide_eq_true (by kernel_rfl)) h2 hbw (fun y hy => hlt y (by simp [hy]))) trodAll_mk0))) rfl (hbw.frame _)⟩

set_option maxRecDepth 100000 in
noncomputable def laidWorld (os : Os) : World := { World.holding Tryz.prog os ⟨#[], #[], []⟩ with heap := (putVar (putVar (World.holding Tryz.prog os ⟨#[], #[], []⟩).heap 1 (utf8Acc.flatMap fun z => [Value.int .u8 z.1, Value.int .u8 z.2])) 0 (utf8First.map fun z => Value.int .u8 z.toNat)) }
theorem laid_met (os : Os) (args : Array Value) : laidMet Tryz.prog Rows.textstrPointsUptoRow.laid ((laidWorld os).forCall (fun _ _ => 0) ⟨#[], args, []⟩).memory :=
  (LaidIn.of_run (l := Rows.textstrPointsUptoRow.laid) [1, 0] 8 (by kernel_rfl) (by kernel_rfl) (by kernel_rfl) (by kernel_rfl)).met
theorem witness_row (os : Os) {H : Type} (enc : TypeId × Value → H) :
    (Rows.OpenSpec.upto Rows.textstrPointsSpec).preRow enc Tryz.prog Tryz.f3 Rows.textstrPointsUptoRow.domain false Rows.textstrPointsUptoRow.laid ((laidWorld os).forCall (fun _ _ => 0) ⟨#[], #[.string ⟨#[]⟩, .slice none 0 0, .agg #[.bool false, .slice none 0 0, .bool false, .slice none 0 0, .bool false, .slice none 0 0, .bool false, .bool false, .bool false]], []⟩).memory #[.string ⟨#[]⟩, .slice none 0 0, .agg #[.bool false, .slice none 0 0, .bool false, .slice none 0 0, .bool false, .slice none 0 0, .bool false, .bool false, .bool false]] := by
  have hw : (DataW.whole enc Tryz.prog ((laidWorld os).forCall (fun _ _ => 0) ⟨#[], #[.string ⟨#[]⟩, .slice none 0 0, .agg #[.bool false, .slice none 0 0, .bool false, .slice none 0 0, .bool false, .slice none 0 0, .bool false, .bool false, .bool false]], []⟩).memory Tryz.f3.params.toList (Rows.OpenSpec.upto Rows.textstrPointsSpec).vars false (#[.string ⟨#[]⟩, .slice none 0 0, .agg #[.bool false, .slice none 0 0, .bool false, .slice none 0 0, .bool false, .slice none 0 0, .bool false, .bool false, .bool false]] : Array Value).toList 8).map (fun x => (x.1, x.2.1)) =
      some ([.lit (.string []), .nil, .agg [.agg [.lit (.bool false), .nil], .agg [.lit (.bool false), .nil], .agg [.lit (.bool false), .nil], .lit (.bool false), .lit (.bool false), .lit (.bool false)]], []) := by kernel_rfl
  obtain ⟨⟨x1, x2, x3⟩, hx, hx1⟩ := Option.map_eq_some_iff.1 hw
  simp only [Prod.mk.injEq] at hx1
  obtain ⟨rfl, rfl⟩ := hx1
  exact OpenSpec.preRow_of_cond 8 hx (by kernel_rfl) (fun k hk => by obtain rfl := Option.some.inj hk; kernel_rfl) (by kernel_rfl) (laid_met os _)

set_option maxRecDepth 100000 in
set_option maxHeartbeats 4000000 in
theorem lifted (os : Os) (started : os.Started) (H : Type) (enc : TypeId × Value → H) (F : Stop.Interp) :
    ReturnsInHanded {} Tryz.checked os 3 .any ((Rows.OpenSpec.upto Rows.textstrPointsSpec).preRow enc Tryz.prog Tryz.f3 Rows.textstrPointsUptoRow.domain false Rows.textstrPointsUptoRow.laid) (((Rows.OpenSpec.upto Rows.textstrPointsSpec).at F).post enc Tryz.prog Tryz.f3 false true false false) := by
  refine returnsInHanded_of_row (C := Tryz.checked) (s := (Rows.OpenSpec.upto Rows.textstrPointsSpec)) own started (by kernel_rfl) Tryz.func3
    (witness_row_atRef (enc := enc) (C := Tryz.checked) false (laidWorld os) #[.string ⟨#[]⟩, .slice none 0 0, .agg #[.bool false, .slice none 0 0, .bool false, .slice none 0 0, .bool false, .slice none 0 0, .bool false, .bool false, .bool false]] rfl (by kernel_rfl) (by kernel_rfl) (by kernel_rfl) (witness_row os enc)) ?_
  intro W base args ds gs before hval hW _ hk _ hL hSh _
  exact contract H enc W base args ds gs before hval hW (hk _ rfl) hL hSh

theorem bare : Rows.TextstrPointsUptoSaid :=
  OpenClaim.holds_of_cond 3 Tryz.f3 rfl rfl rfl rfl rfl rfl rfl ⟨rfl, rfl, rfl, rfl, rfl⟩ rfl rfl rfl rfl rfl (by kernel_rfl) Tryz.func3 (by kernel_rfl)
    (of_decide_eq_true (by kernel_rfl)) (by unfold Func.isWrapper; first | (rw [if_pos (by decide +kernel)]; kernel_rfl) | (rw [if_neg (by decide +kernel)]; exact ⟨rfl, rfl⟩))
    (fun os started H enc _ F0 => by rw [OpenClaim.pre_eq_preRow]; exact lifted os started H enc F0)

theorem proved : Rows.TextstrPointsUptoCardSaid :=
  Claim7.holds_tied_plain_at .later [] [.data, .pinned] true (true, "e03027526b5546d30a3a2f675f3301f592f70f48efbcc6f585dfb0b8ae85962b") false
    bare (fun _ h => by cases h) (by kernel_rfl) (fun _ h => by cases h) textstrPointsUpto_row_tie rfl ⟨rfl, rfl⟩ (by kernel_rfl) rfl
    (fun f fn hf hfn => by
      obtain rfl : f = 3 := Option.some.inj ((show Tryz.prog.funcNamed "brindlewood/brindlewoodlaw4.TextstrPoints" = some 3 by kernel_rfl).symm.trans hf) |>.symm
      obtain rfl : fn = Tryz.f3 := (Option.some.inj (Tryz.func3.symm.trans hfn)).symm
      exact ⟨by kernel_rfl, fun j t ht => by
        rw [Tryz.params3] at ht
        have hm : t ∈ [9, 22, 27] := by simpa using Array.mem_of_getElem? ht
        have hall : ([9, 22, 27].all fun u => !Tryz.prog.wantsStandIn u) = true := by kernel_rfl
        exact (show Tryz.prog.wantsStandIn t = false by simpa using List.all_eq_true.1 hall t hm)⟩)
    (by kernel_rfl)
end Go.Proofs.YtkmcegicngjhbaaGreatDoor.textstrPointsF
