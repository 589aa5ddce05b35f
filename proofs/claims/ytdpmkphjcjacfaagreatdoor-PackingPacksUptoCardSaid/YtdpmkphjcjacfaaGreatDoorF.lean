/- The law PackingPacks answers true for every input of bulk at most 1048576, and its arguments read as before; the listed tables and sentinels are tied to the text of the program. -/
import Derived.Test.YtdpmkphjcjacfaaGreatDoorCards
import Derived.Test.YtdpmkphjcjacfaaGreatDoorTie
import Derived.SevenTiedAt
import Derived.Test.YtdpmkphjcjacfaaGreatDoorGl
import Derived.Test.YtdpmkphjcjacfaaGreatDoorGn
import Derived.Test.YtdpmkphjcjacfaaGreatDoorRows
import Derived.Test.YtdpmkphjcjacfaaGreatDoorGo
import Derived.Test.YtdpmkphjcjacfaaGreatDoorP3
import Derived.Test.YtdpmkphjcjacfaaGreatDoorX9
namespace Go.Proofs.YtdpmkphjcjacfaaGreatDoor.packingPacksF
open Go.ChangeShapes Go.WideShapes Go.ChangeAt Go.RowKit Go.Gv Go.Gv.D
set_option linter.all false

theorem own : ownKnob Tryz.prog.godebug = none := by kernel_rfl
theorem laidOut : laidOutB Tryz.prog = true := by kernel_rfl
theorem o22 : Opens Tryz.prog 22 (slE (prE (iE .u8) (prE (iE .i64) tE))) (fun xs => (∀ x ∈ xs, (fun x => (inK .u8) x.1 ∧ (fun x => (inK .i64) x.1 ∧ (fun _ => True) x.2) x.2) x) ∧ xs.length ≤ maxLen) (sumL (fun x => (fun x => (fun _ => 1) x.1 + (fun x => (fun _ => 1) x.1 + (fun _ => 1) x.2) x.2) x + 1)) := (opens_slice (E := (prE (iE .u8) (prE (iE .i64) tE))) (wf := (fun x => (inK .u8) x.1 ∧ (fun x => (inK .i64) x.1 ∧ (fun _ => True) x.2) x.2)) (m := (fun x => (fun x => (fun _ => 1) x.1 + (fun x => (fun _ => 1) x.1 + (fun _ => 1) x.2) x.2) x + 1)) Tryz.underlying22 (by kernel_rfl) (opens_struct (E := (prE (iE .u8) (prE (iE .i64) tE))) (wf := (fun x => (inK .u8) x.1 ∧ (fun x => (inK .i64) x.1 ∧ (fun _ => True) x.2) x.2)) (m := (fun x => (fun _ => 1) x.1 + (fun x => (fun _ => 1) x.1 + (fun _ => 1) x.2) x.2)) Tryz.underlying49 (by kernel_rfl) (opensF_cons 5 (E := (iE .u8)) (F := (prE (iE .i64) tE)) (wf := (inK .u8)) (wg := (fun x => (inK .i64) x.1 ∧ (fun _ => True) x.2)) (m := (fun _ => 1)) (m' := (fun x => (fun _ => 1) x.1 + (fun _ => 1) x.2)) (by kernel_rfl) (by kernel_rfl) (opens_int Tryz.underlying5 (by kernel_rfl)) (opensF_cons 3 (E := (iE .i64)) (F := tE) (wf := (inK .i64)) (wg := (fun _ => True)) (m := (fun _ => 1)) (m' := (fun _ => 1)) (by kernel_rfl) (by kernel_rfl) (opens_int Tryz.underlying3 (by kernel_rfl)) (opensF_one 4 (E := tE) (wf := (fun _ => True)) (m := (fun _ => 1)) (by kernel_rfl) (by kernel_rfl) (opens_bool Tryz.underlying4 (by kernel_rfl)))))) (by kernel_rfl))
theorem o24 : Opens Tryz.prog 24 (slE (prE (iE .i64) (prE (prE tE (slE (iE .u32))) (prE (prE tE (slE (iE .u32))) (prE sE (iE .i64)))))) (fun xs => (∀ x ∈ xs, (fun x => (inK .i64) x.1 ∧ (fun x => (fun x => (fun _ => True) x.1 ∧ (fun xs => (∀ x ∈ xs, (inK .u32) x) ∧ xs.length ≤ maxLen) x.2) x.1 ∧ (fun x => (fun x => (fun _ => True) x.1 ∧ (fun xs => (∀ x ∈ xs, (inK .u32) x) ∧ xs.length ≤ maxLen) x.2) x.1 ∧ (fun x => (fun s => s.size ≤ maxLen) x.1 ∧ (inK .i64) x.2) x.2) x.2) x.2) x) ∧ xs.length ≤ maxLen) (sumL (fun x => (fun x => (fun _ => 1) x.1 + (fun x => (fun x => (fun x => (fun _ => 1) x.1 + (sumL (fun _ => 1)) x.2) x + 1) x.1 + (fun x => (fun x => (fun x => (fun _ => 1) x.1 + (sumL (fun _ => 1)) x.2) x + 1) x.1 + (fun x => (fun s => s.size + 1) x.1 + (fun _ => 1) x.2) x.2) x.2) x.2) x + 1)) := (opens_slice (E := (prE (iE .i64) (prE (prE tE (slE (iE .u32))) (prE (prE tE (slE (iE .u32))) (prE sE (iE .i64)))))) (wf := (fun x => (inK .i64) x.1 ∧ (fun x => (fun x => (fun _ => True) x.1 ∧ (fun xs => (∀ x ∈ xs, (inK .u32) x) ∧ xs.length ≤ maxLen) x.2) x.1 ∧ (fun x => (fun x => (fun _ => True) x.1 ∧ (fun xs => (∀ x ∈ xs, (inK .u32) x) ∧ xs.length ≤ maxLen) x.2) x.1 ∧ (fun x => (fun s => s.size ≤ maxLen) x.1 ∧ (inK .i64) x.2) x.2) x.2) x.2)) (m := (fun x => (fun x => (fun _ => 1) x.1 + (fun x => (fun x => (fun x => (fun _ => 1) x.1 + (sumL (fun _ => 1)) x.2) x + 1) x.1 + (fun x => (fun x => (fun x => (fun _ => 1) x.1 + (sumL (fun _ => 1)) x.2) x + 1) x.1 + (fun x => (fun s => s.size + 1) x.1 + (fun _ => 1) x.2) x.2) x.2) x.2) x + 1)) Tryz.underlying24 (by kernel_rfl) (opens_struct (E := (prE (iE .i64) (prE (prE tE (slE (iE .u32))) (prE (prE tE (slE (iE .u32))) (prE sE (iE .i64)))))) (wf := (fun x => (inK .i64) x.1 ∧ (fun x => (fun x => (fun _ => True) x.1 ∧ (fun xs => (∀ x ∈ xs, (inK .u32) x) ∧ xs.length ≤ maxLen) x.2) x.1 ∧ (fun x => (fun x => (fun _ => True) x.1 ∧ (fun xs => (∀ x ∈ xs, (inK .u32) x) ∧ xs.length ≤ maxLen) x.2) x.1 ∧ (fun x => (fun s => s.size ≤ maxLen) x.1 ∧ (inK .i64) x.2) x.2) x.2) x.2)) (m := (fun x => (fun _ => 1) x.1 + (fun x => (fun x => (fun x => (fun _ => 1) x.1 + (sumL (fun _ => 1)) x.2) x + 1) x.1 + (fun x => (fun x => (fun x => (fun _ => 1) x.1 + (sumL (fun _ => 1)) x.2) x + 1) x.1 + (fun x => (fun s => s.size + 1) x.1 + (fun _ => 1) x.2) x.2) x.2) x.2)) Tryz.underlying41 (by kernel_rfl) (opensF_cons 3 (E := (iE .i64)) (F := (prE (prE tE (slE (iE .u32))) (prE (prE tE (slE (iE .u32))) (prE sE (iE .i64))))) (wf := (inK .i64)) (wg := (fun x => (fun x => (fun _ => True) x.1 ∧ (fun xs => (∀ x ∈ xs, (inK .u32) x) ∧ xs.length ≤ maxLen) x.2) x.1 ∧ (fun x => (fun x => (fun _ => True) x.1 ∧ (fun xs => (∀ x ∈ xs, (inK .u32) x) ∧ xs.length ≤ maxLen) x.2) x.1 ∧ (fun x => (fun s => s.size ≤ maxLen) x.1 ∧ (inK .i64) x.2) x.2) x.2)) (m := (fun _ => 1)) (m' := (fun x => (fun x => (fun x => (fun _ => 1) x.1 + (sumL (fun _ => 1)) x.2) x + 1) x.1 + (fun x => (fun x => (fun x => (fun _ => 1) x.1 + (sumL (fun _ => 1)) x.2) x + 1) x.1 + (fun x => (fun s => s.size + 1) x.1 + (fun _ => 1) x.2) x.2) x.2)) (by kernel_rfl) (by kernel_rfl) (opens_int Tryz.underlying3 (by kernel_rfl)) (opensF_cons 39 (E := (prE tE (slE (iE .u32)))) (F := (prE (prE tE (slE (iE .u32))) (prE sE (iE .i64)))) (wf := (fun x => (fun _ => True) x.1 ∧ (fun xs => (∀ x ∈ xs, (inK .u32) x) ∧ xs.length ≤ maxLen) x.2)) (wg := (fun x => (fun x => (fun _ => True) x.1 ∧ (fun xs => (∀ x ∈ xs, (inK .u32) x) ∧ xs.length ≤ maxLen) x.2) x.1 ∧ (fun x => (fun s => s.size ≤ maxLen) x.1 ∧ (inK .i64) x.2) x.2)) (m := (fun x => (fun x => (fun _ => 1) x.1 + (sumL (fun _ => 1)) x.2) x + 1)) (m' := (fun x => (fun x => (fun x => (fun _ => 1) x.1 + (sumL (fun _ => 1)) x.2) x + 1) x.1 + (fun x => (fun s => s.size + 1) x.1 + (fun _ => 1) x.2) x.2)) (by kernel_rfl) (by kernel_rfl) (opens_struct (E := (prE tE (slE (iE .u32)))) (wf := (fun x => (fun _ => True) x.1 ∧ (fun xs => (∀ x ∈ xs, (inK .u32) x) ∧ xs.length ≤ maxLen) x.2)) (m := (fun x => (fun _ => 1) x.1 + (sumL (fun _ => 1)) x.2)) Tryz.underlying39 (by kernel_rfl) (opensF_cons 4 (E := tE) (F := (slE (iE .u32))) (wf := (fun _ => True)) (wg := (fun xs => (∀ x ∈ xs, (inK .u32) x) ∧ xs.length ≤ maxLen)) (m := (fun _ => 1)) (m' := (sumL (fun _ => 1))) (by kernel_rfl) (by kernel_rfl) (opens_bool Tryz.underlying4 (by kernel_rfl)) (opensF_one 37 (E := (slE (iE .u32))) (wf := (fun xs => (∀ x ∈ xs, (inK .u32) x) ∧ xs.length ≤ maxLen)) (m := (sumL (fun _ => 1))) (by kernel_rfl) (by kernel_rfl) (opens_slice (E := (iE .u32)) (wf := (inK .u32)) (m := (fun _ => 1)) Tryz.underlying37 (by kernel_rfl) (opens_int Tryz.underlying107 (by kernel_rfl)) (by kernel_rfl))))) (opensF_cons 39 (E := (prE tE (slE (iE .u32)))) (F := (prE sE (iE .i64))) (wf := (fun x => (fun _ => True) x.1 ∧ (fun xs => (∀ x ∈ xs, (inK .u32) x) ∧ xs.length ≤ maxLen) x.2)) (wg := (fun x => (fun s => s.size ≤ maxLen) x.1 ∧ (inK .i64) x.2)) (m := (fun x => (fun x => (fun _ => 1) x.1 + (sumL (fun _ => 1)) x.2) x + 1)) (m' := (fun x => (fun s => s.size + 1) x.1 + (fun _ => 1) x.2)) (by kernel_rfl) (by kernel_rfl) (opens_struct (E := (prE tE (slE (iE .u32)))) (wf := (fun x => (fun _ => True) x.1 ∧ (fun xs => (∀ x ∈ xs, (inK .u32) x) ∧ xs.length ≤ maxLen) x.2)) (m := (fun x => (fun _ => 1) x.1 + (sumL (fun _ => 1)) x.2)) Tryz.underlying39 (by kernel_rfl) (opensF_cons 4 (E := tE) (F := (slE (iE .u32))) (wf := (fun _ => True)) (wg := (fun xs => (∀ x ∈ xs, (inK .u32) x) ∧ xs.length ≤ maxLen)) (m := (fun _ => 1)) (m' := (sumL (fun _ => 1))) (by kernel_rfl) (by kernel_rfl) (opens_bool Tryz.underlying4 (by kernel_rfl)) (opensF_one 37 (E := (slE (iE .u32))) (wf := (fun xs => (∀ x ∈ xs, (inK .u32) x) ∧ xs.length ≤ maxLen)) (m := (sumL (fun _ => 1))) (by kernel_rfl) (by kernel_rfl) (opens_slice (E := (iE .u32)) (wf := (inK .u32)) (m := (fun _ => 1)) Tryz.underlying37 (by kernel_rfl) (opens_int Tryz.underlying107 (by kernel_rfl)) (by kernel_rfl))))) (opensF_cons 9 (E := sE) (F := (iE .i64)) (wf := (fun s => s.size ≤ maxLen)) (wg := (inK .i64)) (m := (fun s => s.size + 1)) (m' := (fun _ => 1)) (by kernel_rfl) (by kernel_rfl) (opens_string Tryz.underlying9 (by kernel_rfl)) (opensF_one 3 (E := (iE .i64)) (wf := (inK .i64)) (m := (fun _ => 1)) (by kernel_rfl) (by kernel_rfl) (opens_int Tryz.underlying3 (by kernel_rfl)))))))) (by kernel_rfl))
mutual
theorem bulk_eq {H : Type} : ∀ d : DataW H, Rows.uptoBulk d = bulk d
  | .lit l => by cases l <;> simp [Rows.uptoBulk, bulk]
  | .nil => by simp [Rows.uptoBulk, bulk]
  | .ptr d => by simp [Rows.uptoBulk, bulk, bulk_eq d]
  | .slice a b => by simp [Rows.uptoBulk, bulk, bulkAll_eq a, bulkAll_eq b]
  | .agg a => by simp [Rows.uptoBulk, bulk, bulkAll_eq a]
  | .iface _ d => by simp [Rows.uptoBulk, bulk, bulk_eq d]
  | .map m => by simp [Rows.uptoBulk, bulk, bulkEntries_eq m]
  | .held _ => by simp [Rows.uptoBulk, bulk]
theorem bulkAll_eq {H : Type} : ∀ l : List (DataW H), Rows.uptoBulkAll l = bulkAll l
  | [] => by simp [Rows.uptoBulkAll, bulkAll]
  | d :: r => by simp [Rows.uptoBulkAll, bulkAll, bulk_eq d, bulkAll_eq r]
theorem bulkEntries_eq {H : Type} : ∀ l : List (Lit × DataW H), Rows.uptoBulkEntries l = bulkEntries l
  | [] => by simp [Rows.uptoBulkEntries, bulkEntries]
  | d :: r => by simp [Rows.uptoBulkEntries, bulkEntries, bulkEntry_eq d, bulkEntries_eq r]
theorem bulkEntry_eq {H : Type} : ∀ x : Lit × DataW H, Rows.uptoBulkEntry x = bulkEntry x
  | (l, d) => by cases l <;> simp [Rows.uptoBulkEntry, bulkEntry, bulk_eq d]
end
theorem gn4 : Tryz.prog.globalNamed "strconv.ErrRange" = some 4 := by kernel_rfl
theorem gt4 : (Tryz.prog.globals[4]?).map (·.type) = some 120 := by kernel_rfl
theorem starS : "*" ++ "errors.errorString" = "*errors.errorString" := by decide
theorem rowS (u : TypeId) (h : Tryz.prog.typeName? 3 u = some "*errors.errorString") : u = 152 :=
  typeName_ptr_named (nm := "errors.errorString") (by rw [starS]; kernel_rfl) (by kernel_rfl) (by decide) u (by rw [starS]; exact h)
theorem hg4 {W : World} (hL : laidMetH Tryz.prog Rows.packingPacksUptoRow.laid W) : ∃ x : TypeId × Value, Rd eE W (fun k => k < W.heap.size) (some ⟨4, 0, none⟩) 1 [x] := by
  have h0 : laidMet Tryz.prog Rows.packingPacksUptoRow.laid W := hL
  obtain ⟨a, s, hv, _⟩ := laid_sentinel (laidMet.tail (laidMet.tail (laidMet.tail (laidMet.tail h0)))) gn4 gt4 Tryz.underlying120 rowS Tryz.underlying152 Tryz.underlying154 rfl rfl Tryz.underlying9 (by kernel_rfl) (by kernel_rfl)
  exact ⟨_, rd_sentinel gn4 hv⟩
theorem gn3 : Tryz.prog.globalNamed "strconv.ErrSyntax" = some 3 := by kernel_rfl
theorem gt3 : (Tryz.prog.globals[3]?).map (·.type) = some 120 := by kernel_rfl

set_option maxRecDepth 100000 in
set_option maxHeartbeats 4000000 in
theorem contract (H : Type) (enc : TypeId × Value → H) (W : World) (base : Nat) (args : Array Value) (ds gs : List (DataW H)) (before : List MemPlace)
    (hval : ∀ (j : Nat) t v, Tryz.f4.params[j]? = some t → args[j]? = some v → Value.okWide Tryz.prog W .any base t v)
    (hW : DataW.Whole enc Tryz.prog Tryz.f4.params.toList Rows.packingPacksSpec.vars false W args.toList ds gs before) (hk : Rows.uptoSmall H (ds ++ gs) = true) (hL : laidMetH Tryz.prog Rows.packingPacksUptoRow.laid W) (hSh : W.ShapedOpen Tryz.prog) :
    Calls Tryz.prog 4 args W fun e W' => ∃ v, e = .returned v ∧ Rows.packingPacksSpec.post enc Tryz.prog Tryz.f4 false true false false W args v W' := by
  have hW' := hW
  obtain ⟨p, q, hA0, hV, rfl, hfz, hnd⟩ := hW
  have hA : DataW.TrodAll enc Tryz.prog W 0 (fun _ => true) true Tryz.f4.params.toList args.toList ds p := hA0
  rw [Tryz.params4] at hA hval
  obtain ⟨v0, vs0, d0, ds0, p0, q0, hargs, rfl, rfl, h0, r0⟩ := trodAll_cons hA
  obtain ⟨v1, vs1, d1, ds1, p1, q1, rfl, rfl, rfl, h1, r1⟩ := trodAll_cons r0
  obtain ⟨rfl, rfl, rfl⟩ := trodAll_nil r1
  obtain rfl : args = #[v0, v1] := by cases args; simp_all
  obtain ⟨rfl, rfl⟩ := trodVars_none hV
  obtain ⟨x0, hr0, hw0, hm0⟩ := open_arg o22 h0
  obtain ⟨x1, hr1, hw1, hm1⟩ := open_arg o24 h1
  simp only [List.append_nil] at hW'
  have hlt : ∀ y ∈ p0 ++ (p1), y.block < W.heap.size := fun y hy => by simpa using hW'.lt y (by simpa using hy)
  obtain ⟨_, _, _, rfl⟩ := okWide_slice Tryz.underlying22 (hval 0 22 v0 rfl rfl)
  obtain ⟨a0_0, c0_0, e, hrd0_0⟩ := hr0
  obtain ⟨rfl, rfl, rfl⟩ := slice_inj (one_inj e)
  obtain ⟨_, _, _, rfl⟩ := okWide_slice Tryz.underlying24 (hval 1 24 v1 rfl rfl)
  obtain ⟨a1_0, c1_0, e, hrd1_0⟩ := hr1
  obtain ⟨rfl, rfl, rfl⟩ := slice_inj (one_inj e)
  have hb : bulkAll [d0, d1] ≤ 1048576 := by
    rw [← bulkAll_eq]; simpa [Rows.uptoSmall] using hk
  simp only [bulkAll] at hb
  obtain ⟨fuel, hf⟩ := Tot.some (Go.Gv.P.PackingPacks_said x0 x1 hw0 hw1 (by omega))
  obtain ⟨gmx4, hgm4⟩ := hg4 hL
  refine (law4_PackingPacks_ok fuel a0_0 c0_0 x0 a1_0 c1_0 x1 W (fun k => k < W.heap.size) (fun k h => h) hrd0_0 hrd1_0 hgm4 true hf).mono fun e W' hh => ?_
  obtain ⟨v, rfl, hg, rfl⟩ := ret_elim hh
  have hbw : Below W.heap.size W W' := below_of_grown hg
  exact ⟨_, rfl, post_law hW' (trodAll_cons_mk (shut_bool Tryz.underlying4 _) trodAll_mk0) (trodAll_cons_mk (Below.trod laidOut (by kernel_rfl) (of_decide_eq_true (by kernel_rfl)) h0 hbw (fun y hy => hlt y (by simp [hy]))) (trodAll_cons_mk (Below.trod laidOut (by kernel_rfl) (of_decide_eq_true (by kernel_rfl)) h1 hbw (fun y hy => hlt y (by simp [hy]))) trodAll_mk0)) rfl (hbw.frame _)⟩

set_option maxRecDepth 100000 in
noncomputable def low : Nat := (World.holding Tryz.prog default ⟨#[], #[], []⟩).heap.size
noncomputable def laidWorld (os : Os) : World := { World.holding Tryz.prog os ⟨#[.cells #[.string ⟨#[118, 97, 108, 117, 101, 32, 111, 117, 116, 32, 111, 102, 32, 114, 97, 110, 103, 101]⟩] 154, .cells #[.string ⟨#[105, 110, 118, 97, 108, 105, 100, 32, 115, 121, 110, 116, 97, 120]⟩] 154], #[], []⟩ with heap := (putVar (putVar (putVar (putVar (putVar (putVar (putVar (World.holding Tryz.prog os ⟨#[.cells #[.string ⟨#[118, 97, 108, 117, 101, 32, 111, 117, 116, 32, 111, 102, 32, 114, 97, 110, 103, 101]⟩] 154, .cells #[.string ⟨#[105, 110, 118, 97, 108, 105, 100, 32, 115, 121, 110, 116, 97, 120]⟩] 154], #[], []⟩).heap 6 (cellsD (Rows.laid_math_bits_deBruijn32tab : DataW Unit))) 7 (cellsD (Rows.laid_math_bits_deBruijn64tab : DataW Unit))) 5 (cellsD (Rows.laid_internal_strconv_uint64pow10 : DataW Unit))) 2 (cellsD (Rows.laid_unicode_utf8_acceptRanges : DataW Unit))) 4 [.iface 152 (.pointer (some ⟨low + 0, 0, none⟩))]) 3 [.iface 152 (.pointer (some ⟨low + 1, 0, none⟩))]) 1 (cellsD (Rows.laid_unicode_utf8_first : DataW Unit))) }
theorem laid_met (os : Os) (args : Array Value) : laidMet Tryz.prog Rows.packingPacksUptoRow.laid ((laidWorld os).forCall (fun _ _ => 0) ⟨#[], args, []⟩).memory :=
  (LaidIn.of_run (l := Rows.packingPacksUptoRow.laid) [6, 7, 5, 2, 4, 3, 1, low + 0, low + 1] 8 (by kernel_rfl) (by kernel_rfl) (by kernel_rfl) (by kernel_rfl)).met
theorem witness_row (os : Os) {H : Type} (enc : TypeId × Value → H) :
    (Rows.OpenSpec.upto Rows.packingPacksSpec).preRow enc Tryz.prog Tryz.f4 Rows.packingPacksUptoRow.domain false Rows.packingPacksUptoRow.laid ((laidWorld os).forCall (fun _ _ => 0) ⟨#[], #[.slice none 0 0, .slice none 0 0], []⟩).memory #[.slice none 0 0, .slice none 0 0] := by
  have hw : (DataW.whole enc Tryz.prog ((laidWorld os).forCall (fun _ _ => 0) ⟨#[], #[.slice none 0 0, .slice none 0 0], []⟩).memory Tryz.f4.params.toList (Rows.OpenSpec.upto Rows.packingPacksSpec).vars false (#[.slice none 0 0, .slice none 0 0] : Array Value).toList 8).map (fun x => (x.1, x.2.1)) =
      some ([.nil, .nil], []) := by kernel_rfl
  obtain ⟨⟨x1, x2, x3⟩, hx, hx1⟩ := Option.map_eq_some_iff.1 hw
  simp only [Prod.mk.injEq] at hx1
  obtain ⟨rfl, rfl⟩ := hx1
  exact OpenSpec.preRow_of_cond 8 hx (by kernel_rfl) (fun k hk => by obtain rfl := Option.some.inj hk; kernel_rfl) (by kernel_rfl) (laid_met os _)

set_option maxRecDepth 100000 in
set_option maxHeartbeats 4000000 in
theorem lifted (os : Os) (started : os.Started) (H : Type) (enc : TypeId × Value → H) (F : Stop.Interp) :
    ReturnsInHanded {} Tryz.checked os 4 .any ((Rows.OpenSpec.upto Rows.packingPacksSpec).preRow enc Tryz.prog Tryz.f4 Rows.packingPacksUptoRow.domain false Rows.packingPacksUptoRow.laid) (((Rows.OpenSpec.upto Rows.packingPacksSpec).at F).post enc Tryz.prog Tryz.f4 false true false false) := by
  refine returnsInHanded_of_row (C := Tryz.checked) (s := (Rows.OpenSpec.upto Rows.packingPacksSpec)) own started (by kernel_rfl) Tryz.func4
    (witness_row_atRef (enc := enc) (C := Tryz.checked) false (laidWorld os) #[.slice none 0 0, .slice none 0 0] rfl (by kernel_rfl) (by kernel_rfl) (by kernel_rfl) (witness_row os enc)) ?_
  intro W base args ds gs before hval hW _ hk _ hL hSh _
  exact contract H enc W base args ds gs before hval hW (hk _ rfl) hL hSh

theorem bare : Rows.PackingPacksUptoSaid :=
  OpenClaim.holds_of_cond 4 Tryz.f4 rfl rfl rfl rfl rfl rfl rfl ⟨rfl, rfl, rfl, rfl, rfl⟩ rfl rfl rfl rfl rfl (by kernel_rfl) Tryz.func4 (by kernel_rfl)
    (of_decide_eq_true (by kernel_rfl)) (by unfold Func.isWrapper; first | (rw [if_pos (by decide +kernel)]; kernel_rfl) | (rw [if_neg (by decide +kernel)]; exact ⟨rfl, rfl⟩))
    (fun os started H enc _ F0 => by rw [OpenClaim.pre_eq_preRow]; exact lifted os started H enc F0)

theorem proved : Rows.PackingPacksUptoCardSaid :=
  Claim7.holds_tied_plain_at .later [] [.data, .data, .data, .data, .sentinel, .sentinel, .pinned] true (true, "48438208ee5d8a73c967165093a53008d791f0014081560c6a08c26489265a0a") true
    bare (fun _ h => by cases h) (by kernel_rfl) (fun _ h => by cases h) packingPacksUpto_row_tie rfl ⟨rfl, rfl⟩ (by kernel_rfl) rfl
    (fun f fn hf hfn => by
      obtain rfl : f = 4 := Option.some.inj ((show Tryz.prog.funcNamed "brindlewood/brindlewoodlaw4.PackingPacks" = some 4 by kernel_rfl).symm.trans hf) |>.symm
      obtain rfl : fn = Tryz.f4 := (Option.some.inj (Tryz.func4.symm.trans hfn)).symm
      exact ⟨by kernel_rfl, fun j t ht => by
        rw [Tryz.params4] at ht
        have hm : t ∈ [22, 24] := by simpa using Array.mem_of_getElem? ht
        have hall : ([22, 24].all fun u => !Tryz.prog.wantsStandIn u) = true := by kernel_rfl
        exact (show Tryz.prog.wantsStandIn t = false by simpa using List.all_eq_true.1 hall t hm)⟩)
    (by kernel_rfl)
end Go.Proofs.YtdpmkphjcjacfaaGreatDoor.packingPacksF
