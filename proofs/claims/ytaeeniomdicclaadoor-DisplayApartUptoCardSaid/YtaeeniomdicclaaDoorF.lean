/- The law DisplayApart answers true for every input of bulk at most 1048576, and its arguments read as before; the two listed tables of unicode/utf8 are tied to the text of the program. -/
import Derived.Test.YtaeeniomdicclaaDoorCards
import Derived.Test.YtaeeniomdicclaaDoorTie
import Derived.SevenTiedAt
import Derived.Test.YtaeeniomdicclaaDoorGl
import Derived.Test.YtaeeniomdicclaaDoorRows
import Derived.Test.YtaeeniomdicclaaDoorGo
import Derived.Test.YtaeeniomdicclaaDoorP1
import Derived.Test.YtaeeniomdicclaaDoorA3
namespace Go.Proofs.YtaeeniomdicclaaDoor.displayApartF
open Go.ChangeShapes Go.WideShapes Go.ChangeAt Go.RowKit Go.Gv Go.Gv.D
set_option linter.all false

theorem own : ownKnob Tryd.prog.godebug = none := by kernel_rfl
theorem laidOut : laidOutB Tryd.prog = true := by kernel_rfl
theorem o9 : Opens Tryd.prog 9 sE (fun s => s.size ≤ maxLen) (fun s => s.size + 1) := (opens_string Tryd.underlying9 (by kernel_rfl))
mutual
theorem bulk_eq {H : Type} : ∀ d : DataW H, Rows.uptoBulk d = bulk d
  | .lit l => by cases l <;> simp [Rows.uptoBulk, bulk]
  | .nil => by simp [Rows.uptoBulk, bulk]
  | .ptr d => by simp [Rows.uptoBulk, bulk, bulk_eq d]
  | .slice a b => by simp [Rows.uptoBulk, bulk, bulkAll_eq a, bulkAll_eq b]
  | .agg a => by simp [Rows.uptoBulk, bulk, bulkAll_eq a]
  | .iface _ d => by simp [Rows.uptoBulk, bulk, bulk_eq d]
  | .map m => by simp [Rows.uptoBulk, bulk, bulkEntries_eq m]
  | .held _ => by simp [Rows.uptoBulk, bulk]
theorem bulkAll_eq {H : Type} : ∀ l : List (DataW H), Rows.uptoBulkAll l = bulkAll l
  | [] => by simp [Rows.uptoBulkAll, bulkAll]
  | d :: r => by simp [Rows.uptoBulkAll, bulkAll, bulk_eq d, bulkAll_eq r]
theorem bulkEntries_eq {H : Type} : ∀ l : List (Lit × DataW H), Rows.uptoBulkEntries l = bulkEntries l
  | [] => by simp [Rows.uptoBulkEntries, bulkEntries]
  | d :: r => by simp [Rows.uptoBulkEntries, bulkEntries, bulkEntry_eq d, bulkEntries_eq r]
theorem bulkEntry_eq {H : Type} : ∀ x : Lit × DataW H, Rows.uptoBulkEntry x = bulkEntry x
  | (l, d) => by cases l <;> simp [Rows.uptoBulkEntry, bulkEntry, bulk_eq d]
end
theorem gn1 : Tryd.prog.globalNamed "unicode/utf8.acceptRanges" = some 1 := by kernel_rfl
theorem gt1 : (Tryd.prog.globals[1]?).map (·.type) = some 84 := by kernel_rfl
theorem dt1 : ((.agg (utf8Acc.map fun z => .agg [.lit (.int .u8 z.1), .lit (.int .u8 z.2)])) : DataW Unit) = Rows.laid_unicode_utf8_acceptRanges := by kernel_rfl
theorem hg1 {W : World} (hL : laidMetH Tryd.prog Rows.displayApartUptoRow.laid W) : Rd (prE (iE .u8) (iE .u8)) W (fun k => k < W.heap.size) (some ⟨1, 0, none⟩) 16 utf8Acc := by
  have h0 := Lib.laidMet.reads hL (n := "unicode/utf8.acceptRanges") (d := Rows.laid_unicode_utf8_acceptRanges) (.head _)
  rw [← dt1] at h0
  have h1 := rd_pairs (zs := utf8Acc) utf8Acc_len gn1 gt1 Tryd.underlying84 Tryd.underlying83 (by kernel_rfl) rfl (fun j f hj => by
    match j, hj with
    | 0, hj => simp at hj; subst hj; exact ⟨Tryd.underlying5, rfl, (by kernel_rfl)⟩
    | 1, hj => simp at hj; subst hj; exact ⟨Tryd.underlying5, rfl, (by kernel_rfl)⟩
    | j + 2, hj => simp at hj) h0
  rw [utf8Acc_len] at h1
  exact h1
theorem gn0 : Tryd.prog.globalNamed "unicode/utf8.first" = some 0 := by kernel_rfl
theorem gt0 : (Tryd.prog.globals[0]?).map (·.type) = some 81 := by kernel_rfl
theorem dt0 : ((Lib.tabData .u8 (utf8First.map fun z => (z.toNat : Int))) : DataW Unit) = Rows.laid_unicode_utf8_first := by kernel_rfl
theorem hg0 {W : World} (hL : laidMetH Tryd.prog Rows.displayApartUptoRow.laid W) : Rd bE W (fun k => k < W.heap.size) (some ⟨0, 0, none⟩) 256 utf8First := by
  have h0 := Lib.laidMet.reads hL (n := "unicode/utf8.first") (d := Rows.laid_unicode_utf8_first) (.tail _ (.head _))
  rw [← dt0] at h0
  have h1 := rd_tab (zs := utf8First) gn0 gt0 Tryd.underlying81 Tryd.underlying5 (by kernel_rfl) (by kernel_rfl) h0
  rw [utf8First_len] at h1
  exact h1
theorem hg2 {W : World} (hSh : W.ShapedOpen Tryd.prog) : ∃ m, Rd (iE .i64) W (fun k => k < W.heap.size) (some ⟨2, 0, none⟩) 1 [m] :=
  rd_cell (cell_of_shapedOpen_int (g := 2) (zero := #[.int .i64 0]) (t := 3) (k := .i64) hSh (of_decide_eq_true (by kernel_rfl)) (by kernel_rfl) rfl (by kernel_rfl) (by kernel_rfl) Tryd.underlying3)

set_option maxRecDepth 100000 in
set_option maxHeartbeats 4000000 in
theorem contract (H : Type) (enc : TypeId × Value → H) (W : World) (base : Nat) (args : Array Value) (ds gs : List (DataW H)) (before : List MemPlace)
    (hval : ∀ (j : Nat) t v, Tryd.f4.params[j]? = some t → args[j]? = some v → Value.okWide Tryd.prog W .any base t v)
    (hW : DataW.Whole enc Tryd.prog Tryd.f4.params.toList Rows.displayApartSpec.vars false W args.toList ds gs before) (hk : Rows.uptoSmall H (ds ++ gs) = true) (hL : laidMetH Tryd.prog Rows.displayApartUptoRow.laid W) (hSh : W.ShapedOpen Tryd.prog) :
    Calls Tryd.prog 4 args W fun e W' => ∃ v, e = .returned v ∧ Rows.displayApartSpec.post enc Tryd.prog Tryd.f4 false true false false W args v W' := by
  have hW' := hW
  obtain ⟨p, q, hA0, hV, rfl, hfz, hnd⟩ := hW
  have hA : DataW.TrodAll enc Tryd.prog W 0 (fun _ => true) true Tryd.f4.params.toList args.toList ds p := hA0
  rw [Tryd.params4] at hA hval
  obtain ⟨v0, vs0, d0, ds0, p0, q0, hargs, rfl, rfl, h0, r0⟩ := trodAll_cons hA
  obtain ⟨v1, vs1, d1, ds1, p1, q1, rfl, rfl, rfl, h1, r1⟩ := trodAll_cons r0
  obtain ⟨rfl, rfl, rfl⟩ := trodAll_nil r1
  obtain rfl : args = #[v0, v1] := by cases args; simp_all
  obtain ⟨rfl, rfl⟩ := trodVars_none hV
  obtain ⟨x0, hr0, hw0, hm0⟩ := open_arg o9 h0
  obtain ⟨x1, hr1, hw1, hm1⟩ := open_arg o9 h1
  simp only [List.append_nil] at hW'
  have hlt : ∀ y ∈ p0 ++ (p1), y.block < W.heap.size := fun y hy => by simpa using hW'.lt y (by simpa using hy)
  obtain ⟨_, rfl⟩ := okWide_string Tryd.underlying9 (hval 0 9 v0 rfl rfl)
  cases one_inj hr0
  obtain ⟨_, rfl⟩ := okWide_string Tryd.underlying9 (hval 1 9 v1 rfl rfl)
  cases one_inj hr1
  have hb : bulkAll [d0, d1] ≤ 1048576 := by
    rw [← bulkAll_eq]; simpa [Rows.uptoSmall] using hk
  simp only [bulkAll] at hb
  obtain ⟨fuel, hf⟩ := Tot.some (Go.Gv.P.DisplayApart_said x0 x1 hw0 hw1 (by omega))
  obtain ⟨gmx2, hgm2⟩ := hg2 hSh
  refine (law4_DisplayApart_ok fuel x0 x1 W (fun k => k < W.heap.size) (fun k h => h) (hg0 hL) (hg1 hL) hgm2 true hf).mono fun e W' hh => ?_
  obtain ⟨v, rfl, hg, rfl⟩ := ret_elim hh
  have hbw : Below W.heap.size W W' := below_of_grown hg
  exact ⟨_, rfl, post_law hW' (trodAll_cons_mk (shut_bool Tryd.underlying4 _) trodAll_mk0) (trodAll_cons_mk (Below.trod laidOut (by kernel_rfl) (of_decide_eq_true (by kernel_rfl)) h0 hbw (fun y hy => hlt y (by simp [hy]))) (trodAll_cons_mk (Below.trod laidOut (by kernel_rfl) (of_decide_eq_true (by kernel_rfl)) h1 hbw (fun y hy => hlt y (by simp [hy]))) trodAll_mk0)) rfl (hbw.frame _)⟩

set_option maxRecDepth 100000 in
noncomputable def laidWorld (os : Os) : World := { World.holding Tryd.prog os ⟨#[], #[], []⟩ with heap := (putVar (putVar (World.holding Tryd.prog os ⟨#[], #[], []⟩).heap 1 (utf8Acc.flatMap fun z => [Value.int .u8 z.1, Value.int .u8 z.2])) 0 (utf8First.map fun z => Value.int .u8 z.toNat)) }
theorem laid_met (os : Os) (args : Array Value) : laidMet Tryd.prog Rows.displayApartUptoRow.laid ((laidWorld os).forCall (fun _ _ => 0) ⟨#[], args, []⟩).memory :=
  (LaidIn.of_run (l := Rows.displayApartUptoRow.laid) [1, 0] 8 (by kernel_rfl) (by kernel_rfl) (by kernel_rfl) (by kernel_rfl)).met
theorem witness_row (os : Os) {H : Type} (enc : TypeId × Value → H) :
    (Rows.OpenSpec.upto Rows.displayApartSpec).preRow enc Tryd.prog Tryd.f4 Rows.displayApartUptoRow.domain false Rows.displayApartUptoRow.laid ((laidWorld os).forCall (fun _ _ => 0) ⟨#[], #[.string ⟨#[]⟩, .string ⟨#[]⟩], []⟩).memory #[.string ⟨#[]⟩, .string ⟨#[]⟩] := by
  have hw : (DataW.whole enc Tryd.prog ((laidWorld os).forCall (fun _ _ => 0) ⟨#[], #[.string ⟨#[]⟩, .string ⟨#[]⟩], []⟩).memory Tryd.f4.params.toList (Rows.OpenSpec.upto Rows.displayApartSpec).vars false (#[.string ⟨#[]⟩, .string ⟨#[]⟩] : Array Value).toList 8).map (fun x => (x.1, x.2.1)) =
      some ([.lit (.string []), .lit (.string [])], []) := by kernel_rfl
  obtain ⟨⟨x1, x2, x3⟩, hx, hx1⟩ := Option.map_eq_some_iff.1 hw
  simp only [Prod.mk.injEq] at hx1
  obtain ⟨rfl, rfl⟩ := hx1
  exact OpenSpec.preRow_of_cond 8 hx (by kernel_rfl) (fun k hk => by obtain rfl := Option.some.inj hk; kernel_rfl) (by kernel_rfl) (laid_met os _)

set_option maxRecDepth 100000 in
set_option maxHeartbeats 4000000 in
theorem lifted (os : Os) (started : os.Started) (H : Type) (enc : TypeId × Value → H) (F : Stop.Interp) :
    ReturnsInHanded {} Tryd.checked os 4 .any ((Rows.OpenSpec.upto Rows.displayApartSpec).preRow enc Tryd.prog Tryd.f4 Rows.displayApartUptoRow.domain false Rows.displayApartUptoRow.laid) (((Rows.OpenSpec.upto Rows.displayApartSpec).at F).post enc Tryd.prog Tryd.f4 false true false false) := by
  refine returnsInHanded_of_row (C := Tryd.checked) (s := (Rows.OpenSpec.upto Rows.displayApartSpec)) own started (by kernel_rfl) Tryd.func4
    (witness_row_atRef (enc := enc) (C := Tryd.checked) false (laidWorld os) #[.string ⟨#[]⟩, .string ⟨#[]⟩] rfl (by kernel_rfl) (by kernel_rfl) (by kernel_rfl) (witness_row os enc)) ?_
  intro W base args ds gs before hval hW _ hk _ hL hSh _
  exact contract H enc W base args ds gs before hval hW (hk _ rfl) hL hSh

theorem bare : Rows.DisplayApartUptoSaid :=
  OpenClaim.holds_of_cond 4 Tryd.f4 rfl rfl rfl rfl rfl rfl rfl ⟨rfl, rfl, rfl, rfl, rfl⟩ rfl rfl rfl rfl rfl (by kernel_rfl) Tryd.func4 (by kernel_rfl)
    (of_decide_eq_true (by kernel_rfl)) (by unfold Func.isWrapper; first | (rw [if_pos (by decide +kernel)]; kernel_rfl) | (rw [if_neg (by decide +kernel)]; exact ⟨rfl, rfl⟩))
    (fun os started H enc _ F0 => by rw [OpenClaim.pre_eq_preRow]; exact lifted os started H enc F0)

theorem proved : Rows.DisplayApartUptoCardSaid :=
  Claim7.holds_tied_plain_at .later [] [.data, .pinned] true (true, "aa74a684ce233866cbdd1d2a11f2b15922b4b5b0e57bdf58452cd7b21a530aa0") true
    bare (fun _ h => by cases h) (by kernel_rfl) (fun _ h => by cases h) displayApartUpto_row_tie rfl ⟨rfl, rfl⟩ (by kernel_rfl) rfl
    (fun f fn hf hfn => by
      obtain rfl : f = 4 := Option.some.inj ((show Tryd.prog.funcNamed "brindlewood/brindlewoodlaw4.DisplayApart" = some 4 by kernel_rfl).symm.trans hf) |>.symm
      obtain rfl : fn = Tryd.f4 := (Option.some.inj (Tryd.func4.symm.trans hfn)).symm
      exact ⟨by kernel_rfl, fun j t ht => by
        rw [Tryd.params4] at ht
        have hm : t ∈ [9, 9] := by simpa using Array.mem_of_getElem? ht
        have hall : ([9, 9].all fun u => !Tryd.prog.wantsStandIn u) = true := by kernel_rfl
        exact (show Tryd.prog.wantsStandIn t = false by simpa using List.all_eq_true.1 hall t hm)⟩)
    (by kernel_rfl)
end Go.Proofs.YtaeeniomdicclaaDoor.displayApartF
