/- The law PackingShortest answers true for every input of bulk at most 1048576, and its arguments read as before; the listed tables and sentinels are tied to the text of the program. -/
import Derived.Test.YtdpmkphjcjacfaaDoorCards
import Derived.Test.YtdpmkphjcjacfaaDoorTie
import Derived.SevenTiedAt
import Derived.Test.YtdpmkphjcjacfaaDoorGl
import Derived.Test.YtdpmkphjcjacfaaDoorGn
import Derived.Test.YtdpmkphjcjacfaaDoorRows
import Derived.Test.YtdpmkphjcjacfaaDoorGo
import Derived.Test.YtdpmkphjcjacfaaDoorP2
import Derived.Test.YtdpmkphjcjacfaaDoorH1
namespace Go.Proofs.YtdpmkphjcjacfaaDoor.packingShortestF
open Go.ChangeShapes Go.WideShapes Go.ChangeAt Go.RowKit Go.Gv Go.Gv.D
set_option linter.all false

theorem own : ownKnob Tryd.prog.godebug = none := by kernel_rfl
theorem laidOut : laidOutB Tryd.prog = true := by kernel_rfl
theorem o3 : Opens Tryd.prog 3 (iE .i64) (inK .i64) (fun _ => 1) := (opens_int Tryd.underlying3 (by kernel_rfl))
mutual
theorem bulk_eq {H : Type} : ∀ d : DataW H, Rows.uptoBulk d = bulk d
  | .lit l => by cases l <;> simp [Rows.uptoBulk, bulk]
  | .nil => by simp [Rows.uptoBulk, bulk]
  | .ptr d => by simp [Rows.uptoBulk, bulk, bulk_eq d]
  | .slice a b => by simp [Rows.uptoBulk, bulk, bulkAll_eq a, bulkAll_eq b]
  | .agg a => by simp [Rows.uptoBulk, bulk, bulkAll_eq a]
  | .iface _ d => by simp [Rows.uptoBulk, bulk, bulk_eq d]
  | .map m => by simp [Rows.uptoBulk, bulk, bulkEntries_eq m]
  | .held _ => by simp [Rows.uptoBulk, bulk]
theorem bulkAll_eq {H : Type} : ∀ l : List (DataW H), Rows.uptoBulkAll l = bulkAll l
  | [] => by simp [Rows.uptoBulkAll, bulkAll]
  | d :: r => by simp [Rows.uptoBulkAll, bulkAll, bulk_eq d, bulkAll_eq r]
theorem bulkEntries_eq {H : Type} : ∀ l : List (Lit × DataW H), Rows.uptoBulkEntries l = bulkEntries l
  | [] => by simp [Rows.uptoBulkEntries, bulkEntries]
  | d :: r => by simp [Rows.uptoBulkEntries, bulkEntries, bulkEntry_eq d, bulkEntries_eq r]
theorem bulkEntry_eq {H : Type} : ∀ x : Lit × DataW H, Rows.uptoBulkEntry x = bulkEntry x
  | (l, d) => by cases l <;> simp [Rows.uptoBulkEntry, bulkEntry, bulk_eq d]
end
theorem gn2 : Tryd.prog.globalNamed "strconv.ErrRange" = some 2 := by kernel_rfl
theorem gt2 : (Tryd.prog.globals[2]?).map (·.type) = some 84 := by kernel_rfl
theorem starS : "*" ++ "errors.errorString" = "*errors.errorString" := by decide
theorem rowS (u : TypeId) (h : Tryd.prog.typeName? 3 u = some "*errors.errorString") : u = 132 :=
  typeName_ptr_named (nm := "errors.errorString") (by rw [starS]; kernel_rfl) (by kernel_rfl) (by decide) u (by rw [starS]; exact h)
theorem hg2 {W : World} (hL : laidMetH Tryd.prog Rows.packingShortestUptoRow.laid W) : ∃ x : TypeId × Value, Rd eE W (fun k => k < W.heap.size) (some ⟨2, 0, none⟩) 1 [x] := by
  have h0 : laidMet Tryd.prog Rows.packingShortestUptoRow.laid W := hL
  obtain ⟨a, s, hv, _⟩ := laid_sentinel (laidMet.tail (laidMet.tail (laidMet.tail (laidMet.tail h0)))) gn2 gt2 Tryd.underlying84 rowS Tryd.underlying132 Tryd.underlying134 rfl rfl Tryd.underlying9 (by kernel_rfl) (by kernel_rfl)
  exact ⟨_, rd_sentinel gn2 hv⟩
theorem gn1 : Tryd.prog.globalNamed "strconv.ErrSyntax" = some 1 := by kernel_rfl
theorem gt1 : (Tryd.prog.globals[1]?).map (·.type) = some 84 := by kernel_rfl

set_option maxRecDepth 100000 in
set_option maxHeartbeats 4000000 in
theorem contract (H : Type) (enc : TypeId × Value → H) (W : World) (base : Nat) (args : Array Value) (ds gs : List (DataW H)) (before : List MemPlace)
    (hval : ∀ (j : Nat) t v, Tryd.f5.params[j]? = some t → args[j]? = some v → Value.okWide Tryd.prog W .any base t v)
    (hW : DataW.Whole enc Tryd.prog Tryd.f5.params.toList Rows.packingShortestSpec.vars false W args.toList ds gs before) (hk : Rows.uptoSmall H (ds ++ gs) = true) (hL : laidMetH Tryd.prog Rows.packingShortestUptoRow.laid W) (hSh : W.ShapedOpen Tryd.prog) :
    Calls Tryd.prog 5 args W fun e W' => ∃ v, e = .returned v ∧ Rows.packingShortestSpec.post enc Tryd.prog Tryd.f5 false true false false W args v W' := by
  have hW' := hW
  obtain ⟨p, q, hA0, hV, rfl, hfz, hnd⟩ := hW
  have hA : DataW.TrodAll enc Tryd.prog W 0 (fun _ => true) true Tryd.f5.params.toList args.toList ds p := hA0
  rw [Tryd.params5] at hA hval
  obtain ⟨v0, vs0, d0, ds0, p0, q0, hargs, rfl, rfl, h0, r0⟩ := trodAll_cons hA
  obtain ⟨v1, vs1, d1, ds1, p1, q1, rfl, rfl, rfl, h1, r1⟩ := trodAll_cons r0
  obtain ⟨rfl, rfl, rfl⟩ := trodAll_nil r1
  obtain rfl : args = #[v0, v1] := by cases args; simp_all
  obtain ⟨rfl, rfl⟩ := trodVars_none hV
  obtain ⟨x0, hr0, hw0, hm0⟩ := open_arg o3 h0
  obtain ⟨x1, hr1, hw1, hm1⟩ := open_arg o3 h1
  simp only [List.append_nil] at hW'
  have hlt : ∀ y ∈ p0 ++ (p1), y.block < W.heap.size := fun y hy => by simpa using hW'.lt y (by simpa using hy)
  obtain ⟨_, rfl⟩ := okWide_int Tryd.underlying3 (hval 0 3 v0 rfl rfl)
  cases one_inj hr0
  obtain ⟨_, rfl⟩ := okWide_int Tryd.underlying3 (hval 1 3 v1 rfl rfl)
  cases one_inj hr1
  have hb : bulkAll [d0, d1] ≤ 1048576 := by
    rw [← bulkAll_eq]; simpa [Rows.uptoSmall] using hk
  simp only [bulkAll] at hb
  obtain ⟨fuel, hf⟩ := Tot.some (Go.Gv.P.PackingShortest_said x0 x1 hw0 hw1 (by omega))
  obtain ⟨gmx2, hgm2⟩ := hg2 hL
  refine (law4_PackingShortest_ok fuel x0 x1 W (fun k => k < W.heap.size) (fun k h => h) hgm2 true hf).mono fun e W' hh => ?_
  obtain ⟨v, rfl, hg, rfl⟩ := ret_elim hh
  have hbw : Below W.heap.size W W' := below_of_grown hg
  exact ⟨_, rfl, post_law hW' (trodAll_cons_mk (shut_bool Tryd.underlying4 _) trodAll_mk0) (trodAll_cons_mk (Below.trod laidOut (by kernel_rfl) (of_decide_eq_true (by kernel_rfl)) h0 hbw (fun y hy => hlt y (by simp [hy]))) (trodAll_cons_mk (Below.trod laidOut (by kernel_rfl) (of_decide_eq_true (by kernel_rfl)) h1 hbw (fun y hy => hlt y (by simp [hy]))) trodAll_mk0)) rfl (hbw.frame _)⟩

set_option maxRecDepth 100000 in
noncomputable def low : Nat := (World.holding Tryd.prog default ⟨#[], #[], []⟩).heap.size
noncomputable def laidWorld (os : Os) : World := { World.holding Tryd.prog os ⟨#[.cells #[.string ⟨#[118, 97, 108, 117, 101, 32, 111, 117, 116, 32, 111, 102, 32, 114, 97, 110, 103, 101]⟩] 134, .cells #[.string ⟨#[105, 110, 118, 97, 108, 105, 100, 32, 115, 121, 110, 116, 97, 120]⟩] 134], #[], []⟩ with heap := (putVar (putVar (putVar (putVar (putVar (putVar (putVar (World.holding Tryd.prog os ⟨#[.cells #[.string ⟨#[118, 97, 108, 117, 101, 32, 111, 117, 116, 32, 111, 102, 32, 114, 97, 110, 103, 101]⟩] 134, .cells #[.string ⟨#[105, 110, 118, 97, 108, 105, 100, 32, 115, 121, 110, 116, 97, 120]⟩] 134], #[], []⟩).heap 6 (cellsD (Rows.laid_math_bits_deBruijn32tab : DataW Unit))) 7 (cellsD (Rows.laid_math_bits_deBruijn64tab : DataW Unit))) 5 (cellsD (Rows.laid_internal_strconv_uint64pow10 : DataW Unit))) 4 (cellsD (Rows.laid_unicode_utf8_acceptRanges : DataW Unit))) 2 [.iface 132 (.pointer (some ⟨low + 0, 0, none⟩))]) 1 [.iface 132 (.pointer (some ⟨low + 1, 0, none⟩))]) 3 (cellsD (Rows.laid_unicode_utf8_first : DataW Unit))) }
theorem laid_met (os : Os) (args : Array Value) : laidMet Tryd.prog Rows.packingShortestUptoRow.laid ((laidWorld os).forCall (fun _ _ => 0) ⟨#[], args, []⟩).memory :=
  (LaidIn.of_run (l := Rows.packingShortestUptoRow.laid) [6, 7, 5, 4, 2, 1, 3, low + 0, low + 1] 8 (by kernel_rfl) (by kernel_rfl) (by kernel_rfl) (by kernel_rfl)).met
theorem witness_row (os : Os) {H : Type} (enc : TypeId × Value → H) :
    (Rows.OpenSpec.upto Rows.packingShortestSpec).preRow enc Tryd.prog Tryd.f5 Rows.packingShortestUptoRow.domain false Rows.packingShortestUptoRow.laid ((laidWorld os).forCall (fun _ _ => 0) ⟨#[], #[.int .i64 0, .int .i64 0], []⟩).memory #[.int .i64 0, .int .i64 0] := by
  have hw : (DataW.whole enc Tryd.prog ((laidWorld os).forCall (fun _ _ => 0) ⟨#[], #[.int .i64 0, .int .i64 0], []⟩).memory Tryd.f5.params.toList (Rows.OpenSpec.upto Rows.packingShortestSpec).vars false (#[.int .i64 0, .int .i64 0] : Array Value).toList 8).map (fun x => (x.1, x.2.1)) =
      some ([.lit (.int .i64 0), .lit (.int .i64 0)], []) := by kernel_rfl
  obtain ⟨⟨x1, x2, x3⟩, hx, hx1⟩ := Option.map_eq_some_iff.1 hw
  simp only [Prod.mk.injEq] at hx1
  obtain ⟨rfl, rfl⟩ := hx1
  exact OpenSpec.preRow_of_cond 8 hx (by kernel_rfl) (fun k hk => by obtain rfl := Option.some.inj hk; kernel_rfl) (by kernel_rfl) (laid_met os _)

set_option maxRecDepth 100000 in
set_option maxHeartbeats 4000000 in
theorem lifted (os : Os) (started : os.Started) (H : Type) (enc : TypeId × Value → H) (F : Stop.Interp) :
    ReturnsInHanded {} Tryd.checked os 5 .any ((Rows.OpenSpec.upto Rows.packingShortestSpec).preRow enc Tryd.prog Tryd.f5 Rows.packingShortestUptoRow.domain false Rows.packingShortestUptoRow.laid) (((Rows.OpenSpec.upto Rows.packingShortestSpec).at F).post enc Tryd.prog Tryd.f5 false true false false) := by
  refine returnsInHanded_of_row (C := Tryd.checked) (s := (Rows.OpenSpec.upto Rows.packingShortestSpec)) own started (by kernel_rfl) Tryd.func5
    (witness_row_atRef (enc := enc) (C := Tryd.checked) false (laidWorld os) #[.int .i64 0, .int .i64 0] rfl (by kernel_rfl) (by kernel_rfl) (by kernel_rfl) (witness_row os enc)) ?_
  intro W base args ds gs before hval hW _ hk _ hL hSh _
  exact contract H enc W base args ds gs before hval hW (hk _ rfl) hL hSh

theorem bare : Rows.PackingShortestUptoSaid :=
  OpenClaim.holds_of_cond 5 Tryd.f5 rfl rfl rfl rfl rfl rfl rfl ⟨rfl, rfl, rfl, rfl, rfl⟩ rfl rfl rfl rfl rfl (by kernel_rfl) Tryd.func5 (by kernel_rfl)
    (of_decide_eq_true (by kernel_rfl)) (by unfold Func.isWrapper; first | (rw [if_pos (by decide +kernel)]; kernel_rfl) | (rw [if_neg (by decide +kernel)]; exact ⟨rfl, rfl⟩))
    (fun os started H enc _ F0 => by rw [OpenClaim.pre_eq_preRow]; exact lifted os started H enc F0)

theorem proved : Rows.PackingShortestUptoCardSaid :=
  Claim7.holds_tied_plain_at .later [] [.data, .data, .data, .data, .sentinel, .sentinel, .pinned] true (true, "6f829f2f76b192349ce19f40a7247c79ed199be0deb803672cfbf3670e38a5ad") true
    bare (fun _ h => by cases h) (by kernel_rfl) (fun _ h => by cases h) packingShortestUpto_row_tie rfl ⟨rfl, rfl⟩ (by kernel_rfl) rfl
    (fun f fn hf hfn => by
      obtain rfl : f = 5 := Option.some.inj ((show Tryd.prog.funcNamed "brindlewood/brindlewoodlaw4.PackingShortest" = some 5 by kernel_rfl).symm.trans hf) |>.symm
      obtain rfl : fn = Tryd.f5 := (Option.some.inj (Tryd.func5.symm.trans hfn)).symm
      exact ⟨by kernel_rfl, fun j t ht => by
        rw [Tryd.params5] at ht
        have hm : t ∈ [3, 3] := by simpa using Array.mem_of_getElem? ht
        have hall : ([3, 3].all fun u => !Tryd.prog.wantsStandIn u) = true := by kernel_rfl
        exact (show Tryd.prog.wantsStandIn t = false by simpa using List.all_eq_true.1 hall t hm)⟩)
    (by kernel_rfl)
end Go.Proofs.YtdpmkphjcjacfaaDoor.packingShortestF
