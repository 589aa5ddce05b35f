/- The law BytestrParts answers true for every input of bulk at most 1048576, and its arguments read as before; the two listed tables of unicode/utf8 are tied to the text of the program. -/
import Derived.Test.YtlclmpegnkomcaaDoorCards
import Derived.Test.YtlclmpegnkomcaaDoorTie
import Derived.SevenTiedAt
import Derived.Test.YtlclmpegnkomcaaDoorGl
import Derived.Test.YtlclmpegnkomcaaDoorRows
import Derived.Test.YtlclmpegnkomcaaDoorGo
import Derived.Test.YtlclmpegnkomcaaDoorP1
import Derived.Test.YtlclmpegnkomcaaDoorQ1
namespace Go.Proofs.YtlclmpegnkomcaaDoor.bytestrPartsF
open Go.ChangeShapes Go.WideShapes Go.ChangeAt Go.RowKit Go.Gv Go.Gv.D
set_option linter.all false

theorem own : ownKnob Tryd.prog.godebug = none := by kernel_rfl
theorem laidOut : laidOutB Tryd.prog = true := by kernel_rfl
theorem o22 : Opens Tryd.prog 22 (slE bE) (fun xs => (∀ x ∈ xs, (fun _ => True) x) ∧ xs.length ≤ maxLen) (sumL (fun _ => 1)) := (opens_slice (E := bE) (wf := (fun _ => True)) (m := (fun _ => 1)) Tryd.underlying22 (by kernel_rfl) (opens_byte Tryd.underlying5 (by kernel_rfl)) (by kernel_rfl))
theorem o3 : Opens Tryd.prog 3 (iE .i64) (inK .i64) (fun _ => 1) := (opens_int Tryd.underlying3 (by kernel_rfl))
theorem o4 : Opens Tryd.prog 4 tE (fun _ => True) (fun _ => 1) := (opens_bool Tryd.underlying4 (by kernel_rfl))
mutual
theorem bulk_eq {H : Type} : ∀ d : DataW H, Rows.uptoBulk d = bulk d
  | .lit l => by cases l <;> simp [Rows.uptoBulk, bulk]
  | .nil => by simp [Rows.uptoBulk, bulk]
  | .ptr d => by simp [Rows.uptoBulk, bulk, bulk_eq d]
  | .slice a b => by simp [Rows.uptoBulk, bulk, bulkAll_eq a, bulkAll_eq b]
  | .agg a => by simp [Rows.uptoBulk, bulk, bulkAll_eq a]
  | .iface _ d => by simp [Rows.uptoBulk, bulk, bulk_eq d]
  | .map m => by simp [Rows.uptoBulk, bulk, bulkEntries_eq m]
  | .held _ => by simp [Rows.uptoBulk, bulk]
theorem bulkAll_eq {H : Type} : ∀ l : List (DataW H), Rows.uptoBulkAll l = bulkAll l
  | [] => by simp [Rows.uptoBulkAll, bulkAll]
  | d :: r => by simp [Rows.uptoBulkAll, bulkAll, bulk_eq d, bulkAll_eq r]
theorem bulkEntries_eq {H : Type} : ∀ l : List (Lit × DataW H), Rows.uptoBulkEntries l = bulkEntries l
  | [] => by simp [Rows.uptoBulkEntries, bulkEntries]
  | d :: r => by simp [Rows.uptoBulkEntries, bulkEntries, bulkEntry_eq d, bulkEntries_eq r]
theorem bulkEntry_eq {H : Type} : ∀ x : Lit × DataW H, Rows.uptoBulkEntry x = bulkEntry x
  | (l, d) => by cases l <;> simp [Rows.uptoBulkEntry, bulkEntry, bulk_eq d]
end
theorem gn1 : Tryd.prog.globalNamed "unicode/utf8.acceptRanges" = some 1 := by kernel_rfl
theorem gt1 : (Tryd.prog.globals[1]?).map (·.type) = some 96 := by kernel_rfl
theorem dt1 : ((.agg (utf8Acc.map fun z => .agg [.lit (.int .u8 z.1), .lit (.int .u8 z.2)])) : DataW Unit) = Rows.laid_unicode_utf8_acceptRanges := by kernel_rfl
theorem hg1 {W : World} (hL : laidMetH Tryd.prog Rows.bytestrPartsUptoRow.laid W) : Rd (prE (iE .u8) (iE .u8)) W (fun k => k < W.heap.size) (some ⟨1, 0, none⟩) 16 utf8Acc := by
  have h0 := Lib.laidMet.reads hL (n := "unicode/utf8.acceptRanges") (d := Rows.laid_unicode_utf8_acceptRanges) (.head _)
  rw [← dt1] at h0
  have h1 := rd_pairs (zs := utf8Acc) utf8Acc_len gn1 gt1 Tryd.underlying96 Tryd.underlying95 (by kernel_rfl) rfl (fun j f hj => by
    match j, hj with
    | 0, hj => simp at hj; subst hj; exact ⟨Tryd.underlying5, rfl, (by kernel_rfl)⟩
    | 1, hj => simp at hj; subst hj; exact ⟨Tryd.underlying5, rfl, (by kernel_rfl)⟩
    | j + 2, hj => simp at hj) h0
  rw [utf8Acc_len] at h1
  exact h1
theorem gn0 : Tryd.prog.globalNamed "unicode/utf8.first" = some 0 := by kernel_rfl
theorem gt0 : (Tryd.prog.globals[0]?).map (·.type) = some 93 := by kernel_rfl
theorem dt0 : ((Lib.tabData .u8 (utf8First.map fun z => (z.toNat : Int))) : DataW Unit) = Rows.laid_unicode_utf8_first := by kernel_rfl
theorem hg0 {W : World} (hL : laidMetH Tryd.prog Rows.bytestrPartsUptoRow.laid W) : Rd bE W (fun k => k < W.heap.size) (some ⟨0, 0, none⟩) 256 utf8First := by
  have h0 := Lib.laidMet.reads hL (n := "unicode/utf8.first") (d := Rows.laid_unicode_utf8_first) (.tail _ (.head _))
  rw [← dt0] at h0
  have h1 := rd_tab (zs := utf8First) gn0 gt0 Tryd.underlying93 Tryd.underlying5 (by kernel_rfl) (by kernel_rfl) h0
  rw [utf8First_len] at h1
  exact h1
theorem hg2 {W : World} (hSh : W.ShapedOpen Tryd.prog) : ∃ m, Rd (iE .i64) W (fun k => k < W.heap.size) (some ⟨2, 0, none⟩) 1 [m] :=
  rd_cell (cell_of_shapedOpen_int (g := 2) (zero := #[.int .i64 0]) (t := 3) (k := .i64) hSh (of_decide_eq_true (by kernel_rfl)) (by kernel_rfl) rfl (by kernel_rfl) (by kernel_rfl) Tryd.underlying3)

set_option maxRecDepth 100000 in
set_option maxHeartbeats 4000000 in
theorem contract (H : Type) (enc : TypeId × Value → H) (W : World) (base : Nat) (args : Array Value) (ds gs : List (DataW H)) (before : List MemPlace)
    (hval : ∀ (j : Nat) t v, Tryd.f8.params[j]? = some t → args[j]? = some v → Value.okWide Tryd.prog W .any base t v)
    (hW : DataW.Whole enc Tryd.prog Tryd.f8.params.toList Rows.bytestrPartsSpec.vars false W args.toList ds gs before) (hk : Rows.uptoSmall H (ds ++ gs) = true) (hL : laidMetH Tryd.prog Rows.bytestrPartsUptoRow.laid W) (hSh : W.ShapedOpen Tryd.prog) :
    Calls Tryd.prog 8 args W fun e W' => ∃ v, e = .returned v ∧ Rows.bytestrPartsSpec.post enc Tryd.prog Tryd.f8 false true false false W args v W' := by
  have hW' := hW
  obtain ⟨p, q, hA0, hV, rfl, hfz, hnd⟩ := hW
  have hA : DataW.TrodAll enc Tryd.prog W 0 (fun _ => true) true Tryd.f8.params.toList args.toList ds p := hA0
  rw [Tryd.params8] at hA hval
  obtain ⟨v0, vs0, d0, ds0, p0, q0, hargs, rfl, rfl, h0, r0⟩ := trodAll_cons hA
  obtain ⟨v1, vs1, d1, ds1, p1, q1, rfl, rfl, rfl, h1, r1⟩ := trodAll_cons r0
  obtain ⟨v2, vs2, d2, ds2, p2, q2, rfl, rfl, rfl, h2, r2⟩ := trodAll_cons r1
  obtain ⟨v3, vs3, d3, ds3, p3, q3, rfl, rfl, rfl, h3, r3⟩ := trodAll_cons r2
  obtain ⟨v4, vs4, d4, ds4, p4, q4, rfl, rfl, rfl, h4, r4⟩ := trodAll_cons r3
  obtain ⟨v5, vs5, d5, ds5, p5, q5, rfl, rfl, rfl, h5, r5⟩ := trodAll_cons r4
  obtain ⟨rfl, rfl, rfl⟩ := trodAll_nil r5
  obtain rfl : args = #[v0, v1, v2, v3, v4, v5] := by cases args; simp_all
  obtain ⟨rfl, rfl⟩ := trodVars_none hV
  obtain ⟨x0, hr0, hw0, hm0⟩ := open_arg o22 h0
  obtain ⟨x1, hr1, hw1, hm1⟩ := open_arg o22 h1
  obtain ⟨x2, hr2, hw2, hm2⟩ := open_arg o3 h2
  obtain ⟨x3, hr3, hw3, hm3⟩ := open_arg o3 h3
  obtain ⟨x4, hr4, hw4, hm4⟩ := open_arg o4 h4
  obtain ⟨x5, hr5, hw5, hm5⟩ := open_arg o3 h5
  simp only [List.append_nil] at hW'
  have hlt : ∀ y ∈ p0 ++ (p1 ++ (p2 ++ (p3 ++ (p4 ++ (p5))))), y.block < W.heap.size := fun y hy => by simpa using hW'.lt y (by simpa using hy)
  obtain ⟨_, _, _, rfl⟩ := okWide_slice Tryd.underlying22 (hval 0 22 v0 rfl rfl)
  obtain ⟨a0_0, c0_0, e, hrd0_0⟩ := hr0
  obtain ⟨rfl, rfl, rfl⟩ := slice_inj (one_inj e)
  obtain ⟨_, _, _, rfl⟩ := okWide_slice Tryd.underlying22 (hval 1 22 v1 rfl rfl)
  obtain ⟨a1_0, c1_0, e, hrd1_0⟩ := hr1
  obtain ⟨rfl, rfl, rfl⟩ := slice_inj (one_inj e)
  obtain ⟨_, rfl⟩ := okWide_int Tryd.underlying3 (hval 2 3 v2 rfl rfl)
  cases one_inj hr2
  obtain ⟨_, rfl⟩ := okWide_int Tryd.underlying3 (hval 3 3 v3 rfl rfl)
  cases one_inj hr3
  obtain ⟨_, rfl⟩ := okWide_bool Tryd.underlying4 (hval 4 4 v4 rfl rfl)
  cases one_inj hr4
  obtain ⟨_, rfl⟩ := okWide_int Tryd.underlying3 (hval 5 3 v5 rfl rfl)
  cases one_inj hr5
  have hb : bulkAll [d0, d1, d2, d3, d4, d5] ≤ 1048576 := by
    rw [← bulkAll_eq]; simpa [Rows.uptoSmall] using hk
  simp only [bulkAll] at hb
  obtain ⟨fuel, hf⟩ := Tot.some (Go.Gv.R.BytestrParts_said x0 x1 x2 x3 x4 x5 hw0 hw1 hw2 hw3 hw4 hw5 (by omega))
  obtain ⟨gmx2, hgm2⟩ := hg2 hSh
  refine (law4_BytestrParts_ok fuel a0_0 c0_0 x0 a1_0 c1_0 x1 x2 x3 x4 x5 W (fun k => k < W.heap.size) (fun k h => h) hrd0_0 hrd1_0 (hg0 hL) (hg1 hL) hgm2 (cap_arg Tryd.underlying22 h0) true hf).mono fun e W' hh => ?_
  obtain ⟨v, rfl, hg, rfl⟩ := ret_elim hh
  have hbw : Below W.heap.size W W' := below_of_grown hg
  exact ⟨_, rfl, post_law hW' (trodAll_cons_mk (shut_bool Tryd.underlying4 _) trodAll_mk0) (trodAll_cons_mk (Below.trod laidOut (by kernel_rfl) (of_decide_eq_true (by kernel_rfl)) h0 hbw (fun y hy => hlt y (by simp [hy]))) (trodAll_cons_mk (Below.trod laidOut (by kernel_rfl) (of_decide_eq_true (by kernel_rfl)) h1 hbw (fun y hy => hlt y (by simp [hy]))) (trodAll_cons_mk (Below.trod laidOut (by kernel_rfl) (of_decide_eq_true (by kernel_rfl)) h2 hbw (fun y hy => hlt y (by simp [hy]))) (trodAll_cons_mk (Below.trod laidOut (by kernel_rfl) (of_decide_eq_true (by kernel_rfl)) h3 hbw (fun y hy => hlt y (by simp [hy]))) (trodAll_cons_mk (Below.trod laidOut (by kernel_rfl) (of_decide_eq_true (by kernel_rfl)) h4 hbw (fun y hy => hlt y (by simp [hy]))) (trodAll_cons_mk (Below.trod laidOut (by kernel_rfl) (of_decide_eq_true (by kernel_rfl)) h5 hbw (fun y hy => hlt y (by simp [hy]))) trodAll_mk0)))))) rfl (hbw.frame _)⟩

set_option maxRecDepth 100000 in
noncomputable def laidWorld (os : Os) : World := { World.holding Tryd.prog os ⟨#[], #[], []⟩ with heap := (putVar (putVar (World.holding Tryd.prog os ⟨#[], #[], []⟩).heap 1 (utf8Acc.flatMap fun z => [Value.int .u8 z.1, Value.int .u8 z.2])) 0 (utf8First.map fun z => Value.int .u8 z.toNat)) }
theorem laid_met (os : Os) (args : Array Value) : laidMet Tryd.prog Rows.bytestrPartsUptoRow.laid ((laidWorld os).forCall (fun _ _ => 0) ⟨#[], args, []⟩).memory :=
  (LaidIn.of_run (l := Rows.bytestrPartsUptoRow.laid) [1, 0] 8 (by kernel_rfl) (by kernel_rfl) (by kernel_rfl) (by kernel_rfl)).met
theorem witness_row (os : Os) {H : Type} (enc : TypeId × Value → H) :
    (Rows.OpenSpec.upto Rows.bytestrPartsSpec).preRow enc Tryd.prog Tryd.f8 Rows.bytestrPartsUptoRow.domain false Rows.bytestrPartsUptoRow.laid ((laidWorld os).forCall (fun _ _ => 0) ⟨#[], #[.slice none 0 0, .slice none 0 0, .int .i64 0, .int .i64 0, .bool false, .int .i64 0], []⟩).memory #[.slice none 0 0, .slice none 0 0, .int .i64 0, .int .i64 0, .bool false, .int .i64 0] := by
  have hw : (DataW.whole enc Tryd.prog ((laidWorld os).forCall (fun _ _ => 0) ⟨#[], #[.slice none 0 0, .slice none 0 0, .int .i64 0, .int .i64 0, .bool false, .int .i64 0], []⟩).memory Tryd.f8.params.toList (Rows.OpenSpec.upto Rows.bytestrPartsSpec).vars false (#[.slice none 0 0, .slice none 0 0, .int .i64 0, .int .i64 0, .bool false, .int .i64 0] : Array Value).toList 8).map (fun x => (x.1, x.2.1)) =
      some ([.nil, .nil, .lit (.int .i64 0), .lit (.int .i64 0), .lit (.bool false), .lit (.int .i64 0)], []) := by kernel_rfl
  obtain ⟨⟨x1, x2, x3⟩, hx, hx1⟩ := Option.map_eq_some_iff.1 hw
  simp only [Prod.mk.injEq] at hx1
  obtain ⟨rfl, rfl⟩ := hx1
  exact OpenSpec.preRow_of_cond 8 hx (by kernel_rfl) (fun k hk => by obtain rfl := Option.some.inj hk; kernel_rfl) (by kernel_rfl) (laid_met os _)

set_option maxRecDepth 100000 in
set_option maxHeartbeats 4000000 in
theorem lifted (os : Os) (started : os.Started) (H : Type) (enc : TypeId × Value → H) (F : Stop.Interp) :
    ReturnsInHanded {} Tryd.checked os 8 .any ((Rows.OpenSpec.upto Rows.bytestrPartsSpec).preRow enc Tryd.prog Tryd.f8 Rows.bytestrPartsUptoRow.domain false Rows.bytestrPartsUptoRow.laid) (((Rows.OpenSpec.upto Rows.bytestrPartsSpec).at F).post enc Tryd.prog Tryd.f8 false true false false) := by
  refine returnsInHanded_of_row (C := Tryd.checked) (s := (Rows.OpenSpec.upto Rows.bytestrPartsSpec)) own started (by kernel_rfl) Tryd.func8
    (witness_row_atRef (enc := enc) (C := Tryd.checked) false (laidWorld os) #[.slice none 0 0, .slice none 0 0, .int .i64 0, .int .i64 0, .bool false, .int .i64 0] rfl (by kernel_rfl) (by kernel_rfl) (by kernel_rfl) (witness_row os enc)) ?_
  intro W base args ds gs before hval hW _ hk _ hL hSh _
  exact contract H enc W base args ds gs before hval hW (hk _ rfl) hL hSh

theorem bare : Rows.BytestrPartsUptoSaid :=
  OpenClaim.holds_of_cond 8 Tryd.f8 rfl rfl rfl rfl rfl rfl rfl ⟨rfl, rfl, rfl, rfl, rfl⟩ rfl rfl rfl rfl rfl (by kernel_rfl) Tryd.func8 (by kernel_rfl)
    (of_decide_eq_true (by kernel_rfl)) (by unfold Func.isWrapper; first | (rw [if_pos (by decide +kernel)]; kernel_rfl) | (rw [if_neg (by decide +kernel)]; exact ⟨rfl, rfl⟩))
    (fun os started H enc _ F0 => by rw [OpenClaim.pre_eq_preRow]; exact lifted os started H enc F0)

theorem proved : Rows.BytestrPartsUptoCardSaid :=
  Claim7.holds_tied_plain_at .later [] [.data, .pinned] true (true, "dc43db541edd0e9db4ae88c23ae220f822557e4ff05a17f191ac5ddf5735d5fc") false
    bare (fun _ h => by cases h) (by kernel_rfl) (fun _ h => by cases h) bytestrPartsUpto_row_tie rfl ⟨rfl, rfl⟩ (by kernel_rfl) rfl
    (fun f fn hf hfn => by
      obtain rfl : f = 8 := Option.some.inj ((show Tryd.prog.funcNamed "brindlewood/brindlewoodlaw4.BytestrParts" = some 8 by kernel_rfl).symm.trans hf) |>.symm
      obtain rfl : fn = Tryd.f8 := (Option.some.inj (Tryd.func8.symm.trans hfn)).symm
      exact ⟨by kernel_rfl, fun j t ht => by
        rw [Tryd.params8] at ht
        have hm : t ∈ [22, 22, 3, 3, 4, 3] := by simpa using Array.mem_of_getElem? ht
        have hall : ([22, 22, 3, 3, 4, 3].all fun u => !Tryd.prog.wantsStandIn u) = true := by kernel_rfl
        exact (show Tryd.prog.wantsStandIn t = false by simpa using List.all_eq_true.1 hall t hm)⟩)
    (by kernel_rfl)
end Go.Proofs.YtlclmpegnkomcaaDoor.bytestrPartsF
