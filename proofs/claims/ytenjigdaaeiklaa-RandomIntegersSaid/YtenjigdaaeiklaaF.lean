/- The law RandomIntegers answers true for every input, and its arguments read as before; no condition. -/
import Derived.Test.YtenjigdaaeiklaaRows
import Derived.Test.YtenjigdaaeiklaaGo
import Derived.Test.YtenjigdaaeiklaaP4
import Derived.Test.YtenjigdaaeiklaaM8
namespace Go.Proofs.Ytenjigdaaeiklaa.randomIntegersF
open Go.ChangeShapes Go.WideShapes Go.ChangeAt Go.RowKit Go.Gv Go.Gv.D
set_option linter.all false

theorem own : ownKnob Try.prog.godebug = none := by kernel_rfl
theorem laidOut : laidOutB Try.prog = true := by kernel_rfl
theorem o27 : Opens Try.prog 27 (prE (iE .u64) (iE .u64)) (fun x => (inK .u64) x.1 ∧ (inK .u64) x.2) (fun x => (fun x => (fun _ => 1) x.1 + (fun _ => 1) x.2) x + 1) := (opens_struct (E := (prE (iE .u64) (iE .u64))) (wf := (fun x => (inK .u64) x.1 ∧ (inK .u64) x.2)) (m := (fun x => (fun _ => 1) x.1 + (fun _ => 1) x.2)) Try.underlying27 (by kernel_rfl) (opensF_cons 25 (E := (iE .u64)) (F := (iE .u64)) (wf := (inK .u64)) (wg := (inK .u64)) (m := (fun _ => 1)) (m' := (fun _ => 1)) (by kernel_rfl) (by kernel_rfl) (opens_int Try.underlying25 (by kernel_rfl)) (opensF_one 25 (E := (iE .u64)) (wf := (inK .u64)) (m := (fun _ => 1)) (by kernel_rfl) (by kernel_rfl) (opens_int Try.underlying25 (by kernel_rfl)))))
theorem o24 : Opens Try.prog 24 (prE tE (slE (iE .u32))) (fun x => (fun _ => True) x.1 ∧ (fun xs => (∀ x ∈ xs, (inK .u32) x) ∧ xs.length ≤ maxLen) x.2) (fun x => (fun x => (fun _ => 1) x.1 + (sumL (fun _ => 1)) x.2) x + 1) := (opens_struct (E := (prE tE (slE (iE .u32)))) (wf := (fun x => (fun _ => True) x.1 ∧ (fun xs => (∀ x ∈ xs, (inK .u32) x) ∧ xs.length ≤ maxLen) x.2)) (m := (fun x => (fun _ => 1) x.1 + (sumL (fun _ => 1)) x.2)) Try.underlying24 (by kernel_rfl) (opensF_cons 4 (E := tE) (F := (slE (iE .u32))) (wf := (fun _ => True)) (wg := (fun xs => (∀ x ∈ xs, (inK .u32) x) ∧ xs.length ≤ maxLen)) (m := (fun _ => 1)) (m' := (sumL (fun _ => 1))) (by kernel_rfl) (by kernel_rfl) (opens_bool Try.underlying4 (by kernel_rfl)) (opensF_one 22 (E := (slE (iE .u32))) (wf := (fun xs => (∀ x ∈ xs, (inK .u32) x) ∧ xs.length ≤ maxLen)) (m := (sumL (fun _ => 1))) (by kernel_rfl) (by kernel_rfl) (opens_slice (E := (iE .u32)) (wf := (inK .u32)) (m := (fun _ => 1)) Try.underlying22 (by kernel_rfl) (opens_int Try.underlying76 (by kernel_rfl)) (by kernel_rfl)))))

set_option maxRecDepth 100000 in
set_option maxHeartbeats 4000000 in
theorem contract (H : Type) (enc : TypeId × Value → H) (W : World) (base : Nat) (args : Array Value) (ds gs : List (DataW H)) (before : List MemPlace)
    (hval : ∀ (j : Nat) t v, Try.f4.params[j]? = some t → args[j]? = some v → Value.okWide Try.prog W .any base t v)
    (hW : DataW.Whole enc Try.prog Try.f4.params.toList Rows.randomIntegersSpec.vars false W args.toList ds gs before) :
    Calls Try.prog 4 args W fun e W' => ∃ v, e = .returned v ∧ Rows.randomIntegersSpec.post enc Try.prog Try.f4 false true false false W args v W' := by
  have hW' := hW
  obtain ⟨p, q, hA0, hV, rfl, hfz, hnd⟩ := hW
  have hA : DataW.TrodAll enc Try.prog W 0 (fun _ => true) true Try.f4.params.toList args.toList ds p := hA0
  rw [Try.params4] at hA hval
  obtain ⟨v0, vs0, d0, ds0, p0, q0, hargs, rfl, rfl, h0, r0⟩ := trodAll_cons hA
  obtain ⟨v1, vs1, d1, ds1, p1, q1, rfl, rfl, rfl, h1, r1⟩ := trodAll_cons r0
  obtain ⟨v2, vs2, d2, ds2, p2, q2, rfl, rfl, rfl, h2, r2⟩ := trodAll_cons r1
  obtain ⟨v3, vs3, d3, ds3, p3, q3, rfl, rfl, rfl, h3, r3⟩ := trodAll_cons r2
  obtain ⟨rfl, rfl, rfl⟩ := trodAll_nil r3
  obtain rfl : args = #[v0, v1, v2, v3] := by cases args; simp_all
  obtain ⟨rfl, rfl⟩ := trodVars_none hV
  obtain ⟨x0, hr0, hw0, hm0⟩ := open_arg o27 h0
  obtain ⟨x1, hr1, hw1, hm1⟩ := open_arg o24 h1
  obtain ⟨x2, hr2, hw2, hm2⟩ := open_arg o24 h2
  obtain ⟨x3, hr3, hw3, hm3⟩ := open_arg o24 h3
  simp only [List.append_nil] at hW'
  have hlt : ∀ y ∈ p0 ++ (p1 ++ (p2 ++ (p3))), y.block < W.heap.size := fun y hy => by simpa using hW'.lt y (by simpa using hy)
  obtain ⟨cs0, rfl, _⟩ := okWide_struct Try.underlying27 (hval 0 27 v0 rfl rfl)
  obtain ⟨_, _, e, rfl, rfl⟩ := hr0
  obtain rfl : cs0 = #[(.int .u64 x0.1), (.int .u64 x0.2)] := arr_of e
  clear e
  obtain ⟨cs1, rfl, _⟩ := okWide_struct Try.underlying24 (hval 1 24 v1 rfl rfl)
  obtain ⟨_, _, e, rfl, ⟨a1_0, c1_0, rfl, hrd1_0⟩⟩ := hr1
  obtain rfl : cs1 = #[(.bool x1.1), (.slice a1_0 (List.length x1.2) c1_0)] := arr_of e
  clear e
  obtain ⟨cs2, rfl, _⟩ := okWide_struct Try.underlying24 (hval 2 24 v2 rfl rfl)
  obtain ⟨_, _, e, rfl, ⟨a2_0, c2_0, rfl, hrd2_0⟩⟩ := hr2
  obtain rfl : cs2 = #[(.bool x2.1), (.slice a2_0 (List.length x2.2) c2_0)] := arr_of e
  clear e
  obtain ⟨cs3, rfl, _⟩ := okWide_struct Try.underlying24 (hval 3 24 v3 rfl rfl)
  obtain ⟨_, _, e, rfl, ⟨a3_0, c3_0, rfl, hrd3_0⟩⟩ := hr3
  obtain rfl : cs3 = #[(.bool x3.1), (.slice a3_0 (List.length x3.2) c3_0)] := arr_of e
  clear e
  obtain ⟨fuel, hf⟩ := Tot.some (Go.Gv.R.RandomIntegers_said x0 x1 x2 x3 hw0 hw1 hw2 hw3)
  refine (law4_RandomIntegers_ok fuel x0 a1_0 c1_0 x1 a2_0 c2_0 x2 a3_0 c3_0 x3 W (fun k => k < W.heap.size) (fun k h => h) hrd1_0 hrd2_0 hrd3_0 true hf).mono fun e W' hh => ?_
  obtain ⟨v, rfl, hg, rfl⟩ := ret_elim hh
  have hbw : Below W.heap.size W W' := below_of_grown hg
  exact ⟨_, rfl, post_law hW' (trodAll_cons_mk (shut_bool Try.underlying4 _) trodAll_mk0) (trodAll_cons_mk (Below.trod laidOut (by kernel_rfl) (of_decide_eq_true (by kernel_rfl)) h0 hbw (fun y hy => hlt y (by simp [hy]))) (trodAll_cons_mk (Below.trod laidOut (by kernel_rfl) (of_decide_eq_true (by kernel_rfl)) h1 hbw (fun y hy => hlt y (by simp [hy]))) (trodAll_cons_mk (Below.trod laidOut (by kernel_rfl) (of_decide_eq_true (by kernel_rfl)) h2 hbw (fun y hy => hlt y (by simp [hy]))) (trodAll_cons_mk (Below.trod laidOut (by kernel_rfl) (of_decide_eq_true (by kernel_rfl)) h3 hbw (fun y hy => hlt y (by simp [hy]))) trodAll_mk0)))) rfl (hbw.frame _)⟩

set_option maxRecDepth 100000 in
theorem lifted (os : Os) (started : os.Started) (H : Type) (enc : TypeId × Value → H) :
    ReturnsInHanded {} Try.checked os 4 .any (Rows.randomIntegersSpec.pre6 enc Try.prog Try.f4 Rows.randomIntegersRow.domain false) (Rows.randomIntegersSpec.post enc Try.prog Try.f4 false true false false) := by
  refine returnsInHanded_of_change (C := Try.checked) own started (by kernel_rfl) Try.func4
    (ChangeSpec.witness6 (enc := enc) (C := Try.checked) false ⟨#[], #[.agg #[.int .u64 0, .int .u64 0], .agg #[.bool false, .slice none 0 0], .agg #[.bool false, .slice none 0 0], .agg #[.bool false, .slice none 0 0]], []⟩ 8 (by kernel_rfl) (by kernel_rfl) (by kernel_rfl) (by kernel_rfl)) ?_
  intro W base args ds gs before hval hW _ _
  exact contract H enc W base args ds gs before hval hW

theorem proved : Rows.RandomIntegersSaid :=
  OpenClaim.holds_of_wide 4 Try.f4 rfl rfl rfl rfl rfl rfl rfl ⟨rfl, rfl, rfl, rfl, rfl⟩ rfl rfl rfl rfl rfl (by kernel_rfl) Try.func4 (by kernel_rfl)
    (of_decide_eq_true (by kernel_rfl)) (by unfold Func.isWrapper; first | (rw [if_pos (by decide +kernel)]; kernel_rfl) | (rw [if_neg (by decide +kernel)]; exact ⟨rfl, rfl⟩))
    (fun os started H enc _ => lifted os started H enc)
end Go.Proofs.Ytenjigdaaeiklaa.randomIntegersF
