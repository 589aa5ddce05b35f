/- The law RandomPrefixes answers true for every input, and its arguments read as before; no condition. -/
import Derived.Test.YtenjigdaaeiklaaRows
import Derived.Test.YtenjigdaaeiklaaGo
import Derived.Test.YtenjigdaaeiklaaP3
import Derived.Test.YtenjigdaaeiklaaL9
namespace Go.Proofs.Ytenjigdaaeiklaa.randomPrefixesF
open Go.ChangeShapes Go.WideShapes Go.ChangeAt Go.RowKit Go.Gv Go.Gv.D
set_option linter.all false

theorem own : ownKnob Try.prog.godebug = none := by kernel_rfl
theorem laidOut : laidOutB Try.prog = true := by kernel_rfl
theorem o27 : Opens Try.prog 27 (prE (iE .u64) (iE .u64)) (fun x => (inK .u64) x.1 ∧ (inK .u64) x.2) (fun x => (fun x => (fun _ => 1) x.1 + (fun _ => 1) x.2) x + 1) := (opens_struct (E := (prE (iE .u64) (iE .u64))) (wf := (fun x => (inK .u64) x.1 ∧ (inK .u64) x.2)) (m := (fun x => (fun _ => 1) x.1 + (fun _ => 1) x.2)) Try.underlying27 (by kernel_rfl) (opensF_cons 25 (E := (iE .u64)) (F := (iE .u64)) (wf := (inK .u64)) (wg := (inK .u64)) (m := (fun _ => 1)) (m' := (fun _ => 1)) (by kernel_rfl) (by kernel_rfl) (opens_int Try.underlying25 (by kernel_rfl)) (opensF_one 25 (E := (iE .u64)) (wf := (inK .u64)) (m := (fun _ => 1)) (by kernel_rfl) (by kernel_rfl) (opens_int Try.underlying25 (by kernel_rfl)))))
theorem o3 : Opens Try.prog 3 (iE .i64) (inK .i64) (fun _ => 1) := (opens_int Try.underlying3 (by kernel_rfl))

set_option maxRecDepth 100000 in
set_option maxHeartbeats 4000000 in
theorem contract (H : Type) (enc : TypeId × Value → H) (W : World) (base : Nat) (args : Array Value) (ds gs : List (DataW H)) (before : List MemPlace)
    (hval : ∀ (j : Nat) t v, Try.f5.params[j]? = some t → args[j]? = some v → Value.okWide Try.prog W .any base t v)
    (hW : DataW.Whole enc Try.prog Try.f5.params.toList Rows.randomPrefixesSpec.vars false W args.toList ds gs before) :
    Calls Try.prog 5 args W fun e W' => ∃ v, e = .returned v ∧ Rows.randomPrefixesSpec.post enc Try.prog Try.f5 false true false false W args v W' := by
  have hW' := hW
  obtain ⟨p, q, hA0, hV, rfl, hfz, hnd⟩ := hW
  have hA : DataW.TrodAll enc Try.prog W 0 (fun _ => true) true Try.f5.params.toList args.toList ds p := hA0
  rw [Try.params5] at hA hval
  obtain ⟨v0, vs0, d0, ds0, p0, q0, hargs, rfl, rfl, h0, r0⟩ := trodAll_cons hA
  obtain ⟨v1, vs1, d1, ds1, p1, q1, rfl, rfl, rfl, h1, r1⟩ := trodAll_cons r0
  obtain ⟨v2, vs2, d2, ds2, p2, q2, rfl, rfl, rfl, h2, r2⟩ := trodAll_cons r1
  obtain ⟨rfl, rfl, rfl⟩ := trodAll_nil r2
  obtain rfl : args = #[v0, v1, v2] := by cases args; simp_all
  obtain ⟨rfl, rfl⟩ := trodVars_none hV
  obtain ⟨x0, hr0, hw0, hm0⟩ := open_arg o27 h0
  obtain ⟨x1, hr1, hw1, hm1⟩ := open_arg o3 h1
  obtain ⟨x2, hr2, hw2, hm2⟩ := open_arg o3 h2
  simp only [List.append_nil] at hW'
  have hlt : ∀ y ∈ p0 ++ (p1 ++ (p2)), y.block < W.heap.size := fun y hy => by simpa using hW'.lt y (by simpa using hy)
  obtain ⟨cs0, rfl, _⟩ := okWide_struct Try.underlying27 (hval 0 27 v0 rfl rfl)
  obtain ⟨_, _, e, rfl, rfl⟩ := hr0
  obtain rfl : cs0 = #[(.int .u64 x0.1), (.int .u64 x0.2)] := arr_of e
  clear e
  obtain ⟨_, rfl⟩ := okWide_int Try.underlying3 (hval 1 3 v1 rfl rfl)
  cases one_inj hr1
  obtain ⟨_, rfl⟩ := okWide_int Try.underlying3 (hval 2 3 v2 rfl rfl)
  cases one_inj hr2
  obtain ⟨fuel, hf⟩ := Tot.some (Go.Gv.R.RandomPrefixes_said x0 x1 x2 hw0 hw1 hw2)
  refine (law4_RandomPrefixes_ok fuel x0 x1 x2 W  true hf).mono fun e W' hh => ?_
  obtain ⟨v, rfl, hg, rfl⟩ := ret_elim hh
  have hbw : Below W.heap.size W W' := below_of_grown hg
  exact ⟨_, rfl, post_law hW' (trodAll_cons_mk (shut_bool Try.underlying4 _) trodAll_mk0) (trodAll_cons_mk (Below.trod laidOut (by kernel_rfl) (of_decide_eq_true (by kernel_rfl)) h0 hbw (fun y hy => hlt y (by simp [hy]))) (trodAll_cons_mk (Below.trod laidOut (by kernel_rfl) (of_decide_eq_true (by kernel_rfl)) h1 hbw (fun y hy => hlt y (by simp [hy]))) (trodAll_cons_mk (Below.trod laidOut (by kernel_rfl) (of_decide_eq_true (by kernel_rfl)) h2 hbw (fun y hy => hlt y (by simp [hy]))) trodAll_mk0))) rfl (hbw.frame _)⟩

set_option maxRecDepth 100000 in
theorem lifted (os : Os) (started : os.Started) (H : Type) (enc : TypeId × Value → H) :
    ReturnsInHanded {} Try.checked os 5 .any (Rows.randomPrefixesSpec.pre6 enc Try.prog Try.f5 Rows.randomPrefixesRow.domain false) (Rows.randomPrefixesSpec.post enc Try.prog Try.f5 false true false false) := by
  refine returnsInHanded_of_change (C := Try.checked) own started (by kernel_rfl) Try.func5
    (ChangeSpec.witness6 (enc := enc) (C := Try.checked) false ⟨#[], #[.agg #[.int .u64 0, .int .u64 0], .int .i64 0, .int .i64 0], []⟩ 8 (by kernel_rfl) (by kernel_rfl) (by kernel_rfl) (by kernel_rfl)) ?_
  intro W base args ds gs before hval hW _ _
  exact contract H enc W base args ds gs before hval hW

theorem proved : Rows.RandomPrefixesSaid :=
  OpenClaim.holds_of_wide 5 Try.f5 rfl rfl rfl rfl rfl rfl rfl ⟨rfl, rfl, rfl, rfl, rfl⟩ rfl rfl rfl rfl rfl (by kernel_rfl) Try.func5 (by kernel_rfl)
    (of_decide_eq_true (by kernel_rfl)) (by unfold Func.isWrapper; first | (rw [if_pos (by decide +kernel)]; kernel_rfl) | (rw [if_neg (by decide +kernel)]; exact ⟨rfl, rfl⟩))
    (fun os started H enc _ => lifted os started H enc)
end Go.Proofs.Ytenjigdaaeiklaa.randomPrefixesF
