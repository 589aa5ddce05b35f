import Derived.Test.YtaeeniomdicclaaDoorProg
import Derived.Shelf.LaysM
import Derived.Shelf.Strings.Replace
import Derived.Test.YtaeeniomdicclaaDoorGs
import Derived.Test.YtaeeniomdicclaaDoorRc
set_option linter.all false
namespace Go.Gv
open Go.RowKit Go.Gv.D Go.Shelf Go.Proofs
set_option maxRecDepth 100000
/- Own work: strings.Index by the shelf; the closure that package display defers. -/
theorem max_cell {gmx : Int} {w : World} {X : Nat → Prop} (h : Rd (iE .i64) w X (some ⟨2, 0, none⟩) 1 [gmx]) : w.cell? ⟨2, 0, none⟩ = some (.int .i64 gmx) := by
  obtain ⟨b, off, c, e, _, hc, hat⟩ := h.2 0 gmx rfl
  cases e
  have hc : c = [.int .i64 gmx] := hc
  subst hc
  have := hat 0 _ rfl
  rwa [add_lit] at this
def renX : Ren := ⟨fun n => if n = 143 then 64 else if n = 219 then 76 else if n = 217 then 81 else if n = 225 then 82 else if n = 224 then 83 else if n = 267 then 84 else if n = 266 then 92 else if n = 314 then 93 else n, fun n => if n = 9 then 9 else if n = 3 then 3 else if n = 4 then 4 else if n = 5 then 5 else if n = 46 then 85 else if n = 146 then 146 else if n = 51 then 101 else n, fun n => if n = 1 then 2 else n⟩
theorem lays143 : Lays.n143 Tryd.prog renX := by constructor <;> first | kernel_rfl | (intro w; kernel_rfl)
theorem strings_Index_ok (fuel : Nat) (s_0 : ByteArray) (substr_1 : ByteArray) (w0 : World) (X0 : Nat → Prop) (hX0 : ∀ k, X0 k → k < w0.heap.size) {gmx : Int} (hG : Rd (iE .i64) w0 X0 (some ⟨2, 0, none⟩) 1 [gmx]) (r0 : Int) (h0 : strings_Index fuel s_0 substr_1 = some r0) :
    Calls Tryd.prog 64 ([(.string s_0), (.string substr_1)] : List Value).toArray w0 (Ret fun v w' => w0.grownBy w' none ∧ v = tup [(.int .i64 r0)]) := by
  unfold strings_Index at h0
  split at h0
  · rename_i hb
    cases h0
    refine (Any.strings_Index lays143 s_0 substr_1 gmx w0 hb (max_cell hG)).mono fun e w' ⟨he, hw⟩ => ?_
    subst he hw
    exact ⟨World.grownBy.refl _ _, rfl⟩
  · cases h0
theorem inert26 (p q : Value) : Inert Tryd.prog 26 #[p, q] := by
  refine inert_of (d0 := 5) (d1 := 2) Tryd.func26 rfl Tryd.ntmps26 (by show 2 ≤ 17; decide) rfl rfl rfl rfl (by decide) (by decide) (fun _ _ => rfl) (fun _ _ => rfl) fun w => ?_
  refine gv_seq <| gv_region <| gv_pureN 2 [6, 7] [(7, .bool false)] (by kernel_rfl) ?_
  refine gv_nil <| gv_cond (b := false) (by kernel_rfl) (fun h => by cases h) (fun _ => ?_)
  refine gv_skip ?_
  exact gv_fall (gv_done [] rfl trivial ⟨⟨_, rfl⟩, rfl⟩)
theorem invoke26 (cap : Array Value) (w : World) : (invoke (.fn (.func 26) cap) #[]).run Tryd.prog w = .ok (.enter 26 cap) w := by
  have hn : ¬ (Tryd.f26.name = "runtime.NumGoroutine") := by decide
  have hb : ¬ (Tryd.f26.body = none) := fun e => by cases e
  simp [invoke, callFunc, Tryd.func26, hn, hb, program, Sem.run]
end Go.Gv
