import Derived.Test.YtaeeniomdicclaaDoorGh
import Derived.RecoverIn
/- Own work: a deferred closure that asks for a panic and does nothing where there is none. -/
set_option linter.all false
namespace Go.Gv
open Go.RowKit
section
variable {P : Program} {R : RR} {n : Nat} {k : List It} {σ : List (Nat × Value)} {w : World} {all : Array Oper} {C : World → Prop} {rest : List (Oper × Mk)}
theorem gv_defer {o : Oper} {d : Deferred} (hdst : o.dst = none) (hg : guardB all σ o = some true) (hk : (noSel o.op && known σ o.op.operands.toList) = true) (hx : (execOp (evr σ) o).run P w = .ok (.defer d) w)
    (h : Run P { R with ds := d :: R.ds } n (.ops all C rest :: k) .normal σ w) : Run P R n (.ops all C ((o, none) :: rest) :: k) .normal σ w := fun a hd hs hok => by
  simp only [Bool.and_eq_true] at hk
  have h1 := h { a with defers := d :: a.defers } (by rw [hd]) hs hok
  rw [K_ds] at h1
  show (if Region.wanted o (yielded all a.tmps) then o.wp P a w (wpO P all C (nQ (K P R k)) rest) (nQ (K P R k)) else wpO P all C (nQ (K P R k)) rest (a.put o.dst undef) w)
  rw [if_pos (guard_ok hok hg)]
  unfold Oper.wp
  rw [exec_ok hok hk.1 hk.2, hx, Oper.upon_defer, hdst]
  exact h1
/-- a result variable in a box of one cell -/
theorem run_loadVar_one {P : Program} (w : World) (b : Nat) {t ty : TypeId} {v : Value} {d : TypeDesc} (hb : Box w b t #[v]) (hu : P.underlying ty = some d) (hd : (match d with | .struct _ | .array _ _ => true | _ => false) = false) :
    (loadVar ty ⟨b, 0, none⟩).run P w = .ok v w := by
  have hagg : (isAgg ty).run P w = .ok false w := by
    unfold isAgg
    rw [Sem.run_bind, run_underlying hu w]
    cases d <;> simp_all
  have hc : w.cell? ⟨b, 0, none⟩ = some v := hb.cell 0 rfl
  have hl : (load ⟨b, 0, none⟩).run P w = .ok v w := by simp [hc]
  simp only [loadVar, Sem.run_bind, hagg, Result.andThen, Bool.false_eq_true, if_false]
  rw [hl]
/-- what a function ends in where one closure is deferred that does nothing on the way out of a return -/
def Inert (P : Program) (f : FuncId) (cap : Array Value) : Prop := ∀ w, CallsDIn (FR none) 0 P f cap .returning w fun e u' w' => (∃ v, e = .returned v) ∧ u' = .returning ∧ w' = w
theorem gv_left {fn : Func} {Rr : Ending → World → Prop} {ds : List Deferred} {f g : FuncId} {cap : Array Value} (hi : ∀ w, (invoke (.fn (.func f) cap) #[]).run P w = .ok (.enter g cap) w) (hc : Inert P g cap)
    (h : Run P ⟨none, bodyPostM (FR none) 0 P fn Rr, ds⟩ n [] .ret σ w) : Run P ⟨none, bodyPostM (FR none) 0 P fn Rr, { target := .fn (.func f) cap, args := #[] } :: ds⟩ n [] .ret σ w := fun a hd hs hok => by
  show LeavesInM (FR none) 0 P fn a.tmps Rr a.defers .returning w
  rw [show a.defers = { target := .fn (.func f) cap, args := #[] } :: ds from hd]
  refine ⟨by simp, .inr ⟨(by intro e; cases e), .func f, cap, g, cap, rfl, hi w, fun _ _ => trivial, (hc w).mono fun e u' w' ⟨⟨v, he⟩, hu, hw⟩ => ?_⟩⟩
  subst he; subst hu; subst hw
  exact h { a with defers := ds } rfl hs hok
/-- such a closure: it asks, and gets nil -/
theorem inert_of {f : FuncId} {fn : Func} {id : Nat} {o0 o1 : Oper} {rest : Code} {cap : Array Value} {d0 d1 n : Nat} (hf : P.funcs[f]? = some fn) (hb : fn.body = some (.seq (.region id #[o0, o1] false) rest)) (hn : fn.ntmps = n)
    (hcap : cap.size ≤ n) (g0 : o0.guard = none) (g1 : o1.guard = none) (e0 : o0.dst = some d0) (e1 : o1.dst = some d1) (l0 : d0 < n) (l1 : d1 < n)
    (h0 : ∀ ρ w, (execOp ρ o0).run P w = .ok .recover w) (h1 : ∀ ρ w, (execOp ρ o1).run P w = .ok (.value (ρ (.tmp d0))) w)
    (h : ∀ w, Run P ⟨none, bodyPost P fn (fun e w' => (∃ v, e = .returned v) ∧ w' = w), []⟩ n [.code rest] .normal [(d1, .nilIface)] w) : Inert P f cap := fun w => by
  refine callsDIn_of_wpSIn hf hb trivial fun c₀ cs hm => ?_
  have hc0 : ({ c₀ with mode := .returning } : Frame) = c₀ := by cases c₀; cases hm; rfl
  refine wpSIn_seq (wpSIn_region ?_)
  have hr : List.range (#[o0, o1] : Array Oper).size = [0, 1] := rfl
  rw [hr]
  have hrec : recoverD (c₀ :: cs) = none := by simp [recoverD, hm]
  have hw0 : ∀ y, Region.wanted o0 y = true := fun y => by unfold Region.wanted; rw [g0]
  have hw1 : ∀ y, Region.wanted o1 y = true := fun y => by unfold Region.wanted; rw [g1]
  simp only [wpOpsSIn, List.getElem?_toArray, List.getElem?_cons_zero, List.getElem?_cons_succ, hw0, hw1, if_true, h0, h1, hrec]
  refine ⟨fun _ _ => trivial, fun _ _ => trivial, ?_⟩
  have hsz : (cap ++ Array.replicate (fn.ntmps - cap.size) undef).size = n := by simp [hn]; omega
  have hev : ∀ a : Act, a.tmps.size = n → (a.put o0.dst .nilIface).eval (.tmp d0) = .nilIface := fun a ha => by
    rw [e0]
    simp [Act.put, Act.eval, ha, l0]
  refine wpSIn_of_wpIn rfl ?_
  rw [hev _ hsz, e1]
  refine wpIn_mono (h w _ (by rw [e0]; rfl) (by rw [e0]; simpa [Act.put] using hsz) ⟨?_, trivial⟩) fun e a w' hh => ?_
  · rw [e0]
    simp only [Act.put]
    rw [Array.getElem?_setIfInBounds_self_of_lt]
    rw [Array.size_setIfInBounds, hsz]; exact l1
  · cases e with
    | normal => obtain ⟨hd, v, hv, hR, hw⟩ := hh; exact ⟨hd, .returning, by rw [hc0], v, hv, ⟨v, rfl⟩, rfl, hw⟩
    | ret => obtain ⟨hd, v, hv, hR, hw⟩ := hh; exact ⟨hd, .returning, by rw [hc0], v, hv, ⟨v, rfl⟩, rfl, hw⟩
    | panic ch => obtain ⟨_, ⟨v, hv⟩, _⟩ := hh; cases hv
    | outgrown => obtain ⟨⟨v, hv⟩, _⟩ := hh; cases hv
    | exit _ => exact hh.elim
    | goto _ => exact hh.elim
end
end Go.Gv
