/-
  Own helper lemmas: slices of slices, rows made and written in place, ranging over a string, structs compared. No condition of its own.
-/
import Derived.Test.YtaeeniomdicclaaDoorGy
set_option linter.all false
namespace Go.Gv
open Go.RowKit

/-! ### slices as elements -/
def slE {α : Type} (E : Enc α) : Enc (List α) where
  n := 1
  rep w X cs xs := ∃ a cap, cs = [.slice a xs.length cap] ∧ Rd E w X a cap xs
  len := fun ⟨_, _, e, _⟩ => by rw [e]; rfl
  one := fun ⟨_, _, e, _⟩ v hv => by rw [e] at hv; rw [List.mem_singleton.1 hv]; rfl
  keep := fun ⟨a, cap, e, h⟩ hk => ⟨a, cap, e, h.keep hk⟩
  wide := fun ⟨a, cap, e, h⟩ hk => ⟨a, cap, e, h.wide hk⟩

theorem add_zero' (A : Addr) : A.add 0 = A := by unfold Addr.add; rw [if_pos rfl]

def RowS {α : Type} (E : Enc α) (w : World) (X : Nat → Prop) : List Value → List (List α) → Prop
  | [], [] => True
  | v :: vs, x :: xs => (∃ a cap, v = .slice a x.length cap ∧ Rd E w X a cap x) ∧ RowS E w X vs xs
  | _, _ => False

theorem RowS.at {α : Type} {E : Enc α} {w : World} {X : Nat → Prop} : ∀ {vs : List Value} {xs : List (List α)}, RowS E w X vs xs → vs.length = xs.length ∧ ∀ (i : Nat) (x : List α), xs[i]? = some x → ∃ a cap, vs[i]? = some (Value.slice a x.length cap) ∧ Rd E w X a cap x
  | [], [], _ => ⟨rfl, fun i x hx => by simp at hx⟩
  | v :: vs, y :: ys, ⟨⟨a, cap, e, hr⟩, h⟩ => by
    obtain ⟨h1, h2⟩ := RowS.at h
    refine ⟨by simp [h1], fun i x hx => ?_⟩
    cases i with
    | zero => cases hx; exact ⟨a, cap, by rw [e]; rfl, hr⟩
    | succ i => exact h2 i x (by simpa using hx)
  | [], _ :: _, h => h.elim
  | _ :: _, [], h => h.elim

/-! ### make, stores -/
def mk {α : Type} (n : Int) (z : α) : Option (List α) := if 0 ≤ n ∧ n ≤ 1073741824 then some (List.replicate n.toNat z) else none
section
variable {P : Program} {R : RR} {n : Nat} {k : List It} {σ σ' : List (Nat × Value)} {w : World} {all : Array Oper} {C : World → Prop} {o : Oper} {m : Mk} {rest : List (Oper × Mk)}

end
end Go.Gv
