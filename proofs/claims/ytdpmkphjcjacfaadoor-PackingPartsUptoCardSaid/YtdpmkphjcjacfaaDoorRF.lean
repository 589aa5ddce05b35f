import Derived.Test.YtdpmkphjcjacfaaDoorRP
import Derived.Test.YtdpmkphjcjacfaaDoorRP
set_option linter.all false
namespace Go.Gv.RI
open Go Go.Gv Go.Gv.D

/-! ### digits to any base -/
def vb (b : Int) : List Int → Int
  | [] => 0
  | x :: xs => x + b * vb b xs
def Db (b : Int) (l : List Int) : Prop := ∀ x ∈ l, 0 ≤ x ∧ x < b
section
variable {b : Int}
theorem vb_append (l m : List Int) : vb b (l ++ m) = vb b l + b ^ l.length * vb b m := by
  induction l with
  | nil => simp [vb]
  | cons x l ih =>
    simp only [List.cons_append, vb, ih, List.length_cons, Int.pow_succ]
    grind
theorem vb_zeros : ∀ k, vb b (List.replicate k 0) = 0
  | 0 => rfl
  | k + 1 => by simp [List.replicate_succ, vb, vb_zeros k]
theorem Db.left {l m : List Int} (h : Db b (l ++ m)) : Db b l := fun x hx => h x (List.mem_append_left _ hx)
theorem Db.one {x : Int} (h : 0 ≤ x ∧ x < b) : Db b [x] := fun y hy => by simp at hy; subst hy; exact h
theorem Db.nil : Db b [] := fun x hx => by simp at hx
theorem Db.take {l : List Int} (h : Db b l) (i : Nat) : Db b (l.take i) := fun x hx => h x (List.mem_of_mem_take hx)
theorem Db.drop {l : List Int} (h : Db b l) (i : Nat) : Db b (l.drop i) := fun x hx => h x (List.mem_of_mem_drop hx)
theorem vb_bound (hb : 1 < b) {l : List Int} (h : Db b l) : 0 ≤ vb b l ∧ vb b l < b ^ l.length := by
  induction l with
  | nil => simp [vb]
  | cons x l ih =>
    have h1 := h x (List.mem_cons_self ..)
    have h2 := ih fun y hy => h y (List.mem_cons_of_mem _ hy)
    simp only [vb, List.length_cons, Int.pow_succ]
    have h3 : b * (vb b l + 1) ≤ b * b ^ l.length := Int.mul_le_mul_of_nonneg_left (by omega) (by omega)
    have h4 : 0 ≤ b * vb b l := Int.mul_nonneg (by omega) h2.1
    rw [Int.mul_add, Int.mul_comm b (b ^ l.length)] at h3
    omega
theorem Trim.vb {l r : List Int} (h : Trim l r) : vb b r = vb b l := by
  obtain ⟨⟨k, e⟩, _⟩ := h
  rw [e, vb_append, vb_zeros]
  omega
end

/-- a number of the reference -/
def Ok3 (l : List Int) : Prop := Db 65536 l ∧ Nz l ∧ l.length ≤ 100000
/-! ### limbs and digits -/
end Go.Gv.RI
namespace Go.Gv.RI
open Go Go.Gv Go.Gv.D

/-! ### binary digits -/
def b2 (b : Bool) : Int := if b then 1 else 0
def vbits (l : List Bool) : Int := vb 2 (l.map b2)
theorem b2_db (l : List Bool) : Db 2 (l.map b2) := fun x hx => by
  obtain ⟨b, _, rfl⟩ := List.mem_map.1 hx
  cases b <;> simp [b2]
theorem vbits_bound (l : List Bool) : 0 ≤ vbits l ∧ vbits l < 2 ^ l.length := by
  have := vb_bound (by decide) (b2_db l)
  simpa [vbits] using this
theorem vbits_append (l m : List Bool) : vbits (l ++ m) = vbits l + 2 ^ l.length * vbits m := by
  unfold vbits
  rw [List.map_append, vb_append, List.length_map]
theorem vbits_snoc (l : List Bool) (b : Bool) : vbits (l ++ [b]) = vbits l + 2 ^ l.length * b2 b := by
  rw [vbits_append]; simp [vbits, vb]
/-- trimmed: the last digit is set -/
def TrimB (l r : List Bool) : Prop := (∃ k, l = r ++ List.replicate k false) ∧ (r = [] ∨ r.getLast? = some true)
theorem vbits_zeros (k : Nat) : vbits (List.replicate k false) = 0 := by
  unfold vbits
  rw [List.map_replicate]
  exact vb_zeros k
theorem TrimB.val {l r : List Bool} (h : TrimB l r) : vbits r = vbits l := by
  obtain ⟨⟨k, e⟩, _⟩ := h
  rw [e, vbits_append, vbits_zeros]
  omega
/-- the number of digits of a trimmed list -/
theorem TrimB.Len {l r : List Bool} (h : TrimB l r) : Len (vbits l) r.length := by
  rw [← h.val]
  refine ⟨by omega, by have := (vbits_bound r).2; simpa using this, fun hp => ?_⟩
  rcases h.2 with h0 | h0
  · subst h0; simp at hp
  · have hr : r ≠ [] := fun e => by subst e; simp at h0
    have e := List.dropLast_concat_getLast hr
    have e2 : r.getLast hr = true := by
      have := List.getLast?_eq_some_getLast hr
      rw [h0] at this
      exact (Option.some.inj this).symm
    rw [e2] at e
    have hv := vbits_snoc r.dropLast true
    rw [e] at hv
    rw [hv]
    have := (vbits_bound r.dropLast).1
    have hl : r.dropLast.length = r.length - 1 := List.length_dropLast
    rw [hl]
    simp [b2]
    omega

end Go.Gv.RI
namespace Go.Gv.RI
open Go Go.Gv Go.Gv.D

/-! ### integers of the reference -/
theorem Ok3.nil : Ok3 [] := ⟨Db.nil, .inl rfl, by decide⟩
end Go.Gv.RI

