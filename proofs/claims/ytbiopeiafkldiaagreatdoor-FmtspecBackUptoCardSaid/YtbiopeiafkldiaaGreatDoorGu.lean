import Derived.Test.YtbiopeiafkldiaaGreatDoorGh
/- Own work: growth beside a set of blocks (a box that is handed over together with rows of its own), and slices turned in place. -/
set_option linter.all false
namespace Go.Gv
open Go.RowKit
structure GF (w w' : World) (S : Nat → Prop) : Prop where
  os : w'.os = w.os
  tape : w'.tape = w.tape
  output : w'.output = w.output
  size : w.heap.size ≤ w'.heap.size
  block : ∀ k, k < w.heap.size → ¬ S k → w'.heap[k]? = w.heap[k]?
section
variable {a b c w w' : World} {S T : Nat → Prop}
theorem gf_refl (w : World) (S : Nat → Prop) : GF w w S := ⟨rfl, rfl, rfl, Nat.le_refl _, fun _ _ _ => rfl⟩
theorem gf_step {r : Option Nat} (h : GF a b S) (h' : b.grownBy c r) (hr : ∀ g, r = some g → S g ∨ a.heap.size ≤ g) : GF a c S :=
  ⟨h'.os.trans h.os, h'.tape.trans h.tape, h'.output.trans h.output, Nat.le_trans h.size h'.size, fun k hk hs => by
    rw [h'.block k (Nat.lt_of_lt_of_le hk h.size) (fun e => (hr k e.symm).elim hs (Nat.not_le_of_lt hk)), h.block k hk hs]⟩
theorem bgF (h : Below a.heap.size a b) (h' : GF b c T) (hr : ∀ g, T g → a.heap.size ≤ g) : Below a.heap.size a c :=
  below_of_grown (by
    have g := grown_of_below h
    exact ⟨h'.os.trans g.os, h'.tape.trans g.tape, h'.output.trans g.output, Nat.le_trans g.size h'.size, fun k hk hs => by
      rw [h'.block k (Nat.lt_of_lt_of_le hk g.size) (fun e => Nat.not_le_of_lt hk (hr k e)), g.block k hk hs]⟩)
theorem rowS {z b : Nat} (h : S b ∨ z ≤ b) : ∀ g, some b = some g → S g ∨ z ≤ g := fun g e => by cases e; exact h
theorem lo_trS {x x' : Option Addr} {s z : Nat} (hk : blk x' = blk x ∨ ∃ g, blk x' = some g ∧ z ≤ g) (hl : ∀ g, blk x = some g → S g ∨ s ≤ g) (hz : s ≤ z) : ∀ g, blk x' = some g → S g ∨ s ≤ g := fun g e => by
  rcases hk with h | ⟨g', h, h'⟩
  · rw [h] at e; exact hl g e
  · rw [h] at e; cases e; exact .inr (Nat.le_trans hz h')
theorem le_at {b g z : Nat} (h : g = b) (hz : z ≤ b) : z ≤ g := by rw [h]; exact hz
theorem or_at {b g z : Nat} (h : g = b) (hz : S b ∨ z ≤ b) : S g ∨ z ≤ g := by rw [h]; exact hz
theorem nt_box {F : Nat → Prop} {b : Nat} (hb : ¬ F b) : ∀ x, F x → ¬ (x = b) := fun x hx e => hb (e ▸ hx)
theorem nt_row {F : Nat → Prop} {x : Option Addr} (h : ∀ g, blk x = some g → ¬ F g) : ∀ y, F y → ¬ (blk x = some y) := fun y hy e => h y e hy
theorem nt_or {F : Nat → Prop} (h1 : ∀ x, F x → ¬ S x) (h2 : ∀ x, F x → ¬ T x) : ∀ x, F x → ¬ (S x ∨ T x) := fun x hx h => h.elim (h1 x hx) (h2 x hx)
theorem nt_new {F : Nat → Prop} {x : Option Addr} {z : Nat} (hk : ∀ g, blk x = some g → T g ∨ z ≤ g) (hn : ∀ y, F y → ¬ T y) (hz : ∀ y, F y → y < z) : ∀ g, blk x = some g → ¬ F g := fun g e hf =>
  (hk g e).elim (hn g hf) (Nat.not_le_of_lt (hz g hf))
end
theorem Rd.gf {α : Type} {E : Enc α} {w w' : World} {X T : Nat → Prop} {a : Option Addr} {cap : Nat} {xs : List α} (h : Rd E w X a cap xs) (hg : GF w w' T) (hX : ∀ k, X k → k < w.heap.size) (hr : ∀ k, X k → ¬ T k) : Rd E w' X a cap xs :=
  h.keep fun k hk => hg.block k (hX k hk) (hr k hk)
theorem Box.gf {w w' : World} {b : Nat} {t : TypeId} {cs : Array Value} {T : Nat → Prop} (h : Box w b t cs) (hg : GF w w' T) (hr : ∀ k, k = b → ¬ T k) : Box w' b t cs := by
  unfold Box
  rw [hg.block b h.lt (hr b rfl)]
  exact h
theorem At.gf {w w' : World} {b : Nat} {x : Obj} {T : Nat → Prop} (h : At w b x) (hg : GF w w' T) (hr : ∀ k, k = b → ¬ T k) : At w' b x := by
  unfold At at *
  rw [hg.block b (Array.getElem?_eq_some_iff.1 h).1 (hr b rfl)]
  exact h
theorem Own.gf {α : Type} {E : Enc α} {e : TypeId} {w w' : World} {X T : Nat → Prop} {a : Option Addr} {cap : Nat} {xs : List α} (h : Own E e w X a cap xs) (hg : GF w w' T) (hX : ∀ k, X k → k < w.heap.size)
    (hr : ∀ k, (blk a = some k ∨ X k) → ¬ T k) : Own E e w' X a cap xs := by
  have hlt := h.lt
  obtain ⟨fl, h1, h2, h3⟩ := h
  exact ⟨fl, h1.same fun g e => (fun (e : blk a = some g) => hg.block g (hlt g e) (hr g (.inl e))) (by cases a <;> exact e), fun i x hx => E.keep (h2 i x hx) fun k hk => hg.block k (hX k hk) (hr k (.inr hk)), h3⟩
section
variable {P : Program} {R : RR} {n : Nat} {k : List It} {σ σ' : List (Nat × Value)} {w : World} {all : Array Oper} {C : World → Prop} {o : Oper} {m : Mk} {rest : List (Oper × Mk)}
end
end Go.Gv
