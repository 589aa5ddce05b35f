/-
  Own rules: a strings.Builder that a call has made itself (over the kit's shelf). No condition of its own.
-/
import Derived.Shelf.Strings.BuilderRune
import Derived.Shelf.Strings.BuilderCap
import Derived.Shelf.Strings.Builder2Cap
import Derived.Test.YtkmcegicngjhbaaDoorGi
set_option linter.all false
namespace Go.Gv
open Go.RowKit

/-! ### the builder: fresh, or with room and some bytes -/
def Bld (T e : TypeId) (w : World) (b : Nat) : Option (List UInt8) → Prop
  | none => Box w b T #[.pointer none, .slice none 0 0]
  | some bs => Lib.IsBuilderF T e b b (Lib.byteCells bs) w ∧ ∃ v, w.cell? ⟨b, 1, none⟩ = some v ∧ 0 < v.capOf

theorem isB_lt {T e : TypeId} {B b : Nat} {bs : List Value} {w : World} (h : Lib.IsBuilderF T e B b bs w) : b < w.heap.size := by
  rcases h with h | h <;> exact Lib.BuilderAtF.lt h
theorem Bld.lt {T e : TypeId} {w : World} {b : Nat} {x : Option (List UInt8)} (h : Bld T e w b x) : b < w.heap.size := by
  cases x with
  | none => exact Box.lt h
  | some bs => exact isB_lt h.1

theorem ltBld {T e : TypeId} {w : World} {b : Nat} {x : Option (List UInt8)} (h : Bld T e w b x) : ∀ k, k = b → k < w.heap.size := fun k hk => by subst hk; exact h.lt

theorem isB_grown {T e : TypeId} {b : Nat} {bs : List Value} {w w' : World} {row : Option Nat} (h : Lib.IsBuilderF T e b b bs w) (hg : w.grownBy w' row)
    (hr : ∀ g, row = some g → g ≠ b ∧ (g < b ∨ ∀ c fz, w.heap[g]? ≠ some (.cells c e fz))) : Lib.IsBuilderF T e b b bs w' := by
  have one : ∀ p, Lib.BuilderAtF T e b b p bs w → Lib.BuilderAtF T e b b p bs w' := by
    intro p h
    have hlt := h.lt
    obtain ⟨hB, v, hv, hown, hne⟩ := h
    refine ⟨hB, v, (hg.block b hlt fun e => (hr b e.symm).1 rfl).trans hv, hown.kept hg ?_, hne⟩
    cases row with
    | none => exact Classical.em _
    | some g =>
      refine .inr fun e1 => ?_
      obtain ⟨c, fz, hc⟩ := Lib.ownsRowF_kind hown g e1
      rcases (hr g rfl).2 with h2 | h2
      · rcases hown.2 with ⟨rfl, _⟩ | ⟨g', cap, cur, fz', rfl, hbg, _⟩
        · simp [Value.ownBlock] at e1
        · simp [Value.ownBlock] at e1; omega
      · exact h2 c fz hc
  exact h.elim (fun h => .inl (one _ h)) fun h => .inr (one _ h)

theorem Bld.grown {T e : TypeId} {w w' : World} {b : Nat} {x : Option (List UInt8)} {row : Option Nat} (h : Bld T e w b x) (hg : w.grownBy w' row)
    (hr : ∀ g, row = some g → g ≠ b ∧ (g < b ∨ ∀ c fz, w.heap[g]? ≠ some (.cells c e fz))) : Bld T e w' b x := by
  cases x with
  | none => exact Box.grown h hg fun g e => (hr g e).1
  | some bs =>
    obtain ⟨h1, v, hv, hc⟩ := h
    have hlt := isB_lt h1
    exact ⟨isB_grown h1 hg hr, v, by rw [World.cell?_of_block (w := w) (hg.block b hlt fun e => (hr b e.symm).1 rfl)]; exact hv, hc⟩

theorem bld_new {T e : TypeId} {w : World} {b : Nat} (h : Box w b T #[.pointer none, .slice none 0 0]) : Bld T e w b none := h
theorem bld_low {w : World} {b k : Nat} {e : TypeId} (hlt : k < b) : ∀ g, some k = some g → g ≠ b ∧ (g < b ∨ ∀ c fz, w.heap[g]? ≠ some (.cells c e fz)) := by
  intro g hg; cases hg
  exact ⟨Nat.ne_of_lt hlt, .inl hlt⟩
theorem bld_at {w : World} {b k : Nat} {e : TypeId} {s : ByteArray} {p : Nat} (h : At w k (.stringIter s p)) (hne : k ≠ b) : ∀ g, some k = some g → g ≠ b ∧ (g < b ∨ ∀ c fz, w.heap[g]? ≠ some (.cells c e fz)) := by
  intro g hg; cases hg
  refine ⟨hne, .inr fun c fz h2 => ?_⟩
  unfold At at h
  rw [h] at h2; cases h2

/-! ### what lies beside a step of the builder -/
theorem Box.belowB {w w' : World} {B k : Nat} {t : TypeId} {cs : Array Value} (h : Box w k t cs) (hs : Below B w w') (hk : k < B) : Box w' k t cs := by
  unfold Box; rw [hs.block k hk]; exact h
theorem At.belowB {w w' : World} {B k : Nat} {x : Obj} (h : At w k x) (hs : Below B w w') (hk : k < B) : At w' k x := by
  unfold At; rw [hs.block k hk]; exact h
theorem Box.others {w w' : World} {b k : Nat} {t e : TypeId} {cs : Array Value} (h : Box w k t cs) (ho : Lib.OthersKept e (some b) w w') (hk : k ≠ b) (ht : t ≠ e) : Box w' k t cs :=
  ho k _ h (fun e => hk (Option.some.inj e)) fun c fz e1 => by cases e1; exact ht rfl
theorem At.others {w w' : World} {b k : Nat} {s : ByteArray} {p : Nat} {e : TypeId} (h : At w k (.stringIter s p)) (ho : Lib.OthersKept e (some b) w w') (hk : k ≠ b) : At w' k (.stringIter s p) :=
  ho k _ h (fun e => hk (Option.some.inj e)) fun c fz e1 => by cases e1
theorem grown_belowB {b : Nat} {w0 w w' : World} {row : Option Nat} (h : w0.grownBy w row) (hs : Below b w w') (hb : w0.heap.size ≤ b) : w0.grownBy w' row :=
  ⟨hs.os.trans h.os, hs.tape.trans h.tape, hs.output.trans h.output, Nat.le_trans h.size hs.size, fun k hk hr => (hs.block k (Nat.lt_of_lt_of_le hk hb)).trans (h.block k hk hr)⟩
/-! ### pure counterparts of the methods -/
def growB (x : Option (List UInt8)) (n : Int) : Option (Option (List UInt8)) := match x with
  | none => if 0 < n ∧ n ≤ 281474976710656 then some (some []) else none
  | some _ => none
def wstrB (x : Option (List UInt8)) (s : ByteArray) : Option (Option (List UInt8)) := match x with
  | none => none
  | some bs => if bs.length + s.size ≤ 140737488355328 then some (some (bs ++ s.data.toList)) else none
def wruneB (x : Option (List UInt8)) (r : Int) : Option (Option (List UInt8)) := match x with
  | none => none
  | some bs => if bs.length + 4 ≤ 140737488355328 ∧ -2147483648 ≤ r ∧ r ≤ 2147483647 then some (some (bs ++ Lib.encodeRune r)) else none
def wbyteB (x : Option (List UInt8)) (c : Int) : Option (Option (List UInt8)) := match x with
  | none => none
  | some bs => if bs.length + 1 ≤ 140737488355328 then (u8 c).map fun c => some (bs ++ [c]) else none
def strB (x : Option (List UInt8)) : Option ByteArray := match x with
  | none => none
  | some bs => some (strOf bs)

theorem cap_pos {T e : TypeId} {B b : Nat} {bs : List Value} {w : World} (h : Lib.IsBuilderF T e B b bs w) (hn : bs ≠ []) : ∃ v, w.cell? ⟨b, 1, none⟩ = some v ∧ 0 < v.capOf := by
  have one : ∀ p, Lib.BuilderAtF T e B b p bs w → ∃ v, w.cell? ⟨b, 1, none⟩ = some v ∧ 0 < v.capOf := by
    rintro p ⟨hB, v, hv, hown, hne⟩
    refine ⟨v, by simp [World.cell?, hv], ?_⟩
    have hl : 0 < bs.length := List.length_pos_iff.2 hn
    rcases hown.2 with ⟨_, h0⟩ | ⟨g', cap, cur, fz', rfl, hbg, _, _, hc, _⟩
    · omega
    · show 0 < cap; omega
  exact h.elim (one _) (one _)

theorem mapK (bs : List UInt8) (c : UInt8) : Lib.byteCells bs ++ [.int .u8 (c.toNat : Int)] = Lib.byteCells (bs ++ [c]) := by simp [Lib.byteCells]
theorem mapS (bs : List UInt8) (s : ByteArray) : Lib.byteCells bs ++ Lib.strCells s = Lib.byteCells (bs ++ s.data.toList) := by simp [Lib.byteCells, Lib.strCells]
theorem mapR (bs : List UInt8) (r : Int) : Lib.byteCells bs ++ Lib.runeCells r = Lib.byteCells (bs ++ Lib.encodeRune r) := by
  rw [← Lib.byteCells_encodeRune]; simp [Lib.byteCells]

section
open Go.Proofs Go.Shelf
variable {P : Program} {ρ : Ren}
theorem bld_Grow (L : Lays.n165 P ρ) (X : Builder.Extra P ρ) {b : Nat} {w : World} {n : Int} {x y : Option (List UInt8)} (h : Bld (ρ.t 72) (ρ.t 5) w b x) (hy : growB x n = some y) :
    Calls P (ρ.f 165) #[bp b, .int .i64 n] w (Ret fun v w' => v = .tuple #[] ∧ Below b w w' ∧ Bld (ρ.t 72) (ρ.t 5) w' b y) := by
  cases x with
  | some bs => cases hy
  | none =>
    unfold growB at hy
    simp only at hy
    split at hy
    · rename_i hn
      cases hy
      obtain ⟨m, rfl⟩ : ∃ m : Nat, n = m := ⟨n.toNat, by omega⟩
      refine (Any.Builder_Grow_fresh_cap L X b b m w (Nat.le_refl _) h (Nat.le_of_lt (Box.lt h)) (by omega)).mono ?_
      rintro e w' ⟨rfl, ⟨h1, h2⟩, p, cap, hc, hcap⟩
      exact ⟨rfl, h2, .inr (Lib.BuilderAtF.of h1), _, hc, by show 0 < cap; omega⟩
    · cases hy
theorem bld_WriteString (L : Lays.n166 P ρ) (X : Builder.Extra P ρ) {b : Nat} {w : World} {s : ByteArray} {x y : Option (List UInt8)} (h : Bld (ρ.t 72) (ρ.t 5) w b x) (hy : wstrB x s = some y) :
    Calls P (ρ.f 166) #[bp b, .string s] w (Ret fun v w' => v = .tuple #[.int .i64 s.size, .nilIface] ∧ Below b w w' ∧ Lib.OthersKept (ρ.t 5) (some b) w w' ∧ Bld (ρ.t 72) (ρ.t 5) w' b y) := by
  cases x with
  | none => cases hy
  | some bs =>
    unfold wstrB at hy
    simp only at hy
    split at hy
    · rename_i hn
      cases hy
      obtain ⟨h1, v0, hv0, hc0⟩ := h
      refine (Any.Builder_WriteString_kc L X b b _ s w h1 (by rw [Lib.byteCells_length]; exact hn) (Nat.le_of_lt (isB_lt h1))).mono ?_
      rintro e w' ⟨rfl, ⟨h2, h3, h4⟩, h5⟩
      obtain ⟨v1, hv1, hc1⟩ := h5 v0 hv0
      exact ⟨rfl, h3, h4, .inr (by rw [← mapS]; exact h2), v1, hv1, Nat.lt_of_lt_of_le hc0 hc1⟩
    · cases hy
theorem bld_WriteRune (L : Lays.n168 P ρ) (X : Builder.Extra P ρ) {b : Nat} {w : World} {r : Int} {x y : Option (List UInt8)} (h : Bld (ρ.t 72) (ρ.t 5) w b x) (hy : wruneB x r = some y) :
    Calls P (ρ.f 168) #[bp b, .int .i32 r] w (Ret fun v w' => v = .tuple #[.int .i64 ((Lib.runeCells r).length : Nat), .nilIface] ∧ Below b w w' ∧ Lib.OthersKept (ρ.t 5) (some b) w w' ∧ Bld (ρ.t 72) (ρ.t 5) w' b y) := by
  cases x with
  | none => cases hy
  | some bs =>
    unfold wruneB at hy
    simp only at hy
    split at hy
    · rename_i hn
      cases hy
      obtain ⟨h1, v0, hv0, hc0⟩ := h
      refine (Any.Builder_WriteRune_k L X b b _ r hn.2.1 hn.2.2 w h1 (by rw [Lib.byteCells_length]; exact hn.1) (Nat.le_of_lt (isB_lt h1))).mono ?_
      rintro e w' ⟨rfl, h2, h3, h4⟩
      rw [mapR] at h2
      refine ⟨rfl, h3, h4, .inr h2, cap_pos (.inr h2) fun h0 => ?_⟩
      have := congrArg List.length h0
      rw [← mapR, List.length_append] at this
      have h6 := (Lib.runeCells_le r).1
      rw [List.length_nil] at this; omega
    · cases hy
theorem bld_WriteByte (L : Lays.n167 P ρ) (X : Builder.Extra P ρ) {b : Nat} {w : World} {c : Int} {x y : Option (List UInt8)} (h : Bld (ρ.t 72) (ρ.t 5) w b x) (hy : wbyteB x c = some y) :
    Calls P (ρ.f 167) #[bp b, .int .u8 c] w (Ret fun v w' => v = .nilIface ∧ Below b w w' ∧ Lib.OthersKept (ρ.t 5) (some b) w w' ∧ Bld (ρ.t 72) (ρ.t 5) w' b y) := by
  cases x with
  | none => cases hy
  | some bs =>
    unfold wbyteB at hy
    simp only at hy
    split at hy
    · rename_i hn
      cases hc : u8 c with
      | none => rw [hc] at hy; cases hy
      | some d =>
        rw [hc] at hy
        cases hy
        obtain ⟨h1, v0, hv0, hc0⟩ := h
        refine (Any.Builder_WriteByte_k L X b b _ c w h1 (by rw [Lib.byteCells_length]; exact hn) (Nat.le_of_lt (isB_lt h1))).mono ?_
        rintro e w' ⟨rfl, h2, h3, h4⟩
        rw [← u8_spec hc, mapK] at h2
        exact ⟨rfl, h3, h4, .inr h2, cap_pos (.inr h2) (by simp [Lib.byteCells])⟩
    · cases hy
theorem bld_String (L : Lays.n169 P ρ) (X : Builder.Extra P ρ) {b : Nat} {w : World} {s : ByteArray} {x : Option (List UInt8)} (h : Bld (ρ.t 72) (ρ.t 5) w b x) (hy : strB x = some s) :
    Calls P (ρ.f 169) #[bp b] w (Ret fun v w' => v = .string s ∧ Below b w w' ∧ Lib.OthersKept (ρ.t 5) (some b) w w') := by
  cases x with
  | none => cases hy
  | some bs =>
    cases hy
    refine (Any.Builder_String_any_k L X b b bs w h.1 (Nat.le_of_lt (isB_lt h.1))).mono ?_
    rintro e w' ⟨rfl, h2, h3, h4⟩
    exact ⟨rfl, h3, h4⟩
end
theorem Box.part {w : World} {b : Nat} {t : TypeId} {cs : Array Value} (h : Box w b t cs) (off : Nat) (l : List Value) (hl : (cs.toList.drop off).take l.length = l) : cellsAt w ⟨b, off, none⟩ l := fun j v hv => by
  rw [add_lit]
  have hj : j < l.length := by
    rcases Nat.lt_or_ge j l.length with e | e
    · exact e
    · rw [List.getElem?_eq_none e] at hv; cases hv
  refine h.cell (off + j) ?_
  rw [← hl, List.getElem?_take_of_lt hj, List.getElem?_drop] at hv
  simpa using hv
end Go.Gv
