import Derived.Test.YtenjigdaaeiklaaL3
set_option linter.all false
namespace Go.Gv.R
open Go Go.Gv Go.Gv.D

/-! ### limbs -/
def val : List Int → Int
  | [] => 0
  | x :: xs => x + 4294967296 * val xs
def Dg (l : List Int) : Prop := ∀ x ∈ l, 0 ≤ x ∧ x < 4294967296
def Nz (l : List Int) : Prop := l = [] ∨ l.getLast? ≠ some 0

theorem val_append (a b : List Int) : val (a ++ b) = val a + 4294967296 ^ a.length * val b := by
  induction a with
  | nil => simp [val]
  | cons x a ih =>
    simp only [List.cons_append, val, ih, List.length_cons, Int.pow_succ]
    grind
theorem val_zeros : ∀ k, val (List.replicate k 0) = 0
  | 0 => rfl
  | k + 1 => by simp [List.replicate_succ, val, val_zeros k]
theorem Dg.append {a b : List Int} (ha : Dg a) (hb : Dg b) : Dg (a ++ b) := fun x hx => (List.mem_append.1 hx).elim (ha x) (hb x)
theorem Dg.left {a b : List Int} (h : Dg (a ++ b)) : Dg a := fun x hx => h x (List.mem_append_left _ hx)
theorem Dg.right {a b : List Int} (h : Dg (a ++ b)) : Dg b := fun x hx => h x (List.mem_append_right _ hx)
theorem val_bound {l : List Int} (h : Dg l) : 0 ≤ val l ∧ val l < 4294967296 ^ l.length := by
  induction l with
  | nil => simp [val]
  | cons x l ih =>
    have h1 := h x (List.mem_cons_self ..)
    have h2 := ih fun y hy => h y (List.mem_cons_of_mem _ hy)
    simp only [val, List.length_cons, Int.pow_succ]
    generalize (4294967296 : Int) ^ l.length = p at *
    omega
theorem val_big {l : List Int} (h : Dg l) (hn : Nz l) (hl : l ≠ []) : 4294967296 ^ (l.length - 1) ≤ val l := by
  obtain ⟨a, x, rfl⟩ : ∃ a x, l = a ++ [x] := ⟨l.dropLast, l.getLast hl, (List.dropLast_concat_getLast hl).symm⟩
  have hx : x ≠ 0 := fun e => by
    rcases hn with h | h
    · exact hl h
    · subst e; simp at h
  have h1 := h x (by simp)
  have h2 := val_bound h.left
  rw [val_append]
  simp only [List.length_append, List.length_singleton, Nat.add_sub_cancel, val]
  generalize hp : (4294967296 : Int) ^ a.length = p at *
  have hpp : 0 < p := by rw [← hp]; exact Int.pow_pos (by decide)
  have : p * 1 ≤ p * (x + 4294967296 * 0) := Int.mul_le_mul_of_nonneg_left (by omega) (by omega)
  omega
theorem pow_mono {a b : Nat} (h : a ≤ b) : (4294967296 : Int) ^ a ≤ 4294967296 ^ b := by
  obtain ⟨d, rfl⟩ := Nat.exists_eq_add_of_le h
  rw [Int.pow_add]
  have h1 : (0 : Int) < 4294967296 ^ a := Int.pow_pos (by decide)
  have h2 : (0 : Int) < 4294967296 ^ d := Int.pow_pos (by decide)
  have : (4294967296 : Int) ^ a * 1 ≤ 4294967296 ^ a * 4294967296 ^ d := Int.mul_le_mul_of_nonneg_left (by omega) (by omega)
  omega
theorem val_longer {a b : List Int} (ha : Dg a) (hb : Dg b) (hn : Nz b) (h : a.length < b.length) : val a < val b := by
  have h1 := (val_bound ha).2
  have h2 := val_big hb hn (fun e => by subst e; simp at h)
  have h3 := pow_mono (show a.length ≤ b.length - 1 by omega)
  omega
theorem val_inj : ∀ {a b : List Int}, Dg a → Dg b → a.length = b.length → val a = val b → a = b
  | [], [], _, _, _, _ => rfl
  | x :: a, y :: b, ha, hb, hl, hv => by
    have h1 := ha x (List.mem_cons_self ..)
    have h2 := hb y (List.mem_cons_self ..)
    simp only [val] at hv
    have e : x = y ∧ val a = val b := by omega
    rw [e.1, val_inj (fun z hz => ha z (List.mem_cons_of_mem _ hz)) (fun z hz => hb z (List.mem_cons_of_mem _ hz)) (by simpa using hl) e.2]
theorem norm_inj {a b : List Int} (ha : Dg a) (hb : Dg b) (na : Nz a) (nb : Nz b) (hv : val a = val b) : a = b := by
  rcases Nat.lt_trichotomy a.length b.length with h | h | h
  · have := val_longer ha hb nb h; omega
  · exact val_inj ha hb h hv
  · have := val_longer hb ha na h; omega
theorem val_zero {l : List Int} (h : Dg l) (hn : Nz l) (hv : val l = 0) : l = [] := norm_inj h (fun x hx => by simp at hx) hn (.inl rfl) hv

/-! ### leading zeros are taken away -/
def trimLoop (fuel : Nat) (l : List Int) : Option (List Int) := loopN (fun (s3 : (List Int)) => (Option.bind (if (decide (((List.length s3 : Nat) : Int) > 0)) then (Option.bind (idx s3 (IntKind.i64.wrap (((List.length s3 : Nat) : Int) - 1))) fun x13 => (some ((x13 == 0)))) else (some (false))) fun (j10 : Bool) => (if j10 then (Option.bind (sub s3 0 (IntKind.i64.wrap (((List.length s3 : Nat) : Int) - 1))) fun x19 => (some (.inl x19))) else (some (.inr (s3)))))) fuel l

theorem getLast?_append_zeros {r : List Int} {k : Nat} : (r ++ List.replicate (k + 1) 0).getLast? = some 0 := by
  simp [List.replicate_succ']
def Trim (l r : List Int) : Prop := (∃ k, l = r ++ List.replicate k 0) ∧ Nz r
theorem trim_tot {l : List Int} (hl : l.length < 4611686018427387904) : Tot (fun fuel => trimLoop fuel l) (Trim l) := by
  unfold trimLoop
  refine Tot.loop (fun st => ∃ k, l = st ++ List.replicate k 0) (fun st => st.length) ⟨0, by simp⟩ fun st ⟨k, hk⟩ => ?_
  have hsl : st.length ≤ l.length := by rw [hk]; simp
  by_cases h0 : st = []
  · subst h0
    refine Tot.bindq (P := fun j => j = false) (Tot.if_ rfl (Tot.ret rfl)) fun j hj => ?_
    subst hj
    exact Tot.if_ rfl (Tot.ret ⟨⟨k, hk⟩, .inl rfl⟩)
  · have hp : 0 < st.length := by
      cases st with
      | nil => exact absurd rfl h0
      | cons => simp
    have hw : IntKind.i64.wrap ((st.length : Int) - 1) = (st.length : Int) - 1 := i64_wrap (by omega) (by omega)
    rw [hw]
    have hi := idx_ok (xs := st) (i := (st.length : Int) - 1) (by omega) (by omega)
    have hlast : st.getLast? = some (st[((st.length : Int) - 1).toNat]'(by omega)) := by
      rw [List.getLast?_eq_getElem?, ← List.getElem?_eq_getElem]
      congr 1
      omega
    generalize (st[((st.length : Int) - 1).toNat]'(by omega)) = x at hi hlast
    refine Tot.bindq (P := fun j => j = (x == 0)) (Tot.it (decide_eq_true (by omega)) (Tot.bind0 hi (Tot.ret rfl))) fun j hj => ?_
    subst hj
    refine Tot.ite (fun hx => ?_) (fun hx => ?_)
    · have hx : x = 0 := by simpa using hx
      subst hx
      refine Tot.bind0 (sub_ok (by omega) (by omega) (by omega)) (Tot.ret ⟨⟨k + 1, ?_⟩, ?_⟩)
      · have e : st = st.dropLast ++ [0] := by
          have h1 := List.dropLast_concat_getLast h0
          have h2 : st.getLast h0 = 0 := by
            have := List.getLast?_eq_some_getLast h0
            rw [hlast] at this
            exact (Option.some.inj this).symm
          rw [h2] at h1
          exact h1.symm
        show l = (st.take ((st.length : Int) - 1).toNat).drop (0 : Int).toNat ++ _
        rw [show ((st.length : Int) - 1).toNat = st.length - 1 by omega, show (0 : Int).toNat = 0 from rfl, List.drop_zero, ← List.dropLast_eq_take, hk]
        conv => lhs; rw [e]
        rw [List.append_assoc, List.replicate_succ]
        rfl
      · show ((st.take ((st.length : Int) - 1).toNat).drop (0 : Int).toNat).length < st.length
        simp
        omega
    · have hx : x ≠ 0 := by simpa using hx
      refine Tot.ret ⟨⟨k, hk⟩, .inr ?_⟩
      rw [hlast]
      simpa using hx
theorem Trim.val {l r : List Int} (h : Trim l r) : val r = val l := by
  obtain ⟨⟨k, e⟩, _⟩ := h
  rw [e, val_append, val_zeros]
  omega
theorem Trim.dg {l r : List Int} (h : Trim l r) (hd : Dg l) : Dg r := by
  obtain ⟨⟨k, e⟩, _⟩ := h
  rw [e] at hd
  exact hd.left
theorem Trim.nz {l r : List Int} (h : Trim l r) : Nz r := h.2
theorem Trim.len {l r : List Int} (h : Trim l r) : r.length ≤ l.length := by
  obtain ⟨⟨k, e⟩, _⟩ := h
  rw [e]; simp
theorem ntrim_tot {l : List Int} (hl : l.length < 4611686018427387904) : Tot (fun fuel => natural_trim fuel l) (Trim l) :=
  Tot.bindq (trim_tot hl) fun _ h => Tot.ret h

/-! ### comparing -/
def Cmp (a b : List Int) (r : Int) : Prop := (r < 0 ↔ val a < val b) ∧ (r = 0 ↔ val a = val b)
theorem cut {a : List Int} {i : Nat} (h : i < a.length) : a = a.take i ++ (a[i] :: a.drop (i + 1)) := by
  rw [← List.drop_eq_getElem_cons h, List.take_append_drop]
theorem val_cut {a : List Int} {i : Nat} (h : i < a.length) : val a = val (a.take i) + 4294967296 ^ i * (a[i] + 4294967296 * val (a.drop (i + 1))) := by
  conv => lhs; rw [cut h]
  rw [val_append, List.length_take, Nat.min_eq_left (by omega)]
  rfl
theorem compare_tot {a b : List Int} (ha : Dg a) (hb : Dg b) (na : Nz a) (nb : Nz b) (la : a.length ≤ 1000) (lb : b.length ≤ 1000) : Tot (fun fuel => natural_compare fuel a b) (Cmp a b) := by
  unfold natural_compare
  refine Tot.ite (fun h => ?_) (fun h => ?_)
  · have h : a.length ≠ b.length := fun e => by rw [e] at h; simp at h
    refine Tot.some_bind (Tot.ret ?_)
    rw [i64_wrap (by omega) (by omega)]
    rcases Nat.lt_or_ge a.length b.length with h1 | h1
    · have := val_longer ha hb nb h1
      exact ⟨⟨fun _ => this, fun _ => by omega⟩, ⟨fun _ => by omega, fun _ => by omega⟩⟩
    · have := val_longer hb ha na (show b.length < a.length by omega)
      exact ⟨⟨fun _ => by omega, fun _ => by omega⟩, ⟨fun _ => by omega, fun _ => by omega⟩⟩
  · have hl : a.length = b.length := by
      have : ((a.length : Int) != (b.length : Int)) = false := h
      simp at this
      omega
    refine Tot.some_bind ?_
    rw [i64_wrap (by omega) (by omega)]
    refine Tot.bindq (P := fun x => match x with | .inl () => a = b | .inr r => Cmp a b r) ?_ fun x hx => ?_
    · refine Tot.loop (fun st : Int => -1 ≤ st ∧ st < (a.length : Int) ∧ a.drop (st + 1).toNat = b.drop (st + 1).toNat) (fun st : Int => (st + 1).toNat) ⟨by omega, by omega, ?_⟩ fun st ⟨h0, h1, h2⟩ => ?_
      · rw [show ((a.length : Int) - 1 + 1).toNat = a.length by omega, List.drop_length, List.drop_eq_nil_of_le (by omega)]
      · refine Tot.ite (fun h => ?_) (fun h => ?_)
        · have h3 : 0 ≤ st := of_decide_eq_true h
          obtain ⟨i, rfl⟩ : ∃ i : Nat, st = (i : Int) := ⟨st.toNat, by omega⟩
          have hia : i < a.length := by omega
          have hib : i < b.length := by omega
          have h2' : a.drop (i + 1) = b.drop (i + 1) := h2
          have ea : idx a (i : Int) = some a[i] := idx_ok (by omega) (by omega)
          have eb : idx b (i : Int) = some b[i] := idx_ok (by omega) (by omega)
          have va := val_cut hia
          have vb := val_cut hib
          rw [h2'] at va
          have ba := val_bound (l := a.take i) (fun x hx => ha x (List.mem_of_mem_take hx))
          have bb := val_bound (l := b.take i) (fun x hx => hb x (List.mem_of_mem_take hx))
          rw [List.length_take, Nat.min_eq_left (by omega)] at ba bb
          have hpos : (0 : Int) < 4294967296 ^ i := Int.pow_pos (by decide)
          refine Tot.bind0 ea (Tot.bind0 eb (Tot.ite (fun hne => ?_) (fun hne => ?_)))
          · have hne : a[i] ≠ b[i] := by simpa using hne
            refine Tot.bind0 ea (Tot.bind0 eb (Tot.ite (fun hlt => ?_) (fun hlt => ?_)))
            · have hlt : a[i] < b[i] := of_decide_eq_true hlt
              refine Tot.ret ?_
              have : val a < val b := by
                have : (4294967296 : Int) ^ i * (a[i] + 4294967296 * val (b.drop (i + 1)) + 1) ≤ 4294967296 ^ i * (b[i] + 4294967296 * val (b.drop (i + 1))) := Int.mul_le_mul_of_nonneg_left (by omega) (by omega)
                rw [Int.mul_add _ _ 1] at this
                omega
              exact ⟨⟨fun _ => this, fun _ => by decide⟩, ⟨fun h => (by cases h), fun _ => by omega⟩⟩
            · have hlt : ¬ a[i] < b[i] := of_decide_eq_false hlt
              refine Tot.ret ?_
              have : val b < val a := by
                have : (4294967296 : Int) ^ i * (b[i] + 4294967296 * val (b.drop (i + 1)) + 1) ≤ 4294967296 ^ i * (a[i] + 4294967296 * val (b.drop (i + 1))) := Int.mul_le_mul_of_nonneg_left (by omega) (by omega)
                rw [Int.mul_add _ _ 1] at this
                omega
              exact ⟨⟨fun h => (by cases h), fun _ => by omega⟩, ⟨fun h => (by cases h), fun _ => by omega⟩⟩
          · have he : a[i] = b[i] := by simpa using hne
            refine Tot.ret ?_
            have hw : IntKind.i64.wrap ((i : Int) - 1) = (i : Int) - 1 := i64_wrap (by omega) (by omega)
            show (_ ∧ _ ∧ _) ∧ _
            rw [hw]
            refine ⟨⟨by omega, by omega, ?_⟩, by omega⟩
            rw [show ((i : Int) - 1 + 1).toNat = i by omega, List.drop_eq_getElem_cons hia, List.drop_eq_getElem_cons hib, he, h2']
        · have h3 : ¬ 0 ≤ st := of_decide_eq_false h
          refine Tot.ret ?_
          rw [show (st + 1).toNat = 0 by omega] at h2
          exact h2
    · cases x with
      | inl u =>
        have hx : a = b := hx
        subst hx
        exact Tot.contl (Tot.ret ⟨⟨fun h => (by cases h), fun h => by omega⟩, ⟨fun _ => rfl, fun _ => rfl⟩⟩)
      | inr r => exact Tot.contr hx
end Go.Gv.R
