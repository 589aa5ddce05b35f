import Derived.Test.YtenjigdaaeiklaaM3
set_option linter.all false
namespace Go.Gv.R
open Go Go.Gv Go.Gv.D

/-! ### integers of the reference -/
def iv3 (a : Bool × List Int) : Int := if a.1 then - w a.2 else w a.2
theorem w_nonneg {l : List Int} (h : Ok3 l) : 0 ≤ w l := (vb_bound h16 h.1).1
theorem w_zero {l : List Int} (h : Ok3 l) (hv : w l = 0) : l = [] := vb_nil h16 h.1 h.2.1 hv
theorem Ok3.nil : Ok3 [] := ⟨Db.nil, .inl rfl, by decide⟩
theorem Ok3.lenBig {l : List Int} (h : Ok3 l) : (l.length ≤ 256 ↔ w l < Big) := by
  have hB : Big = 65536 ^ 256 := by decide
  constructor
  · intro hl
    have h1 := (vb_bound h16 h.1).2
    have h2 := vb_mono h16 hl
    rw [hB]
    exact Int.lt_of_lt_of_le h1 h2
  · intro hl
    rcases Nat.lt_or_ge 256 l.length with h1 | h1
    · have h2 := vb_big h16 h.1 h.2.1 (fun e => by subst e; simp at h1)
      have h3 := vb_mono h16 (show 256 ≤ l.length - 1 by omega)
      rw [hB] at hl
      have : w l = vb 65536 l := rfl
      omega
    · exact h1

theorem IntOf_tot {a : Bool × List Int} (ha : OkI a) : Tot (fun fuel => ref3_IntOf fuel a) (fun r => r.1 = a.1 ∧ Ok3 r.2 ∧ w r.2 = val a.2 ∧ r.2.length ≤ 256) := by
  unfold ref3_IntOf
  have hl := ha.1.2.2
  exact Tot.bindq (Of3_tot ha.1.1 (by omega)) fun r ⟨h1, h2, h3⟩ => Tot.ret ⟨rfl, h1, h2, by show r.length ≤ 256; omega⟩
theorem iv3_of {a r : Bool × List Int} (h1 : r.1 = a.1) (h2 : w r.2 = val a.2) : iv3 r = ival a := by
  unfold iv3 ival
  rw [h1, h2]

theorem IPlus_tot {a b : Bool × List Int} (ha : Ok3 a.2) (hb : Ok3 b.2) (la : a.2.length ≤ 20000) (lb : b.2.length ≤ 20000) : Tot (fun fuel => ref3_Int_Plus fuel a b) (fun r => Ok3 r.2 ∧ iv3 r = iv3 a + iv3 b) := by
  obtain ⟨x, l⟩ := a
  obtain ⟨y, m⟩ := b
  unfold ref3_Int_Plus
  refine Tot.ite (fun h => ?_) (fun h => ?_)
  · have h : x = y := by simpa using h
    subst h
    refine Tot.bindq (Plus3_tot ha hb la lb) fun r ⟨h1, h2⟩ => Tot.ret ⟨h1, ?_⟩
    show (if x then - w r else w r) = (if x then - w l else w l) + (if x then - w m else w m)
    rw [h2]
    cases x <;> simp only [if_true, Bool.false_eq_true, if_false] <;> omega
  · have h : x ≠ y := by simpa using h
    refine Tot.bindq (Compare_tot ha hb) fun c ⟨c1, c2⟩ => Tot.ite (fun hc => ?_) (fun hc => ?_)
    · have hc : c ≥ 0 := of_decide_eq_true hc
      have hle : w m ≤ w l := by
        have : ¬ w l < w m := fun e => by have := c1.2 e; omega
        omega
      refine Tot.bindq (Minus3_tot ha hb hle) fun r ⟨h1, h2⟩ => Tot.ret ⟨h1, ?_⟩
      show (if x then - w r else w r) = (if x then - w l else w l) + (if y then - w m else w m)
      rw [h2]
      cases x <;> cases y <;> first | exact absurd rfl h | (simp only [if_true, Bool.false_eq_true, if_false]; omega)
    · have hc : ¬ c ≥ 0 := of_decide_eq_false hc
      have hle : w l ≤ w m := by
        have : w l < w m := c1.1 (by omega)
        omega
      refine Tot.bindq (Minus3_tot hb ha hle) fun r ⟨h1, h2⟩ => Tot.ret ⟨h1, ?_⟩
      show (if y then - w r else w r) = (if x then - w l else w l) + (if y then - w m else w m)
      rw [h2]
      cases x <;> cases y <;> first | exact absurd rfl h | (simp only [if_true, Bool.false_eq_true, if_false]; omega)

theorem pos_of {l : List Int} (h : Ok3 l) : (0 < l.length) ↔ 0 < w l := by
  have h1 := w_nonneg h
  constructor
  · intro hp
    rcases Int.lt_or_eq_of_le h1 with h2 | h2
    · exact h2
    · have := w_zero h h2.symm
      subst this; simp at hp
  · intro hp
    cases l with
    | nil => simp [w, vb] at hp
    | cons => simp
theorem Order_tot {a b : Bool × List Int} (ha : Ok3 a.2) (hb : Ok3 b.2) : Tot (fun fuel => ref3_Int_Order fuel a b) (fun r => (r < 0 ↔ iv3 a < iv3 b) ∧ (r = 0 ↔ iv3 a = iv3 b)) := by
  obtain ⟨x, l⟩ := a
  obtain ⟨y, m⟩ := b
  have ha : Ok3 l := ha
  have hb : Ok3 m := hb
  have pa := pos_of ha
  have pb := pos_of hb
  have na := w_nonneg ha
  have nb := w_nonneg hb
  unfold ref3_Int_Order
  refine Tot.bindq (P := fun j => j = (x && decide (0 < w l), y && decide (0 < w m))) ?_ fun j hj => ?_
  · have e1 : decide (((l.length : Nat) : Int) > 0) = decide (0 < w l) := by
      congr 1
      apply propext
      rw [← pa]; omega
    have e2 : decide (((m.length : Nat) : Int) > 0) = decide (0 < w m) := by
      congr 1
      apply propext
      rw [← pb]; omega
    simp only [e1, e2]
    cases x <;> cases y <;> exact Tot.ret rfl
  subst hj
  have fin : ∀ {p q : List Int} (hp : Ok3 p) (hq : Ok3 q), (w p < w q ↔ iv3 (x, l) < iv3 (y, m)) → (w p = w q ↔ iv3 (x, l) = iv3 (y, m)) → Tot (fun fuel => Option.bind (ref3_Compare fuel p q) fun r => some r) (fun r => (r < 0 ↔ iv3 (x, l) < iv3 (y, m)) ∧ (r = 0 ↔ iv3 (x, l) = iv3 (y, m))) := fun hp hq e1 e2 =>
    Tot.bindq (Compare_tot hp hq) fun c ⟨c1, c2⟩ => Tot.ret ⟨c1.trans e1, c2.trans e2⟩
  refine Tot.ite (fun h => ?_) (fun h => Tot.ite (fun h1 => ?_) (fun h1 => Tot.ite (fun h2 => ?_) (fun h2 => ?_)))
  · simp only [Bool.and_eq_true, decide_eq_true_eq] at h
    obtain ⟨⟨e1, e2⟩, e3, e4⟩ := h
    subst e1 e3
    exact fin hb ha (by simp only [iv3, if_true]; omega) (by simp only [iv3, if_true]; omega)
  · simp only [Bool.and_eq_true, decide_eq_true_eq] at h1
    simp only [h1, decide_true, Bool.true_and, Bool.and_self, Bool.and_eq_false_iff, decide_eq_false_iff_not] at h
    obtain ⟨e1, e2⟩ := h1
    subst e1
    refine Tot.ret ?_
    cases y
    · simp only [iv3, if_true, Bool.false_eq_true, if_false]; omega
    · have : ¬ 0 < w m := by
        rcases h with h | h
        · cases h
        · exact h
      simp only [iv3, if_true]; omega
  · simp only [Bool.and_eq_true, decide_eq_true_eq] at h2
    simp only [Bool.and_eq_false_iff, decide_eq_false_iff_not] at h1
    obtain ⟨e1, e2⟩ := h2
    subst e1
    refine Tot.ret ?_
    cases x
    · simp only [iv3, if_true, Bool.false_eq_true, if_false]; omega
    · have : ¬ 0 < w l := by
        rcases h1 with h | h
        · cases h
        · exact h
      simp only [iv3, if_true]; omega
  · simp only [Bool.and_eq_false_iff, decide_eq_false_iff_not] at h1 h2
    have ex : iv3 (x, l) = w l := by
      cases x
      · rfl
      · have : ¬ 0 < w l := by
          rcases h1 with h | h
          · cases h
          · exact h
        simp only [iv3, if_true]; omega
    have ey : iv3 (y, m) = w m := by
      cases y
      · rfl
      · have : ¬ 0 < w m := by
          rcases h2 with h | h
          · cases h
          · exact h
        simp only [iv3, if_true]; omega
    exact fin ha hb (by rw [ex, ey]) (by rw [ex, ey])

theorem IMinus_tot {a : Bool × List Int} (ha : Ok3 a.2) : Tot (fun fuel => ref3_Int_Minus fuel a) (fun r => r.2 = a.2 ∧ iv3 r = - iv3 a) := by
  obtain ⟨x, l⟩ := a
  have ha : Ok3 l := ha
  unfold ref3_Int_Minus
  refine Tot.bindq (P := fun r => r.2 = l ∧ iv3 r = - iv3 (x, l)) ?_ fun r h => Tot.ret h
  refine Tot.ite (fun h => Tot.ret ⟨rfl, ?_⟩) (fun h => Tot.ret ⟨rfl, ?_⟩)
  · have h : x = false := by simpa using h
    subst h
    by_cases h0 : l = []
    · subst h0; rfl
    · have : 0 < l.length := by
        cases l with
        | nil => exact absurd rfl h0
        | cons => simp
      simp [iv3, this]
  · have h : x = true := by simpa using h
    subst h
    simp [iv3]

theorem SameLimbs_tot (a : List Int) (ha : a.length ≤ 1000) : Tot (fun fuel => ref3_SameLimbs fuel a a) (· = true) := by
  unfold ref3_SameLimbs
  refine Tot.if_ (by simp) ?_
  refine Tot.bindq (P := fun x => x = .inl ()) ?_ fun x hx => by subst hx; exact Tot.contl (Tot.ret rfl)
  refine Tot.loop (fun st : Int => ∃ i : Nat, st = (i : Int) ∧ i ≤ a.length) (fun st : Int => a.length - st.toNat) ⟨0, rfl, by omega⟩ fun st ⟨i, e, hi⟩ => ?_
  subst e
  refine Tot.ite (fun h => ?_) (fun h => Tot.ret rfl)
  have h : i < a.length := by have : ((i : Nat) : Int) < (a.length : Int) := of_decide_eq_true h; omega
  refine Tot.bind0 (idx_nat h) (Tot.bind0 (idx_nat h) (Tot.if_ (by simp) (Tot.ret ?_)))
  have hw : IntKind.i64.wrap ((i : Int) + 1) = ((i + 1 : Nat) : Int) := by rw [i64_small (by omega) (by omega)]; omega
  rw [hw]
  exact ⟨⟨i + 1, rfl, by omega⟩, by omega⟩

theorem SameInt_tot {a b : Bool × List Int} (ha : OkI a) (hb : Ok3 b.2) (hv : ival a = iv3 b) : Tot (fun fuel => ref3_SameInt fuel a b) (· = true) := by
  obtain ⟨x, l⟩ := a
  obtain ⟨y, m⟩ := b
  have hb : Ok3 m := hb
  have hl : OkL l := ha.1
  have pb := pos_of hb
  have nb := w_nonneg hb
  have nl := val_lt_big hl
  have hx0 : x = true → 0 < val l := fun e => by
    rcases Int.lt_or_eq_of_le nl.1 with h | h
    · exact h
    · have := ha.2 (val_zero hl.1 hl.2.1 h.symm)
      rw [show x = false from this] at e; cases e
  have hvv : val l = w m := by
    cases x <;> cases y <;> simp only [ival, iv3, if_true, Bool.false_eq_true, if_false] at hv
    · exact hv
    · omega
    · have := hx0 rfl; omega
    · omega
  have hsame : Tot (fun fuel => (ref3_Limbs fuel m).bind fun r => (ref3_SameLimbs fuel l r).bind fun q => some q) (fun j => j = true) := by
    refine Tot.bindq (Limbs_tot hb) fun r ⟨r1, r2, r3, r4⟩ => ?_
    have e : r = l := norm_inj r1 hl.1 r2 hl.2.1 (by rw [r3, hvv])
    subst e
    exact Tot.bindq (SameLimbs_tot r hl.l10) fun q hq => Tot.ret hq
  have hd : decide (((m.length : Nat) : Int) > 0) = decide (0 < w m) := by
    congr 1
    apply propext
    rw [← pb]; omega
  unfold ref3_SameInt
  refine Tot.bindq (P := fun j => j = true) ?_ fun j hj => Tot.ret hj
  simp only [hd]
  refine Tot.ite (fun hy => Tot.it ?_ hsame) (fun hy => Tot.it ?_ hsame)
  · have hy : y = true := hy
    subst hy
    cases x with
    | true => have := hx0 rfl; rw [decide_eq_true (by omega)]; rfl
    | false =>
      simp only [ival, iv3, if_true, Bool.false_eq_true, if_false] at hv
      rw [decide_eq_false (by omega)]; rfl
  · have hy : y = false := hy
    subst hy
    cases x with
    | true =>
      have := hx0 rfl
      simp only [ival, iv3, if_true, Bool.false_eq_true, if_false] at hv
      omega
    | false => rfl

theorem NoInt_eq (fuel : Nat) (a : Bool × List Int) : ref3_NoInt fuel a = some (!a.1 && decide (a.2.length = 0)) := by
  obtain ⟨x, l⟩ := a
  unfold ref3_NoInt
  have e : (((l.length : Nat) : Int) == 0) = decide (l.length = 0) := by
    by_cases h : l.length = 0
    · rw [h]; rfl
    · rw [decide_eq_false h]; exact beq_eq_false_iff_ne.2 (by omega)
  simp only [e]
  cases x <;> rfl
theorem NoInt_tot {a : Bool × List Int} (ha : OkI a) : Tot (fun fuel => ref3_NoInt fuel a) (fun r => r = decide (ival a = 0)) := by
  refine ⟨_, ?_, 0, fun n _ => NoInt_eq n a⟩
  obtain ⟨x, l⟩ := a
  have hl : OkL l := ha.1
  have nl := val_lt_big hl
  by_cases h0 : l = []
  · subst h0
    have := ha.2 rfl
    rw [show x = false from this]
    rfl
  · have hp : val l ≠ 0 := fun e => h0 (val_zero hl.1 hl.2.1 e)
    have : l.length ≠ 0 := by simpa using h0
    simp [this]
    cases x <;> simp [ival] <;> omega
end Go.Gv.R
