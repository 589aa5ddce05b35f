import Derived.Test.YtenjigdaaeiklaaL5
set_option linter.all false
namespace Go.Gv.R
open Go Go.Gv Go.Gv.D

/-- limbs of an integer's absolute value -/
def OkL (l : List Int) : Prop := Dg l ∧ Nz l ∧ l.length ≤ 128
def OkI (a : Bool × List Int) : Prop := OkL a.2 ∧ (a.2 = [] → a.1 = false)
def ival (a : Bool × List Int) : Int := if a.1 then - val a.2 else val a.2
def Big : Int := 4294967296 ^ 128

theorem OkL.l6 {l : List Int} (h : OkL l) : l.length ≤ 600 := Nat.le_trans h.2.2 (by decide)
theorem OkL.l10 {l : List Int} (h : OkL l) : l.length ≤ 1000 := Nat.le_trans h.2.2 (by decide)
theorem OkI_iff {a : Bool × List Int} (hd : Dg a.2) : okI a = true ↔ OkI a := by
  obtain ⟨b, l⟩ := a
  unfold okI OkI OkL Nz
  simp only
  by_cases h : l = []
  · subst h; simp [hd]
  · have : l.length ≠ 0 := by simpa using h
    simp [h, hd]
    exact And.comm
theorem OkI.valid {a : Bool × List Int} (h : OkI a) (fuel : Nat) : integer_Valid fuel a = some true := by
  rw [valid_eq, IntOk_eq, (OkI_iff h.1.1).2 h]
theorem ival_neg (b : Bool) (l : List Int) : ival (!b, l) = - ival (b, l) := by cases b <;> simp [ival]
theorem val_lt_big {l : List Int} (h : OkL l) : 0 ≤ val l ∧ val l < Big := by
  have h1 := val_bound h.1
  have := pow_mono h.2.2
  unfold Big
  omega
theorem ival_inj {a b : Bool × List Int} (ha : OkI a) (hb : OkI b) (h : ival a = ival b) : a = b := by
  obtain ⟨x, l⟩ := a
  obtain ⟨y, m⟩ := b
  have h1 := val_lt_big ha.1
  have h2 := val_lt_big hb.1
  have hz1 : val l = 0 → l = [] := val_zero ha.1.1 ha.1.2.1
  have hz2 : val m = 0 → m = [] := val_zero hb.1.1 hb.1.2.1
  have hn1 := ha.2
  have hn2 := hb.2
  simp only at h1 h2 hn1 hn2
  cases x <;> cases y <;> simp only [ival, Bool.false_eq_true, if_false, if_true] at h
  · have e : l = m := norm_inj ha.1.1 hb.1.1 ha.1.2.1 hb.1.2.1 h
    rw [e]
  · exact absurd (hn2 (hz2 (by omega))) (by decide)
  · exact absurd (hn1 (hz1 (by omega))) (by decide)
  · have e : l = m := norm_inj ha.1.1 hb.1.1 ha.1.2.1 hb.1.2.1 (by show val l = val m; omega)
    rw [e]

/-! ### validity -/
theorem nvalid {l : List Int} (hn : Nz l) (hl : l.length ≤ 600) (fuel : Nat) : natural_Valid fuel l = some true := by
  unfold natural_Valid
  have h1 : decide ((l.length : Int) ≤ 600) = true := decide_eq_true (by omega)
  simp only [h1, if_true]
  by_cases h0 : l = []
  · subst h0; rfl
  · have hp : 0 < l.length := by
      cases l with
      | nil => exact absurd rfl h0
      | cons => simp
    have h2 : ((l.length : Int) == 0) = false := beq_eq_false_iff_ne.2 (by omega)
    have hw : IntKind.i64.wrap ((l.length : Int) - 1) = ((l.length - 1 : Nat) : Int) := by rw [i64_small (by omega) (by omega)]; omega
    simp only [h2, Bool.false_eq_true, if_false, hw, idx_nat (show l.length - 1 < l.length by omega), Option.bind_some]
    have hx : l[l.length - 1]'(by omega) ≠ 0 := fun e => by
      rcases hn with h | h
      · exact h0 h
      · rw [List.getLast?_eq_getElem?, List.getElem?_eq_getElem (by omega), e] at h
        exact h rfl
    simp [hx]
theorem ncheck {a b : List Int} (na : Nz a) (la : a.length ≤ 600) (nb : Nz b) (lb : b.length ≤ 600) (fuel : Nat) : natural_check fuel a b = some (0, 0) := by
  unfold natural_check
  rw [nvalid na la, nvalid nb lb]
  rfl
theorem icheck {l : List (Bool × List Int)} (h : ∀ a ∈ l, OkI a) (hl : l.length ≤ 1000) : Tot (fun fuel => integer_check fuel l) (· = (0, 0)) := by
  unfold integer_check
  refine Tot.bindq (P := fun x => ∃ y, x = .inl y) ?_ fun x ⟨y, hx⟩ => by subst hx; exact Tot.contl (Tot.ret rfl)
  refine Tot.loop (fun st => ∃ i : Nat, st.1 = (i : Int) ∧ i ≤ l.length) (fun st => l.length - st.1.toNat) ⟨0, rfl, by omega⟩ fun st ⟨i, e, hi⟩ => ?_
  rw [e]
  refine Tot.ite (fun hh => ?_) (fun hh => Tot.ret ⟨_, rfl⟩)
  have hh : i < l.length := by have : ((i : Nat) : Int) < (l.length : Int) := of_decide_eq_true hh; omega
  refine Tot.bind0 (idx_nat hh) (Tot.bind0 ((h _ (List.getElem_mem hh)).valid 0) (Tot.if_ rfl (Tot.ret ?_)))
  have hw : IntKind.i64.wrap ((i : Int) + 1) = ((i + 1 : Nat) : Int) := by rw [i64_small (by omega) (by omega)]; omega
  show (∃ j : Nat, IntKind.i64.wrap ((i : Int) + 1) = (j : Int) ∧ j ≤ l.length) ∧ l.length - (IntKind.i64.wrap ((i : Int) + 1)).toNat < l.length - ((i : Nat) : Int).toNat
  rw [hw]
  exact ⟨⟨i + 1, rfl, by omega⟩, by omega⟩

/-! ### small integers -/
theorem Of_tot {n : Int} (h0 : 0 ≤ n) (h1 : n < 9223372036854775808) : Tot (fun fuel => integer_Of fuel n) (fun r => OkI r ∧ ival r = n) := by
  unfold integer_Of
  have hd : decide (n < 0) = false := decide_eq_false (by omega)
  rw [hd]
  refine Tot.bindq (P := fun j => j = n) (Tot.if_ rfl (Tot.ret (u64_small h0 (by omega)))) fun j hj => ?_
  subst hj
  have e : j.fdiv (2 ^ 32) = j / 4294967296 := Int.fdiv_eq_ediv_of_nonneg _ (by decide)
  rw [u32_wrap, u32_wrap, e]
  have hdg : Dg [j % 4294967296, j / 4294967296 % 4294967296] := fun x hx => by
    rcases List.mem_cons.1 hx with h | h
    · subst h; omega
    · simp at h; subst h; omega
  refine Tot.bindq (trim_tot (by simp)) fun t ht => Tot.ret ?_
  have hl := ht.len
  have hv := ht.val
  simp only [val] at hv
  refine ⟨⟨⟨ht.dg hdg, ht.nz, by simp at hl; show t.length ≤ 128; omega⟩, fun _ => rfl⟩, ?_⟩
  show val t = j
  omega

/-! ### sums -/
theorem signed_tot (b : Bool) {l : List Int} (hd : Dg l) (hn : Nz l) (hl : l.length ≤ 1000) :
    Tot (fun fuel => integer_signed fuel b l) (fun r => if val l < Big then r.2 = (0, 0) ∧ OkI r.1 ∧ ival r.1 = ival (b, l) else r = ((false, []), (14, -1))) := by
  unfold integer_signed
  have hb := val_bound hd
  refine Tot.ite (fun h => ?_) (fun h => ?_)
  · have h : ((l.length : Nat) : Int) > 128 := of_decide_eq_true h
    have h1 := val_big hd hn (fun e => by subst e; simp at h)
    have h2 := pow_mono (show 128 ≤ l.length - 1 by omega)
    refine Tot.ret ?_
    rw [if_neg (by unfold Big; omega)]
  · have h : ¬ ((l.length : Nat) : Int) > 128 := of_decide_eq_false h
    have ho : OkL l := ⟨hd, hn, by omega⟩
    refine Tot.bindq (P := fun j => j = ((b && decide (0 < l.length), l), (0, 0))) ?_ fun j hj => ?_
    · refine Tot.ite (fun hb => Tot.ret ?_) (fun hb => Tot.ret ?_)
      · subst hb
        simp only [Bool.true_and]
        congr 3
        apply propext
        show ((l.length : Nat) : Int) > 0 ↔ 0 < l.length
        omega
      · subst hb; rfl
    · subst hj
      refine Tot.ret ?_
      rw [if_pos (val_lt_big ho).2]
      refine ⟨rfl, ⟨ho, fun e => ?_⟩, ?_⟩
      · have e : l = [] := e
        subst e
        simp
      · cases b with
        | false => rfl
        | true =>
          by_cases h0 : l = []
          · subst h0; rfl
          · have : 0 < l.length := by
              cases l with
              | nil => exact absurd rfl h0
              | cons => simp
            simp [ival, this]

theorem plus_tot {a b : Bool × List Int} (ha : OkL a.2) (hb : OkL b.2) :
    Tot (fun fuel => integer_plus fuel a b) (fun r => if (-Big < ival a + ival b ∧ ival a + ival b < Big) then r.2 = (0, 0) ∧ OkI r.1 ∧ ival r.1 = ival a + ival b else r = ((false, []), (14, -1))) := by
  obtain ⟨x, l⟩ := a
  obtain ⟨y, m⟩ := b
  have hl : OkL l := ha
  have hm : OkL m := hb
  have b1 := val_lt_big hl
  have b2 := val_lt_big hm
  unfold integer_plus
  refine Tot.ite (fun h => ?_) (fun h => ?_)
  · have h : x = y := by simpa using h
    subst h
    unfold natural_Add
    refine Tot.bindq (P := fun r => Dg r.1 ∧ Nz r.1 ∧ val r.1 = val l + val m ∧ r.1.length ≤ 129 ∧ r.2 = (0, 0)) ?_ fun r ⟨h1, h2, h3, h4, h5⟩ => ?_
    · refine Tot.bind0 (ncheck hl.2.1 hl.l6 hm.2.1 hm.l6 0) (Tot.if_ rfl ?_)
      refine Tot.bindq (add_tot hl.1 hm.1 hl.l10 hm.l10) fun r ⟨h1, h2, h3, h4⟩ => ?_
      have h4 : r.length ≤ 129 := by
        have h1 : l.length ≤ 128 := hl.2.2
        have h2 : m.length ≤ 128 := hm.2.2
        have h4 : r.length ≤ max l.length m.length + 1 := h4
        omega
      unfold natural_fit
      refine Tot.bindq (P := fun t => Dg t.1 ∧ Nz t.1 ∧ val t.1 = val l + val m ∧ t.1.length ≤ 129 ∧ t.2 = (0, 0)) ?_ fun t ht => Tot.ret ht
      refine Tot.bindq (ntrim_tot (by omega)) fun t ht => ?_
      have := ht.len
      have hlt : t.length ≤ 129 := by omega
      exact Tot.if_ (decide_eq_false (by omega)) (Tot.ret ⟨ht.dg h1, ht.nz, ht.val.trans h3, hlt, rfl⟩)
    · refine Tot.bindq (signed_tot x h1 h2 (by omega)) fun t ht => Tot.ret ?_
      have e : ival (x, r.1) = ival (x, l) + ival (x, m) := by
        cases x <;> simp only [ival, Bool.false_eq_true, if_false, if_true] <;> omega
      rw [h3] at ht
      have hc : (-Big < ival (x, l) + ival (x, m) ∧ ival (x, l) + ival (x, m) < Big) ↔ val l + val m < Big := by
        cases x <;> simp only [ival, Bool.false_eq_true, if_false, if_true] <;> omega
      rw [e] at ht
      by_cases hh : val l + val m < Big
      · rw [if_pos hh] at ht
        rw [if_pos (hc.2 hh)]
        exact ht
      · rw [if_neg hh] at ht
        rw [if_neg (fun c => hh (hc.1 c))]
        rw [ht]
  · have h : x ≠ y := by simpa using h
    have hy : y = !x := by cases x <;> cases y <;> simp_all
    subst hy
    unfold natural_Cmp
    refine Tot.bindq (P := fun r => (r.1 < 0 ↔ val l < val m)) ?_ fun r hr => ?_
    · refine Tot.bind0 (ncheck hl.2.1 hl.l6 hm.2.1 hm.l6 0) (Tot.if_ rfl ?_)
      refine Tot.bindq (compare_tot hl.1 hm.1 hl.2.1 hm.2.1 hl.l10 hm.l10) fun r hr => Tot.some_bind (Tot.ret ?_)
      show (if 1 < (if r < -1 then -1 else r) then 1 else (if r < -1 then -1 else r)) < 0 ↔ _
      rw [← hr.1]
      split <;> split <;> omega
    · -- the greater one first
      refine Tot.bindq (P := fun j => ∃ u p q, j = ((u, p), (!u, q)) ∧ OkL p ∧ OkL q ∧ val q ≤ val p ∧ ival (x, l) + ival (!x, m) = if u then -(val p - val q) else val p - val q) ?_ fun j ⟨u, p, q, hj, hp, hq, hpq, hs⟩ => ?_
      · refine Tot.ite (fun h => Tot.ret ⟨!x, m, l, by simp, hm, hl, ?_, ?_⟩) (fun h => Tot.ret ⟨x, l, m, rfl, hl, hm, ?_, ?_⟩)
        · have h : r.1 < 0 := of_decide_eq_true h
          have := hr.1 h
          omega
        · cases x <;> simp only [ival, Bool.not_true, Bool.not_false, Bool.false_eq_true, if_false, if_true] <;> omega
        · have h : ¬ r.1 < 0 := of_decide_eq_false h
          have := fun c => h (hr.2 c)
          omega
        · cases x <;> simp only [ival, Bool.not_true, Bool.not_false, Bool.false_eq_true, if_false, if_true] <;> omega
      subst hj
      have bp := val_lt_big hp
      have bq := val_lt_big hq
      unfold natural_Sub
      refine Tot.bindq (P := fun r => Dg r.1 ∧ Nz r.1 ∧ val r.1 = val p - val q ∧ r.1.length ≤ 128) ?_ fun r ⟨h1, h2, h3, h4⟩ => ?_
      · refine Tot.bind0 (ncheck hp.2.1 hp.l6 hq.2.1 hq.l6 0) (Tot.if_ rfl ?_)
        refine Tot.bindq (compare_tot hp.1 hq.1 hp.2.1 hq.2.1 hp.l10 hq.l10) fun c hc => ?_
        have hc0 : ¬ c < 0 := fun c0 => by
          have : val p < val q := hc.1.1 c0
          omega
        refine Tot.if_ (decide_eq_false hc0) ?_
        have hlen : q.length ≤ p.length := by
          rcases Nat.lt_or_ge p.length q.length with h | h
          · have := val_longer hp.1 hq.1 hq.2.1 h; omega
          · exact h
        refine Tot.bindq (sub_tot hp.1 hq.1 hp.l10 hlen hpq) fun r ⟨h1, h2, h3, h4⟩ => Tot.ret ⟨h1, h2, h3, ?_⟩
        have h5 : p.length ≤ 128 := hp.2.2
        have h6 : r.length ≤ p.length := h4
        show r.length ≤ 128
        omega
      · refine Tot.bindq (signed_tot u h1 h2 (by omega)) fun t ht => Tot.ret ?_
        rw [hs]
        rw [h3, if_pos (by omega)] at ht
        rw [if_pos (by split <;> omega)]
        refine ⟨ht.1, ht.2.1, ht.2.2.trans ?_⟩
        simp only [ival, h3]

theorem two_ok {a b : Bool × List Int} (ha : OkI a) (hb : OkI b) : ∀ x ∈ [(a.1, a.2), (b.1, b.2)], OkI x := fun x hx => by
  rcases List.mem_cons.1 hx with h | h
  · subst h; exact ha
  · simp at h; subst h; exact hb
theorem Add_tot {a b : Bool × List Int} (ha : OkI a) (hb : OkI b) :
    Tot (fun fuel => integer_Add fuel a b) (fun r => if (-Big < ival a + ival b ∧ ival a + ival b < Big) then r.2 = (0, 0) ∧ OkI r.1 ∧ ival r.1 = ival a + ival b else r = ((false, []), (14, -1))) := by
  unfold integer_Add
  refine Tot.bindq (icheck (l := [(a.1, a.2), (b.1, b.2)]) (two_ok ha hb) (by simp)) fun r hr => ?_
  subst hr
  exact Tot.if_ rfl (Tot.bindq (plus_tot ha.1 hb.1) fun r hr => Tot.ret hr)
theorem Sub_tot {a b : Bool × List Int} (ha : OkI a) (hb : OkI b) :
    Tot (fun fuel => integer_Sub fuel a b) (fun r => if (-Big < ival a - ival b ∧ ival a - ival b < Big) then r.2 = (0, 0) ∧ OkI r.1 ∧ ival r.1 = ival a - ival b else r = ((false, []), (14, -1))) := by
  unfold integer_Sub
  refine Tot.bindq (icheck (l := [(a.1, a.2), (b.1, b.2)]) (two_ok ha hb) (by simp)) fun r hr => ?_
  subst hr
  have e : ival a - ival b = ival a + ival (!b.1, b.2) := by rw [ival_neg]; show _ = ival a + - ival b; omega
  rw [e]
  exact Tot.if_ rfl (Tot.bindq (plus_tot (b := (!b.1, b.2)) ha.1 hb.1) fun r hr => Tot.ret hr)
theorem Cmp_tot {a b : Bool × List Int} (ha : OkI a) (hb : OkI b) : Tot (fun fuel => integer_Cmp fuel a b) (fun r => r.2 = (0, 0) ∧ (r.1 < 0 ↔ ival a < ival b) ∧ (r.1 = 0 ↔ ival a = ival b)) := by
  unfold integer_Cmp
  refine Tot.bindq (icheck (l := [(a.1, a.2), (b.1, b.2)]) (two_ok ha hb) (by simp)) fun r hr => ?_
  subst hr
  refine Tot.if_ rfl ?_
  obtain ⟨x, l⟩ := a
  obtain ⟨y, m⟩ := b
  have hl : OkL l := ha.1
  have hm : OkL m := hb.1
  have b1 := val_lt_big hl
  have b2 := val_lt_big hm
  unfold natural_Cmp
  refine Tot.bindq (P := fun r => (r.1 < 0 ↔ val l < val m) ∧ (r.1 = 0 ↔ val l = val m) ∧ -1 ≤ r.1 ∧ r.1 ≤ 1) ?_ fun r ⟨h1, h2, h3, h4⟩ => ?_
  · refine Tot.bind0 (ncheck hl.2.1 hl.l6 hm.2.1 hm.l6 0) (Tot.if_ rfl ?_)
    refine Tot.bindq (compare_tot hl.1 hm.1 hl.2.1 hm.2.1 hl.l10 hm.l10) fun r hr => Tot.some_bind (Tot.ret ?_)
    show ((if 1 < (if r < -1 then -1 else r) then 1 else (if r < -1 then -1 else r)) < 0 ↔ _) ∧ ((if 1 < (if r < -1 then -1 else r) then 1 else (if r < -1 then -1 else r)) = 0 ↔ _) ∧ -1 ≤ (if 1 < (if r < -1 then -1 else r) then 1 else (if r < -1 then -1 else r)) ∧ (if 1 < (if r < -1 then -1 else r) then 1 else (if r < -1 then -1 else r)) ≤ 1
    rw [← hr.1, ← hr.2]
    split <;> split <;> omega
  · have hx0 : x = true → 0 < val l := fun e => by
      rcases Int.lt_or_eq_of_le b1.1 with h | h
      · exact h
      · have := ha.2 (val_zero hl.1 hl.2.1 h.symm)
        rw [show x = false from this] at e; cases e
    have hy0 : y = true → 0 < val m := fun e => by
      rcases Int.lt_or_eq_of_le b2.1 with h | h
      · exact h
      · have := hb.2 (val_zero hm.1 hm.2.1 h.symm)
        rw [show y = false from this] at e; cases e
    refine Tot.bindq (P := fun j => j = (x && y)) ?_ fun j hj => ?_
    · cases x <;> exact Tot.ret rfl
    · subst hj
      have hw : IntKind.i64.wrap (0 - r.1) = -r.1 := by rw [i64_small (by omega) (by omega)]; omega
      rw [hw]
      cases x <;> cases y
      · refine Tot.if_ rfl (Tot.if_ rfl (Tot.if_ rfl (Tot.ret ⟨rfl, ?_, ?_⟩)))
        · simpa [ival] using h1
        · simpa [ival] using h2
      · refine Tot.if_ rfl (Tot.if_ rfl (Tot.it rfl (Tot.ret ⟨rfl, ?_, ?_⟩))) <;> have := hy0 rfl <;> simp [ival] <;> omega
      · refine Tot.if_ rfl (Tot.it rfl (Tot.ret ⟨rfl, ?_, ?_⟩)) <;> have := hx0 rfl <;> simp [ival] <;> omega
      · refine Tot.it rfl (Tot.ret ⟨rfl, ?_, ?_⟩) <;> simp [ival] <;> omega
end Go.Gv.R
