import Derived.Test.YtenjigdaaeiklaaM1
set_option linter.all false
namespace Go.Gv.R
open Go Go.Gv Go.Gv.D

/-! ### comparing -/
theorem Compare_tot {a b : List Int} (ha : Ok3 a) (hb : Ok3 b) : Tot (fun fuel => ref3_Compare fuel a b) (fun r => (r < 0 ↔ w a < w b) ∧ (r = 0 ↔ w a = w b)) := by
  obtain ⟨da, na, la⟩ := ha
  obtain ⟨db, nb, lb⟩ := hb
  unfold ref3_Compare
  refine Tot.ite (fun h => ?_) (fun h => ?_)
  · have h : a.length ≠ b.length := fun e => by rw [e] at h; simp at h
    refine Tot.ite (fun h1 => ?_) (fun h1 => ?_)
    · have h1 : ((a.length : Nat) : Int) < b.length := of_decide_eq_true h1
      have := vb_longer h16 da db nb (by omega)
      exact Tot.ret ⟨⟨fun _ => this, fun _ => by decide⟩, ⟨fun h => (by cases h), fun h => by unfold w at h; omega⟩⟩
    · have h1 : ¬ ((a.length : Nat) : Int) < b.length := of_decide_eq_false h1
      have := vb_longer h16 db da na (by omega)
      exact Tot.ret ⟨⟨fun h => (by cases h), fun h => by unfold w at h; omega⟩, ⟨fun h => (by cases h), fun h => by unfold w at h; omega⟩⟩
  · have hl : a.length = b.length := by
      have : ((a.length : Int) != (b.length : Int)) = false := h
      simp at this
      omega
    refine Tot.some_bind ?_
    rw [i64_small (by omega) (by omega)]
    refine Tot.bindq (P := fun x => match x with | .inl () => a = b | .inr r => (r < 0 ↔ w a < w b) ∧ (r = 0 ↔ w a = w b)) ?_ fun x hx => ?_
    · refine Tot.loop (fun st : Int => -1 ≤ st ∧ st < (a.length : Int) ∧ a.drop (st + 1).toNat = b.drop (st + 1).toNat) (fun st : Int => (st + 1).toNat) ⟨by omega, by omega, ?_⟩ fun st ⟨h0, h1, h2⟩ => ?_
      · rw [show ((a.length : Int) - 1 + 1).toNat = a.length by omega, List.drop_length, List.drop_eq_nil_of_le (by omega)]
      · refine Tot.ite (fun h => ?_) (fun h => ?_)
        · have h3 : 0 ≤ st := of_decide_eq_true h
          obtain ⟨i, rfl⟩ : ∃ i : Nat, st = (i : Int) := ⟨st.toNat, by omega⟩
          have hia : i < a.length := by omega
          have hib : i < b.length := by omega
          have h2' : a.drop (i + 1) = b.drop (i + 1) := h2
          have ea : idx a (i : Int) = some a[i] := idx_nat hia
          have eb : idx b (i : Int) = some b[i] := idx_nat hib
          have va := vb_cut (b := 65536) hia
          have vb' := vb_cut (b := 65536) hib
          rw [h2'] at va
          have ba := vb_bound h16 (da.take i)
          have bb := vb_bound h16 (db.take i)
          rw [List.length_take, Nat.min_eq_left (by omega)] at ba bb
          have hpos : (0 : Int) < 65536 ^ i := Int.pow_pos (by decide)
          have key : ∀ {x y z u v : Int}, 0 ≤ u → v < 65536 ^ i → 0 ≤ v → x < y → v + 65536 ^ i * (x + z) < u + 65536 ^ i * (y + z) := fun {x y z u v} h1 h2 h3 h4 => by
            have : (65536 : Int) ^ i * (x + z + 1) ≤ 65536 ^ i * (y + z) := Int.mul_le_mul_of_nonneg_left (by omega) (by omega)
            rw [Int.mul_add _ _ 1] at this
            omega
          refine Tot.bind0 ea (Tot.bind0 eb (Tot.ite (fun hlt => ?_) (fun hlt => Tot.bind0 ea (Tot.bind0 eb (Tot.ite (fun hgt => ?_) (fun hgt => ?_))))))
          · have hlt : a[i] < b[i] := of_decide_eq_true hlt
            refine Tot.ret ?_
            have : w a < w b := by
              rw [w, w, va, vb']
              exact key bb.1 ba.2 ba.1 hlt
            exact ⟨⟨fun _ => this, fun _ => by decide⟩, ⟨fun h => (by cases h), fun _ => by omega⟩⟩
          · have hgt : b[i] < a[i] := of_decide_eq_true hgt
            refine Tot.ret ?_
            have : w b < w a := by
              rw [w, w, va, vb']
              exact key ba.1 bb.2 bb.1 hgt
            exact ⟨⟨fun h => (by cases h), fun _ => by omega⟩, ⟨fun h => (by cases h), fun _ => by omega⟩⟩
          · have hlt : ¬ a[i] < b[i] := of_decide_eq_false hlt
            have hgt : ¬ b[i] < a[i] := of_decide_eq_false hgt
            have he : a[i] = b[i] := by omega
            refine Tot.ret ?_
            have hw : IntKind.i64.wrap ((i : Int) - 1) = (i : Int) - 1 := i64_wrap (by omega) (by omega)
            show (_ ∧ _ ∧ _) ∧ _
            rw [hw]
            refine ⟨⟨by omega, by omega, ?_⟩, by omega⟩
            rw [show ((i : Int) - 1 + 1).toNat = i by omega, List.drop_eq_getElem_cons hia, List.drop_eq_getElem_cons hib, he, h2']
        · have h3 : ¬ 0 ≤ st := of_decide_eq_false h
          refine Tot.ret ?_
          rw [show (st + 1).toNat = 0 by omega] at h2
          exact h2
    · cases x with
      | inl u =>
        have hx : a = b := hx
        subst hx
        exact Tot.contl (Tot.ret ⟨⟨fun h => (by cases h), fun h => by omega⟩, ⟨fun _ => rfl, fun _ => rfl⟩⟩)
      | inr r => exact Tot.contr hx

/-! ### sums -/
theorem Plus3_tot {a b : List Int} (ha : Ok3 a) (hb : Ok3 b) (la : a.length ≤ 20000) (lb : b.length ≤ 20000) : Tot (fun fuel => ref3_Plus fuel a b) (fun r => Ok3 r ∧ w r = w a + w b) := by
  obtain ⟨da, na, _⟩ := ha
  obtain ⟨db, nb, _⟩ := hb
  unfold ref3_Plus
  refine Tot.bindq (P := fun r => Db 65536 r ∧ r.length ≤ 20001 ∧ w r = w a + w b) ?_ fun r ⟨h1, h2, h3⟩ => ?_
  · refine Tot.loop (fun st => ∃ i : Nat, st.2.2 = (i : Int) ∧ i ≤ 20001 ∧ Db 65536 st.1 ∧ st.1.length = i ∧ 0 ≤ st.2.1 ∧ st.2.1 ≤ 1 ∧ (20000 < i → st.2.1 = 0) ∧ w st.1 + 65536 ^ i * st.2.1 = w (a.take i) + w (b.take i)) (fun st => 20002 - st.2.2.toNat)
      ⟨0, rfl, by omega, Db.nil, rfl, Int.le_refl 0, (by decide : (0 : Int) ≤ 1), fun h => by omega, by simp [w, vb]⟩ fun st ⟨i, e, hi, g1, g2, g3, g4, g5, g6⟩ => ?_
    obtain ⟨out, carry, k⟩ := st
    simp only at e g1 g2 g3 g4 g5 g6
    subst e
    refine Tot.ite (fun h => ?_) (fun h => ?_)
    · have hi2 : i ≤ 20000 := by
        rw [Bool.or_eq_true, Bool.or_eq_true] at h
        rcases Nat.lt_or_ge 20000 i with h1 | h1
        · have := g5 h1
          rcases h with h | h | h <;> have h := of_decide_eq_true h <;> simp only at h <;> omega
        · exact h1
      refine Tot.bindq (P := fun s => 0 ≤ s ∧ s ≤ 65536 ∧ 65536 ^ i * s + w (a.take i) = 65536 ^ i * carry + w (a.take (i + 1))) ?_ fun s ⟨k1, k2, k3⟩ => ?_
      · refine Tot.ite (fun hh => ?_) (fun hh => ?_)
        · have hh : i < a.length := by have : ((i : Nat) : Int) < (a.length : Int) := of_decide_eq_true hh; omega
          have hx := da.get hh
          have ht := vb_take_succ (b := 65536) hh
          refine Tot.bind0 (idx_nat hh) (Tot.ret ?_)
          rw [i64_small (by omega) (by omega)]
          refine ⟨by omega, by omega, ?_⟩
          show 65536 ^ i * (carry + a[i]) + vb 65536 (a.take i) = 65536 ^ i * carry + vb 65536 (a.take (i + 1))
          rw [ht, Int.mul_add]
          omega
        · have hh : a.length ≤ i := by have : ¬ ((i : Nat) : Int) < (a.length : Int) := of_decide_eq_false hh; omega
          refine Tot.ret ⟨g3, by show carry ≤ 65536; omega, ?_⟩
          show _ + vb 65536 _ = _ + vb 65536 _
          rw [vb_take_all hh, vb_take_all (a := a) (i := i + 1) (by omega)]
      · refine Tot.bindq (P := fun t => 0 ≤ t ∧ t ≤ 131071 ∧ 65536 ^ i * t + w (b.take i) = 65536 ^ i * s + w (b.take (i + 1))) ?_ fun t ⟨m1, m2, m3⟩ => ?_
        · refine Tot.ite (fun hh => ?_) (fun hh => ?_)
          · have hh : i < b.length := by have : ((i : Nat) : Int) < (b.length : Int) := of_decide_eq_true hh; omega
            have hx := db.get hh
            have ht := vb_take_succ (b := 65536) hh
            refine Tot.bind0 (idx_nat hh) (Tot.ret ?_)
            rw [i64_small (by omega) (by omega)]
            refine ⟨by omega, by omega, ?_⟩
            show _ + vb 65536 _ = _ + vb 65536 _
            rw [ht, Int.mul_add]
            omega
          · have hh : b.length ≤ i := by have : ¬ ((i : Nat) : Int) < (b.length : Int) := of_decide_eq_false hh; omega
            refine Tot.ret ⟨k1, by omega, ?_⟩
            show _ + vb 65536 _ = _ + vb 65536 _
            rw [vb_take_all hh, vb_take_all (a := b) (i := i + 1) (by omega)]
        · refine Tot.bind0 (app_ok (by simp; omega)) (Tot.ret ?_)
          have hw : IntKind.i64.wrap ((i : Int) + 1) = ((i + 1 : Nat) : Int) := by rw [i64_small (by omega) (by omega)]; omega
          have e1 : t.tmod 65536 = t % 65536 := Int.tmod_eq_emod_of_nonneg m1
          have e2 : IntKind.i64.wrap (t.tdiv 65536) = t / 65536 := by rw [Int.tdiv_eq_ediv_of_nonneg m1, i64_small (by omega) (by omega)]
          simp only [hw, e1, e2]
          refine ⟨⟨i + 1, rfl, by omega, g1.append (Db.one (by omega)), by simp [g2], by omega, by omega, fun h => ?_, ?_⟩, by show 20002 - (((i + 1 : Nat) : Int)).toNat < 20002 - ((i : Nat) : Int).toNat; omega⟩
          · -- both numbers are at their end
            have e3 : w (a.take i) = w (a.take (i + 1)) := by rw [w, w, vb_take_all (by omega), vb_take_all (by omega)]
            have e4 : w (b.take i) = w (b.take (i + 1)) := by rw [w, w, vb_take_all (by omega), vb_take_all (by omega)]
            have hp : (65536 : Int) ^ i ≠ 0 := Int.ne_of_gt (Int.pow_pos (by decide))
            have e5 : s = carry := Int.eq_of_mul_eq_mul_left hp (by omega)
            have e6 : t = s := Int.eq_of_mul_eq_mul_left hp (by omega)
            omega
          · rw [w, vb_snoc, g2, Int.pow_succ]
            have e3 : t = t % 65536 + 65536 * (t / 65536) := by omega
            have e4 : vb 65536 out = w out := rfl
            rw [e4]
            generalize (65536 : Int) ^ i = P at *
            generalize t % 65536 = u at *
            generalize t / 65536 = v at *
            subst e3
            grind
    · rw [Bool.or_eq_false_iff, Bool.or_eq_false_iff] at h
      obtain ⟨h1, h2, h3⟩ := h
      have h1 : ¬ ((i : Nat) : Int) < (a.length : Int) := of_decide_eq_false h1
      have h2 : ¬ ((i : Nat) : Int) < (b.length : Int) := of_decide_eq_false h2
      have h3 : ¬ carry > 0 := of_decide_eq_false h3
      refine Tot.ret ⟨g1, by show out.length ≤ _; omega, ?_⟩
      have hc : carry = 0 := by omega
      rw [hc, Int.mul_zero, Int.add_zero] at g6
      show w out = _
      rw [g6, w, w, vb_take_all (by omega), vb_take_all (by omega)]
  · refine Tot.bindq (rtrim_tot (by omega)) fun t ht => Tot.ret ⟨⟨ht.db h1, ht.nz, ?_⟩, by rw [w, ht.vb]; exact h3⟩
    have := ht.len; omega

theorem Minus3_tot {a b : List Int} (ha : Ok3 a) (hb : Ok3 b) (hv : w b ≤ w a) : Tot (fun fuel => ref3_Minus fuel a b) (fun r => Ok3 r ∧ w r = w a - w b) := by
  obtain ⟨da, na, la⟩ := ha
  obtain ⟨db, nb, lb⟩ := hb
  have hlen : b.length ≤ a.length := by
    rcases Nat.lt_or_ge a.length b.length with h | h
    · have := vb_longer h16 da db nb h; unfold w at hv; omega
    · exact h
  unfold ref3_Minus
  refine Tot.bindq (P := fun r => Db 65536 r ∧ r.length = a.length ∧ w r = w a - w b) ?_ fun r ⟨h1, h2, h3⟩ => ?_
  · refine Tot.loop (fun st => ∃ i : Nat, st.2.2 = (i : Int) ∧ i ≤ a.length ∧ Db 65536 st.1 ∧ st.1.length = i ∧ 0 ≤ st.2.1 ∧ st.2.1 ≤ 1 ∧ w st.1 = w (a.take i) - w (b.take i) + 65536 ^ i * st.2.1) (fun st => a.length - st.2.2.toNat)
      ⟨0, rfl, by omega, Db.nil, rfl, Int.le_refl 0, (by decide : (0 : Int) ≤ 1), by simp [w, vb]⟩ fun st ⟨i, e, hi, g1, g2, g3, g4, g5⟩ => ?_
    obtain ⟨out, bor, k⟩ := st
    simp only at e g1 g2 g3 g4 g5
    subst e
    refine Tot.ite (fun h => ?_) (fun h => ?_)
    · have h : i < a.length := by have : ((i : Nat) : Int) < (a.length : Int) := of_decide_eq_true h; omega
      have hx := da.get h
      have ta := vb_take_succ (b := 65536) h
      refine Tot.bind0 (idx_nat h) ?_
      have hxb : IntKind.i64.wrap (a[i] - bor) = a[i] - bor := i64_small (by omega) (by omega)
      rw [hxb]
      refine Tot.bindq (P := fun x => -65536 ≤ x ∧ x < 65536 ∧ w (a.take (i + 1)) - w (b.take (i + 1)) = w (a.take i) - w (b.take i) + 65536 ^ i * (x + bor)) ?_ fun x ⟨k1, k2, k3⟩ => ?_
      · refine Tot.ite (fun hh => ?_) (fun hh => ?_)
        · have hh : i < b.length := by have : ((i : Nat) : Int) < (b.length : Int) := of_decide_eq_true hh; omega
          have hy := db.get hh
          have tb := vb_take_succ (b := 65536) hh
          refine Tot.bind0 (idx_nat hh) (Tot.some_bind (Tot.ret ?_))
          rw [i64_small (by omega) (by omega)]
          refine ⟨by omega, by omega, ?_⟩
          show vb 65536 _ - vb 65536 _ = _
          rw [ta, tb]
          show _ = vb 65536 _ - vb 65536 _ + _
          grind
        · have hh : b.length ≤ i := by have : ¬ ((i : Nat) : Int) < (b.length : Int) := of_decide_eq_false hh; omega
          refine Tot.ret ⟨by omega, by omega, ?_⟩
          show vb 65536 _ - vb 65536 _ = vb 65536 _ - vb 65536 _ + _
          rw [ta, vb_take_all hh, vb_take_all (a := b) (i := i + 1) (by omega)]
          grind
      · refine Tot.bindq (P := fun j => 0 ≤ j.1 ∧ j.1 ≤ 1 ∧ 0 ≤ j.2 ∧ j.2 < 65536 ∧ j.2 = x + 65536 * j.1) ?_ fun j ⟨m1, m2, m3, m4, m5⟩ => ?_
        · refine Tot.ite (fun hh => Tot.ret ?_) (fun hh => Tot.ret ?_)
          · have hh : x < 0 := of_decide_eq_true hh
            rw [i64_small (by omega) (by omega)]
            refine ⟨?_, ?_, ?_, ?_, ?_⟩ <;> simp only <;> omega
          · have hh : ¬ x < 0 := of_decide_eq_false hh
            refine ⟨?_, ?_, ?_, ?_, ?_⟩ <;> simp only <;> omega
        · refine Tot.bind0 (app_ok (by simp; omega)) (Tot.ret ?_)
          have hw : IntKind.i64.wrap ((i : Int) + 1) = ((i + 1 : Nat) : Int) := by rw [i64_small (by omega) (by omega)]; omega
          simp only [hw]
          refine ⟨⟨i + 1, rfl, by omega, g1.append (Db.one ⟨m3, m4⟩), by simp [g2], m1, m2, ?_⟩, by show a.length - (((i + 1 : Nat) : Int)).toNat < a.length - ((i : Nat) : Int).toNat; omega⟩
          rw [w, vb_snoc, g2, k3, Int.pow_succ, m5]
          show w out + _ = _
          rw [g5]
          generalize (65536 : Int) ^ i = P
          grind
    · have h : i = a.length := by have : ¬ ((i : Nat) : Int) < (a.length : Int) := of_decide_eq_false h; omega
      subst h
      refine Tot.ret ⟨g1, g2, ?_⟩
      show w out = _
      rw [w, w, w, vb_take_all (Nat.le_refl _), vb_take_all hlen] at g5
      have := (vb_bound h16 g1).2
      rw [g2] at this
      unfold w at *
      rcases (by omega : bor = 0 ∨ bor = 1) with h0 | h0
      · rw [h0] at g5; omega
      · rw [h0] at g5; omega
  · refine Tot.bindq (rtrim_tot (by omega)) fun t ht => Tot.ret ⟨⟨ht.db h1, ht.nz, ?_⟩, by rw [w, ht.vb]; exact h3⟩
    have := ht.len; omega
end Go.Gv.R
