import Derived.Test.YtbiopeiafkldiaaGreatDoorT4
set_option linter.all false
namespace Go.Gv.P
open Go Go.Gv Go.Gv.D Go.Gv.R Go.Lib
set_option maxRecDepth 100000

theorem inC_lt {S : List UInt8} {c : Nat} (h : inC S c = true) : c < 128 := by
  simp only [inC, Bool.and_eq_true, decide_eq_true_eq] at h; exact h.1
theorem inNZ {c : Nat} : inC NZ c = (decide (49 ≤ c) && decide (c ≤ 57)) := by
  rcases Nat.lt_or_ge c 128 with h | h
  · have : (List.range 128).all (fun c => inC NZ c == (decide (49 ≤ c) && decide (c ≤ 57))) = true := by kernel_rfl
    exact beq_iff_eq.1 (List.all_eq_true.1 this c (List.mem_range.2 h))
  · rw [inC, decide_eq_false (by omega), decide_eq_false (show ¬ c ≤ 57 by omega)]; simp
theorem TY_dg {c : Nat} (h : dgN c = true) : inC TY c = false := by
  have hc := dg_range h
  have : (List.range 128).all (fun c => !(decide (48 ≤ c) && decide (c ≤ 57)) || !(inC TY c)) = true := by kernel_rfl
  have := List.all_eq_true.1 this c (List.mem_range.2 (by omega))
  rw [decide_eq_true hc.1, decide_eq_true hc.2] at this
  simpa using this
theorem nb_cons (c : Nat) (r : List Nat) : nb (c :: r) = if c = 48 then (0, r) else if dgN c = true then (((min (valN 0 (enc (twN (c :: r)))) 401 : Nat) : Int), dwN (c :: r)) else (-1, c :: r) := rfl
theorem wd_cons (c : Nat) (r : List Nat) : wd (c :: r) = if c = 48 then (0, c :: r) else (if 0 < (nb (c :: r)).1 then (nb (c :: r)).1 else 0, (nb (c :: r)).2) := by
  unfold wd; simp only [List.head?_cons, Option.some.injEq]
theorem wd_eq (l : List Nat) : wd l = if hdC NZ l = true then (((min (valN 0 (enc (twN l))) 401 : Nat) : Int), dwN l) else (0, l) := by
  cases l with
  | nil => rfl
  | cons c r =>
    rw [wd_cons, nb_cons, show hdC NZ (c :: r) = inC NZ c from rfl, inNZ]
    by_cases h : c = 48
    · subst h; rfl
    · rw [if_neg h, if_neg h]
      by_cases hd : dgN c = true
      · have := dg_range hd
        have hb : (decide (49 ≤ c) && decide (c ≤ 57)) = true := by rw [Bool.and_eq_true, decide_eq_true_eq, decide_eq_true_eq]; omega
        rw [if_pos hd, hb]
        simp only [if_true, Prod.mk.injEq, and_true]
        split <;> omega
      · have hb : (decide (49 ≤ c) && decide (c ≤ 57)) = false := by
          refine Bool.eq_false_iff.2 fun hh => hd ?_
          rw [Bool.and_eq_true, decide_eq_true_eq, decide_eq_true_eq] at hh
          rw [dgN, decide_eq_true (by omega), decide_eq_true (by omega)]; rfl
        rw [if_neg hd, hb]; rfl
theorem drop_tw (l : List Nat) : l.drop (twN l).length = dwN l := by
  have := List.drop_left (l₁ := twN l) (l₂ := dwN l)
  rwa [twN_dwN] at this
/-- the digits of a precision are refused -/
def badP (l : List Nat) : Bool := decide (twN l = []) || (decide (1 < (twN l).length) && (l.headD 0 == 48))
theorem nb_of {l : List Nat} (h : badP l = false) : nb l = (((min (valN 0 (enc (twN l))) 401 : Nat) : Int), dwN l) := by
  cases l with
  | nil => cases h
  | cons c r =>
    rw [nb_cons]
    simp only [badP, Bool.or_eq_false_iff, decide_eq_false_iff_not, Bool.and_eq_false_iff, List.headD_cons, beq_eq_false_iff_ne] at h
    obtain ⟨h1, h2⟩ := h
    have hd : dgN c = true := by
      cases hc : dgN c
      · exact absurd (by unfold twN; rw [List.takeWhile_cons, hc]; rfl) h1
      · rfl
    by_cases h48 : c = 48
    · rw [if_pos h48]
      have hr : twN r = [] := by
        rcases h2 with h2 | h2
        · have e : twN (c :: r) = c :: twN r := by unfold twN; rw [List.takeWhile_cons, hd]; rfl
          rw [e] at h2
          simpa using h2
        · exact absurd h48 h2
      have e : twN (c :: r) = [c] := by unfold twN at hr ⊢; rw [List.takeWhile_cons, hd]; simp [hr]
      have e2 : dwN (c :: r) = r := by
        have := twN_dwN (c :: r)
        rw [e] at this
        simpa using this
      rw [e, e2, h48]
      rfl
    · rw [if_neg h48, if_pos hd]
theorem nb_bad {l : List Nat} (h : badP l = true) : (nb l).1 < 0 ∨ (tk TY (nb l).2).2 ≠ [] := by
  cases l with
  | nil => exact .inl (by decide)
  | cons c r =>
    rw [nb_cons]
    simp only [badP, Bool.or_eq_true, decide_eq_true_eq, Bool.and_eq_true, List.headD_cons, beq_iff_eq] at h
    by_cases h48 : c = 48
    · rw [if_pos h48]
      subst h48
      rcases h with h | ⟨h, _⟩
      · unfold twN at h; rw [List.takeWhile_cons] at h; cases h
      · right
        have e : twN (48 :: r) = 48 :: twN r := by unfold twN; rw [List.takeWhile_cons]; rfl
        rw [e] at h
        cases r with
        | nil => simp [twN] at h
        | cons d s =>
          have hd : dgN d = true := by
            cases hc : dgN d
            · have : twN (d :: s) = [] := by unfold twN; rw [List.takeWhile_cons, hc]; rfl
              rw [this] at h; simp at h
            · rfl
          simp only [tk, TY_dg hd, Bool.false_eq_true, if_false]
          exact List.cons_ne_nil _ _
    · rw [if_neg h48]
      rcases h with h | ⟨_, h⟩
      · have hd : ¬ dgN c = true := fun hd => by unfold twN at h; rw [List.takeWhile_cons, hd] at h; cases h
        rw [if_neg hd]; exact .inl (show (-1 : Int) < 0 by decide)
      · exact absurd h h48
theorem SpecRead_tot {p : List Nat} (hp : ∀ r ∈ p, Scal r) (hz : (enc p).length ≤ 40) : Tot (fun n => ref4_SpecRead n (strOf (enc p))) (· = rd p) := by
  unfold ref4_SpecRead
  have hpl : p.length ≤ 40 := by have := enc_len_ge p; omega
  have hpz : p.length ≤ 1000 := by omega
  refine Tot.if_ (decide_eq_false (by rw [size_str]; omega)) ?_
  refine Tot.bindq (P := (· = (ints p, true))) ((Points_tot (by rw [size_str]; omega)).mono fun r hr => ?_) fun r hr => ?_
  · rw [bytes_str] at hr
    rcases hr with ⟨h, _⟩ | ⟨q, hq, e, e2⟩
    · rw [valid_enc p hp] at h; cases h
    · rw [e2, enc_inj hp hq e]
  subst hr
  refine Tot.if_ rfl (Tot.bindq (P := (· = ((1 : Int), (-1 : Int)))) (Tot.ret rfl) fun r83 h83 => ?_)
  subst h83
  refine Tot.bindq (isAt_tot AL_ok hp 1) fun r98 h98 => ?_
  refine Tot.bindq (P := fun x => (x = .inr (zS, ((1 : Int), (-1 : Int))) ∧ rd p = (zS, (1, -1))) ∨ ∃ (fill : Int) (a : Nat), x = .inl ((a : Int), zS, ((0 : Int), (0 : Int)), ((fill, 0, 0, false, false, 0, 0, false, 0, 0) : Sp)) ∧ rd p = rdP fill (p.drop a) ∧ a ≤ p.length) ?_ fun s hs => ?_
  · subst h98
    refine Tot.ite (fun h => ?_) (fun h => Tot.ret (.inr ⟨0, 0, rfl, ?_, Nat.zero_le _⟩))
    · cases p with
      | nil => cases h
      | cons c t =>
        cases t with
        | nil => cases h
        | cons d r =>
          have h : inC AL d = true := h
          have hrd : rd (c :: d :: r) = if c = 123 ∨ c = 125 ∨ c = 0 then (zS, (1, -1)) else rdP c (d :: r) := by simp only [rd, if_pos h]
          have h0 : idx (ints (c :: d :: r)) 0 = some (c : Int) := ints_get (i := 0) (l := c :: d :: r) (by simp)
          refine Tot.bindq (P := (· = decide (c = 0 ∨ c = 123 ∨ c = 125))) (Tot.bind0 h0 (Tot.ite (fun hh => ?_) (fun hh => Tot.bind0 h0 (Tot.ite (fun h2 => ?_) (fun h2 => Tot.bind0 h0 (Tot.ret ?_)))))) fun j hj => ?_
          · have := eq_of_beq hh
            exact Tot.ret (decide_eq_true (.inl (by omega))).symm
          · have := eq_of_beq h2
            exact Tot.ret (decide_eq_true (.inr (.inl (by omega)))).symm
          · have hh := ne_of_beq_false hh
            have h2 := ne_of_beq_false h2
            rw [Bool.eq_iff_iff, beq_iff_eq, decide_eq_true_eq]; omega
          subst hj
          refine Tot.ite (fun hh => ?_) (fun hh => ?_)
          · have hh := of_decide_eq_true hh
            exact Tot.ret (.inl ⟨rfl, by rw [hrd, if_pos (by omega)]⟩)
          · have hh := of_decide_eq_false hh
            exact Tot.bind0 h0 (Tot.ret (.inr ⟨c, 1, rfl, by rw [hrd, if_neg (by omega)]; rfl, by simp⟩))
    · cases p with
      | nil => rfl
      | cons c t =>
        cases t with
        | nil => rfl
        | cons d r =>
          have h : inC AL d = false := h
          simp only [rd, h, Bool.false_eq_true, if_false]; rfl
  rcases hs with ⟨rfl, e⟩ | ⟨fill, a0, rfl, e, h0⟩
  · exact Tot.contr e.symm
  rw [e]
  refine Tot.contl ?_
  refine Tot.bindq (taken_tot AL_ok hp hpz h0) fun r1 ⟨a1, e1, d1, l1⟩ => ?_
  subst e1
  refine Tot.bindq (taken_tot SG_ok hp hpz l1) fun r1 ⟨a2, e1, d2, l2⟩ => ?_
  subst e1
  refine Tot.bindq (taken_tot BA_ok hp hpz l2) fun r1 ⟨a3, e1, d3, l3⟩ => ?_
  subst e1
  refine Tot.bindq (taken_tot ZE_ok hp hpz l3) fun r1 ⟨a4, e1, d4, l4⟩ => ?_
  subst e1
  refine Tot.bindq (isAt_tot NZ_ok hp a4) fun rn hn => ?_
  subst hn
  refine Tot.bindq (P := fun x : Int × Sp => ∃ a5 : Nat, x = ((a5 : Int), ((fill, ((tk AL (p.drop a0)).1 : Int), ((tk SG (p.drop a1)).1 : Int), (((tk BA (p.drop a2)).1 : Int) != 0), (((tk ZE (p.drop a3)).1 : Int) != 0), (wd (p.drop a4)).1, 0, false, 0, 0) : Sp)) ∧ p.drop a5 = (wd (p.drop a4)).2 ∧ a5 ≤ p.length) ?_ fun x ⟨a5, ex, d5, l5⟩ => ?_
  · rw [wd_eq]
    have happ := twN_dwN (p.drop a4)
    have hlen : (twN (p.drop a4)).length + (dwN (p.drop a4)).length = p.length - a4 := by rw [← List.length_append, happ, List.length_drop]
    refine Tot.ite (fun h => ?_) (fun h => ?_)
    · rw [if_pos h]
      refine Tot.bindq (digitsAt_tot hpz l4) fun r hr => ?_
      subst hr
      refine Tot.ret ⟨a4 + (twN (p.drop a4)).length, ?_, ?_, by omega⟩
      · rw [i64_small (by omega) (by omega)]; rfl
      · rw [← List.drop_drop]
        exact drop_tw _
    · rw [if_neg (by rw [h]; decide)]
      exact Tot.ret ⟨a4, rfl, rfl, l4⟩
  subst ex
  refine Tot.bindq (taken_tot GR_ok hp hpz l5) fun r1 ⟨a6, e1, d6, l6⟩ => ?_
  subst e1
  refine Tot.bindq (taken_tot PT_ok hp hpz l6) fun r1 ⟨a7, e1, d7, l7⟩ => ?_
  subst e1
  have hrdP : rdP fill (p.drop a0) = if (tk TY (prc (tk PT (p.drop a6))).2.2).2 ≠ [] ∨ (prc (tk PT (p.drop a6))).2.1 < 0 then (zS, (1, -1)) else if (wd (p.drop a4)).1 > 400 ∨ (prc (tk PT (p.drop a6))).2.1 > 400 then (zS, (4, -1)) else
      (((fill, ((tk AL (p.drop a0)).1 : Int), ((tk SG (p.drop a1)).1 : Int), (((tk BA (p.drop a2)).1 : Int) != 0), (((tk ZE (p.drop a3)).1 : Int) != 0), (wd (p.drop a4)).1, ((tk GR (p.drop a5)).1 : Int), (prc (tk PT (p.drop a6))).1, (prc (tk PT (p.drop a6))).2.1, ((tk TY (prc (tk PT (p.drop a6))).2.2).1 : Int)) : Sp), (0, 0)) := by
    rw [d6, d5, d4, d3, d2, d1]; rfl
  rw [hrdP]
  refine Tot.bindq (P := fun x => (x = .inr (zS, ((1 : Int), (-1 : Int))) ∧ ((tk TY (prc (tk PT (p.drop a6))).2.2).2 ≠ [] ∨ (prc (tk PT (p.drop a6))).2.1 < 0)) ∨ ∃ a8 : Nat, x = .inl ((a8 : Int), zS, ((0 : Int), (0 : Int)), ((fill, ((tk AL (p.drop a0)).1 : Int), ((tk SG (p.drop a1)).1 : Int), (((tk BA (p.drop a2)).1 : Int) != 0), (((tk ZE (p.drop a3)).1 : Int) != 0), (wd (p.drop a4)).1, ((tk GR (p.drop a5)).1 : Int), (prc (tk PT (p.drop a6))).1, (prc (tk PT (p.drop a6))).2.1, 0) : Sp)) ∧
      p.drop a8 = (prc (tk PT (p.drop a6))).2.2 ∧ a8 ≤ p.length ∧ 0 ≤ (prc (tk PT (p.drop a6))).2.1) ?_ fun x hx => ?_
  · unfold prc
    rw [← d7]
    refine Tot.ite (fun h => ?_) (fun h => ?_)
    · have h : (((tk PT (p.drop a6)).1 : Int) != 0) = true := h
      rw [if_pos h]
      have happ := twN_dwN (p.drop a7)
      have hlen : (twN (p.drop a7)).length + (dwN (p.drop a7)).length = p.length - a7 := by rw [← List.length_append, happ, List.length_drop]
      refine Tot.bindq (digitsAt_tot hpz l7) fun r hr => ?_
      subst hr
      refine Tot.bindq (P := (· = badP (p.drop a7))) ?_ fun j hj => ?_
      · unfold badP
        refine Tot.ite (fun h => Tot.ret ?_) (fun h => ?_)
        · have : (twN (p.drop a7)).length = 0 := by have := eq_of_beq h; omega
          rw [decide_eq_true (List.eq_nil_of_length_eq_zero this)]; rfl
        · have hne : (twN (p.drop a7)).length ≠ 0 := fun e => by rw [e] at h; cases h
          have h0 : decide (twN (p.drop a7) = []) = false := decide_eq_false fun e => hne (by rw [e]; rfl)
          rw [h0, Bool.false_or]
          refine Tot.ite (fun h2 => ?_) (fun h2 => Tot.ret ?_)
          · have h2 : 1 < (twN (p.drop a7)).length := by have := of_decide_eq_true h2; omega
            have hlt : a7 < p.length := by omega
            refine Tot.bind0 (ints_get hlt) (Tot.ret ?_)
            rw [decide_eq_true h2, drop_head hlt, Bool.true_and, List.headD_cons, Bool.eq_iff_iff, beq_iff_eq, beq_iff_eq]; omega
          · have h2 : ¬ 1 < (twN (p.drop a7)).length := by have := of_decide_eq_false h2; omega
            rw [decide_eq_false h2]; rfl
      subst hj
      refine Tot.ite (fun hb => ?_) (fun hb => ?_)
      · refine Tot.ret (.inl ⟨rfl, ?_⟩)
        rcases nb_bad hb with hh | hh
        · exact .inr hh
        · exact .inl hh
      · refine Tot.ret (.inr ⟨a7 + (twN (p.drop a7)).length, ?_, ?_, by omega, ?_⟩)
        · rw [nb_of hb, i64_small (by omega) (by omega)]; rfl
        · rw [nb_of hb, ← List.drop_drop]
          exact drop_tw _
        · rw [nb_of hb]; show (0 : Int) ≤ ((_ : Nat) : Int); omega
    · have h : (((tk PT (p.drop a6)).1 : Int) != 0) = false := h
      rw [if_neg (by rw [h]; decide)]
      exact Tot.ret (.inr ⟨a7, rfl, rfl, l7, Int.le_refl 0⟩)
  rcases hx with ⟨rfl, hb⟩ | ⟨a8, rfl, d8, l8, hpos⟩
  · rw [if_pos hb]; exact Tot.contr rfl
  refine Tot.contl ?_
  rw [← d8]
  refine Tot.bindq (taken_tot TY_ok hp hpz l8) fun r1 ⟨a9, e1, d9, l9⟩ => ?_
  subst e1
  refine Tot.some_bind ?_
  rw [ints_len, ← d9]
  refine Tot.ite (fun h => ?_) (fun h => ?_)
  · have h : a9 < p.length := by have := of_decide_eq_true h; omega
    rw [if_pos (.inl (by rw [drop_head h]; exact List.cons_ne_nil _ _))]
    exact Tot.ret rfl
  have h : ¬ a9 < p.length := by have := of_decide_eq_false h; omega
  have hno : ¬ (p.drop a9 ≠ [] ∨ (prc (tk PT (p.drop a6))).2.1 < 0) := by
    rw [List.drop_of_length_le (by omega)]
    rintro (h | h)
    · exact h rfl
    · omega
  rw [if_neg hno]
  refine Tot.bindq (P := (· = decide ((wd (p.drop a4)).1 > 400 ∨ (prc (tk PT (p.drop a6))).2.1 > 400))) ?_ fun j hj => ?_
  · refine Tot.ite (fun h => Tot.ret (decide_eq_true (.inl (of_decide_eq_true h))).symm) (fun h => Tot.some_bind (Tot.ret ?_))
    have h := of_decide_eq_false h
    exact decide_eq_decide.2 ⟨fun hh => .inr hh, fun hh => hh.elim (fun hh => absurd hh h) id⟩
  subst hj
  refine Tot.ite (fun h => ?_) (fun h => ?_)
  · rw [if_pos (of_decide_eq_true h)]
    exact Tot.some_bind (Tot.ret rfl)
  · rw [if_neg (of_decide_eq_false h)]
    exact Tot.ret rfl
end Go.Gv.P

