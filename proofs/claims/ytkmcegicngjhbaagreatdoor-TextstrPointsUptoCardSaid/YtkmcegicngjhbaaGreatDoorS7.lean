import Derived.Test.YtkmcegicngjhbaaGreatDoorS4
set_option linter.all false
namespace Go.Gv.R
open Go Go.Gv Go.Gv.D Go.Lib Go.Gv.RI

theorem textPoints_tot {s : ByteArray} (hs : s.size ≤ 1048576) : Tot (fun n => textstr_Points n s) (fun r => if okS s = true then ∀ p, (∀ x ∈ p, Scal x) → s = strOf (enc p) → r = (ints p, (0, 0)) else r = ([], (6, -1))) := by
  unfold textstr_Points
  refine Tot.bindq (tcheck_tot (by simp) (by simpa using hs)) fun r hr => ?_
  subst hr
  by_cases h : okS s = true
  · rw [fault_ok h]
    refine Tot.mono (Q := fun r => ∀ p, (∀ x ∈ p, Scal x) → s = strOf (enc p) → r = (ints p, (0, 0))) ?_ (fun r hr => by rw [if_pos h]; exact hr)
    refine Tot.if_ rfl ?_
    obtain ⟨p, hp, e, hl⟩ := okS_text h
    subst e
    simp only [size_str]
    have hpl := enc_len_ge p
    refine Tot.mono (Q := fun r => r = (ints p, (0, 0))) ?_ (fun r hr q hq e2 => by rw [← str_enc_inj hp hq e2]; exact hr)
    refine Tot.bindq (P := fun j => j = ints p) ?_ fun j hj => Tot.ret (by rw [hj])
    refine Tot.loop (fun st => ∃ a b, p = a ++ b ∧ st = (ints a, (enc a).length)) (fun st => (enc p).length + 1 - st.2) ⟨[], p, rfl, rfl⟩ fun st ⟨a, b, e, hst⟩ => ?_
    subst hst
    dsimp only
    cases b with
    | nil =>
      rw [List.append_nil] at e; subst e
      exact Tot.if_ (decide_eq_false (by omega)) (Tot.ret rfl)
    | cons c b =>
      have hc : Scal c := hp c (by rw [e]; simp)
      have hlen : (enc p).length = (enc a).length + (encR c).length + (enc b).length := by rw [e, enc_app, enc_cons, List.length_append, List.length_append]; omega
      have hcp := encR_pos c
      have hal : a.length + (b.length + 1) = p.length := by rw [e, List.length_append, List.length_cons]
      refine Tot.it (decide_eq_true (by omega)) ?_
      obtain ⟨hr1, hr2⟩ := rune_at (s := strOf (enc p)) (p := a) (t := b) hc (by rw [bytes_str, e])
      have hcs := scal_i32 hc
      rw [hr1, hr2, iw (n := c) rfl (by omega)]
      refine Tot.bind0 (app_ok (by rw [ints_len]; simp; omega)) (Tot.ret ⟨⟨a ++ [c], b, by rw [e]; simp, ?_⟩, by dsimp only; omega⟩)
      rw [ints_app, enc_snoc, List.length_append]; rfl
  · have h : okS s = false := by cases hh : okS s <;> simp_all
    rw [fault_bad h]
    exact Tot.it rfl (Tot.ret (by rw [if_neg (by rw [h]; simp)]))

/-! texts of numbers -/
def SI (x : Int) : Prop := 0 ≤ x ∧ Scal x.toNat
instance (c : Nat) : Decidable (Scal c) := by unfold Scal; infer_instance
instance (x : Int) : Decidable (SI x) := by unfold SI; infer_instance
def vf : List Int → Nat → Nat → Int × Int
  | [], _, _ => (0, 0)
  | x :: l, k, sz => if SI x then (if 4000 < sz + (encR x.toNat).length then (3, (k : Int)) else vf l (k + 1) (sz + (encR x.toNat).length)) else (4, (k : Int))
theorem Scalar_tot (x : Int) : Tot (fun n => ref4_Scalar n x) (fun r => r = decide (SI x)) := by
  unfold ref4_Scalar
  refine Tot.ret ?_
  have hS : SI x ↔ (0 ≤ x ∧ (x < 55296 ∨ (57343 < x ∧ x ≤ 1114111))) := by unfold SI Scal; omega
  rw [show decide (SI x) = decide (0 ≤ x ∧ (x < 55296 ∨ (57343 < x ∧ x ≤ 1114111))) from decide_eq_decide.2 hS]
  by_cases h1 : 0 ≤ x <;> by_cases h2 : x < 55296 <;> by_cases h3 : 57343 < x <;> by_cases h4 : x ≤ 1114111 <;> simp [h1, h2, h3, h4] <;> omega
theorem ValidRune_tot {c : Nat} (hc : c ≤ 1114111) : Tot (fun n => utf8_ValidRune n (c : Int)) (fun r => r = decide (Scal c)) := by
  have hS : Scal c ↔ (c < 55296 ∨ (57343 < c ∧ c ≤ 1114111)) := Iff.rfl
  rw [show (fun r => r = decide (Scal c)) = (fun r => r = decide (c < 55296 ∨ (57343 < c ∧ c ≤ 1114111))) from funext fun r => by rw [decide_eq_decide.2 hS]]
  unfold utf8_ValidRune
  refine Tot.ite (fun g => Tot.ret ?_) fun g => ?_
  · rw [Bool.and_eq_true] at g
    have := of_decide_eq_true g.2
    exact (decide_eq_true (by omega)).symm
  have g1 : ¬ c < 55296 := fun h => by rw [decide_eq_true (by omega), decide_eq_true (by omega)] at g; cases g
  refine Tot.ite (fun g => Tot.ret ?_) fun g => Tot.ret ?_
  · rw [Bool.and_eq_true] at g
    have h1 := of_decide_eq_true g.1
    have h2 := of_decide_eq_true g.2
    exact (decide_eq_true (by omega)).symm
  · have g2 : ¬ (57343 < c ∧ c ≤ 1114111) := fun h => by rw [decide_eq_true (by omega), decide_eq_true (by omega)] at g; cases g
    exact (decide_eq_false (by omega)).symm
theorem isS (c : Nat) : SI (c : Int) ↔ Scal c := by unfold SI; rw [Int.toNat_natCast]; exact ⟨fun h => h.2, fun h => ⟨by omega, h⟩⟩
theorem ints_snoc (a : List Nat) (c : Nat) : ints (a ++ [c]) = ints a ++ [(c : Int)] := by rw [ints_app]; rfl
theorem mid_get (a : List Nat) (x : Int) (b : List Int) : idx (ints a ++ x :: b) (a.length : Int) = some x := get_mid (ints a) x b (by rw [ints_len])
theorem From_tot {l : List Int} (hl : l.length ≤ 1048576) : Tot (fun n => textstr_From n l) (fun r => ((vf l 0 0).1 ≠ 0 → r = (strOf [], vf l 0 0)) ∧ ((vf l 0 0).1 = 0 → ∃ p, (∀ x ∈ p, Scal x) ∧ l = ints p ∧ (enc p).length ≤ 4000 ∧ vf l 0 0 = (0, 0) ∧ r = (strOf (enc p), (0, 0)))) := by
  unfold textstr_From
  refine Tot.bindq (P := fun j => ((vf l 0 0).1 ≠ 0 → j = .inr (strOf [], vf l 0 0)) ∧ ((vf l 0 0).1 = 0 → ∃ p, (∀ x ∈ p, Scal x) ∧ l = ints p ∧ (enc p).length ≤ 4000 ∧ vf l 0 0 = (0, 0) ∧ j = .inl (enc p, (0, 0)))) ?_ fun j hj => ?_
  · refine Tot.loop (fun st => ∃ a b, (∀ x ∈ a, Scal x) ∧ l = ints a ++ b ∧ (enc a).length ≤ 4000 ∧ vf l 0 0 = vf b a.length (enc a).length ∧ st = (enc a, (a.length : Int), (0, 0))) (fun st => l.length + 1 - st.2.1.toNat) ⟨[], l, by simp, rfl, by simp [enc], rfl, rfl⟩ fun st ⟨a, b, ha, e, hla, hv, hst⟩ => ?_
    subst hst
    dsimp only
    cases b with
    | nil =>
      rw [List.append_nil] at e; subst e
      refine Tot.if_ (decide_eq_false (by rw [ints_len]; omega)) (Tot.ret ⟨fun h => ?_, fun _ => ⟨a, ha, rfl, hla, hv, rfl⟩⟩)
      rw [hv] at h; exact absurd rfl h
    | cons x b =>
      have hlen : l.length = a.length + (b.length + 1) := by rw [e, List.length_append, ints_len, List.length_cons]
      refine Tot.it (decide_eq_true (by omega)) (Tot.bind0 (by rw [e]; exact mid_get a x b) ?_)
      refine Tot.bindq (P := fun j => j = !decide (SI x)) ?_ fun j hj => ?_
      · refine Tot.ite (fun g => Tot.ret ?_) fun g => Tot.ite (fun g2 => Tot.ret ?_) fun g2 => ?_
        · have g := of_decide_eq_true g
          rw [decide_eq_false (fun h => by have := h.1; omega)]; rfl
        · have g2 := of_decide_eq_true g2
          rw [decide_eq_false (fun h => by have := scal_i32 h.2; omega)]; rfl
        · have g := of_decide_eq_false g
          have g2 := of_decide_eq_false g2
          obtain ⟨c, rfl⟩ : ∃ n : Nat, x = n := ⟨x.toNat, by omega⟩
          rw [i32_small (by omega) (by omega)]
          refine Tot.bindq (ValidRune_tot (by omega)) fun r hr => Tot.ret ?_
          rw [hr, decide_eq_decide.2 (isS c)]
      subst hj
      by_cases h : SI x
      · obtain ⟨c, rfl⟩ : ∃ n : Nat, x = n := ⟨x.toNat, by have := h.1; omega⟩
        have hc := (isS c).1 h
        have hcs := scal_i32 hc
        have hcp := encR_pos c
        rw [decide_eq_true h]
        refine Tot.if_ rfl ?_
        rw [i32_small (by omega) (by omega)]
        refine Tot.bindq (AppendRune_tot (by omega) (by omega) (by omega)) fun r hr => ?_
        have hr : r = enc (a ++ [c]) := by rw [hr, enc_snoc]; rfl
        subst hr
        have hlr : (enc (a ++ [c])).length = (enc a).length + (encR c).length := by rw [enc_snoc, List.length_append]
        have hvv : vf ((c : Int) :: b) a.length (enc a).length = if 4000 < (enc a).length + (encR c).length then (3, (a.length : Int)) else vf b (a.length + 1) ((enc a).length + (encR c).length) := by
          show (if SI (c : Int) then _ else _) = _
          rw [if_pos h, Int.toNat_natCast]
        rw [hvv] at hv
        refine Tot.ite (fun g => ?_) fun g => ?_
        · have g := of_decide_eq_true g
          rw [if_pos (by omega)] at hv
          refine Tot.bindq (tat_tot _ _) fun r hr => Tot.ret ⟨fun _ => by rw [hr, hv], fun h => ?_⟩
          rw [hv] at h; cases h
        · have g := of_decide_eq_false g
          rw [if_neg (by omega)] at hv
          refine Tot.ret ⟨⟨a ++ [c], b, ?_, by rw [e, ints_snoc]; simp, by omega, by rw [hv, List.length_append, List.length_singleton, hlr], ?_⟩, ?_⟩
          · intro y hy
            rcases List.mem_append.1 hy with hy | hy
            · exact ha y hy
            · rw [List.mem_singleton.1 hy]; exact hc
          · rw [iw (n := a.length + 1) (by omega) (by omega), List.length_append]; rfl
          · dsimp only; rw [iw (n := a.length + 1) (by omega) (by omega)]; omega
      · rw [decide_eq_false h]
        have hvv : vf (x :: b) a.length (enc a).length = (4, (a.length : Int)) := by
          show (if SI x then _ else _) = _
          rw [if_neg h]
        rw [hvv] at hv
        refine Tot.it rfl (Tot.bindq (tat_tot _ _) fun r hr => Tot.ret ⟨fun _ => by rw [hr, hv], fun h => ?_⟩)
        rw [hv] at h; cases h
  · by_cases h : (vf l 0 0).1 = 0
    · obtain ⟨p, hp, e, hl, hv, ej⟩ := hj.2 h
      subst ej
      exact Tot.contl (Tot.ret ⟨fun h2 => absurd h h2, fun _ => ⟨p, hp, e, hl, hv, rfl⟩⟩)
    · have ej := hj.1 h
      subst ej
      exact Tot.contr ⟨fun _ => rfl, fun h2 => absurd h2 h⟩
end Go.Gv.R

