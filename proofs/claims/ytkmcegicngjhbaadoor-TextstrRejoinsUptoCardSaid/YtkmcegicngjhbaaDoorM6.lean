import Derived.Test.YtkmcegicngjhbaaDoorU6
import Derived.Lib.Replace
set_option linter.all false
namespace Go.Gv.R
open Go Go.Gv Go.Gv.D Go.Lib

theorem nat8' {n : Nat} (h : n < 256) : (UInt8.ofNat n).toNat = n := by rw [UInt8.toNat_ofNat', Nat.mod_eq_of_lt (by omega)]
/-! ### a scalar within a text of scalars -/
/-- a byte in the middle of a scalar -/
def mid (x : UInt8) : Prop := x.toNat / 64 = 2
theorem lead_not_mid {r : Nat} (h : Scal r) : ∃ x t, encR r = x :: t ∧ ¬ mid x ∧ ∀ y ∈ t, mid y := by
  have hm : ∀ n : Nat, mid (UInt8.ofNat (128 + n % 64)) := fun n => by
    unfold mid
    rw [UInt8.toNat_ofNat', Nat.mod_eq_of_lt (by omega)]; omega
  unfold Scal at h
  rcases (by omega : r ≤ 127 ∨ (128 ≤ r ∧ r ≤ 2047) ∨ (2048 ≤ r ∧ r ≤ 65535) ∨ 65536 ≤ r) with c | c | c | c
  · rw [encR1 c]
    exact ⟨_, _, rfl, by unfold mid; rw [nat8' (by omega)]; omega, by simp⟩
  · rw [encR2 c.1 c.2]
    exact ⟨_, _, rfl, by unfold mid; rw [nat8' (by omega)]; omega, by simpa using hm r⟩
  · rw [encR3 c.1 c.2 (by unfold Scal; omega)]
    refine ⟨_, _, rfl, by unfold mid; rw [nat8' (by omega)]; omega, ?_⟩
    intro y hy
    simp only [List.mem_cons, List.not_mem_nil, or_false] at hy
    rcases hy with e | e <;> rw [e] <;> exact hm _
  · rw [encR4 c (by omega)]
    refine ⟨_, _, rfl, by unfold mid; rw [nat8' (by omega)]; omega, ?_⟩
    intro y hy
    simp only [List.mem_cons, List.not_mem_nil, or_false] at hy
    rcases hy with e | e | e <;> rw [e] <;> exact hm _
theorem enc_prefix : ∀ {s p : List Nat} {t : List UInt8}, (∀ r ∈ s, Scal r) → (∀ r ∈ p, Scal r) → enc p = enc s ++ t → ∃ b, p = s ++ b
  | [], p, _, _, _, _ => ⟨p, rfl⟩
  | q :: s, [], t, _, _, e => by
    have := congrArg List.length e
    rw [enc_cons, List.length_append, List.length_append] at this
    have h := encR_pos q
    have h0 : (enc []).length = 0 := rfl
    omega
  | q :: s, r :: p, t, hs, hp, e => by
    have h1 := decode_enc r (hp r (by simp)) (enc p)
    have h2 := decode_enc q (hs q (by simp)) (enc s ++ t)
    rw [enc_cons, enc_cons, List.append_assoc] at e
    rw [e, h2] at h1
    have e1 := (Prod.mk.inj h1).1
    subst e1
    obtain ⟨b, hb⟩ := enc_prefix (fun x hx => hs x (by simp [hx])) (fun x hx => hp x (by simp [hx])) (List.append_cancel_left e)
    exact ⟨b, by rw [hb]; rfl⟩
/-- AN INSTANCE OF A TEXT IN A TEXT STANDS AT A SCALAR'S BORDER. -/
theorem occ_enc {s : List Nat} (hne : s ≠ []) (hs : ∀ r ∈ s, Scal r) : ∀ (p : List Nat) (j : Nat), (∀ r ∈ p, Scal r) → occAt (enc p) (enc s) j = true → ∃ a b, p = a ++ s ++ b ∧ j = (enc a).length
  | [], j, _, h => by
    exfalso
    obtain ⟨q, s', rfl⟩ := List.exists_cons_of_ne_nil hne
    unfold occAt at h
    have := (List.isPrefixOf_iff_prefix.1 h).length_le
    have hq := encR_pos q
    rw [enc_cons, List.length_append] at this
    have h0 : ((enc []).drop j).length = 0 := by simp [enc]
    omega
  | r :: p, j, hp, h => by
    have hr := hp r (by simp)
    by_cases hj : j < (encR r).length
    · by_cases j0 : j = 0
      · subst j0
        unfold occAt at h
        obtain ⟨t, ht⟩ := List.isPrefixOf_iff_prefix.1 h
        rw [List.drop_zero] at ht
        obtain ⟨b, hb⟩ := enc_prefix hs hp ht.symm
        exact ⟨[], b, by rw [hb]; rfl, rfl⟩
      · exfalso
        obtain ⟨q, s', rfl⟩ := List.exists_cons_of_ne_nil hne
        obtain ⟨x, t, hx, hm, _⟩ := lead_not_mid (hs q (by simp))
        obtain ⟨y, u, hy, _, hmid⟩ := lead_not_mid hr
        unfold occAt at h
        obtain ⟨v, hv⟩ := List.isPrefixOf_iff_prefix.1 h
        rw [enc_cons, enc_cons, hx, hy] at hv
        obtain ⟨k, rfl⟩ : ∃ k, j = k + 1 := ⟨j - 1, by omega⟩
        rw [hy, List.length_cons] at hj
        have hk : k < u.length := by omega
        rw [List.cons_append («as» := u), List.drop_succ_cons, List.drop_append_of_le_length (by omega), List.drop_eq_getElem_cons hk] at hv
        simp only [List.cons_append, List.cons.injEq] at hv
        exact hm (by rw [hv.1]; exact hmid _ (List.getElem_mem hk))
    · have e : occAt (enc p) (enc s) (j - (encR r).length) = true := by
        unfold occAt at h ⊢
        rw [enc_cons, List.drop_append, List.drop_of_length_le (by omega), List.nil_append] at h
        exact h
      obtain ⟨a, b, h1, h2⟩ := occ_enc hne hs p _ (fun x hx => hp x (by simp [hx])) e
      exact ⟨r :: a, b, by rw [h1]; rfl, by rw [enc_cons, List.length_append]; omega⟩
theorem occ_at {s a b : List Nat} : occAt (enc (a ++ s ++ b)) (enc s) (enc a).length = true := by
  unfold occAt
  rw [enc_app, enc_app, List.append_assoc, List.drop_left]
  exact List.isPrefixOf_iff_prefix.2 ⟨_, rfl⟩
theorem index_enc_none {s p : List Nat} (hne : s ≠ []) (hs : ∀ r ∈ s, Scal r) (hp : ∀ r ∈ p, Scal r) (h : ¬ ∃ a b, p = a ++ s ++ b) : Lib.index (enc p) (enc s) = -1 :=
  index_none fun j _ => Bool.eq_false_iff.2 fun e => by
    obtain ⟨a, b, h1, _⟩ := occ_enc hne hs p j hp e
    exact h ⟨a, b, h1⟩
/-- THE FIRST INSTANCE. -/
theorem index_enc_some {s a b : List Nat} (hne : s ≠ []) (hs : ∀ r ∈ s, Scal r) (hp : ∀ r ∈ a ++ s ++ b, Scal r) (h : ∀ a' b', a ++ s ++ b = a' ++ s ++ b' → a.length ≤ a'.length) : Lib.index (enc (a ++ s ++ b)) (enc s) = ((enc a).length : Int) := by
  refine index_first (by rw [enc_app, enc_app, List.length_append, List.length_append]; omega) occ_at fun j hj => Bool.eq_false_iff.2 fun e => ?_
  obtain ⟨a', b', h1, h2⟩ := occ_enc hne hs _ j hp e
  have h3 := h a' b' h1
  have ha : a = a'.take a.length := by
    have := congrArg (List.take a.length) h1
    rw [List.append_assoc, List.take_left, List.append_assoc, List.take_append_of_le_length h3] at this
    exact this
  have : (enc a).length ≤ (enc a').length := by
    rw [ha]
    conv => rhs; rw [← List.take_append_drop a.length a']
    rw [enc_app, List.length_append]; omega
  omega

/-! ### one scalar taken out -/
theorem enc_one (q : Nat) : enc [q] = encR q := by simp [enc]
theorem split_at {q : Nat} : ∀ {p : List Nat}, q ∈ p → ∃ a b, p = a ++ q :: b ∧ q ∉ a
  | r :: p, h => by
    by_cases e : q = r
    · subst e; exact ⟨[], p, rfl, by simp⟩
    · have h' : q ∈ p := by
        rcases List.mem_cons.1 h with h | h
        · exact absurd h e
        · exact h
      obtain ⟨a, b, h1, h2⟩ := split_at h'
      refine ⟨r :: a, b, by rw [h1]; rfl, fun hm => ?_⟩
      rcases List.mem_cons.1 hm with h | h
      · exact e h
      · exact h2 h
theorem index_one_none {q : Nat} {p : List Nat} (hq : Scal q) (hp : ∀ r ∈ p, Scal r) (h : q ∉ p) : Lib.index (enc p) (encR q) = -1 := by
  rw [← enc_one]
  exact index_enc_none (by simp) (by simpa using hq) hp fun ⟨a, b, e⟩ => h (by rw [e]; simp)
theorem index_one_some {q : Nat} {a b : List Nat} (hq : Scal q) (hp : ∀ r ∈ a ++ q :: b, Scal r) (h : q ∉ a) : Lib.index (enc (a ++ q :: b)) (encR q) = ((enc a).length : Int) := by
  have e : a ++ q :: b = a ++ [q] ++ b := by simp
  rw [← enc_one, e]
  refine index_enc_some (by simp) (by simpa using hq) (by rw [← e]; exact hp) fun a' b' h' => Nat.le_of_not_lt fun hl => h ?_
  have h1 := congrArg (·[a'.length]?) h'
  simp only [List.append_assoc] at h1
  rw [List.getElem?_append_left hl, List.getElem?_append_right (Nat.le_refl _), Nat.sub_self] at h1
  have h2 : a[a'.length]? = some q := by rw [h1]; rfl
  exact List.mem_of_getElem? h2
theorem filter_out {q : Nat} {p : List Nat} (h : q ∉ p) : p.filter (· ≠ q) = p := List.filter_eq_self.2 fun x hx => by
  rw [decide_eq_true_eq]
  exact fun e => h (e ▸ hx)
theorem replaceK_enc {q : Nat} (hq : Scal q) : ∀ (k : Nat) (p : List Nat), (∀ r ∈ p, Scal r) → p.count q ≤ k → Lib.replaceK (encR q) [] k (enc p) = enc (p.filter (· ≠ q))
  | 0, p, hp, h => by
    have : q ∉ p := fun hm => by have := List.count_pos_iff.2 hm; omega
    rw [filter_out this]
    rfl
  | k + 1, p, hp, h => by
    by_cases hm : q ∈ p
    · obtain ⟨a, b, rfl, ha⟩ := split_at hm
      have hi := index_one_some hq hp ha
      rw [Lib.replaceK_hit _ _ _ _ _ hi, List.append_nil]
      have e1 : (enc (a ++ q :: b)).take (enc a).length = enc a := by rw [enc_app, List.take_left]
      have e2 : (enc (a ++ q :: b)).drop ((enc a).length + (encR q).length) = enc b := by
        rw [enc_app, enc_cons, ← List.append_assoc, ← List.length_append, List.drop_left]
      have hc : b.count q ≤ k := by
        rw [List.count_append, List.count_cons_self] at h; omega
      rw [e1, e2, replaceK_enc hq k b (fun x hx => hp x (by simp [hx])) hc, ← enc_app, List.filter_append, List.filter_cons_of_neg (by simp)]
      rw [filter_out ha]
    · have hi := index_one_none hq hp hm
      unfold Lib.replaceK
      rw [hi, filter_out hm]
      rfl
theorem countFrom_enc {q : Nat} (hq : Scal q) : ∀ (k : Nat) (p : List Nat), (∀ r ∈ p, Scal r) → p.length < k → Lib.countFrom (encR q) k (enc p) = p.count q
  | 0, p, _, h => by omega
  | k + 1, p, hp, h => by
    unfold Lib.countFrom
    by_cases hm : q ∈ p
    · obtain ⟨a, b, rfl, ha⟩ := split_at hm
      have hi := index_one_some hq hp ha
      have e2 : (enc (a ++ q :: b)).drop ((enc a).length + (encR q).length) = enc b := by
        rw [enc_app, enc_cons, ← List.append_assoc, ← List.length_append, List.drop_left]
      rw [hi, if_neg (by rw [beq_eq_false_iff_ne.2 (by omega)]; simp), Int.toNat_natCast, e2]
      rw [List.length_append, List.length_cons] at h
      rw [countFrom_enc hq k b (fun x hx => hp x (by simp [hx])) (by omega), List.count_append, List.count_cons_self, List.count_eq_zero_of_not_mem ha]
      omega
    · rw [index_one_none hq hp hm, if_pos (show ((-1 : Int) == -1) = true from rfl), List.count_eq_zero_of_not_mem hm]
theorem count_enc {q : Nat} (hq : Scal q) {p : List Nat} (hp : ∀ r ∈ p, Scal r) : Lib.count (enc p) (encR q) = p.count q := by
  have := enc_len_ge p
  exact countFrom_enc hq _ p hp (by omega)
theorem replace_enc {q : Nat} (hq : Scal q) {p : List Nat} (hp : ∀ r ∈ p, Scal r) : Lib.replace (enc p) (encR q) [] ((p.count q : Nat) : Int) = enc (p.filter (· ≠ q)) := by
  unfold Lib.replace
  have hn : (encR q == ([] : List UInt8)) = false := beq_eq_false_iff_ne.2 fun e => by
    have := encR_pos q
    rw [e] at this; simp at this
  rw [hn]
  have e : Lib.replaceNum (enc p) (encR q) ((p.count q : Nat) : Int) = p.count q := by
    unfold Lib.replaceNum
    rw [count_enc hq hp]
    split <;> omega
  rw [e]
  exact replaceK_enc hq _ p hp (Nat.le_refl _)
end Go.Gv.R
