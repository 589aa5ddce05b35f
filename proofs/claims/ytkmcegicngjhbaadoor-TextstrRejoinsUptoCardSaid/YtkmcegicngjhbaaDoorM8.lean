import Derived.Test.YtkmcegicngjhbaaDoorM7
import Derived.Test.YtkmcegicngjhbaaDoorM6
set_option linter.all false
namespace Go.Gv.R
open Go Go.Gv Go.Gv.D Go.Lib

/-! first occurrences -/
def firstOcc (q : List Nat) : List Nat → Option Nat
  | [] => if q = [] then some 0 else none
  | c :: p => if q.isPrefixOf (c :: p) = true then some 0 else (firstOcc q p).map (· + 1)
theorem prefix_split {q p : List Nat} (h : q.isPrefixOf p = true) : ∃ b, p = q ++ b := by
  obtain ⟨b, hb⟩ := List.isPrefixOf_iff_prefix.1 h
  exact ⟨b, hb.symm⟩
theorem prefix_app (q b : List Nat) : q.isPrefixOf (q ++ b) = true := List.isPrefixOf_iff_prefix.2 ⟨b, rfl⟩
theorem firstOcc_none {q : List Nat} : ∀ {p : List Nat}, firstOcc q p = none → ¬ ∃ a b, p = a ++ q ++ b
  | [], h, ⟨a, b, e⟩ => by
    have e := e.symm
    simp only [List.append_eq_nil_iff] at e
    unfold firstOcc at h
    rw [if_pos e.1.2] at h; cases h
  | c :: p, h, ⟨a, b, e⟩ => by
    unfold firstOcc at h
    by_cases hp : q.isPrefixOf (c :: p) = true
    · rw [if_pos hp] at h; cases h
    · rw [if_neg hp] at h
      cases a with
      | nil => exact hp (by rw [e]; exact prefix_app q b)
      | cons x a =>
        rw [List.cons_append, List.cons_append] at e
        injection e with e1 e2
        have h' : firstOcc q p = none := by cases hf : firstOcc q p <;> rw [hf] at h <;> first | rfl | cases h
        exact firstOcc_none h' ⟨a, b, e2⟩
theorem firstOcc_some {q : List Nat} : ∀ {p : List Nat} {i : Nat}, firstOcc q p = some i → (∃ b, p = p.take i ++ q ++ b) ∧ i ≤ p.length ∧ ∀ a' b', p = a' ++ q ++ b' → i ≤ a'.length
  | [], i, h => by
    unfold firstOcc at h
    by_cases hq : q = []
    · rw [if_pos hq] at h; cases h
      exact ⟨⟨[], by simp [hq]⟩, Nat.le_refl _, fun _ _ _ => Nat.zero_le _⟩
    · rw [if_neg hq] at h; cases h
  | c :: p, i, h => by
    unfold firstOcc at h
    by_cases hp : q.isPrefixOf (c :: p) = true
    · rw [if_pos hp] at h; cases h
      obtain ⟨b, hb⟩ := prefix_split hp
      exact ⟨⟨b, by simpa using hb⟩, Nat.zero_le _, fun _ _ _ => Nat.zero_le _⟩
    · rw [if_neg hp] at h
      cases hf : firstOcc q p with
      | none => rw [hf] at h; cases h
      | some j =>
        rw [hf] at h; cases h
        obtain ⟨⟨b, hb⟩, hl, hm⟩ := firstOcc_some hf
        refine ⟨⟨b, ?_⟩, by simp; omega, fun a' b' e => ?_⟩
        · rw [List.take_succ_cons, List.cons_append, List.cons_append, ← hb]
        · cases a' with
          | nil => exact absurd (by rw [e]; exact prefix_app q b') hp
          | cons x a' =>
            rw [List.cons_append, List.cons_append] at e
            injection e with e1 e2
            have := hm a' b' e2
            simp; omega
theorem occ_parts {q p : List Nat} {i : Nat} (h : firstOcc q p = some i) : p = p.take i ++ q ++ p.drop (i + q.length) ∧ i + q.length ≤ p.length := by
  obtain ⟨⟨b, hb⟩, hl, _⟩ := firstOcc_some h
  have hlen : i + q.length + b.length = p.length := by
    have := congrArg List.length hb
    rw [List.length_append, List.length_append, List.length_take] at this; omega
  have hd : p.drop (i + q.length) = b := by
    rw [hb]
    have : (p.take i ++ q).length = i + q.length := by rw [List.length_append, List.length_take]; omega
    rw [← this, List.drop_left]
  exact ⟨by rw [hd]; exact hb, by omega⟩
theorem index_first {q p : List Nat} (hne : q ≠ []) (hq : ∀ r ∈ q, Scal r) (hp : ∀ r ∈ p, Scal r) : Lib.index (enc p) (enc q) = match firstOcc q p with | none => -1 | some i => ((enc (p.take i)).length : Int) := by
  cases hf : firstOcc q p with
  | none => exact index_enc_none hne hq hp (firstOcc_none hf)
  | some i =>
    obtain ⟨⟨b, hb⟩, hl, hm⟩ := firstOcc_some hf
    have hb' := hb
    have := index_enc_some (s := q) (a := p.take i) (b := b) hne hq (by rw [← hb]; exact hp) (fun a' b' e => by rw [List.length_take]; have := hm a' b' (hb.trans e); omega)
    rw [← hb] at this
    exact this

/-! the parts between occurrences, at most k of them cut off -/
def partsK (q : List Nat) : Nat → List Nat → List (List Nat)
  | 0, p => [p]
  | k + 1, p => match firstOcc q p with
    | none => [p]
    | some i => p.take i :: partsK q k (p.drop (i + q.length))
/-- where they are cut -/
def cutsK (q : List Nat) : Nat → List Nat → Nat → List Nat
  | 0, _, _ => []
  | k + 1, p, o => match firstOcc q p with
    | none => []
    | some i => (o + i) :: cutsK q k (p.drop (i + q.length)) (o + i + q.length)
theorem partsK_none {q p : List Nat} {k : Nat} (h : firstOcc q p = none) : partsK q k p = [p] := by
  cases k with
  | zero => rfl
  | succ k => unfold partsK; rw [h]
theorem cutsK_none {q p : List Nat} {k o : Nat} (h : firstOcc q p = none) : cutsK q k p o = [] := by
  cases k with
  | zero => rfl
  | succ k => unfold cutsK; rw [h]
theorem partsK_some {q p : List Nat} {k i : Nat} (h : firstOcc q p = some i) : partsK q (k + 1) p = p.take i :: partsK q k (p.drop (i + q.length)) := by
  show (match firstOcc q p with | none => [p] | some i => p.take i :: partsK q k (p.drop (i + q.length))) = _
  rw [h]
theorem cutsK_some {q p : List Nat} {k o i : Nat} (h : firstOcc q p = some i) : cutsK q (k + 1) p o = (o + i) :: cutsK q k (p.drop (i + q.length)) (o + i + q.length) := by
  show (match firstOcc q p with | none => [] | some i => (o + i) :: cutsK q k (p.drop (i + q.length)) (o + i + q.length)) = _
  rw [h]
theorem parts_len {q : List Nat} : ∀ (k : Nat) (p : List Nat) (o : Nat), (partsK q k p).length = (cutsK q k p o).length + 1
  | 0, _, _ => rfl
  | k + 1, p, o => by
    cases h : firstOcc q p with
    | none => rw [partsK_none h, cutsK_none h]; rfl
    | some i => rw [partsK_some h, cutsK_some h, List.length_cons, List.length_cons, parts_len k]
theorem cuts_le {q : List Nat} (hne : q ≠ []) : ∀ (k : Nat) (p : List Nat) (o : Nat), (cutsK q k p o).length ≤ k ∧ (cutsK q k p o).length ≤ p.length
  | 0, _, _ => ⟨Nat.le_refl _, Nat.zero_le _⟩
  | k + 1, p, o => by
    cases h : firstOcc q p with
    | none => rw [cutsK_none h]; exact ⟨Nat.zero_le _, Nat.zero_le _⟩
    | some i =>
      rw [cutsK_some h, List.length_cons]
      have := cuts_le hne k (p.drop (i + q.length)) (o + i + q.length)
      have h2 := (occ_parts h).2
      have h3 := List.length_pos_iff.2 hne
      rw [List.length_drop] at this
      omega
/-- more cuts than there are points change nothing -/
theorem parts_more {q : List Nat} (hne : q ≠ []) : ∀ (k p) (l : Nat), p.length ≤ k → k ≤ l → partsK q l p = partsK q k p
  | 0, p, l, h, _ => by
    have : p = [] := List.eq_nil_of_length_eq_zero (by omega)
    subst this
    have hf : firstOcc q [] = none := by unfold firstOcc; rw [if_neg hne]
    rw [partsK_none hf]; rfl
  | k + 1, p, l, h, hl => by
    obtain ⟨l, rfl⟩ : ∃ m, l = m + 1 := ⟨l - 1, by omega⟩
    cases hf : firstOcc q p with
    | none => rw [partsK_none hf, partsK_none hf]
    | some i =>
      have h2 := (occ_parts hf).2
      have h3 := List.length_pos_iff.2 hne
      rw [partsK_some hf, partsK_some hf, parts_more hne k _ l (by rw [List.length_drop]; omega) (by omega)]
theorem cuts_more {q : List Nat} (hne : q ≠ []) : ∀ (k p) (l o : Nat), p.length ≤ k → k ≤ l → cutsK q l p o = cutsK q k p o
  | 0, p, l, o, h, _ => by
    have : p = [] := List.eq_nil_of_length_eq_zero (by omega)
    subst this
    have hf : firstOcc q [] = none := by unfold firstOcc; rw [if_neg hne]
    rw [cutsK_none hf]; rfl
  | k + 1, p, l, o, h, hl => by
    obtain ⟨l, rfl⟩ : ∃ m, l = m + 1 := ⟨l - 1, by omega⟩
    cases hf : firstOcc q p with
    | none => rw [cutsK_none hf, cutsK_none hf]
    | some i =>
      have h2 := (occ_parts hf).2
      have h3 := List.length_pos_iff.2 hne
      rw [cutsK_some hf, cutsK_some hf, cuts_more hne k _ l _ (by rw [List.length_drop]; omega) (by omega)]
/-- the first cuts are the cuts of fewer -/
theorem cuts_take {q : List Nat} : ∀ (k m : Nat) (p : List Nat) (o : Nat), k ≤ m → (cutsK q m p o).take k = cutsK q k p o
  | 0, _, _, _, _ => by rw [List.take_zero]; rfl
  | k + 1, m, p, o, h => by
    obtain ⟨m, rfl⟩ : ∃ x, m = x + 1 := ⟨m - 1, by omega⟩
    cases hf : firstOcc q p with
    | none => rw [cutsK_none hf, cutsK_none hf]; rfl
    | some i => rw [cutsK_some hf, cutsK_some hf, List.take_succ_cons, cuts_take k m _ _ (by omega)]

theorem enc_first {q p : List Nat} {i : Nat} (h : firstOcc q p = some i) : (enc p).take (enc (p.take i)).length = enc (p.take i) ∧ (enc p).drop ((enc (p.take i)).length + (enc q).length) = enc (p.drop (i + q.length)) := by
  obtain ⟨h1, _⟩ := occ_parts h
  have e : enc p = enc (p.take i) ++ enc q ++ enc (p.drop (i + q.length)) := by rw [← enc_app, ← enc_app, ← h1]
  rw [e]
  refine ⟨by rw [List.append_assoc, List.take_left], ?_⟩
  rw [← List.length_append, List.drop_left]
theorem scal_take {p : List Nat} (h : ∀ r ∈ p, Scal r) (i : Nat) : ∀ r ∈ p.take i, Scal r := fun r hr => h r (List.mem_of_mem_take hr)
theorem scal_drop {p : List Nat} (h : ∀ r ∈ p, Scal r) (i : Nat) : ∀ r ∈ p.drop i, Scal r := fun r hr => h r (List.mem_of_mem_drop hr)
theorem enc_ne' {q : List Nat} (h : q ≠ []) : enc q ≠ [] := by
  cases q with
  | nil => exact absurd rfl h
  | cons c q => exact enc_ne
theorem extract_str (l : List UInt8) (i j : Nat) : (strOf l).extract i j = strOf ((l.take j).drop i) := by
  have h : bytesOf ((strOf l).extract i j) = (l.take j).drop i := by
    simp [bytesOf, strOf]
    rw [List.drop_take]
  rw [← str_bytes ((strOf l).extract i j), h]
theorem count_cuts {q : List Nat} (hne : q ≠ []) (hq : ∀ r ∈ q, Scal r) : ∀ (n : Nat) (p : List Nat) (o : Nat), p.length ≤ n → (∀ r ∈ p, Scal r) → Lib.count (enc p) (enc q) = (cutsK q n p o).length
  | 0, p, o, h, hp => by
    have : p = [] := List.eq_nil_of_length_eq_zero (by omega)
    subst this
    have hf : firstOcc q [] = none := by unfold firstOcc; rw [if_neg hne]
    have := index_first hne hq (p := []) (by simp)
    rw [hf] at this
    rw [Lib.count_miss this]; rfl
  | n + 1, p, o, h, hp => by
    have hi := index_first hne hq hp
    cases hf : firstOcc q p with
    | none =>
      rw [hf] at hi
      rw [Lib.count_miss hi, cutsK_none hf]; rfl
    | some i =>
      rw [hf] at hi
      have h2 := (occ_parts hf).2
      have h3 := List.length_pos_iff.2 hne
      rw [Lib.count_hit (enc_ne' hne) hi, (enc_first hf).2, cutsK_some hf, List.length_cons, count_cuts hne hq n _ (o + i + q.length) (by rw [List.length_drop]; omega) (scal_drop hp _)]
      omega
theorem split_parts {q : List Nat} (hne : q ≠ []) (hq : ∀ r ∈ q, Scal r) : ∀ (k : Nat) (p : List Nat), (∀ r ∈ p, Scal r) → Lib.splitB (strOf (enc q)) 0 k (strOf (enc p)) = (partsK q k p).map fun x => strOf (enc x)
  | 0, p, _ => rfl
  | k + 1, p, hp => by
    have hi := index_first hne hq hp
    have hix : Lib.indexB (strOf (enc p)) (strOf (enc q)) = Lib.index (enc p) (enc q) := rfl
    cases hf : firstOcc q p with
    | none =>
      rw [hf] at hi
      rw [Lib.splitB_miss _ _ _ _ (hix.trans hi), partsK_none hf]; rfl
    | some i =>
      rw [hf] at hi
      rw [Lib.splitB_hit _ _ _ _ _ (hix.trans hi), partsK_some hf, List.map_cons]
      have h1 := enc_first hf
      have hsz : (strOf (enc p)).size = (enc p).length := size_str _
      rw [hsz, size_str, extract_str, extract_str, Nat.add_zero, List.drop_zero, h1.1, List.take_of_length_le (Nat.le_refl _), h1.2, split_parts hne hq k _ (scal_drop hp _)]
theorem replace_parts {q w : List Nat} (hne : q ≠ []) (hq : ∀ r ∈ q, Scal r) : ∀ (k : Nat) (p : List Nat), (∀ r ∈ p, Scal r) → Lib.replaceK (enc q) (enc w) k (enc p) = Lib.join ((partsK q k p).map enc) (enc w)
  | 0, p, _ => by simp [Lib.replaceK, partsK, Lib.join]
  | k + 1, p, hp => by
    have hi := index_first hne hq hp
    cases hf : firstOcc q p with
    | none =>
      rw [hf] at hi
      rw [partsK_none hf]
      unfold Lib.replaceK
      rw [hi]
      simp [Lib.join]
    | some i =>
      rw [hf] at hi
      have h1 := enc_first hf
      rw [Lib.replaceK_hit _ _ _ _ _ hi, h1.1, h1.2, replace_parts hne hq k _ (scal_drop hp _), partsK_some hf, List.map_cons]
      have hl : (partsK q k (p.drop (i + q.length))) ≠ [] := by
        intro e
        have := parts_len (q := q) k (p.drop (i + q.length)) 0
        rw [e] at this; simp at this
      cases hx : partsK q k (p.drop (i + q.length)) with
      | nil => exact absurd hx hl
      | cons y ys => simp [Lib.join, List.intercalate, List.intersperse]
end Go.Gv.R
