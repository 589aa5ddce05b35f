import Derived.Test.YtkmcegicngjhbaaDoorU1
import Derived.Lib.Replace
import Derived.Test.YtkmcegicngjhbaaDoorM5
set_option linter.all false
namespace Go.Gv.R
open Go Go.Gv Go.Gv.D Go.Lib

theorem nat8' {n : Nat} (h : n < 256) : (UInt8.ofNat n).toNat = n := by rw [UInt8.toNat_ofNat', Nat.mod_eq_of_lt (by omega)]
/-! ### a scalar within a text of scalars -/
/-- a byte in the middle of a scalar -/
def mid (x : UInt8) : Prop := x.toNat / 64 = 2
theorem lead_not_mid {r : Nat} (h : Scal r) : ∃ x t, encR r = x :: t ∧ ¬ mid x ∧ ∀ y ∈ t, mid y := by
  have hm : ∀ n : Nat, mid (UInt8.ofNat (128 + n % 64)) := fun n => by
    unfold mid
    rw [UInt8.toNat_ofNat', Nat.mod_eq_of_lt (by omega)]; omega
  unfold Scal at h
  rcases (by omega : r ≤ 127 ∨ (128 ≤ r ∧ r ≤ 2047) ∨ (2048 ≤ r ∧ r ≤ 65535) ∨ 65536 ≤ r) with c | c | c | c
  · rw [encR1 c]
    exact ⟨_, _, rfl, by unfold mid; rw [nat8' (by omega)]; omega, by simp⟩
  · rw [encR2 c.1 c.2]
    exact ⟨_, _, rfl, by unfold mid; rw [nat8' (by omega)]; omega, by simpa using hm r⟩
  · rw [encR3 c.1 c.2 (by unfold Scal; omega)]
    refine ⟨_, _, rfl, by unfold mid; rw [nat8' (by omega)]; omega, ?_⟩
    intro y hy
    simp only [List.mem_cons, List.not_mem_nil, or_false] at hy
    rcases hy with e | e <;> rw [e] <;> exact hm _
  · rw [encR4 c (by omega)]
    refine ⟨_, _, rfl, by unfold mid; rw [nat8' (by omega)]; omega, ?_⟩
    intro y hy
    simp only [List.mem_cons, List.not_mem_nil, or_false] at hy
    rcases hy with e | e | e <;> rw [e] <;> exact hm _
theorem enc_prefix : ∀ {s p : List Nat} {t : List UInt8}, (∀ r ∈ s, Scal r) → (∀ r ∈ p, Scal r) → enc p = enc s ++ t → ∃ b, p = s ++ b
  | [], p, _, _, _, _ => ⟨p, rfl⟩
  | q :: s, [], t, _, _, e => by
    have := congrArg List.length e
    rw [enc_cons, List.length_append, List.length_append] at this
    have h := encR_pos q
    have h0 : (enc []).length = 0 := rfl
    omega
  | q :: s, r :: p, t, hs, hp, e => by
    have h1 := decode_enc r (hp r (by simp)) (enc p)
    have h2 := decode_enc q (hs q (by simp)) (enc s ++ t)
    rw [enc_cons, enc_cons, List.append_assoc] at e
    rw [e, h2] at h1
    have e1 := (Prod.mk.inj h1).1
    subst e1
    obtain ⟨b, hb⟩ := enc_prefix (fun x hx => hs x (by simp [hx])) (fun x hx => hp x (by simp [hx])) (List.append_cancel_left e)
    exact ⟨b, by rw [hb]; rfl⟩
/-- AN INSTANCE OF A TEXT IN A TEXT STANDS AT A SCALAR'S BORDER. -/
theorem occ_enc {s : List Nat} (hne : s ≠ []) (hs : ∀ r ∈ s, Scal r) : ∀ (p : List Nat) (j : Nat), (∀ r ∈ p, Scal r) → occAt (enc p) (enc s) j = true → ∃ a b, p = a ++ s ++ b ∧ j = (enc a).length
  | [], j, _, h => by
    exfalso
    obtain ⟨q, s', rfl⟩ := List.exists_cons_of_ne_nil hne
    unfold occAt at h
    have := (List.isPrefixOf_iff_prefix.1 h).length_le
    have hq := encR_pos q
    rw [enc_cons, List.length_append] at this
    have h0 : ((enc []).drop j).length = 0 := by simp [enc]
    omega
  | r :: p, j, hp, h => by
    have hr := hp r (by simp)
    by_cases hj : j < (encR r).length
    · by_cases j0 : j = 0
      · subst j0
        unfold occAt at h
        obtain ⟨t, ht⟩ := List.isPrefixOf_iff_prefix.1 h
        rw [List.drop_zero] at ht
        obtain ⟨b, hb⟩ := enc_prefix hs hp ht.symm
        exact ⟨[], b, by rw [hb]; rfl, rfl⟩
      · exfalso
        obtain ⟨q, s', rfl⟩ := List.exists_cons_of_ne_nil hne
        obtain ⟨x, t, hx, hm, _⟩ := lead_not_mid (hs q (by simp))
        obtain ⟨y, u, hy, _, hmid⟩ := lead_not_mid hr
        unfold occAt at h
        obtain ⟨v, hv⟩ := List.isPrefixOf_iff_prefix.1 h
        rw [enc_cons, enc_cons, hx, hy] at hv
        obtain ⟨k, rfl⟩ : ∃ k, j = k + 1 := ⟨j - 1, by omega⟩
        rw [hy, List.length_cons] at hj
        have hk : k < u.length := by omega
        rw [List.cons_append («as» := u), List.drop_succ_cons, List.drop_append_of_le_length (by omega), List.drop_eq_getElem_cons hk] at hv
        simp only [List.cons_append, List.cons.injEq] at hv
        exact hm (by rw [hv.1]; exact hmid _ (List.getElem_mem hk))
    · have e : occAt (enc p) (enc s) (j - (encR r).length) = true := by
        unfold occAt at h ⊢
        rw [enc_cons, List.drop_append, List.drop_of_length_le (by omega), List.nil_append] at h
        exact h
      obtain ⟨a, b, h1, h2⟩ := occ_enc hne hs p _ (fun x hx => hp x (by simp [hx])) e
      exact ⟨r :: a, b, by rw [h1]; rfl, by rw [enc_cons, List.length_append]; omega⟩
theorem occ_at {s a b : List Nat} : occAt (enc (a ++ s ++ b)) (enc s) (enc a).length = true := by
  unfold occAt
  rw [enc_app, enc_app, List.append_assoc, List.drop_left]
  exact List.isPrefixOf_iff_prefix.2 ⟨_, rfl⟩
theorem index_enc_none {s p : List Nat} (hne : s ≠ []) (hs : ∀ r ∈ s, Scal r) (hp : ∀ r ∈ p, Scal r) (h : ¬ ∃ a b, p = a ++ s ++ b) : Lib.index (enc p) (enc s) = -1 :=
  index_none fun j _ => Bool.eq_false_iff.2 fun e => by
    obtain ⟨a, b, h1, _⟩ := occ_enc hne hs p j hp e
    exact h ⟨a, b, h1⟩
/-- THE FIRST INSTANCE. -/
theorem index_enc_some {s a b : List Nat} (hne : s ≠ []) (hs : ∀ r ∈ s, Scal r) (hp : ∀ r ∈ a ++ s ++ b, Scal r) (h : ∀ a' b', a ++ s ++ b = a' ++ s ++ b' → a.length ≤ a'.length) : Lib.index (enc (a ++ s ++ b)) (enc s) = ((enc a).length : Int) := by
  refine index_first (by rw [enc_app, enc_app, List.length_append, List.length_append]; omega) occ_at fun j hj => Bool.eq_false_iff.2 fun e => ?_
  obtain ⟨a', b', h1, h2⟩ := occ_enc hne hs _ j hp e
  have h3 := h a' b' h1
  have ha : a = a'.take a.length := by
    have := congrArg (List.take a.length) h1
    rw [List.append_assoc, List.take_left, List.append_assoc, List.take_append_of_le_length h3] at this
    exact this
  have : (enc a).length ≤ (enc a').length := by
    rw [ha]
    conv => rhs; rw [← List.take_append_drop a.length a']
    rw [enc_app, List.length_append]; omega
  omega

/-! ### one scalar taken out -/
end Go.Gv.R
namespace Go.Gv.R
open Go Go.Gv Go.Gv.D Go.Lib

/-! first occurrences -/
def firstOcc (q : List Nat) : List Nat → Option Nat
  | [] => if q = [] then some 0 else none
  | c :: p => if q.isPrefixOf (c :: p) = true then some 0 else (firstOcc q p).map (· + 1)
theorem prefix_split {q p : List Nat} (h : q.isPrefixOf p = true) : ∃ b, p = q ++ b := by
  obtain ⟨b, hb⟩ := List.isPrefixOf_iff_prefix.1 h
  exact ⟨b, hb.symm⟩
theorem prefix_app (q b : List Nat) : q.isPrefixOf (q ++ b) = true := List.isPrefixOf_iff_prefix.2 ⟨b, rfl⟩
theorem firstOcc_none {q : List Nat} : ∀ {p : List Nat}, firstOcc q p = none → ¬ ∃ a b, p = a ++ q ++ b
  | [], h, ⟨a, b, e⟩ => by
    have e := e.symm
    simp only [List.append_eq_nil_iff] at e
    unfold firstOcc at h
    rw [if_pos e.1.2] at h; cases h
  | c :: p, h, ⟨a, b, e⟩ => by
    unfold firstOcc at h
    by_cases hp : q.isPrefixOf (c :: p) = true
    · rw [if_pos hp] at h; cases h
    · rw [if_neg hp] at h
      cases a with
      | nil => exact hp (by rw [e]; exact prefix_app q b)
      | cons x a =>
        rw [List.cons_append, List.cons_append] at e
        injection e with e1 e2
        have h' : firstOcc q p = none := by cases hf : firstOcc q p <;> rw [hf] at h <;> first | rfl | cases h
        exact firstOcc_none h' ⟨a, b, e2⟩
theorem firstOcc_some {q : List Nat} : ∀ {p : List Nat} {i : Nat}, firstOcc q p = some i → (∃ b, p = p.take i ++ q ++ b) ∧ i ≤ p.length ∧ ∀ a' b', p = a' ++ q ++ b' → i ≤ a'.length
  | [], i, h => by
    unfold firstOcc at h
    by_cases hq : q = []
    · rw [if_pos hq] at h; cases h
      exact ⟨⟨[], by simp [hq]⟩, Nat.le_refl _, fun _ _ _ => Nat.zero_le _⟩
    · rw [if_neg hq] at h; cases h
  | c :: p, i, h => by
    unfold firstOcc at h
    by_cases hp : q.isPrefixOf (c :: p) = true
    · rw [if_pos hp] at h; cases h
      obtain ⟨b, hb⟩ := prefix_split hp
      exact ⟨⟨b, by simpa using hb⟩, Nat.zero_le _, fun _ _ _ => Nat.zero_le _⟩
    · rw [if_neg hp] at h
      cases hf : firstOcc q p with
      | none => rw [hf] at h; cases h
      | some j =>
        rw [hf] at h; cases h
        obtain ⟨⟨b, hb⟩, hl, hm⟩ := firstOcc_some hf
        refine ⟨⟨b, ?_⟩, by simp; omega, fun a' b' e => ?_⟩
        · rw [List.take_succ_cons, List.cons_append, List.cons_append, ← hb]
        · cases a' with
          | nil => exact absurd (by rw [e]; exact prefix_app q b') hp
          | cons x a' =>
            rw [List.cons_append, List.cons_append] at e
            injection e with e1 e2
            have := hm a' b' e2
            simp; omega
theorem occ_parts {q p : List Nat} {i : Nat} (h : firstOcc q p = some i) : p = p.take i ++ q ++ p.drop (i + q.length) ∧ i + q.length ≤ p.length := by
  obtain ⟨⟨b, hb⟩, hl, _⟩ := firstOcc_some h
  have hlen : i + q.length + b.length = p.length := by
    have := congrArg List.length hb
    rw [List.length_append, List.length_append, List.length_take] at this; omega
  have hd : p.drop (i + q.length) = b := by
    rw [hb]
    have : (p.take i ++ q).length = i + q.length := by rw [List.length_append, List.length_take]; omega
    rw [← this, List.drop_left]
  exact ⟨by rw [hd]; exact hb, by omega⟩
theorem index_first {q p : List Nat} (hne : q ≠ []) (hq : ∀ r ∈ q, Scal r) (hp : ∀ r ∈ p, Scal r) : Lib.index (enc p) (enc q) = match firstOcc q p with | none => -1 | some i => ((enc (p.take i)).length : Int) := by
  cases hf : firstOcc q p with
  | none => exact index_enc_none hne hq hp (firstOcc_none hf)
  | some i =>
    obtain ⟨⟨b, hb⟩, hl, hm⟩ := firstOcc_some hf
    have hb' := hb
    have := index_enc_some (s := q) (a := p.take i) (b := b) hne hq (by rw [← hb]; exact hp) (fun a' b' e => by rw [List.length_take]; have := hm a' b' (hb.trans e); omega)
    rw [← hb] at this
    exact this

/-! the parts between occurrences, at most k of them cut off -/
def partsK (q : List Nat) : Nat → List Nat → List (List Nat)
  | 0, p => [p]
  | k + 1, p => match firstOcc q p with
    | none => [p]
    | some i => p.take i :: partsK q k (p.drop (i + q.length))
/-- where they are cut -/
def cutsK (q : List Nat) : Nat → List Nat → Nat → List Nat
  | 0, _, _ => []
  | k + 1, p, o => match firstOcc q p with
    | none => []
    | some i => (o + i) :: cutsK q k (p.drop (i + q.length)) (o + i + q.length)
theorem partsK_none {q p : List Nat} {k : Nat} (h : firstOcc q p = none) : partsK q k p = [p] := by
  cases k with
  | zero => rfl
  | succ k => unfold partsK; rw [h]
theorem cutsK_none {q p : List Nat} {k o : Nat} (h : firstOcc q p = none) : cutsK q k p o = [] := by
  cases k with
  | zero => rfl
  | succ k => unfold cutsK; rw [h]
theorem partsK_some {q p : List Nat} {k i : Nat} (h : firstOcc q p = some i) : partsK q (k + 1) p = p.take i :: partsK q k (p.drop (i + q.length)) := by
  show (match firstOcc q p with | none => [p] | some i => p.take i :: partsK q k (p.drop (i + q.length))) = _
  rw [h]
theorem cutsK_some {q p : List Nat} {k o i : Nat} (h : firstOcc q p = some i) : cutsK q (k + 1) p o = (o + i) :: cutsK q k (p.drop (i + q.length)) (o + i + q.length) := by
  show (match firstOcc q p with | none => [] | some i => (o + i) :: cutsK q k (p.drop (i + q.length)) (o + i + q.length)) = _
  rw [h]
theorem parts_len {q : List Nat} : ∀ (k : Nat) (p : List Nat) (o : Nat), (partsK q k p).length = (cutsK q k p o).length + 1
  | 0, _, _ => rfl
  | k + 1, p, o => by
    cases h : firstOcc q p with
    | none => rw [partsK_none h, cutsK_none h]; rfl
    | some i => rw [partsK_some h, cutsK_some h, List.length_cons, List.length_cons, parts_len k]
theorem cuts_le {q : List Nat} (hne : q ≠ []) : ∀ (k : Nat) (p : List Nat) (o : Nat), (cutsK q k p o).length ≤ k ∧ (cutsK q k p o).length ≤ p.length
  | 0, _, _ => ⟨Nat.le_refl _, Nat.zero_le _⟩
  | k + 1, p, o => by
    cases h : firstOcc q p with
    | none => rw [cutsK_none h]; exact ⟨Nat.zero_le _, Nat.zero_le _⟩
    | some i =>
      rw [cutsK_some h, List.length_cons]
      have := cuts_le hne k (p.drop (i + q.length)) (o + i + q.length)
      have h2 := (occ_parts h).2
      have h3 := List.length_pos_iff.2 hne
      rw [List.length_drop] at this
      omega
theorem cuts_more {q : List Nat} (hne : q ≠ []) : ∀ (k p) (l o : Nat), p.length ≤ k → k ≤ l → cutsK q l p o = cutsK q k p o
  | 0, p, l, o, h, _ => by
    have : p = [] := List.eq_nil_of_length_eq_zero (by omega)
    subst this
    have hf : firstOcc q [] = none := by unfold firstOcc; rw [if_neg hne]
    rw [cutsK_none hf]; rfl
  | k + 1, p, l, o, h, hl => by
    obtain ⟨l, rfl⟩ : ∃ m, l = m + 1 := ⟨l - 1, by omega⟩
    cases hf : firstOcc q p with
    | none => rw [cutsK_none hf, cutsK_none hf]
    | some i =>
      have h2 := (occ_parts hf).2
      have h3 := List.length_pos_iff.2 hne
      rw [cutsK_some hf, cutsK_some hf, cuts_more hne k _ l _ (by rw [List.length_drop]; omega) (by omega)]
/-- the first cuts are the cuts of fewer -/
theorem cuts_take {q : List Nat} : ∀ (k m : Nat) (p : List Nat) (o : Nat), k ≤ m → (cutsK q m p o).take k = cutsK q k p o
  | 0, _, _, _, _ => by rw [List.take_zero]; rfl
  | k + 1, m, p, o, h => by
    obtain ⟨m, rfl⟩ : ∃ x, m = x + 1 := ⟨m - 1, by omega⟩
    cases hf : firstOcc q p with
    | none => rw [cutsK_none hf, cutsK_none hf]; rfl
    | some i => rw [cutsK_some hf, cutsK_some hf, List.take_succ_cons, cuts_take k m _ _ (by omega)]

theorem enc_first {q p : List Nat} {i : Nat} (h : firstOcc q p = some i) : (enc p).take (enc (p.take i)).length = enc (p.take i) ∧ (enc p).drop ((enc (p.take i)).length + (enc q).length) = enc (p.drop (i + q.length)) := by
  obtain ⟨h1, _⟩ := occ_parts h
  have e : enc p = enc (p.take i) ++ enc q ++ enc (p.drop (i + q.length)) := by rw [← enc_app, ← enc_app, ← h1]
  rw [e]
  refine ⟨by rw [List.append_assoc, List.take_left], ?_⟩
  rw [← List.length_append, List.drop_left]
theorem scal_take {p : List Nat} (h : ∀ r ∈ p, Scal r) (i : Nat) : ∀ r ∈ p.take i, Scal r := fun r hr => h r (List.mem_of_mem_take hr)
theorem scal_drop {p : List Nat} (h : ∀ r ∈ p, Scal r) (i : Nat) : ∀ r ∈ p.drop i, Scal r := fun r hr => h r (List.mem_of_mem_drop hr)
theorem enc_ne' {q : List Nat} (h : q ≠ []) : enc q ≠ [] := by
  cases q with
  | nil => exact absurd rfl h
  | cons c q => exact enc_ne
theorem extract_str (l : List UInt8) (i j : Nat) : (strOf l).extract i j = strOf ((l.take j).drop i) := by
  have h : bytesOf ((strOf l).extract i j) = (l.take j).drop i := by
    simp [bytesOf, strOf]
    rw [List.drop_take]
  rw [← str_bytes ((strOf l).extract i j), h]
theorem count_cuts {q : List Nat} (hne : q ≠ []) (hq : ∀ r ∈ q, Scal r) : ∀ (n : Nat) (p : List Nat) (o : Nat), p.length ≤ n → (∀ r ∈ p, Scal r) → Lib.count (enc p) (enc q) = (cutsK q n p o).length
  | 0, p, o, h, hp => by
    have : p = [] := List.eq_nil_of_length_eq_zero (by omega)
    subst this
    have hf : firstOcc q [] = none := by unfold firstOcc; rw [if_neg hne]
    have := index_first hne hq (p := []) (by simp)
    rw [hf] at this
    rw [Lib.count_miss this]; rfl
  | n + 1, p, o, h, hp => by
    have hi := index_first hne hq hp
    cases hf : firstOcc q p with
    | none =>
      rw [hf] at hi
      rw [Lib.count_miss hi, cutsK_none hf]; rfl
    | some i =>
      rw [hf] at hi
      have h2 := (occ_parts hf).2
      have h3 := List.length_pos_iff.2 hne
      rw [Lib.count_hit (enc_ne' hne) hi, (enc_first hf).2, cutsK_some hf, List.length_cons, count_cuts hne hq n _ (o + i + q.length) (by rw [List.length_drop]; omega) (scal_drop hp _)]
      omega
theorem split_parts {q : List Nat} (hne : q ≠ []) (hq : ∀ r ∈ q, Scal r) : ∀ (k : Nat) (p : List Nat), (∀ r ∈ p, Scal r) → Lib.splitB (strOf (enc q)) 0 k (strOf (enc p)) = (partsK q k p).map fun x => strOf (enc x)
  | 0, p, _ => rfl
  | k + 1, p, hp => by
    have hi := index_first hne hq hp
    have hix : Lib.indexB (strOf (enc p)) (strOf (enc q)) = Lib.index (enc p) (enc q) := rfl
    cases hf : firstOcc q p with
    | none =>
      rw [hf] at hi
      rw [Lib.splitB_miss _ _ _ _ (hix.trans hi), partsK_none hf]; rfl
    | some i =>
      rw [hf] at hi
      rw [Lib.splitB_hit _ _ _ _ _ (hix.trans hi), partsK_some hf, List.map_cons]
      have h1 := enc_first hf
      have hsz : (strOf (enc p)).size = (enc p).length := size_str _
      rw [hsz, size_str, extract_str, extract_str, Nat.add_zero, List.drop_zero, h1.1, List.take_of_length_le (Nat.le_refl _), h1.2, split_parts hne hq k _ (scal_drop hp _)]
end Go.Gv.R
namespace Go.Gv.R
open Go Go.Gv Go.Gv.D Go.Lib

/-! runes of texts -/
/-! the reference's searches over lists -/
theorem Numbers_tot {a b : List Nat} (ha : a.length ≤ 100000000) : Tot (fun n => ref4_Numbers n (ints a) (ints b)) (· = decide (a = b)) := by
  unfold ref4_Numbers
  rw [ints_len, ints_len]
  refine Tot.ite (fun h => Tot.ret ?_) fun h => ?_
  · exact (decide_eq_false fun e => by subst e; simp at h).symm
  have hl : a.length = b.length := by
    by_cases e : (a.length : Int) = (b.length : Int)
    · omega
    · rw [bne_iff_ne.2 e] at h; cases h
  refine Tot.bindq (P := fun r => (r = .inl () ∧ a = b) ∨ (r = .inr false ∧ a ≠ b)) ?_ fun r hr => ?_
  · refine Tot.loop (fun (st : Int) => ∃ i : Nat, st = (i : Int) ∧ i ≤ a.length ∧ a.take i = b.take i) (fun (st : Int) => a.length - st.toNat) ⟨0, rfl, Nat.zero_le _, rfl⟩ fun st ⟨i, e, hi, hall⟩ => ?_
    subst e
    refine Tot.ite (fun h => ?_) fun h => ?_
    · have h : i < a.length := by have := of_decide_eq_true h; omega
      refine Tot.bind0 (ints_get h) (Tot.bind0 (ints_get (l := b) (by omega)) (Tot.ite (fun q => Tot.ret (.inr ⟨rfl, fun e => ?_⟩)) fun q => Tot.ret ⟨⟨i + 1, iw (by omega) (by omega), h, ?_⟩, ?_⟩))
      · subst e; simp at q
      · have q : a[i] = b[i]'(by omega) := by
          by_cases e : ((a[i] : Nat) : Int) = ((b[i]'(by omega) : Nat) : Int)
          · omega
          · rw [bne_iff_ne.2 e] at q; cases q
        rw [List.take_succ_eq_append_getElem h, List.take_succ_eq_append_getElem (by omega), hall, q]
      · rw [iw (n := i + 1) (by omega) (by omega)]; omega
    · have h : i = a.length := by have := of_decide_eq_false h; omega
      subst h
      refine Tot.ret (.inl ⟨rfl, ?_⟩)
      rw [List.take_length, hl, List.take_length] at hall; exact hall
  · rcases hr with ⟨e, h⟩ | ⟨e, h⟩
    · subst e; exact Tot.contl (Tot.ret (decide_eq_true h).symm)
    · subst e; exact Tot.contr (decide_eq_false h).symm
def hereB (p q : List Nat) (i : Nat) : Bool := q.isPrefixOf (p.drop i)
theorem prefix_take {q p : List Nat} : q.isPrefixOf p = decide (p.take q.length = q) := by
  by_cases h : q.isPrefixOf p = true
  · obtain ⟨b, hb⟩ := prefix_split h
    rw [h, hb, List.take_left]; exact (decide_eq_true rfl).symm
  · have h : q.isPrefixOf p = false := by cases hh : q.isPrefixOf p <;> simp_all
    rw [h]
    refine (decide_eq_false fun e => ?_).symm
    have : q.isPrefixOf p = true := List.isPrefixOf_iff_prefix.2 ⟨p.drop q.length, by have := List.take_append_drop q.length p; rw [e] at this; exact this⟩
    rw [h] at this; cases this
theorem here_tot {p q : List Nat} {i : Nat} (hp : p.length ≤ 100000000) (hq : q.length ≤ 100000000) (hi : i ≤ 100000000) : Tot (fun n => ref4_here n (ints p) (ints q) (i : Int)) (· = (decide (i + q.length ≤ p.length) && hereB p q i)) := by
  unfold ref4_here
  rw [ints_len, ints_len]
  have hw : IntKind.i64.wrap ((i : Int) + (q.length : Nat)) = ((i + q.length : Nat) : Int) := iw (by omega) (by omega)
  rw [hw]
  refine Tot.bindq (P := fun j => j = (decide (i + q.length ≤ p.length) && hereB p q i)) (Tot.it (decide_eq_true (by omega)) ?_) fun j hj => Tot.ret hj
  refine Tot.ite (fun h => ?_) fun h => Tot.ret ?_
  · have h : i + q.length ≤ p.length := by have := of_decide_eq_true h; omega
    refine Tot.bind0 (a := ints ((p.drop i).take q.length)) ?_ (Tot.bindq (Numbers_tot (by rw [List.length_take]; omega)) fun r hr => Tot.ret ?_)
    · rw [sub_ok (by omega) (by omega) (by rw [ints_len]; omega)]
      rw [Int.toNat_natCast, Int.toNat_natCast]
      unfold ints
      rw [← List.map_take, ← List.map_drop, List.drop_take, show i + q.length - i = q.length by omega]
    · rw [hr, decide_eq_true h, Bool.true_and]
      unfold hereB
      rw [prefix_take]
  · have h := of_decide_eq_false h
    rw [decide_eq_false (by omega), Bool.false_and]
theorem hereB_len {p q : List Nat} {i : Nat} (h : hereB p q i = true) (hi : i ≤ p.length) : i + q.length ≤ p.length := by
  obtain ⟨b, hb⟩ := prefix_split h
  have := congrArg List.length hb
  rw [List.length_drop, List.length_append] at this; omega
theorem here_false {p q : List Nat} {i : Nat} (hi : i ≤ p.length) : (decide (i + q.length ≤ p.length) && hereB p q i) = hereB p q i := by
  cases h : hereB p q i with
  | false => rw [Bool.and_false]
  | true => rw [Bool.and_true]; exact decide_eq_true (hereB_len h hi)
theorem first_here {p q : List Nat} {i : Nat} (h : hereB p q i = true) : firstOcc q (p.drop i) = some 0 := by
  unfold hereB at h
  cases hd : p.drop i with
  | nil =>
    rw [hd] at h
    unfold firstOcc
    cases q with
    | nil => rfl
    | cons c q => cases h
  | cons c r =>
    rw [hd] at h
    unfold firstOcc
    rw [if_pos h]
theorem first_not {p q : List Nat} {i : Nat} (hi : i < p.length) (h : hereB p q i = false) : firstOcc q (p.drop i) = (firstOcc q (p.drop (i + 1))).map (· + 1) := by
  unfold hereB at h
  rw [List.drop_eq_getElem_cons hi] at h ⊢
  show (if _ then _ else _) = _
  rw [h]; rfl

/-- where a text that is not empty stands, one behind the other -/
theorem Places_tot {p q : List Nat} (hne : q ≠ []) (hp : p.length ≤ 10000000) (hq : q.length ≤ 10000000) : Tot (fun n => ref4_Places n (ints p) (ints q)) (· = ints (cutsK q p.length p 0)) := by
  unfold ref4_Places
  simp only [ints_len]
  have h0 := List.length_pos_iff.2 hne
  refine Tot.bindq (P := fun r => r = ints (cutsK q p.length p 0)) ?_ fun r hr => Tot.ret hr
  refine Tot.loop (fun st => ∃ (i : Nat) (l : List Nat), st = (ints l, (i : Int)) ∧ i ≤ p.length ∧ cutsK q p.length p 0 = l ++ cutsK q p.length (p.drop i) i) (fun st => p.length + 1 - st.2.toNat) ⟨0, [], rfl, Nat.zero_le _, rfl⟩ fun st ⟨i, l, e, hi, hall⟩ => ?_
  subst e
  dsimp only
  have hw : IntKind.i64.wrap ((i : Int) + (q.length : Nat)) = ((i + q.length : Nat) : Int) := iw (by omega) (by omega)
  rw [hw]
  have hcl : l.length ≤ p.length := by
    have h1 := (cuts_le hne p.length p 0).2
    rw [hall, List.length_append] at h1; omega
  refine Tot.ite (fun h => ?_) fun h => ?_
  · have h : i + q.length ≤ p.length := by have := of_decide_eq_true h; omega
    refine Tot.bindq (here_tot (by omega) (by omega) (by omega)) fun r hr => ?_
    rw [here_false hi] at hr
    subst hr
    refine Tot.ite (fun g => Tot.ret ⟨⟨i + 1, l, ?_, by omega, ?_⟩, ?_⟩) fun g => ?_
    · rw [iw (n := i + 1) (by omega) (by omega)]
    · have g : hereB p q i = false := by cases hh : hereB p q i <;> rw [hh] at g <;> first | rfl | cases g
      have hf := first_not (by omega) g
      rw [hall]
      refine congrArg (l ++ ·) ?_
      cases hq2 : firstOcc q (p.drop (i + 1)) with
      | none =>
        rw [hq2] at hf
        rw [cutsK_none hq2, cutsK_none hf]
      | some j =>
        rw [hq2] at hf
        obtain ⟨m, hm⟩ : ∃ m, p.length = m + 1 := ⟨p.length - 1, by omega⟩
        rw [hm, cutsK_some hq2, cutsK_some hf, List.drop_drop, List.drop_drop]
        rw [show i + (j + 1 + q.length) = i + 1 + (j + q.length) by omega, show i + (j + 1) = i + 1 + j by omega]
    · dsimp only; rw [iw (n := i + 1) (by omega) (by omega)]; omega
    · have g : hereB p q i = true := by cases hh : hereB p q i <;> rw [hh] at g <;> first | rfl | cases g
      refine Tot.bind0 (app_ok (by rw [ints_len]; simp; omega)) (Tot.some_bind (Tot.bindq (P := fun j => j = ((i + q.length : Nat) : Int)) (Tot.if_ (beq_eq_false_iff_ne.2 (by omega)) (Tot.ret rfl)) fun j hj => Tot.ret ⟨⟨i + q.length, l ++ [i], ?_, h, ?_⟩, ?_⟩))
      · rw [hj, ints_app]; rfl
      · rw [hall]
        obtain ⟨m, hm⟩ : ∃ m, p.length = m + 1 := ⟨p.length - 1, by omega⟩
        have hf := first_here g
        rw [List.append_assoc]
        refine congrArg (l ++ ·) ?_
        have hlt : (p.drop i).length ≤ p.length := by rw [List.length_drop]; omega
        rw [hm, cutsK_some hf, List.drop_drop, Nat.add_zero, show i + (0 + q.length) = i + q.length by omega]
        refine congrArg (i :: ·) ?_
        rw [cuts_more hne m (p.drop (i + q.length)) (m + 1) _ (by rw [List.length_drop]; omega) (by omega)]
        rfl
      · rw [hj]; dsimp only; omega
  · have h := of_decide_eq_false h
    refine Tot.ret ?_
    have hf : firstOcc q (p.drop i) = none := by
      cases hh : firstOcc q (p.drop i) with
      | none => rfl
      | some j =>
        have := (occ_parts hh).2
        rw [List.length_drop] at this; omega
    rw [hall, cutsK_none hf, List.append_nil]
end Go.Gv.R

