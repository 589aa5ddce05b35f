import Derived.Test.YtkmcegicngjhbaaDoorM6
set_option linter.all false
namespace Go.Gv.R
open Go Go.Gv Go.Gv.D Go.Lib

/-- what a search from one place to another one finds, told within the part -/
def Found (w q : List Nat) (last : Bool) (o : Int) (r : Int) : Prop :=
  (r = -1 ∧ ∀ j, j + q.length ≤ w.length → hereB w q j = false) ∨
  ∃ j, j + q.length ≤ w.length ∧ hereB w q j = true ∧ r = o + (j : Int) ∧ (last = true → ∀ i, j < i → i + q.length ≤ w.length → hereB w q i = false) ∧ (last = false → ∀ i, i < j → hereB w q i = false)
theorem Found.unique {w q : List Nat} {last : Bool} {o r r' : Int} (h : Found w q last o r) (h' : Found w q last o r') : r = r' := by
  rcases h with ⟨e, h⟩ | ⟨j, h1, h2, e, h3, h4⟩ <;> rcases h' with ⟨e', h'⟩ | ⟨j', h1', h2', e', h3', h4'⟩
  · omega
  · rw [h j' h1'] at h2'; cases h2'
  · rw [h' j h1] at h2; cases h2
  · have : j = j' := by
      rcases Nat.lt_trichotomy j j' with g | g | g
      · cases last with
        | true => rw [h3 rfl j' g h1'] at h2'; cases h2'
        | false => rw [h4' rfl j g] at h2; cases h2
      · exact g
      · cases last with
        | true => rw [h3' rfl j g h1] at h2; cases h2
        | false => rw [h4 rfl j' g] at h2'; cases h2'
    subst this; omega
theorem here_part {p q : List Nat} {a b j : Nat} (hab : a ≤ b) (hb : b ≤ p.length) (hj : j + q.length ≤ b - a) : hereB ((p.take b).drop a) q j = hereB p q (a + j) := by
  unfold hereB
  rw [prefix_take, prefix_take]
  refine decide_eq_decide.2 ?_
  rw [List.drop_drop, List.drop_take, List.take_take, show min q.length (b - (a + j)) = q.length by omega]
theorem Occurs_tot {p q : List Nat} {a b : Nat} {last : Bool} (hp : p.length ≤ 10000000) (hq : q.length ≤ 10000000) (hab : a ≤ b) (hb : b ≤ p.length) : Tot (fun n => ref4_Occurs n (ints p) (ints q) (a : Int) (b : Int) last) (Found ((p.take b).drop a) q last a) := by
  unfold ref4_Occurs
  simp only [ints_len]
  have hwl : ((p.take b).drop a).length = b - a := by rw [List.length_drop, List.length_take]; omega
  refine Tot.bindq (P := fun r => Found ((p.take b).drop a) q last a r) ?_ fun r hr => Tot.ret hr
  -- seen so far: the places ahead of a + j
  refine Tot.loop (fun st => ∃ j : Nat, st.2 = ((a + j : Nat) : Int) ∧ j ≤ b - a + 1 ∧ ((st.1 = -1 ∧ ∀ i, i < j → hereB p q (a + i) = false) ∨ ∃ i, i < j ∧ i + q.length ≤ b - a ∧ hereB p q (a + i) = true ∧ st.1 = ((a + i : Nat) : Int) ∧ (last = true → ∀ k, i < k → k < j → hereB p q (a + k) = false) ∧ (last = false → ∀ k, k < i → hereB p q (a + k) = false))) (fun st => b + 1 - st.2.toNat) ⟨0, rfl, Nat.zero_le _, .inl ⟨rfl, fun i h => absurd h (Nat.not_lt_zero _)⟩⟩ fun st ⟨j, e, hj, hs⟩ => ?_
  obtain ⟨found, x⟩ := st
  dsimp only at e hs ⊢
  subst e
  have hw : IntKind.i64.wrap (((a + j : Nat) : Int) + (q.length : Nat)) = ((a + j + q.length : Nat) : Int) := iw (by clear hs; omega) (by clear hs; omega)
  have hw1 : IntKind.i64.wrap (((a + j : Nat) : Int) + 1) = ((a + (j + 1) : Nat) : Int) := iw (by clear hs; omega) (by clear hs; omega)
  rw [hw]
  refine Tot.ite (fun h => ?_) fun h => ?_
  · have h : a + j + q.length ≤ b := by clear hs; have := of_decide_eq_true h; omega
    have hjj : j + q.length ≤ b - a := by clear hs; omega
    have hj2 : j + 1 ≤ b - a + 1 := by clear hs; omega
    have hx1 : a + j ≤ 100000000 := by clear hs; omega
    have hx2 : p.length ≤ 100000000 := by clear hs; omega
    have hx3 : q.length ≤ 100000000 := by clear hs; omega
    have hx4 : a + j + q.length ≤ p.length := by clear hs; omega
    have hx5 : b + 1 - (((a + (j + 1) : Nat) : Int)).toNat < b + 1 - (((a + j : Nat) : Int)).toNat := by clear hs; omega
    refine Tot.bindq (P := fun r => r = (hereB p q (a + j) && (decide (found < 0) || last))) ?_ fun r hr => ?_
    · refine Tot.bindq (here_tot (i := a + j) hx2 hx3 hx1) fun r hr => ?_
      rw [decide_eq_true hx4, Bool.true_and] at hr
      subst hr
      refine Tot.ite (fun g => ?_) fun g => Tot.ret (by rw [g, Bool.false_and])
      rw [g, Bool.true_and]
      refine Tot.ite (fun g2 => Tot.ret (by rw [g2, Bool.true_or])) fun g2 => Tot.ret (by rw [g2, Bool.false_or])
    subst hr
    refine Tot.bindq (P := fun y => y = if (hereB p q (a + j) && (decide (found < 0) || last)) = true then ((a + j : Nat) : Int) else found) (Tot.ite (fun g => Tot.ret (by rw [if_pos g])) fun g => Tot.ret (by rw [if_neg (by rw [g]; simp)])) fun y hy => Tot.ret ⟨⟨j + 1, ?_, hj2, ?_⟩, ?_⟩
    · exact hw1
    · dsimp only
      cases hh : hereB p q (a + j) with
      | false =>
        rw [hh, Bool.false_and, if_neg (by simp)] at hy
        subst hy
        rcases hs with ⟨e, hs⟩ | ⟨i, h1, h2, h3, e, h4, h5⟩
        · refine .inl ⟨e, fun i hi => ?_⟩
          rcases Nat.lt_or_ge i j with h' | h'
          · exact hs i h'
          · have : i = j := by omega
            subst this; exact hh
        · refine .inr ⟨i, by omega, h2, h3, e, fun hl k hk hk2 => ?_, h5⟩
          rcases Nat.lt_or_ge k j with h' | h'
          · exact h4 hl k hk h'
          · have : k = j := by omega
            subst this; exact hh
      | true =>
        rw [hh, Bool.true_and] at hy
        rcases hs with ⟨e, hs⟩ | ⟨i, h1, h2, h3, e, h4, h5⟩
        · rw [e, decide_eq_true (by omega), Bool.true_or, if_pos rfl] at hy
          exact .inr ⟨j, by omega, hjj, hh, hy, fun _ k h1 h2 => by omega, fun _ k hk => hs k hk⟩
        · cases hl : last with
          | true =>
            rw [hl, Bool.or_true, if_pos rfl] at hy
            exact .inr ⟨j, by omega, hjj, hh, hy, fun _ k h1 h2 => by omega, fun h => by cases h⟩
          | false =>
            rw [hl, Bool.or_false, decide_eq_false (by omega), if_neg (by simp)] at hy
            exact .inr ⟨i, by omega, h2, h3, by rw [hy]; exact e, (fun h => by cases h), fun _ => h5 hl⟩
    · dsimp only; rw [hw1]; exact hx5
  · have h : ¬ (a + j + q.length ≤ b) := by clear hs; have := of_decide_eq_false h; omega
    refine Tot.ret ?_
    show Found _ q last a found
    have hpart : ∀ i, i + q.length ≤ b - a → hereB ((p.take b).drop a) q i = hereB p q (a + i) := fun i hi => here_part hab hb hi
    rcases hs with ⟨e, hs⟩ | ⟨i, h1, h2, h3, e, h4, h5⟩
    · refine .inl ⟨e, fun i hi => ?_⟩
      rw [hwl] at hi
      rw [hpart i hi]; exact hs i (by omega)
    · refine .inr ⟨i, by rw [hwl]; exact h2, by rw [hpart i h2]; exact h3, by rw [e]; omega, fun hl k hk hk2 => ?_, fun hl k hk => ?_⟩
      · rw [hwl] at hk2
        rw [hpart k hk2]; exact h4 hl k hk (by omega)
      · rw [hpart k (by omega)]; exact h5 hl k hk

/-! the program's search -/
theorem here_enc {q p : List Nat} {j : Nat} (h : hereB p q j = true) (hj : j ≤ p.length) : occAt (enc p) (enc q) (enc (p.take j)).length = true := by
  obtain ⟨b, hb⟩ := prefix_split h
  have e : p = p.take j ++ q ++ b := by
    have := List.take_append_drop j p
    rw [hb, ← List.append_assoc] at this; exact this.symm
  have := occ_at (s := q) (a := p.take j) (b := b)
  rw [← e] at this; exact this
theorem enc_here {q p : List Nat} (hne : q ≠ []) (hq : ∀ r ∈ q, Scal r) (hp : ∀ r ∈ p, Scal r) {x : Nat} (h : occAt (enc p) (enc q) x = true) : ∃ j, j + q.length ≤ p.length ∧ hereB p q j = true ∧ x = (enc (p.take j)).length := by
  obtain ⟨a, b, e, hx⟩ := occ_enc hne hq p x hp h
  refine ⟨a.length, ?_, ?_, ?_⟩
  · rw [e, List.length_append, List.length_append]; omega
  · unfold hereB; rw [e, List.append_assoc, List.drop_left]; exact prefix_app q b
  · rw [e, List.append_assoc, List.take_left]; exact hx
theorem enc_mono {p : List Nat} {i j : Nat} (h : i < j) (hj : j ≤ p.length) : (enc (p.take i)).length < (enc (p.take j)).length := by
  have e : p.take j = p.take i ++ (p.take j).drop i := by
    have := List.take_append_drop i (p.take j)
    rw [List.take_take, show min i j = i by omega] at this; exact this.symm
  rw [e, enc_app, List.length_append]
  have hl : 0 < ((p.take j).drop i).length := by rw [List.length_drop, List.length_take]; omega
  have := enc_len_ge ((p.take j).drop i)
  omega
theorem nil_here (p : List Nat) (j : Nat) : hereB p [] j = true := by unfold hereB; cases p.drop j <;> rfl
theorem index_found {w q : List Nat} (hq : ∀ r ∈ q, Scal r) (hw : ∀ r ∈ w, Scal r) : (Lib.index (enc w) (enc q) = -1 ∧ ∀ o, Found w q false o (-1)) ∨ ∃ j, j ≤ w.length ∧ Lib.index (enc w) (enc q) = ((enc (w.take j)).length : Int) ∧ ∀ o : Int, Found w q false o (o + (j : Int)) := by
  by_cases hne : q = []
  · subst hne
    refine .inr ⟨0, Nat.zero_le _, ?_, fun o => .inr ⟨0, by simp, nil_here w 0, rfl, (fun h => by cases h), fun _ i hi => absurd hi (Nat.not_lt_zero _)⟩⟩
    rw [List.take_zero]
    show Lib.index (enc w) [] = _
    cases hw : enc w <;> simp [Lib.index, enc]
  · have hi := index_first hne hq hw
    cases hf : firstOcc q w with
    | none =>
      rw [hf] at hi
      refine .inl ⟨hi, fun o => .inl ⟨rfl, fun j hj => ?_⟩⟩
      cases hh : hereB w q j with
      | false => rfl
      | true =>
        obtain ⟨b, hb⟩ := prefix_split hh
        refine absurd ⟨w.take j, b, ?_⟩ (firstOcc_none hf)
        have := List.take_append_drop j w
        rw [hb, ← List.append_assoc] at this; exact this.symm
    | some j =>
      rw [hf] at hi
      obtain ⟨hb, hl, hm⟩ := firstOcc_some hf
      have h2 := occ_parts hf
      refine .inr ⟨j, hl, hi, fun o => .inr ⟨j, h2.2, ?_, rfl, (fun h => by cases h), fun _ i hi => ?_⟩⟩
      · unfold hereB
        obtain ⟨b, hb⟩ := hb
        have : w.drop j = q ++ b := by
          have e2 := List.take_append_drop j w
          rw [List.append_assoc] at hb
          exact List.append_cancel_left (e2.trans hb)
        rw [this]; exact prefix_app q b
      · cases hh : hereB w q i with
        | false => rfl
        | true =>
          obtain ⟨b', hb'⟩ := prefix_split hh
          have e : w = w.take i ++ q ++ b' := by
            have := List.take_append_drop i w
            rw [hb', ← List.append_assoc] at this; exact this.symm
          have := hm _ _ e
          rw [List.length_take] at this; omega
theorem last_found {w q : List Nat} (hq : ∀ r ∈ q, Scal r) (hw : ∀ r ∈ w, Scal r) : (Lib.lastIndex (enc w) (enc q) = -1 ∧ ∀ o, Found w q true o (-1)) ∨ ∃ j, j ≤ w.length ∧ Lib.lastIndex (enc w) (enc q) = ((enc (w.take j)).length : Int) ∧ ∀ o : Int, Found w q true o (o + (j : Int)) := by
  by_cases hne : q = []
  · subst hne
    refine .inr ⟨w.length, Nat.le_refl _, ?_, fun o => .inr ⟨w.length, by simp, nil_here w _, rfl, fun _ i h1 h2 => by simp at h2; omega, (fun h => by cases h)⟩⟩
    rw [List.take_length]
    have ho : occAt (enc w) [] (enc w).length = true := by unfold occAt; cases (enc w).drop (enc w).length <;> rfl
    show Lib.lastIndex (enc w) [] = _
    unfold Lib.lastIndex
    rw [List.length_nil, if_pos (Nat.zero_le _), Nat.sub_zero, Lib.lastOcc_hit _ _ _ ho]
  · have hlen : ∀ j, j + q.length ≤ w.length → hereB w q j = true → (enc (w.take j)).length + (enc q).length ≤ (enc w).length := fun j hj hh => by
      obtain ⟨b, hb⟩ := prefix_split hh
      have e : w = w.take j ++ q ++ b := by
        have := List.take_append_drop j w
        rw [hb, ← List.append_assoc] at this; exact this.symm
      have := congrArg (fun l => (enc l).length) e
      simp only [enc_app, List.length_append] at this; omega
    unfold Lib.lastIndex
    by_cases hl : (enc q).length ≤ (enc w).length
    · rw [if_pos hl]
      rcases Lib.lastOcc_spec (enc w) (enc q) ((enc w).length - (enc q).length + 1) with ⟨h1, h2⟩ | ⟨i, h1, h2, h3, h4⟩
      · refine .inl ⟨h1, fun o => .inl ⟨rfl, fun j hj => ?_⟩⟩
        cases hh : hereB w q j with
        | false => rfl
        | true =>
          have g := here_enc hh (by omega)
          have g2 := hlen j hj hh
          rw [h2 _ (by omega)] at g; cases g
      · obtain ⟨j, g1, g2, g3⟩ := enc_here hne hq hw h3
        refine .inr ⟨j, by omega, by rw [h2, g3], fun o => .inr ⟨j, g1, g2, rfl, fun _ k hk hk2 => ?_, (fun h => by cases h)⟩⟩
        cases hh : hereB w q k with
        | false => rfl
        | true =>
          have g := here_enc hh (by omega)
          have g4 := hlen k hk2 hh
          have g5 := enc_mono (p := w) hk (by omega)
          rw [h4 _ (by omega) (by omega)] at g; cases g
    · rw [if_neg hl]
      refine .inl ⟨rfl, fun o => .inl ⟨rfl, fun j hj => ?_⟩⟩
      cases hh : hereB w q j with
      | false => rfl
      | true =>
        have g2 := hlen j hj hh
        omega

theorem fault2_bad {s t : ByteArray} (h : ¬ (okS s = true ∧ okS t = true)) : ∃ k : Int, faultL [s, t] 0 = (6, k) := by
  show ∃ k : Int, (if okS s = true then (if okS t = true then (0, 0) else (6, -1 - ((0 + 1 : Nat) : Int))) else (6, -1 - ((0 : Nat) : Int))) = (6, k)
  by_cases h1 : okS s = true
  · rw [if_pos h1, if_neg (fun h2 => h ⟨h1, h2⟩)]; exact ⟨_, rfl⟩
  · rw [if_neg h1]; exact ⟨_, rfl⟩
theorem window_tot {p : List Nat} {a b : Int} (hp : ∀ r ∈ p, Scal r) (hl : (enc p).length ≤ 4000) : Tot (fun n => textstr_window n (strOf (enc p)) a b) (fun r => if a < 0 ∨ (p.length : Int) < a then r = (strOf [], (4, -3)) else if b < a ∨ (p.length : Int) < b then r = (strOf [], (4, -4)) else r = (strOf (enc ((p.take b.toNat).drop a.toNat)), (0, 0))) := by
  unfold textstr_window
  refine Tot.bind0 (rn_enc hp (by omega)) ?_
  rw [ints_len]
  refine Tot.ite (fun h => ?_) fun h => ?_
  · rw [Bool.or_eq_true] at h
    have h : a < 0 ∨ (p.length : Int) < a := h.imp of_decide_eq_true of_decide_eq_true
    exact Tot.bindq (tat_tot _ _) fun r hr => Tot.ret (by rw [if_pos h, hr])
  · have h : ¬ (a < 0 ∨ (p.length : Int) < a) := fun hh => by
      rcases hh with hh | hh
      · rw [decide_eq_true hh] at h; cases h
      · rw [decide_eq_true (show a > (p.length : Int) from hh), Bool.or_true] at h; cases h
    refine Tot.ite (fun g => ?_) fun g => ?_
    · rw [Bool.or_eq_true] at g
      have g : b < a ∨ (p.length : Int) < b := g.imp of_decide_eq_true of_decide_eq_true
      exact Tot.bindq (tat_tot _ _) fun r hr => Tot.ret (by rw [if_neg h, if_pos g, hr])
    · have g : ¬ (b < a ∨ (p.length : Int) < b) := fun hh => by
        rcases hh with hh | hh
        · rw [decide_eq_true hh] at g; cases g
        · rw [decide_eq_true (show b > (p.length : Int) from hh), Bool.or_true] at g; cases g
      refine Tot.bind0 (sub_ok (by omega) (by omega) (by rw [ints_len]; omega)) (Tot.ret ?_)
      rw [if_neg h, if_neg g]
      have : (List.take b.toNat (ints p)).drop a.toNat = ints ((p.take b.toNat).drop a.toNat) := by unfold ints; rw [← List.map_take, ← List.map_drop]
      rw [this, strR_ints (scal_drop (scal_take hp _) _)]
theorem CountA_tot {p q : List Nat} (hp : ∀ r ∈ p, Scal r) (hq : ∀ r ∈ q, Scal r) (hl : (enc p).length ≤ 4000) : Tot (fun n => strings_CountA n (strOf (enc p)) (strOf (enc q))) (fun r => r = if q = [] then ((p.length + 1 : Nat) : Int) else ((cutsK q p.length p 0).length : Int)) := by
  unfold strings_CountA
  have hpl := enc_len_ge p
  refine Tot.ite (fun h => ?_) fun h => ?_
  · have h : q = [] := by
      have h := beq_iff_eq.1 h
      have := enc_len_ge q
      rw [size_str] at h
      exact List.eq_nil_of_length_eq_zero (by omega)
    rw [if_pos h]
    exact Tot.bindq (RuneCount_tot hp (by omega)) fun r hr => Tot.ret (by rw [hr]; exact iw (by omega) (by omega))
  · have h : q ≠ [] := fun e => by subst e; rw [size_str] at h; simp [enc] at h
    have h1 := List.length_pos_iff.2 (enc_ne' h)
    unfold strings_Count
    rw [if_pos ⟨by rw [size_str]; omega, by rw [size_str]; exact h1⟩, if_neg h]
    refine Tot.ret ?_
    have := count_cuts h hq p.length p 0 (Nat.le_refl _) hp
    show ((Lib.count (bytesOf (strOf (enc p))) (bytesOf (strOf (enc q))) : Nat) : Int) = _
    rw [bytes_str, bytes_str, this]

theorem Finds_tot {s t : ByteArray} {a b : Int} {last : Bool} (hs : s.size ≤ 1048576) (ht : t.size ≤ 1048576) : Tot (fun n => law4_TextstrFinds n s t a b last) (· = true) := by
  have hss : ∀ x ∈ [s, t], x.size ≤ 1048576 := by simp; exact ⟨hs, ht⟩
  unfold law4_TextstrFinds
  by_cases hok : okS s = true ∧ okS t = true
  · obtain ⟨p, hp, e, hl⟩ := okS_text hok.1
    obtain ⟨q, hq, e2, hl2⟩ := okS_text hok.2
    have hf : faultL [s, t] 0 = (0, 0) := check_ok (by simp) (by simp; exact hok)
    subst e e2
    have hpl := enc_len_ge p
    have hql := enc_len_ge q
    -- the search
    have hfind : Tot (fun n => textstr_Find n (strOf (enc p)) (strOf (enc q)) a b last) (fun r => if a < 0 ∨ (p.length : Int) < a then r = (0, (4, -3)) else if b < a ∨ (p.length : Int) < b then r = (0, (4, -4)) else r.2 = (0, 0) ∧ Found ((p.take b.toNat).drop a.toNat) q last a r.1) := by
      unfold textstr_Find
      refine Tot.bindq (tcheck_tot (by simp) hss) fun r hr => ?_
      rw [hf] at hr; subst hr
      refine Tot.if_ rfl (Tot.bindq (window_tot hp hl) fun r hr => ?_)
      by_cases h1 : a < 0 ∨ (p.length : Int) < a
      · rw [if_pos h1] at hr; subst hr
        exact Tot.it rfl (Tot.ret (by rw [if_pos h1]))
      · rw [if_neg h1] at hr
        by_cases h2 : b < a ∨ (p.length : Int) < b
        · rw [if_pos h2] at hr; subst hr
          exact Tot.it rfl (Tot.ret (by rw [if_neg h1, if_pos h2]))
        · rw [if_neg h2] at hr; subst hr
          refine Tot.if_ rfl ?_
          have hw : ∀ r ∈ (p.take b.toNat).drop a.toNat, Scal r := scal_drop (scal_take hp _) _
          have hwl : ((p.take b.toNat).drop a.toNat).length ≤ p.length := by rw [List.length_drop, List.length_take]; omega
          generalize (p.take b.toNat).drop a.toNat = w at hw hwl
          have hwe := enc_len_le w
          dsimp only
          refine Tot.bindq (P := fun r => r = Lib.index (enc w) (enc q)) (by unfold strings_Index; rw [if_pos (by rw [size_str]; omega), bytes_str, bytes_str]; exact Tot.ret rfl) fun r hr => ?_
          refine Tot.bindq (P := fun r => (r = -1 ∧ Found w q last a (-1)) ∨ ∃ j, j ≤ w.length ∧ r = ((enc (w.take j)).length : Int) ∧ Found w q last a (a + (j : Int))) ?_ fun r hr => ?_
          · cases last with
            | true =>
              refine Tot.it rfl ?_
              unfold strings_LastIndex
              rw [if_pos (by rw [size_str]; omega), bytes_str, bytes_str]
              refine Tot.some_bind (Tot.ret ?_)
              rcases last_found hq hw with ⟨g1, g2⟩ | ⟨j, g0, g1, g2⟩
              · exact .inl ⟨g1, g2 a⟩
              · exact .inr ⟨j, g0, g1, g2 a⟩
            | false =>
              refine Tot.if_ rfl (Tot.ret ?_)
              rcases index_found hq hw with ⟨g1, g2⟩ | ⟨j, g0, g1, g2⟩
              · exact .inl ⟨by rw [hr, g1], g2 a⟩
              · exact .inr ⟨j, g0, by rw [hr, g1], g2 a⟩
          rcases hr with ⟨e, g⟩ | ⟨j, g0, e, g⟩
          · subst e
            exact Tot.it rfl (Tot.ret (by rw [if_neg h1, if_neg h2]; exact ⟨rfl, g⟩))
          · subst e
            have hj : (enc (w.take j)).length ≤ (enc w).length := by
              have := congrArg (fun l => (enc l).length) (List.take_append_drop j w)
              simp only [enc_app, List.length_append] at this; omega
            have hsub : ssub (strOf (enc w)) 0 ((enc (w.take j)).length : Int) = some (strOf (enc (w.take j))) := by
              have := ssub_str (l := enc w) (i := 0) (j := (enc (w.take j)).length) (by omega) hj
              rw [show ((0 : Nat) : Int) = 0 from rfl] at this
              rw [this, List.drop_zero]
              have h5 := enc_take (w.take j) (w.drop j)
              rw [List.take_append_drop] at h5
              rw [h5]
            refine Tot.if_ (decide_eq_false (by omega)) (Tot.bind0 hsub (Tot.bindq (RuneCount_tot (scal_take hw j) (by omega)) fun r hr => Tot.ret ?_))
            subst hr
            rw [if_neg h1, if_neg h2]
            refine ⟨rfl, ?_⟩
            dsimp only
            rw [List.length_take, show min j w.length = j by omega, i64_small (by omega) (by omega)]
            exact g
    have hcount : Tot (fun n => textstr_Count n (strOf (enc p)) (strOf (enc q))) (fun r => r = (if q = [] then ((p.length + 1 : Nat) : Int) else ((cutsK q p.length p 0).length : Int), (0, 0))) := by
      unfold textstr_Count
      refine Tot.bindq (tcheck_tot (by simp) hss) fun r hr => ?_
      rw [hf] at hr; subst hr
      exact Tot.if_ rfl (Tot.bindq (CountA_tot hp hq hl) fun r hr => Tot.ret (by rw [hr]))
    refine Tot.bindq hfind fun r1 h1 => Tot.bindq hcount fun r2 h2 => Tot.bindq (faults_tot (by simp) hss) fun w hw => ?_
    rw [hf] at hw; subst hw h2
    refine Tot.bindq (P := fun j => j = false) (Tot.bindq letters_tot fun x hx => by subst hx; exact Tot.if_ rfl (Tot.ret rfl)) fun j hj => ?_
    subst hj
    refine Tot.if_ rfl (Tot.if_ rfl (Tot.bindq (points_enc hp (by omega)) fun r3 h3 => Tot.bindq (points_enc hq (by omega)) fun r4 h4 => ?_))
    subst h3 h4
    dsimp only
    rw [ints_len]
    refine Tot.bindq (P := fun l => (l.length : Int) = if q = [] then ((p.length + 1 : Nat) : Int) else ((cutsK q p.length p 0).length : Int)) ?_ fun l hl3 => ?_
    · by_cases hqe : q = []
      · subst hqe
        exact (Places_nil (by omega)).mono fun l h => by rw [if_pos rfl, h]
      · exact (Places_tot hqe (by omega) (by omega)).mono fun l h => by rw [if_neg hqe, h, ints_len]
    rw [hl3]
    refine Tot.if_ (by simp) (Tot.ite (fun g => ?_) fun g => ?_)
    · rw [Bool.or_eq_true] at g
      have g : a < 0 ∨ (p.length : Int) < a := g.imp of_decide_eq_true of_decide_eq_true
      rw [if_pos g] at h1; subst h1
      exact Tot.bindq (P := fun j => j = true) (Tot.bindq (rat_tot _ _) fun r hr => by subst hr; exact Tot.it rfl (Tot.ret rfl)) fun j hj => Tot.ret hj
    · have g : ¬ (a < 0 ∨ (p.length : Int) < a) := fun hh => by
        rcases hh with hh | hh
        · rw [decide_eq_true hh] at g; cases g
        · rw [decide_eq_true (show a > (p.length : Int) from hh), Bool.or_true] at g; cases g
      rw [if_neg g] at h1
      refine Tot.ite (fun g2 => ?_) fun g2 => ?_
      · rw [Bool.or_eq_true] at g2
        have g2 : b < a ∨ (p.length : Int) < b := g2.imp of_decide_eq_true of_decide_eq_true
        rw [if_pos g2] at h1; subst h1
        exact Tot.bindq (P := fun j => j = true) (Tot.bindq (rat_tot _ _) fun r hr => by subst hr; exact Tot.it rfl (Tot.ret rfl)) fun j hj => Tot.ret hj
      · have g2 : ¬ (b < a ∨ (p.length : Int) < b) := fun hh => by
          rcases hh with hh | hh
          · rw [decide_eq_true hh] at g2; cases g2
          · rw [decide_eq_true (show b > (p.length : Int) from hh), Bool.or_true] at g2; cases g2
        rw [if_neg g2] at h1
        obtain ⟨h1a, h1b⟩ := h1
        rw [h1a]
        refine Tot.bindq (P := fun j => j = true) (Tot.it rfl ?_) fun j hj => Tot.ret hj
        have ea : ((a.toNat : Nat) : Int) = a := by omega
        have eb : ((b.toNat : Nat) : Int) = b := by omega
        have ho := Occurs_tot (p := p) (q := q) (a := a.toNat) (b := b.toNat) (last := last) (by omega) (by omega) (by omega) (by omega)
        rw [ea, eb] at ho
        refine Tot.bindq ho fun r hr => Tot.ret ?_
        rw [h1b.unique hr]; exact beq_self_eq_true _
  · obtain ⟨k, hk⟩ := fault2_bad hok
    refine Tot.bindq (P := fun r => r = (0, (6, k))) (by
      unfold textstr_Find
      refine Tot.bindq (tcheck_tot (by simp) hss) fun r hr => ?_
      rw [hk] at hr; subst hr
      exact Tot.it rfl (Tot.ret rfl)) fun r1 h1 => Tot.bindq (P := fun r => r = (0, (6, k))) (by
      unfold textstr_Count
      refine Tot.bindq (tcheck_tot (by simp) hss) fun r hr => ?_
      rw [hk] at hr; subst hr
      exact Tot.it rfl (Tot.ret rfl)) fun r2 h2 => Tot.bindq (faults_tot (by simp) hss) fun w hw => ?_
    rw [hk] at hw; subst hw h1 h2
    refine Tot.bindq (P := fun j => j = false) (Tot.bindq letters_tot fun x hx => by subst hx; exact Tot.if_ rfl (Tot.ret (by simp))) fun j hj => ?_
    subst hj
    refine Tot.if_ rfl (Tot.it rfl (Tot.bindq (P := fun j => j = true) (Tot.it (by simp) (Tot.it rfl (Tot.ret rfl))) fun j hj => Tot.ret hj))
theorem TextstrFinds_said (s : ByteArray) (sub : ByteArray) (a b : Int) (last : Bool) (_ : s.size ≤ maxLen) (_ : sub.size ≤ maxLen) (_ : inK .i64 a) (_ : inK .i64 b) (_ : True) (h : (s.size + 1) + ((sub.size + 1) + (1 + (1 + 1))) ≤ 1048576) : Tot (fun n => law4_TextstrFinds n s sub a b last) (· = true) := Finds_tot (by omega) (by omega)
end Go.Gv.R
namespace Go.Gv.R
open Go Go.Gv Go.Gv.D Go.Lib

/-! joined lists -/
def jn (w : List Nat) : List (List Nat) → List Nat
  | [] => []
  | [x] => x
  | x :: y :: r => x ++ w ++ jn w (y :: r)
theorem jn_cons {w x : List Nat} {l : List (List Nat)} (h : l ≠ []) : jn w (x :: l) = x ++ w ++ jn w l := by
  cases l with
  | nil => exact absurd rfl h
  | cons y r => rfl
theorem lib_cons {w x : List UInt8} {l : List (List UInt8)} (h : l ≠ []) : Lib.join (x :: l) w = x ++ w ++ Lib.join l w := by
  cases l with
  | nil => exact absurd rfl h
  | cons y r => simp [Lib.join, List.intercalate]
theorem lib_jn (w : List Nat) : ∀ l : List (List Nat), Lib.join (l.map enc) (enc w) = enc (jn w l)
  | [] => rfl
  | [x] => by simp [Lib.join, jn, List.intercalate]
  | x :: y :: r => by
    rw [List.map_cons, lib_cons (by simp), jn_cons (by simp), lib_jn w (y :: r), enc_app, enc_app]
theorem parts_ne (q : List Nat) (k : Nat) (p : List Nat) : partsK q k p ≠ [] := by
  intro e
  have := parts_len (q := q) k p 0
  rw [e] at this; simp at this
theorem jn_parts {q : List Nat} : ∀ (k : Nat) (p : List Nat), jn q (partsK q k p) = p
  | 0, p => rfl
  | k + 1, p => by
    cases h : firstOcc q p with
    | none => rw [partsK_none h]; rfl
    | some i => rw [partsK_some h, jn_cons (parts_ne q k _), jn_parts k, ← (occ_parts h).1]
theorem parts_scal {q : List Nat} : ∀ (k : Nat) (p : List Nat), (∀ r ∈ p, Scal r) → ∀ x ∈ partsK q k p, ∀ r ∈ x, Scal r
  | 0, p, h, x, hx => by rw [List.mem_singleton.1 hx]; exact h
  | k + 1, p, h, x, hx => by
    cases hf : firstOcc q p with
    | none => rw [partsK_none hf] at hx; rw [List.mem_singleton.1 hx]; exact h
    | some i =>
      rw [partsK_some hf] at hx
      rcases List.mem_cons.1 hx with e | e
      · rw [e]; exact scal_take h i
      · exact parts_scal k _ (scal_drop h _) x e
/-- lengths: by points, and by bytes -/
def lenS (f : List Nat → Nat) (l : List (List Nat)) : Nat := (l.map f).sum
theorem jn_lenS {f : List Nat → Nat} (hf : ∀ a b, f (a ++ b) = f a + f b) (w : List Nat) : ∀ (l : List (List Nat)), l ≠ [] → f (jn w l) + f w = lenS f l + l.length * f w
  | [], h => absurd rfl h
  | [x], _ => by simp [jn, lenS]
  | x :: y :: r, _ => by
    have := jn_lenS hf w (y :: r) (by simp)
    rw [jn_cons (by simp), hf, hf]
    simp only [lenS, List.map_cons, List.sum_cons, List.length_cons, Nat.succ_mul] at this ⊢
    omega
/-- fewer cuts are asked than there are -/
theorem parts_cut {q : List Nat} : ∀ (m : Nat) (p : List Nat) (o k : Nat), (cutsK q m p o).length ≤ k → k ≤ m → partsK q m p = partsK q k p
  | 0, p, o, k, _, h => by
    have : k = 0 := by omega
    subst this; rfl
  | m + 1, p, o, k, h, hk => by
    cases hf : firstOcc q p with
    | none => rw [partsK_none hf, partsK_none hf]
    | some i =>
      rw [cutsK_some hf, List.length_cons] at h
      obtain ⟨k, rfl⟩ : ∃ x, k = x + 1 := ⟨k - 1, by omega⟩
      rw [partsK_some hf, partsK_some hf, parts_cut m _ (o + i + q.length) k (by omega) (by omega)]
/-- how many occurrences there are; how many are used -/
def cN (q p : List Nat) : Nat := (cutsK q p.length p 0).length
def kN (q p : List Nat) (most : Int) : Nat := if most < 0 then cN q p else min most.toNat (cN q p)
theorem cN_le {q p : List Nat} (hne : q ≠ []) : cN q p ≤ p.length := (cuts_le hne p.length p 0).2
theorem cuts_off {q : List Nat} : ∀ (k : Nat) (p : List Nat) (o o' : Nat), (cutsK q k p o).length = (cutsK q k p o').length
  | 0, _, _, _ => rfl
  | k + 1, p, o, o' => by
    cases hf : firstOcc q p with
    | none => rw [cutsK_none hf, cutsK_none hf]
    | some i => rw [cutsK_some hf, cutsK_some hf, List.length_cons, List.length_cons, cuts_off k _ (o + i + q.length) (o' + i + q.length)]
theorem cuts_len_min {q p : List Nat} (hne : q ≠ []) (m : Nat) : (cutsK q m p 0).length = min m (cN q p) := by
  unfold cN
  rcases Nat.le_total m p.length with h | h
  · rw [← cuts_take m p.length p 0 h, List.length_take]
  · rw [cuts_more hne p.length p m 0 (Nat.le_refl _) h]
    have := (cuts_le hne p.length p 0).2
    omega
theorem parts_min {q p : List Nat} (hne : q ≠ []) (m : Nat) : partsK q m p = partsK q (min m (cN q p)) p := by
  refine parts_cut m p 0 _ ?_ (Nat.min_le_left _ _)
  rw [cuts_len_min hne]; exact Nat.le_refl _
theorem parts_num {q p : List Nat} (hne : q ≠ []) (most : Int) : (partsK q (kN q p most) p).length = kN q p most + 1 := by
  rw [parts_len _ _ 0, cuts_len_min hne]
  unfold kN
  split <;> omega

/-! the program's divisions -/
theorem empty_str {q : List Nat} : ((strOf (enc q)).toList == (strOf []).toList) = decide (q = []) := by
  rw [str_eq]
  refine decide_eq_decide.2 ⟨fun h => ?_, fun h => by rw [h]; rfl⟩
  have := congrArg bytesOf h
  rw [bytes_str, bytes_str] at this
  cases q with
  | nil => rfl
  | cons c q => exact absurd this enc_ne
theorem pieces_tot {l : List ByteArray} : Tot (fun n => textstr_pieces n l) (fun r => r = if 1000 < l.length then ([], (2, -1)) else (l, (0, 0))) := by
  unfold textstr_pieces
  refine Tot.ite (fun h => ?_) fun h => ?_
  · have h := of_decide_eq_true h
    exact Tot.bindq (tat_tot _ _) fun r hr => Tot.ret (by rw [if_pos (by omega), hr])
  · have h := of_decide_eq_false h
    exact Tot.ret (by rw [if_neg (by omega)])
def strs (l : List (List Nat)) : List ByteArray := l.map fun x => strOf (enc x)
theorem Split_tot {p q : List Nat} {most : Int} (hp : ∀ r ∈ p, Scal r) (hq : ∀ r ∈ q, Scal r) (hl : (enc p).length ≤ 4000) (hl2 : (enc q).length ≤ 4000) (hm : inK .i64 most) :
    Tot (fun n => textstr_Split n (strOf (enc p)) (strOf (enc q)) most) (fun r => r = if q = [] then ([], (10, -2)) else if 1000 < kN q p most + 1 then ([], (2, -1)) else (strs (partsK q (kN q p most) p), (0, 0))) := by
  unfold textstr_Split
  refine Tot.bindq (tcheck_tot (by simp) (by simp [size_str]; omega)) fun r hr => ?_
  rw [check_ok (by simp) (by simp; exact ⟨okS_enc hp hl, okS_enc hq hl2⟩)] at hr; subst hr
  refine Tot.if_ rfl ?_
  rw [empty_str]
  refine Tot.ite (fun h => ?_) fun h => ?_
  · have h := of_decide_eq_true h
    exact Tot.bindq (tat_tot _ _) fun r hr => Tot.ret (by rw [if_pos h, hr])
  · have h := of_decide_eq_false h
    have h1 := List.length_pos_iff.2 (enc_ne' h)
    have hpl := enc_len_ge p
    have hc := cN_le (q := q) (p := p) h
    have hnum := parts_num (p := p) h most
    have fin : ∀ l : List ByteArray, l = strs (partsK q (kN q p most) p) → Tot (fun n => (textstr_pieces n l).bind fun r96 => some (r96.1, r96.2.1, r96.2.2)) (fun r => r = if q = [] then ([], (10, -2)) else if 1000 < kN q p most + 1 then ([], (2, -1)) else (strs (partsK q (kN q p most) p), (0, 0))) := by
      intro l e
      refine Tot.bindq pieces_tot fun r hr => Tot.ret ?_
      have hll : l.length = kN q p most + 1 := by rw [e]; unfold strs; rw [List.length_map, hnum]
      rw [hll] at hr
      rw [if_neg h, hr, e]
    refine Tot.ite (fun g => ?_) fun g => ?_
    · have g := of_decide_eq_true g
      unfold strings_Split
      rw [if_pos ⟨by rw [size_str]; omega, by rw [size_str]; exact h1⟩]
      refine Tot.some_bind (fin _ ?_)
      have hcb : Lib.countB (strOf (enc p)) (strOf (enc q)) = cN q p := by
        have := count_cuts h hq p.length p 0 (Nat.le_refl _) hp
        show Lib.count (bytesOf _) (bytesOf _) = _
        rw [bytes_str, bytes_str, this]; rfl
      rw [hcb, split_parts h hq _ p hp]
      unfold kN strs
      rw [if_pos g]
    · have g := of_decide_eq_false g
      have hm := inK_i64 hm
      have hw : IntKind.i64.wrap ((if 4000 < most then 4000 else most) + 1) = ((min most.toNat 4000 + 1 : Nat) : Int) := by
        refine iw ?_ (by omega)
        split <;> omega
      rw [hw]
      unfold strings_SplitN
      rw [if_pos ⟨by rw [size_str]; omega, by rw [size_str]; exact h1, by omega, by omega⟩]
      refine Tot.some_bind (fin _ ?_)
      rw [split_parts h hq _ p hp, size_str, Int.toNat_natCast, parts_min h, parts_min h (kN q p most)]
      unfold strs
      congr 2
      unfold kN
      rw [if_neg g]
      omega
theorem Replace_tot {p q w : List Nat} {most : Int} (hp : ∀ r ∈ p, Scal r) (hq : ∀ r ∈ q, Scal r) (hw : ∀ r ∈ w, Scal r) (hl : (enc p).length ≤ 4000) (hl2 : (enc q).length ≤ 4000) (hl3 : (enc w).length ≤ 4000) (hm : inK .i64 most) :
    Tot (fun n => textstr_Replace n (strOf (enc p)) (strOf (enc q)) (strOf (enc w)) most) (fun r => r = if q = [] then (strOf [], (10, -2)) else if 4000 < (enc (jn w (partsK q (kN q p most) p))).length then (strOf [], (3, -1)) else (strOf (enc (jn w (partsK q (kN q p most) p))), (0, 0))) := by
  unfold textstr_Replace
  refine Tot.bindq (tcheck_tot (by simp) (by simp [size_str]; omega)) fun r hr => ?_
  rw [check_ok (by simp) (by simp; exact ⟨okS_enc hp hl, okS_enc hq hl2, okS_enc hw hl3⟩)] at hr; subst hr
  refine Tot.if_ rfl ?_
  rw [empty_str]
  refine Tot.ite (fun h => ?_) fun h => ?_
  · have h := of_decide_eq_true h
    exact Tot.bindq (tat_tot _ _) fun r hr => Tot.ret (by rw [if_pos h, hr])
  · have h := of_decide_eq_false h
    have hpl := enc_len_ge p
    have hc := cN_le (q := q) (p := p) h
    have hm := inK_i64 hm
    refine Tot.bindq (CountA_tot hp hq hl) fun r hr => ?_
    rw [if_neg h] at hr
    have hr : r = ((cN q p : Nat) : Int) := hr
    subst hr
    refine Tot.bindq (P := fun j => j = ((kN q p most : Nat) : Int)) ?_ fun j hj => ?_
    · refine Tot.ite (fun g => Tot.ret ?_) fun g => Tot.ret ?_
      · have g := of_decide_eq_true g
        have hk : kN q p most = min most.toNat (cN q p) := by unfold kN; rw [if_neg (by omega)]
        rw [hk]
        split <;> omega
      · have g := of_decide_eq_false g
        have hk : kN q p most = cN q p := by unfold kN; rw [if_pos (by omega)]
        rw [hk]
    subst hj
    have hk : kN q p most ≤ cN q p := by unfold kN; split <;> omega
    have hnum := parts_num (p := p) h most
    have j1 := jn_lenS (f := fun x => (enc x).length) (fun a b => by simp [enc_app]) w _ (parts_ne q (kN q p most) p)
    have j2 := jn_lenS (f := fun x => (enc x).length) (fun a b => by simp [enc_app]) q _ (parts_ne q (kN q p most) p)
    rw [jn_parts] at j2
    rw [hnum] at j1 j2
    rw [Nat.succ_mul] at j1 j2
    generalize hL : (enc (jn w (partsK q (kN q p most) p))).length = L at j1 ⊢
    generalize lenS _ _ = S at j1 j2
    have b1 : kN q p most * (enc w).length ≤ 4000 * 4000 := Nat.mul_le_mul (by omega) hl3
    have b2 : kN q p most * (enc q).length ≤ 4000 * 4000 := Nat.mul_le_mul (by omega) hl2
    have hsz : IntKind.i64.wrap (((strOf (enc p)).size : Int) + IntKind.i64.wrap ((kN q p most : Int) * IntKind.i64.wrap (((strOf (enc w)).size : Int) - ((strOf (enc q)).size : Int)))) = (L : Int) := by
      rw [size_str, size_str, size_str, i64_small (x := ((enc w).length : Int) - _) (by omega) (by omega), Int.mul_sub]
      rw [← Int.natCast_mul, ← Int.natCast_mul, i64_small (x := ((kN q p most * (enc w).length : Nat) : Int) - _) (by omega) (by omega), i64_small (by omega) (by omega)]
      omega
    rw [hsz]
    refine Tot.ite (fun g => ?_) fun g => ?_
    · have g := of_decide_eq_true g
      exact Tot.bindq (tat_tot _ _) fun r hr => Tot.ret (by rw [if_neg h, if_pos (by omega), hr])
    · have g := of_decide_eq_false g
      have hcb : Lib.count (enc p) (enc q) = cN q p := count_cuts h hq p.length p 0 (Nat.le_refl _) hp
      unfold strings_Replace
      have b3 : cN q p * (enc w).length ≤ 4000 * 4000 := Nat.mul_le_mul (by omega) hl3
      have hcb2 : Lib.countB (strOf (enc p)) (strOf (enc q)) = cN q p := by
        show Lib.count (bytesOf _) (bytesOf _) = _
        rw [bytes_str, bytes_str, hcb]
      rw [hcb2]
      rw [if_pos ⟨by rw [size_str]; omega, by rw [size_str]; exact List.length_pos_iff.2 (enc_ne' h), by rw [size_str, size_str]; omega⟩]
      refine Tot.some_bind (Tot.ret ?_)
      rw [if_neg h, if_neg (by omega), bytes_str, bytes_str, bytes_str]
      have : Lib.replace (enc p) (enc q) (enc w) ((kN q p most : Nat) : Int) = enc (jn w (partsK q (kN q p most) p)) := by
        unfold Lib.replace
        by_cases e : q = w
        · subst e
          rw [if_pos (beq_self_eq_true _), jn_parts]
        · rw [if_neg (by rw [beq_eq_false_iff_ne.2 (fun e2 => e (enc_inj hq hw e2))]; simp)]
          have hnm : Lib.replaceNum (enc p) (enc q) ((kN q p most : Nat) : Int) = kN q p most := by
            unfold Lib.replaceNum
            rw [hcb]
            split <;> omega
          rw [hnm, replace_parts h hq _ p hp, lib_jn]
      rw [this]
end Go.Gv.R
namespace Go.Gv.R
open Go Go.Gv Go.Gv.D Go.Lib

def sumB (L : List ByteArray) : Nat := (L.map ByteArray.size).sum
def firstBad : List ByteArray → Nat → Option Nat
  | [], _ => none
  | s :: l, i => if okS s = true then firstBad l (i + 1) else some i
theorem firstBad_drop : ∀ (l : List ByteArray) (k i : Nat), (∀ j (h : j < l.length), j < i → okS l[j] = true) → i ≤ l.length → firstBad l k = firstBad (l.drop i) (k + i)
  | _, k, 0, _, _ => rfl
  | [], k, i + 1, _, h => absurd h (by simp)
  | s :: l, k, i + 1, h, hi => by
    have h0 := h 0 (by simp) (by omega)
    simp only [List.getElem_cons_zero] at h0
    show (if okS s = true then firstBad l (k + 1) else some k) = _
    rw [if_pos h0, List.drop_succ_cons, firstBad_drop l (k + 1) i (fun j hj hji => by have := h (j + 1) (by simpa using hj) (by omega); simpa using this) (by simpa using hi), show k + 1 + i = k + (i + 1) by omega]
theorem lib_len (w : List UInt8) : ∀ l : List (List UInt8), (Lib.join l w).length = (l.map List.length).sum + (l.length - 1) * w.length
  | [] => by simp [Lib.join]
  | [x] => by simp [Lib.join, List.intercalate]
  | x :: y :: r => by
    rw [lib_cons (by simp), List.length_append, List.length_append, lib_len w (y :: r)]
    simp only [List.map_cons, List.sum_cons, List.length_cons, Nat.add_sub_cancel, Nat.succ_mul]
    omega
theorem sumB_take {L : List ByteArray} {i : Nat} (h : i < L.length) : sumB (L.take (i + 1)) = sumB (L.take i) + L[i].size := by
  unfold sumB
  rw [List.take_succ_eq_append_getElem h, List.map_append, List.sum_append]
  simp
theorem sumB_le {L : List ByteArray} (i : Nat) : sumB (L.take i) ≤ sumB L := by
  have := congrArg sumB (List.take_append_drop i L)
  unfold sumB at this ⊢
  rw [List.map_append, List.sum_append] at this; omega
theorem size_le {L : List ByteArray} {s : ByteArray} (h : s ∈ L) : s.size ≤ sumB L := by
  obtain ⟨a, b, e⟩ := List.append_of_mem h
  subst e
  unfold sumB
  simp; omega
def joinR (L : List ByteArray) (sep : ByteArray) : ByteArray × (Int × Int) := match firstBad L 0 with
  | some i => (strOf [], (6, (i : Int)))
  | none => if okS sep = false then (strOf [], (6, -2)) else if 4000 < sumB L + (L.length - 1) * sep.size then (strOf [], (3, -1)) else (strOf (Lib.join (L.map bytesOf) (bytesOf sep)), (0, 0))
theorem Join_tot {L : List ByteArray} {sep : ByteArray} (hL : sumB L + L.length ≤ 1048576) (hs : sep.size ≤ 1048576) : Tot (fun n => textstr_Join n L sep) (· = joinR L sep) := by
  unfold textstr_Join
  refine Tot.bindq (P := fun r => (∃ i, firstBad L 0 = some i ∧ r = .inr (strOf [], (6, (i : Int)))) ∨ (firstBad L 0 = none ∧ r = .inl ((sumB L : Int), (0, 0)))) ?_ fun r hr => ?_
  · refine Tot.loop (fun st => ∃ i : Nat, st = ((sumB (L.take i) : Int), (i : Int), (0, 0)) ∧ i ≤ L.length ∧ ∀ j (h : j < L.length), j < i → okS L[j] = true) (fun st => L.length - st.2.1.toNat) ⟨0, rfl, Nat.zero_le _, fun j _ h => absurd h (Nat.not_lt_zero _)⟩ fun st ⟨i, e, hi, hall⟩ => ?_
    subst e
    have hd := firstBad_drop L 0 i hall hi
    dsimp only
    refine Tot.ite (fun q => ?_) fun q => ?_
    · have q : i < L.length := by have := of_decide_eq_true q; omega
      have hsz := size_le (List.getElem_mem q)
      refine Tot.bind0 (idx_nat q) (Tot.bindq (tValid_tot (by omega)) fun r hr => ?_)
      subst hr
      rw [List.drop_eq_getElem_cons q, show firstBad (L[i] :: L.drop (i + 1)) (0 + i) = (if okS L[i] = true then firstBad (L.drop (i + 1)) (0 + i + 1) else some (0 + i)) from rfl] at hd
      refine Tot.ite (fun h => ?_) fun h => ?_
      · have h : okS L[i] = false := by cases hh : okS L[i] <;> rw [hh] at h <;> first | rfl | cases h
        refine Tot.bindq (tat_tot _ _) fun r hr => Tot.ret (.inl ⟨i, ?_, by rw [hr]⟩)
        rw [hd, h, Nat.zero_add]; rfl
      · have h : okS L[i] = true := by cases hh : okS L[i] <;> rw [hh] at h <;> first | rfl | cases h
        have h1 := sumB_take q
        have h2 := sumB_le (L := L) (i + 1)
        refine Tot.some_bind (Tot.ret ⟨⟨i + 1, ?_, q, fun j hj hji => ?_⟩, ?_⟩)
        · rw [iw (x := (sumB (L.take i) : Int) + ((L[i]).size : Int)) (n := sumB (L.take (i + 1))) (by omega) (by omega), iw (n := i + 1) (by omega) (by omega)]
        · rcases Nat.lt_or_ge j i with h' | h'
          · exact hall j hj h'
          · have : j = i := by omega
            subst this; exact h
        · dsimp only; rw [iw (n := i + 1) (by omega) (by omega)]; omega
    · have q : i = L.length := by have := of_decide_eq_false q; omega
      subst q
      rw [List.drop_length] at hd
      exact Tot.ret (.inr ⟨hd, by rw [List.take_length]⟩)
  · rcases hr with ⟨i, h, e⟩ | ⟨h, e⟩
    · subst e
      exact Tot.contr (by unfold joinR; rw [h])
    · subst e
      refine Tot.contl (Tot.bindq (tValid_tot hs) fun r hr => ?_)
      subst hr
      refine Tot.ite (fun g => ?_) fun g => ?_
      · have g : okS sep = false := by cases hh : okS sep <;> rw [hh] at g <;> first | rfl | cases g
        exact Tot.bindq (tat_tot _ _) fun r hr => Tot.ret (by unfold joinR; rw [h, hr]; simp only [g, if_true])
      · have g : okS sep = true := by cases hh : okS sep <;> rw [hh] at g <;> first | rfl | cases g
        dsimp only
        have hb : (L.length - 1) * sep.size ≤ 1048576 * 1048576 := Nat.mul_le_mul (by omega) hs
        have hmx : (if 0 < IntKind.i64.wrap (((L.length : Nat) : Int) - 1) then IntKind.i64.wrap (((L.length : Nat) : Int) - 1) else 0) = ((L.length - 1 : Nat) : Int) := by
          rw [i64_small (by omega) (by omega)]
          split <;> omega
        rw [hmx, ← Int.natCast_mul, iw (n := (L.length - 1) * sep.size) rfl (by omega), iw (n := sumB L + (L.length - 1) * sep.size) (by omega) (by omega)]
        refine Tot.ite (fun k => ?_) fun k => ?_
        · have k := of_decide_eq_true k
          exact Tot.bindq (tat_tot _ _) fun r hr => Tot.ret (by unfold joinR; rw [h, hr]; simp only [g]; rw [if_neg (by simp), if_pos (by omega)])
        · have k := of_decide_eq_false k
          unfold strings_Join
          have hll := lib_len (bytesOf sep) (L.map bytesOf)
          have hsum : ((L.map bytesOf).map List.length).sum = sumB L := by
            unfold sumB
            rw [List.map_map]
            refine congrArg List.sum (List.map_congr_left fun s _ => ?_)
            exact (size_bytes s).symm
          rw [hsum, List.length_map, ← size_bytes] at hll
          rw [if_pos ⟨by omega, by omega⟩]
          exact Tot.some_bind (Tot.ret (by unfold joinR; rw [h]; simp only [g]; rw [if_neg (by simp), if_neg (by omega)]))
theorem firstBad_none {L : List ByteArray} (h : ∀ s ∈ L, okS s = true) : firstBad L 0 = none := by
  have := firstBad_drop L 0 L.length (fun j hj _ => h _ (List.getElem_mem hj)) (Nat.le_refl _)
  rw [List.drop_length] at this; exact this
theorem sumB_strs (l : List (List Nat)) : sumB (strs l) = lenS (fun x => (enc x).length) l := by
  unfold sumB strs lenS
  rw [List.map_map]
  exact congrArg List.sum (List.map_congr_left fun x _ => size_str _)
theorem Join_strs {l : List (List Nat)} {w : List Nat} (hl : l ≠ []) (hs : ∀ x ∈ l, (∀ r ∈ x, Scal r) ∧ (enc x).length ≤ 4000) (hw : ∀ r ∈ w, Scal r) (hw2 : (enc w).length ≤ 4000) (hb : lenS (fun x => (enc x).length) l + l.length ≤ 1048576) :
    Tot (fun n => textstr_Join n (strs l) (strOf (enc w))) (fun r => r = if 4000 < (enc (jn w l)).length then (strOf [], (3, -1)) else (strOf (enc (jn w l)), (0, 0))) := by
  refine (Join_tot (by rw [sumB_strs]; unfold strs; rw [List.length_map]; exact hb) (by rw [size_str]; omega)).mono fun r hr => ?_
  have h1 : firstBad (strs l) 0 = none := firstBad_none fun s hs' => by
    obtain ⟨x, hx, e⟩ := List.mem_map.1 hs'
    rw [← e]; exact okS_enc (hs x hx).1 (hs x hx).2
  have h2 : ((strs l).map bytesOf) = l.map enc := by
    unfold strs
    rw [List.map_map]
    exact List.map_congr_left fun x _ => bytes_str _
  have h3 : sumB (strs l) + ((strs l).length - 1) * (strOf (enc w)).size = (enc (jn w l)).length := by
    have := jn_lenS (f := fun x => (enc x).length) (fun a b => by simp [enc_app]) w l hl
    have hlp := List.length_pos_iff.2 hl
    rw [sumB_strs, size_str]
    unfold strs
    rw [List.length_map]
    obtain ⟨m, hm⟩ : ∃ m, l.length = m + 1 := ⟨l.length - 1, by omega⟩
    rw [hm, Nat.succ_mul] at this
    rw [hm, Nat.add_sub_cancel]; omega
  rw [hr]
  unfold joinR
  rw [h1]
  simp only [okS_enc hw hw2]
  rw [if_neg (by simp), h3, h2, bytes_str, lib_jn]

theorem parts_small {q : List Nat} : ∀ (k : Nat) (p : List Nat), ∀ x ∈ partsK q k p, (enc x).length ≤ (enc p).length
  | 0, p, x, hx => by rw [List.mem_singleton.1 hx]; exact Nat.le_refl _
  | k + 1, p, x, hx => by
    cases hf : firstOcc q p with
    | none => rw [partsK_none hf] at hx; rw [List.mem_singleton.1 hx]; exact Nat.le_refl _
    | some i =>
      rw [partsK_some hf] at hx
      have e := congrArg (fun l => (enc l).length) (occ_parts hf).1
      simp only [enc_app, List.length_append] at e
      rcases List.mem_cons.1 hx with e2 | e2
      · rw [e2]; omega
      · have := parts_small k _ x e2
        omega
theorem fault3_bad {s t u : ByteArray} (h : ¬ (okS s = true ∧ okS t = true ∧ okS u = true)) : ∃ k : Int, faultL [s, t, u] 0 = (6, k) := by
  show ∃ k : Int, (if okS s = true then (if okS t = true then (if okS u = true then (0, 0) else (6, -1 - ((0 + 1 + 1 : Nat) : Int))) else (6, -1 - ((0 + 1 : Nat) : Int))) else (6, -1 - ((0 : Nat) : Int))) = (6, k)
  by_cases h1 : okS s = true
  · rw [if_pos h1]
    by_cases h2 : okS t = true
    · rw [if_pos h2, if_neg (fun h3 => h ⟨h1, h2, h3⟩)]; exact ⟨_, rfl⟩
    · rw [if_neg h2]; exact ⟨_, rfl⟩
  · rw [if_neg h1]; exact ⟨_, rfl⟩
theorem Replace_bad {s t u : ByteArray} {most k : Int} (hs : ∀ x ∈ [s, t, u], x.size ≤ 1048576) (h : faultL [s, t, u] 0 = (6, k)) : Tot (fun n => textstr_Replace n s t u most) (· = (strOf [], (6, k))) := by
  unfold textstr_Replace
  refine Tot.bindq (tcheck_tot (by simp) hs) fun r hr => ?_
  rw [h] at hr; subst hr
  exact Tot.it rfl (Tot.ret rfl)

theorem Replaced_tot {s t u : ByteArray} {most : Int} (hs : s.size ≤ 1048576) (ht : t.size ≤ 1048576) (hu : u.size ≤ 1048576) (hm : inK .i64 most) : Tot (fun n => law4_TextstrReplaced n s t u most) (· = true) := by
  have hss : ∀ x ∈ [s, t, u], x.size ≤ 1048576 := by simp; exact ⟨hs, ht, hu⟩
  unfold law4_TextstrReplaced
  by_cases hok : okS s = true ∧ okS t = true ∧ okS u = true
  · obtain ⟨p, hp, e, hl⟩ := okS_text hok.1
    obtain ⟨q, hq, e2, hl2⟩ := okS_text hok.2.1
    obtain ⟨w, hw, e3, hl3⟩ := okS_text hok.2.2
    subst e e2 e3
    refine Tot.bindq (Replace_tot hp hq hw hl hl2 hl3 hm) fun r1 h1 => Tot.bindq letters_tot fun x hx => ?_
    subst hx
    refine Tot.if_ rfl ?_
    by_cases hqe : q = []
    · rw [if_pos hqe] at h1; subst h1
      exact Tot.it rfl (Tot.ret (by rw [str_eq]; exact decide_eq_true rfl))
    · rw [if_neg hqe] at h1
      have hnum := parts_num (p := p) hqe most
      have hne := parts_ne q (kN q p most) p
      have hj := jn_parts (q := q) (kN q p most) p
      have hsc := parts_scal (q := q) (kN q p most) p hp
      have hsm := parts_small (q := q) (kN q p most) p
      have hcl := cN_le (p := p) hqe
      have hkc : kN q p most ≤ cN q p := by
        unfold kN
        by_cases g : most < 0
        · rw [if_pos g]; exact Nat.le_refl _
        · rw [if_neg g]; exact Nat.min_le_right _ _
      have hspl := Split_tot (most := most) hp hq hl hl2 hm
      generalize partsK q (kN q p most) p = L at h1 hnum hne hj hsc hsm hspl
      generalize hK : kN q p most = K at hnum hkc hspl
      have hpl := enc_len_ge p
      by_cases hbig : 4000 < (enc (jn w L)).length
      · rw [if_pos hbig] at h1; subst h1
        exact Tot.it rfl (Tot.ret (by rw [str_eq]; exact decide_eq_true rfl))
      · rw [if_neg hbig] at h1; subst h1
        refine Tot.if_ rfl (Tot.bindq hspl fun r2 h2 => Tot.bindq (rat_tot _ _) fun r3 h3 => ?_)
        subst h3
        rw [if_neg hqe] at h2
        by_cases hmany : 1000 < K + 1
        · rw [if_pos hmany] at h2; subst h2
          exact Tot.it rfl (Tot.ret rfl)
        · rw [if_neg hmany] at h2; subst h2
          refine Tot.if_ rfl ?_
          have jw := jn_lenS (f := fun x => (enc x).length) (fun a b => by simp [enc_app]) w L hne
          have jq := jn_lenS (f := fun x => (enc x).length) (fun a b => by simp [enc_app]) q L hne
          have pw := jn_lenS (f := List.length) (fun a b => by simp) w L hne
          have pq := jn_lenS (f := List.length) (fun a b => by simp) q L hne
          rw [hj] at jq pq
          have hlen : lenS (fun x => (enc x).length) L + L.length ≤ 1048576 := by
            have : lenS (fun x => (enc x).length) L ≤ (enc p).length + (enc q).length := by omega
            omega
          refine Tot.bindq (Join_strs hne (fun x hx => ⟨hsc x hx, Nat.le_trans (hsm x hx) hl⟩) hw hl3 hlen) fun r4 h4 => ?_
          rw [if_neg hbig] at h4; subst h4
          have hjs : ∀ r ∈ jn w L, Scal r := by
            have : ∀ (L : List (List Nat)), (∀ x ∈ L, ∀ r ∈ x, Scal r) → ∀ r ∈ jn w L, Scal r := by
              intro L
              induction L with
              | nil => intro _ r hr; cases hr
              | cons x L ih =>
                intro h r hr
                cases L with
                | nil => exact h x (by simp) r hr
                | cons y M =>
                  rw [jn_cons (by simp)] at hr
                  rcases List.mem_append.1 hr with g | g
                  · rcases List.mem_append.1 g with g | g
                    · exact h x (by simp) r g
                    · exact hw r g
                  · exact ih (fun z hz => h z (List.mem_cons_of_mem _ hz)) r g
            exact this L hsc
          refine Tot.bindq (Length_ok hp hl) fun r5 h5 => Tot.bindq (Length_ok hjs (by omega)) fun r6 h6 => Tot.bindq (Length_ok hq hl2) fun r7 h7 => Tot.bindq (Length_ok hw hl3) fun r8 h8 => ?_
          subst h5 h6 h7 h8
          refine Tot.bindq (P := fun j => j = true) ?_ fun j hj => Tot.ret hj
          refine Tot.it rfl (Tot.it rfl (Tot.it rfl (Tot.it rfl (Tot.it rfl (Tot.it rfl (Tot.it (by rw [str_eq]; exact decide_eq_true rfl) (Tot.some_bind (Tot.ret ?_))))))))
          dsimp only
          have hql := enc_len_ge q
          have hwl := enc_len_ge w
          have hjl := enc_len_ge (jn w L)
          have hLs : (strs L).length = K + 1 := by unfold strs; rw [List.length_map, hnum]
          rw [hLs]
          rw [hnum, Nat.succ_mul] at pw pq
          have b1 : K * w.length ≤ 4000 * 4000 := Nat.mul_le_mul (by omega) (by omega)
          have b2 : K * q.length ≤ 4000 * 4000 := Nat.mul_le_mul (by omega) (by omega)
          rw [i64_small (x := ((jn w L).length : Int) - (p.length : Int)) (by omega) (by omega), show IntKind.i64.wrap (((K + 1 : Nat) : Int) - 1) = (K : Int) by rw [i64_small (by omega) (by omega)]; omega,
            i64_small (x := (w.length : Int) - (q.length : Int)) (by omega) (by omega), Int.mul_sub, ← Int.natCast_mul, ← Int.natCast_mul, i64_small (by omega) (by omega)]
          exact beq_iff_eq.2 (by omega)
  · obtain ⟨k, hk⟩ := fault3_bad hok
    refine Tot.bindq (Replace_bad hss hk) fun r1 h1 => Tot.bindq letters_tot fun x hx => ?_
    subst hx h1
    exact Tot.if_ rfl (Tot.it rfl (Tot.ret (by rw [str_eq]; exact decide_eq_true rfl)))
theorem TextstrReplaced_said (s old w : ByteArray) (most : Int) (_ : s.size ≤ maxLen) (_ : old.size ≤ maxLen) (_ : w.size ≤ maxLen) (hm : inK .i64 most) (h : (s.size + 1) + ((old.size + 1) + ((w.size + 1) + 1)) ≤ 1048576) : Tot (fun n => law4_TextstrReplaced n s old w most) (· = true) := Replaced_tot (by omega) (by omega) (by omega) hm
end Go.Gv.R
namespace Go.Gv.R
open Go Go.Gv Go.Gv.D Go.Lib

/-! occurrences from the end -/
theorem occ_rev {q p : List Nat} : (∃ a b, p = a ++ q ++ b) ↔ ∃ a b, p.reverse = a ++ q.reverse ++ b := by
  constructor
  · rintro ⟨a, b, e⟩
    exact ⟨b.reverse, a.reverse, by rw [e]; simp⟩
  · rintro ⟨a, b, e⟩
    refine ⟨b.reverse, a.reverse, ?_⟩
    have := congrArg List.reverse e
    rw [List.reverse_reverse] at this
    rw [this]; simp
theorem rev_ne {q : List Nat} (h : q ≠ []) : q.reverse ≠ [] := by simpa using h
theorem firstOcc_iff {q p : List Nat} : firstOcc q p = none ↔ ¬ ∃ a b, p = a ++ q ++ b := by
  constructor
  · exact firstOcc_none
  · intro h
    cases hf : firstOcc q p with
    | none => rfl
    | some i => exact absurd ⟨_, _, (occ_parts hf).1⟩ h
theorem firstOcc_rev {q p : List Nat} : firstOcc q.reverse p.reverse = none ↔ firstOcc q p = none := by
  rw [firstOcc_iff, firstOcc_iff, occ_rev (q := q) (p := p)]
theorem here_split {p q : List Nat} {j : Nat} (h : hereB p q j = true) : p = p.take j ++ q ++ p.drop (j + q.length) := by
  obtain ⟨b, hb⟩ := prefix_split h
  have e := List.take_append_drop j p
  have hd : p.drop (j + q.length) = b := by rw [← List.drop_drop, hb, List.drop_left]
  rw [hd, List.append_assoc, ← hb, e]
theorem split_here {p q a b : List Nat} (h : p = a ++ q ++ b) : hereB p q a.length = true := by
  unfold hereB; rw [h, List.append_assoc, List.drop_left]; exact prefix_app q b
theorem last_rev {p q : List Nat} (hne : q ≠ []) (hq : ∀ r ∈ q, Scal r) (hp : ∀ r ∈ p, Scal r) : Lib.lastIndex (enc p) (enc q) = match firstOcc q.reverse p.reverse with | none => -1 | some i => ((enc (p.take (p.length - (i + q.length)))).length : Int) := by
  rcases last_found hq hp with ⟨h1, h2⟩ | ⟨j, h0, h1, h2⟩
  · rcases h2 0 with ⟨_, h3⟩ | ⟨j, _, _, h3, _⟩
    · have : firstOcc q.reverse p.reverse = none := by
        rw [firstOcc_rev, firstOcc_iff]
        rintro ⟨a, b, e⟩
        have h4 := split_here e
        have h5 : a.length + q.length ≤ p.length := by rw [e]; simp
        rw [h3 _ h5] at h4; cases h4
      rw [this]; exact h1
    · omega
  · rcases h2 0 with ⟨h3, _⟩ | ⟨j', g1, g2, g3, g4, _⟩
    · omega
    · have : j' = j := by omega
      subst this
      have e := here_split g2
      have hlen := hereB_len g2 h0
      cases hf : firstOcc q.reverse p.reverse with
      | none =>
        have := firstOcc_rev.1 hf
        exact absurd ⟨_, _, e⟩ (firstOcc_none this)
      | some i =>
        obtain ⟨o1, o2⟩ := occ_parts hf
        obtain ⟨_, _, o3⟩ := firstOcc_some hf
        rw [List.length_reverse] at o2
        rw [List.length_reverse] at o2
        -- the other way round
        have e2 : p = (p.reverse.drop (i + q.reverse.length)).reverse ++ q ++ (p.reverse.take i).reverse := by
          have := congrArg List.reverse o1
          rw [List.reverse_reverse] at this
          rw [List.reverse_append, List.reverse_append, List.reverse_reverse, ← List.append_assoc] at this
          exact this
        have h4 := split_here e2
        have h5 : ((p.reverse.drop (i + q.reverse.length)).reverse).length = p.length - (i + q.length) := by simp
        rw [h5] at h4
        have h6 : p.length - (i + q.length) ≤ j' := by
          rcases Nat.lt_or_ge j' (p.length - (i + q.length)) with h | h
          · rw [g4 rfl _ h (by omega)] at h4; cases h4
          · exact h
        have h7 : i ≤ (p.drop (j' + q.length)).reverse.length := o3 _ (p.take j').reverse (by
          have := congrArg List.reverse e
          rw [List.reverse_append, List.reverse_append, ← List.append_assoc] at this
          exact this)
        rw [List.length_reverse, List.length_drop] at h7
        have : j' = p.length - (i + q.length) := by omega
        rw [h1, this]

/-! as many from the end as from the beginning -/
theorem greedy {q : List Nat} (hne : q ≠ []) : ∀ (n : Nat) (p : List Nat) (L : List (List Nat)), p.length ≤ n → L ≠ [] → jn q L = p → L.length ≤ cN q p + 1 := by
  intro n
  induction n with
  | zero =>
    intro p L hn hL e
    cases L with
    | nil => exact absurd rfl hL
    | cons x L =>
      cases L with
      | nil => simp
      | cons y L =>
        rw [jn_cons (by simp)] at e
        have := congrArg List.length e
        have h3 := List.length_pos_iff.2 hne
        rw [List.length_append, List.length_append] at this; omega
  | succ n ih =>
    intro p L hn hL e
    cases L with
    | nil => exact absurd rfl hL
    | cons x L =>
      cases L with
      | nil => simp
      | cons y L =>
        rw [jn_cons (by simp)] at e
        cases hf : firstOcc q p with
        | none => exact absurd ⟨x, _, e.symm⟩ (firstOcc_none hf)
        | some i =>
          obtain ⟨o1, o2⟩ := occ_parts hf
          obtain ⟨_, _, o3⟩ := firstOcc_some hf
          have hi := o3 x _ e.symm
          have h3 := List.length_pos_iff.2 hne
          have hd : p.drop (i + q.length) = (x ++ q).drop (i + q.length) ++ jn q (y :: L) := by
            rw [← e, List.drop_append_of_le_length (by rw [List.length_append]; omega)]
          have hj : (x ++ q).drop (i + q.length) ++ jn q (y :: L) = jn q (((x ++ q).drop (i + q.length) ++ y) :: L) := by
            cases L with
            | nil => rfl
            | cons z L =>
              show _ = (((x ++ q).drop (i + q.length) ++ y) ++ q ++ jn q (z :: L))
              rw [jn_cons (x := y) (l := z :: L) (by simp)]; simp only [List.append_assoc]
          have h4 := ih (p.drop (i + q.length)) _ (by rw [List.length_drop]; omega) (by simp) (hj.symm.trans hd.symm)
          have hc : cN q p = cN q (p.drop (i + q.length)) + 1 := by
            unfold cN
            obtain ⟨m, hm⟩ : ∃ m, p.length = m + 1 := ⟨p.length - 1, by omega⟩
            rw [hm, cutsK_some hf, List.length_cons]
            rw [cuts_off m _ _ 0, cuts_more hne (p.drop (i + q.length)).length _ m 0 (Nat.le_refl _) (by rw [List.length_drop]; omega)]
          rw [List.length_cons] at h4 ⊢
          rw [List.length_cons]; omega
theorem jn_snoc {w x : List Nat} : ∀ {l : List (List Nat)}, l ≠ [] → jn w (l ++ [x]) = jn w l ++ w ++ x
  | [], h => absurd rfl h
  | [y], _ => rfl
  | y :: z :: r, _ => by
    rw [List.cons_append, jn_cons (by simp), jn_snoc (l := z :: r) (by simp), jn_cons (l := z :: r) (by simp)]
    simp
theorem jn_rev (q : List Nat) : ∀ L : List (List Nat), (jn q L).reverse = jn q.reverse ((L.map List.reverse).reverse)
  | [] => rfl
  | [x] => rfl
  | x :: y :: r => by
    rw [jn_cons (by simp), List.reverse_append, List.reverse_append, jn_rev q (y :: r)]
    have h : ((x :: y :: r).map List.reverse).reverse = ((y :: r).map List.reverse).reverse ++ [x.reverse] := by simp
    rw [h, jn_snoc (by simp), List.append_assoc]
/-- the parts cut off from the end -/
def partsR (q : List Nat) (k : Nat) (p : List Nat) : List (List Nat) := ((partsK q.reverse k p.reverse).map List.reverse).reverse
theorem jn_partsR (q : List Nat) (k : Nat) (p : List Nat) : jn q (partsR q k p) = p := by
  have h := jn_rev q.reverse (partsK q.reverse k p.reverse)
  rw [jn_parts, List.reverse_reverse, List.reverse_reverse] at h
  exact h.symm
theorem cN_rev {q p : List Nat} (hne : q ≠ []) : cN q.reverse p.reverse = cN q p := by
  have h1 := greedy hne p.length p (partsR q (cN q.reverse p.reverse) p) (Nat.le_refl _) (by unfold partsR; simp; exact parts_ne _ _ _) (jn_partsR q _ p)
  have hl1 : (partsR q (cN q.reverse p.reverse) p).length = cN q.reverse p.reverse + 1 := by
    unfold partsR
    rw [List.length_reverse, List.length_map, parts_len _ _ 0, cuts_len_min (rev_ne hne), Nat.min_self]
  have h2 := greedy (rev_ne hne) p.reverse.length p.reverse ((partsK q (cN q p) p).map List.reverse).reverse (Nat.le_refl _) (by simp; exact parts_ne _ _ _) (by rw [← jn_rev, jn_parts])
  have hl2 : (((partsK q (cN q p) p).map List.reverse).reverse).length = cN q p + 1 := by
    rw [List.length_reverse, List.length_map, parts_len _ _ 0, cuts_len_min hne, Nat.min_self]
  omega
theorem kN_rev {q p : List Nat} (hne : q ≠ []) (most : Int) : kN q.reverse p.reverse most = kN q p most := by
  unfold kN; rw [cN_rev hne]

/-- a part that was cut off has no occurrence -/
theorem part_free {q : List Nat} (hne : q ≠ []) : ∀ (k : Nat) (p : List Nat) (j : Nat) (h : j < (partsK q k p).length), j + 1 < (partsK q k p).length → firstOcc q ((partsK q k p)[j]) = none
  | 0, p, j, h, h2 => by simp [partsK] at h2
  | k + 1, p, j, h, h2 => by
    cases hf : firstOcc q p with
    | none => rw [partsK_none hf] at h2; simp at h2
    | some i =>
      have e := partsK_some (k := k) hf
      obtain ⟨o1, o2⟩ := occ_parts hf
      obtain ⟨_, _, o3⟩ := firstOcc_some hf
      have h3 := List.length_pos_iff.2 hne
      cases j with
      | zero =>
        have : (partsK q (k + 1) p)[0] = p.take i := by simp [e]
        rw [this, firstOcc_iff]
        rintro ⟨a, b, e2⟩
        have h4 := o3 a (b ++ p.drop i) (by rw [← List.append_assoc, ← e2, List.take_append_drop])
        have h5 := congrArg List.length e2
        rw [List.length_take, List.length_append, List.length_append] at h5
        omega
      | succ j =>
        have h' : j < (partsK q k (p.drop (i + q.length))).length := by rw [e, List.length_cons] at h; omega
        have : (partsK q (k + 1) p)[j + 1] = (partsK q k (p.drop (i + q.length)))[j] := by simp [e]
        rw [this]
        exact part_free hne k _ j h' (by rw [e, List.length_cons] at h2; omega)

theorem parts_step {q : List Nat} {K t : Nat} {p r : List Nat} {i : Nat} {pre : List (List Nat)} (h : partsK q K p = pre ++ partsK q (K - t) r) (ht : t < K) (hf : firstOcc q r = some i) : partsK q K p = (pre ++ [r.take i]) ++ partsK q (K - (t + 1)) (r.drop (i + q.length)) := by
  rw [h]
  obtain ⟨m, hm⟩ : ∃ m, K - t = m + 1 := ⟨K - t - 1, by omega⟩
  rw [hm, partsK_some hf, show K - (t + 1) = m by omega]
  simp
theorem SplitLast_tot {p q : List Nat} {most : Int} (hp : ∀ r ∈ p, Scal r) (hq : ∀ r ∈ q, Scal r) (hl : (enc p).length ≤ 4000) (hl2 : (enc q).length ≤ 4000) (hm : inK .i64 most) :
    Tot (fun n => textstr_SplitLast n (strOf (enc p)) (strOf (enc q)) most) (fun r => r = if q = [] then ([], (10, -2)) else if 1000 < kN q p most + 1 then ([], (2, -1)) else (strs (partsR q (kN q p most) p), (0, 0))) := by
  unfold textstr_SplitLast
  refine Tot.bindq (tcheck_tot (by simp) (by simp [size_str]; omega)) fun r hr => ?_
  rw [check_ok (by simp) (by simp; exact ⟨okS_enc hp hl, okS_enc hq hl2⟩)] at hr; subst hr
  refine Tot.if_ rfl ?_
  rw [empty_str]
  refine Tot.ite (fun h => ?_) fun h => ?_
  · have h := of_decide_eq_true h
    exact Tot.bindq (tat_tot _ _) fun r hr => Tot.ret (by rw [if_pos h, hr])
  have hqe := of_decide_eq_false h
  have hm := inK_i64 hm
  have hpl := enc_len_ge p
  have hq3 := List.length_pos_iff.2 hqe
  have last : ∀ r : List Nat, (∀ x ∈ r, Scal x) → (enc r).length ≤ 4000 → Tot (fun n => strings_LastIndex n (strOf (enc r)) (strOf (enc q))) (· = Lib.lastIndex (enc r) (enc q)) := by
    intro r hr hrl
    unfold strings_LastIndex
    rw [if_pos (by rw [size_str]; omega), bytes_str, bytes_str]
    exact Tot.ret rfl
  refine Tot.bindq (last p hp hl) fun i0 hi0 => ?_
  subst hi0
  -- how many cuts are allowed
  obtain ⟨K, hK, hK2⟩ : ∃ K : Nat, (most < 0 → K = p.length) ∧ (0 ≤ most → K = most.toNat) := by
    by_cases g : most < 0
    · exact ⟨p.length, fun _ => rfl, fun h => absurd g (by omega)⟩
    · exact ⟨most.toNat, fun h => absurd h g, fun _ => rfl⟩
  have hkK : partsK q.reverse (kN q p most) p.reverse = partsK q.reverse K p.reverse := by
    rw [parts_min (rev_ne hqe) K, parts_min (rev_ne hqe) (kN q p most), cN_rev hqe]
    congr 1
    have hc := cN_le (p := p) hqe
    unfold kN
    by_cases g : most < 0
    · rw [if_pos g, hK g]; omega
    · rw [if_neg g, hK2 (by omega)]; omega
  refine Tot.bindq (P := fun j => ∃ (r : List Nat) (pre : List (List Nat)), j = (strOf (enc r.reverse), strs (pre.map List.reverse)) ∧ partsK q.reverse K p.reverse = pre ++ [r] ∧ pre.length ≤ p.length) ?_ fun j hj => ?_
  · refine Tot.loop (fun st => ∃ (r : List Nat) (pre : List (List Nat)), st = (strOf (enc r.reverse), strs (pre.map List.reverse), Lib.lastIndex (enc r.reverse) (enc q)) ∧ pre.length ≤ K ∧ partsK q.reverse K p.reverse = pre ++ partsK q.reverse (K - pre.length) r ∧ (∀ x ∈ r, Scal x) ∧ (enc r.reverse).length ≤ 4000 ∧ pre.length + r.length ≤ p.length) (fun st => 4001 - (4000 - st.1.size) + 0) ⟨p.reverse, [], by simp [strs], Nat.zero_le _, by simp, (fun x hx => hp x (List.mem_reverse.1 hx)), by rw [List.reverse_reverse]; exact hl, by simp⟩ fun st ⟨r, pre, e, hpre, hall, hrs, hrl, hsum⟩ => ?_
    subst e
    dsimp only
    have hlen : (strs (pre.map List.reverse)).length = pre.length := by unfold strs; rw [List.length_map, List.length_map]
    rw [hlen]
    have hrs' : ∀ x ∈ r.reverse, Scal x := fun x hx => hrs x (List.mem_reverse.1 hx)
    have hli := last_rev hqe hq hrs'
    rw [List.reverse_reverse] at hli
    refine Tot.ite (fun g => ?_) fun g => ?_
    · rw [Bool.and_eq_true, Bool.or_eq_true] at g
      have g1 := of_decide_eq_true g.1
      have g2 : most < 0 ∨ (pre.length : Int) < most := g.2.imp of_decide_eq_true of_decide_eq_true
      cases hf : firstOcc q.reverse r with
      | none => rw [hf] at hli; dsimp only at hli; omega
      | some i =>
        rw [hf] at hli
        obtain ⟨o1, o2⟩ := occ_parts hf
        rw [List.length_reverse] at o2
        have ht : pre.length < K := by
          rcases g2 with g2 | g2
          · rw [hK g2]; omega
          · rw [hK2 (by omega)]; omega
        have hstep := parts_step hall ht hf
        rw [List.length_reverse] at hstep
        -- r turned: front, q, what is cut off
        have er : r.reverse = (r.drop (i + q.length)).reverse ++ q ++ (r.take i).reverse := by
          have := congrArg List.reverse o1
          rw [List.reverse_append, List.reverse_append, List.reverse_reverse, ← List.append_assoc, List.length_reverse] at this
          exact this
        have hfl : r.reverse.take (r.length - (i + q.length)) = (r.drop (i + q.length)).reverse := by
          have h5 : ((r.drop (i + q.length)).reverse).length = r.length - (i + q.length) := by simp
          rw [er, List.append_assoc, ← h5, List.take_left]
        dsimp only at hli
        rw [List.length_reverse, hfl] at hli
        have henc : enc r.reverse = enc (r.drop (i + q.length)).reverse ++ enc q ++ enc (r.take i).reverse := by rw [← enc_app, ← enc_app, ← er]
        have hel := congrArg List.length henc
        rw [List.length_append, List.length_append] at hel
        have hq4 := List.length_pos_iff.2 (enc_ne' hqe)
        rw [hli, size_str, size_str]
        generalize hA : enc (r.drop (i + q.length)).reverse = A at henc hel hli ⊢
        generalize hB : enc (r.take i).reverse = B at henc hel ⊢
        rw [show IntKind.i64.wrap ((A.length : Int) + ((enc q).length : Nat)) = ((A.length + (enc q).length : Nat) : Int) from iw (by omega) (by omega)]
        have s1 : ssub (strOf (enc r.reverse)) ((A.length + (enc q).length : Nat) : Int) (((enc r.reverse).length : Nat) : Int) = some (strOf B) := by
          rw [ssub_str (by omega) (Nat.le_refl _), List.take_of_length_le (Nat.le_refl _), henc, ← List.length_append, List.drop_left]
        have s2 : ssub (strOf (enc r.reverse)) 0 (A.length : Int) = some (strOf A) := by
          have := ssub_str (l := enc r.reverse) (i := 0) (j := A.length) (by omega) (by omega)
          rw [show ((0 : Nat) : Int) = 0 from rfl] at this
          rw [this, List.drop_zero, henc, List.append_assoc, List.take_left]
        refine Tot.bind0 s1 (Tot.bind0 (app_ok (by rw [hlen]; simp; omega)) (Tot.bind0 s2 ?_))
        have hds : ∀ x ∈ r.drop (i + q.length), Scal x := scal_drop hrs _
        rw [← hA]
        refine Tot.bindq (last _ (fun x hx => hds x (List.mem_reverse.1 hx)) (by rw [hA]; omega)) fun y hy => Tot.ret ⟨⟨r.drop (i + q.length), pre ++ [r.take i], ?_, by rw [List.length_append]; simp; omega, ?_, hds, by rw [hA]; omega, ?_⟩, ?_⟩
        · rw [hy, ← hB]; unfold strs; simp
        · rw [hstep, List.length_append]; simp
        · rw [List.length_append, List.length_drop]; simp; omega
        · simp only [size_str]; rw [hA]; omega
    · refine Tot.ret ⟨r, pre, rfl, ?_, by omega⟩
      rw [hall]
      refine congrArg (pre ++ ·) ?_
      cases hf : firstOcc q.reverse r with
      | none => exact partsK_none hf
      | some i =>
        rw [hf] at hli
        have g1 : ¬ (most < 0 ∨ (pre.length : Int) < most) := fun h => by
          dsimp only at hli
          have : (decide (Lib.lastIndex (enc r.reverse) (enc q) ≥ 0)) = true := decide_eq_true (by rw [hli]; exact Int.natCast_nonneg _)
          rw [this, Bool.true_and] at g
          rcases h with h | h
          · rw [decide_eq_true h] at g; cases g
          · rw [decide_eq_true h, Bool.or_true] at g; cases g
        have : K - pre.length = 0 := by rw [hK2 (by omega)]; omega
        rw [this]; rfl
  · obtain ⟨r, pre, e, hparts, hpl2⟩ := hj
    subst e
    have hlen : (strs (pre.map List.reverse)).length = pre.length := by unfold strs; rw [List.length_map, List.length_map]
    dsimp only
    rw [hlen]
    refine Tot.some_bind (Tot.bindq (P := fun l => l = strs (partsR q (kN q p most) p)) ?_ fun l hl3 => ?_)
    · have hfin : strs (partsR q (kN q p most) p) = strOf (enc r.reverse) :: (strs (pre.map List.reverse)).reverse := by
        unfold partsR strs
        rw [hkK, hparts]; simp
      rw [hfin, show IntKind.i64.wrap ((pre.length : Nat) - 1) = (pre.length : Int) - 1 by rw [i64_small (by omega) (by omega)]]
      generalize strs (pre.map List.reverse) = B at hlen ⊢
      generalize strOf (enc r.reverse) = x
      refine Tot.loop (fun st => ∃ i : Nat, i ≤ B.length ∧ st = (x :: (B.drop i).reverse, (i : Int) - 1)) (fun st => (st.2 + 1).toNat) ⟨B.length, Nat.le_refl _, by rw [List.drop_length, hlen]; rfl⟩ fun st ⟨i, hi, e⟩ => ?_
      subst e
      dsimp only
      refine Tot.ite (fun g => ?_) fun g => ?_
      · have g : 0 < i := by have := of_decide_eq_true g; omega
        obtain ⟨i, rfl⟩ : ∃ m, i = m + 1 := ⟨i - 1, by omega⟩
        rw [show (((i + 1 : Nat) : Int) - 1) = (i : Int) by omega]
        refine Tot.bind0 (idx_nat (by omega)) (Tot.bind0 (app_ok (by simp; omega)) (Tot.ret ⟨⟨i, by omega, ?_⟩, ?_⟩))
        · have hd := List.drop_eq_getElem_cons (l := B) (i := i) (by omega)
          rw [i64_small (by omega) (by omega), hd, List.reverse_cons]; rfl
        · dsimp only; rw [i64_small (by omega) (by omega)]; omega
      · have g : i = 0 := by have := of_decide_eq_false g; omega
        subst g
        exact Tot.ret (by rw [List.drop_zero])
    · subst hl3
      refine Tot.bindq pieces_tot fun r hr => Tot.ret ?_
      have hll : (strs (partsR q (kN q p most) p)).length = kN q p most + 1 := by
        unfold strs partsR
        rw [List.length_map, List.length_reverse, List.length_map, ← kN_rev hqe, parts_num (rev_ne hqe)]
      rw [hll] at hr
      rw [if_neg hqe, hr]
end Go.Gv.R
