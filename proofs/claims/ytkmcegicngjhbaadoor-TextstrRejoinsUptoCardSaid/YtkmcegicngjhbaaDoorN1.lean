import Derived.Test.YtkmcegicngjhbaaDoorM9
set_option linter.all false
namespace Go.Gv.R
open Go Go.Gv Go.Gv.D Go.Lib

/-- what a search from one place to another one finds, told within the part -/
def Found (w q : List Nat) (last : Bool) (o : Int) (r : Int) : Prop :=
  (r = -1 ∧ ∀ j, j + q.length ≤ w.length → hereB w q j = false) ∨
  ∃ j, j + q.length ≤ w.length ∧ hereB w q j = true ∧ r = o + (j : Int) ∧ (last = true → ∀ i, j < i → i + q.length ≤ w.length → hereB w q i = false) ∧ (last = false → ∀ i, i < j → hereB w q i = false)
theorem Found.unique {w q : List Nat} {last : Bool} {o r r' : Int} (h : Found w q last o r) (h' : Found w q last o r') : r = r' := by
  rcases h with ⟨e, h⟩ | ⟨j, h1, h2, e, h3, h4⟩ <;> rcases h' with ⟨e', h'⟩ | ⟨j', h1', h2', e', h3', h4'⟩
  · omega
  · rw [h j' h1'] at h2'; cases h2'
  · rw [h' j h1] at h2; cases h2
  · have : j = j' := by
      rcases Nat.lt_trichotomy j j' with g | g | g
      · cases last with
        | true => rw [h3 rfl j' g h1'] at h2'; cases h2'
        | false => rw [h4' rfl j g] at h2; cases h2
      · exact g
      · cases last with
        | true => rw [h3' rfl j g h1] at h2; cases h2
        | false => rw [h4 rfl j' g] at h2'; cases h2'
    subst this; omega
theorem here_part {p q : List Nat} {a b j : Nat} (hab : a ≤ b) (hb : b ≤ p.length) (hj : j + q.length ≤ b - a) : hereB ((p.take b).drop a) q j = hereB p q (a + j) := by
  unfold hereB
  rw [prefix_take, prefix_take]
  refine decide_eq_decide.2 ?_
  rw [List.drop_drop, List.drop_take, List.take_take, show min q.length (b - (a + j)) = q.length by omega]
theorem Occurs_tot {p q : List Nat} {a b : Nat} {last : Bool} (hp : p.length ≤ 10000000) (hq : q.length ≤ 10000000) (hab : a ≤ b) (hb : b ≤ p.length) : Tot (fun n => ref4_Occurs n (ints p) (ints q) (a : Int) (b : Int) last) (Found ((p.take b).drop a) q last a) := by
  unfold ref4_Occurs
  simp only [ints_len]
  have hwl : ((p.take b).drop a).length = b - a := by rw [List.length_drop, List.length_take]; omega
  refine Tot.bindq (P := fun r => Found ((p.take b).drop a) q last a r) ?_ fun r hr => Tot.ret hr
  -- seen so far: the places ahead of a + j
  refine Tot.loop (fun st => ∃ j : Nat, st.2 = ((a + j : Nat) : Int) ∧ j ≤ b - a + 1 ∧ ((st.1 = -1 ∧ ∀ i, i < j → hereB p q (a + i) = false) ∨ ∃ i, i < j ∧ i + q.length ≤ b - a ∧ hereB p q (a + i) = true ∧ st.1 = ((a + i : Nat) : Int) ∧ (last = true → ∀ k, i < k → k < j → hereB p q (a + k) = false) ∧ (last = false → ∀ k, k < i → hereB p q (a + k) = false))) (fun st => b + 1 - st.2.toNat) ⟨0, rfl, Nat.zero_le _, .inl ⟨rfl, fun i h => absurd h (Nat.not_lt_zero _)⟩⟩ fun st ⟨j, e, hj, hs⟩ => ?_
  obtain ⟨found, x⟩ := st
  dsimp only at e hs ⊢
  subst e
  have hw : IntKind.i64.wrap (((a + j : Nat) : Int) + (q.length : Nat)) = ((a + j + q.length : Nat) : Int) := iw (by clear hs; omega) (by clear hs; omega)
  have hw1 : IntKind.i64.wrap (((a + j : Nat) : Int) + 1) = ((a + (j + 1) : Nat) : Int) := iw (by clear hs; omega) (by clear hs; omega)
  rw [hw]
  refine Tot.ite (fun h => ?_) fun h => ?_
  · have h : a + j + q.length ≤ b := by clear hs; have := of_decide_eq_true h; omega
    have hjj : j + q.length ≤ b - a := by clear hs; omega
    have hj2 : j + 1 ≤ b - a + 1 := by clear hs; omega
    have hx1 : a + j ≤ 100000000 := by clear hs; omega
    have hx2 : p.length ≤ 100000000 := by clear hs; omega
    have hx3 : q.length ≤ 100000000 := by clear hs; omega
    have hx4 : a + j + q.length ≤ p.length := by clear hs; omega
    have hx5 : b + 1 - (((a + (j + 1) : Nat) : Int)).toNat < b + 1 - (((a + j : Nat) : Int)).toNat := by clear hs; omega
    refine Tot.bindq (P := fun r => r = (hereB p q (a + j) && (decide (found < 0) || last))) ?_ fun r hr => ?_
    · refine Tot.bindq (here_tot (i := a + j) hx2 hx3 hx1) fun r hr => ?_
      rw [decide_eq_true hx4, Bool.true_and] at hr
      subst hr
      refine Tot.ite (fun g => ?_) fun g => Tot.ret (by rw [g, Bool.false_and])
      rw [g, Bool.true_and]
      refine Tot.ite (fun g2 => Tot.ret (by rw [g2, Bool.true_or])) fun g2 => Tot.ret (by rw [g2, Bool.false_or])
    subst hr
    refine Tot.bindq (P := fun y => y = if (hereB p q (a + j) && (decide (found < 0) || last)) = true then ((a + j : Nat) : Int) else found) (Tot.ite (fun g => Tot.ret (by rw [if_pos g])) fun g => Tot.ret (by rw [if_neg (by rw [g]; simp)])) fun y hy => Tot.ret ⟨⟨j + 1, ?_, hj2, ?_⟩, ?_⟩
    · exact hw1
    · dsimp only
      cases hh : hereB p q (a + j) with
      | false =>
        rw [hh, Bool.false_and, if_neg (by simp)] at hy
        subst hy
        rcases hs with ⟨e, hs⟩ | ⟨i, h1, h2, h3, e, h4, h5⟩
        · refine .inl ⟨e, fun i hi => ?_⟩
          rcases Nat.lt_or_ge i j with h' | h'
          · exact hs i h'
          · have : i = j := by omega
            subst this; exact hh
        · refine .inr ⟨i, by omega, h2, h3, e, fun hl k hk hk2 => ?_, h5⟩
          rcases Nat.lt_or_ge k j with h' | h'
          · exact h4 hl k hk h'
          · have : k = j := by omega
            subst this; exact hh
      | true =>
        rw [hh, Bool.true_and] at hy
        rcases hs with ⟨e, hs⟩ | ⟨i, h1, h2, h3, e, h4, h5⟩
        · rw [e, decide_eq_true (by omega), Bool.true_or, if_pos rfl] at hy
          exact .inr ⟨j, by omega, hjj, hh, hy, fun _ k h1 h2 => by omega, fun _ k hk => hs k hk⟩
        · cases hl : last with
          | true =>
            rw [hl, Bool.or_true, if_pos rfl] at hy
            exact .inr ⟨j, by omega, hjj, hh, hy, fun _ k h1 h2 => by omega, fun h => by cases h⟩
          | false =>
            rw [hl, Bool.or_false, decide_eq_false (by omega), if_neg (by simp)] at hy
            exact .inr ⟨i, by omega, h2, h3, by rw [hy]; exact e, (fun h => by cases h), fun _ => h5 hl⟩
    · dsimp only; rw [hw1]; exact hx5
  · have h : ¬ (a + j + q.length ≤ b) := by clear hs; have := of_decide_eq_false h; omega
    refine Tot.ret ?_
    show Found _ q last a found
    have hpart : ∀ i, i + q.length ≤ b - a → hereB ((p.take b).drop a) q i = hereB p q (a + i) := fun i hi => here_part hab hb hi
    rcases hs with ⟨e, hs⟩ | ⟨i, h1, h2, h3, e, h4, h5⟩
    · refine .inl ⟨e, fun i hi => ?_⟩
      rw [hwl] at hi
      rw [hpart i hi]; exact hs i (by omega)
    · refine .inr ⟨i, by rw [hwl]; exact h2, by rw [hpart i h2]; exact h3, by rw [e]; omega, fun hl k hk hk2 => ?_, fun hl k hk => ?_⟩
      · rw [hwl] at hk2
        rw [hpart k hk2]; exact h4 hl k hk (by omega)
      · rw [hpart k (by omega)]; exact h5 hl k hk

/-! the program's search -/
theorem here_enc {q p : List Nat} {j : Nat} (h : hereB p q j = true) (hj : j ≤ p.length) : occAt (enc p) (enc q) (enc (p.take j)).length = true := by
  obtain ⟨b, hb⟩ := prefix_split h
  have e : p = p.take j ++ q ++ b := by
    have := List.take_append_drop j p
    rw [hb, ← List.append_assoc] at this; exact this.symm
  have := occ_at (s := q) (a := p.take j) (b := b)
  rw [← e] at this; exact this
theorem enc_here {q p : List Nat} (hne : q ≠ []) (hq : ∀ r ∈ q, Scal r) (hp : ∀ r ∈ p, Scal r) {x : Nat} (h : occAt (enc p) (enc q) x = true) : ∃ j, j + q.length ≤ p.length ∧ hereB p q j = true ∧ x = (enc (p.take j)).length := by
  obtain ⟨a, b, e, hx⟩ := occ_enc hne hq p x hp h
  refine ⟨a.length, ?_, ?_, ?_⟩
  · rw [e, List.length_append, List.length_append]; omega
  · unfold hereB; rw [e, List.append_assoc, List.drop_left]; exact prefix_app q b
  · rw [e, List.append_assoc, List.take_left]; exact hx
theorem enc_mono {p : List Nat} {i j : Nat} (h : i < j) (hj : j ≤ p.length) : (enc (p.take i)).length < (enc (p.take j)).length := by
  have e : p.take j = p.take i ++ (p.take j).drop i := by
    have := List.take_append_drop i (p.take j)
    rw [List.take_take, show min i j = i by omega] at this; exact this.symm
  rw [e, enc_app, List.length_append]
  have hl : 0 < ((p.take j).drop i).length := by rw [List.length_drop, List.length_take]; omega
  have := enc_len_ge ((p.take j).drop i)
  omega
theorem nil_here (p : List Nat) (j : Nat) : hereB p [] j = true := by unfold hereB; cases p.drop j <;> rfl
theorem index_found {w q : List Nat} (hq : ∀ r ∈ q, Scal r) (hw : ∀ r ∈ w, Scal r) : (Lib.index (enc w) (enc q) = -1 ∧ ∀ o, Found w q false o (-1)) ∨ ∃ j, j ≤ w.length ∧ Lib.index (enc w) (enc q) = ((enc (w.take j)).length : Int) ∧ ∀ o : Int, Found w q false o (o + (j : Int)) := by
  by_cases hne : q = []
  · subst hne
    refine .inr ⟨0, Nat.zero_le _, ?_, fun o => .inr ⟨0, by simp, nil_here w 0, rfl, (fun h => by cases h), fun _ i hi => absurd hi (Nat.not_lt_zero _)⟩⟩
    rw [List.take_zero]
    show Lib.index (enc w) [] = _
    cases hw : enc w <;> simp [Lib.index, enc]
  · have hi := index_first hne hq hw
    cases hf : firstOcc q w with
    | none =>
      rw [hf] at hi
      refine .inl ⟨hi, fun o => .inl ⟨rfl, fun j hj => ?_⟩⟩
      cases hh : hereB w q j with
      | false => rfl
      | true =>
        obtain ⟨b, hb⟩ := prefix_split hh
        refine absurd ⟨w.take j, b, ?_⟩ (firstOcc_none hf)
        have := List.take_append_drop j w
        rw [hb, ← List.append_assoc] at this; exact this.symm
    | some j =>
      rw [hf] at hi
      obtain ⟨hb, hl, hm⟩ := firstOcc_some hf
      have h2 := occ_parts hf
      refine .inr ⟨j, hl, hi, fun o => .inr ⟨j, h2.2, ?_, rfl, (fun h => by cases h), fun _ i hi => ?_⟩⟩
      · unfold hereB
        obtain ⟨b, hb⟩ := hb
        have : w.drop j = q ++ b := by
          have e2 := List.take_append_drop j w
          rw [List.append_assoc] at hb
          exact List.append_cancel_left (e2.trans hb)
        rw [this]; exact prefix_app q b
      · cases hh : hereB w q i with
        | false => rfl
        | true =>
          obtain ⟨b', hb'⟩ := prefix_split hh
          have e : w = w.take i ++ q ++ b' := by
            have := List.take_append_drop i w
            rw [hb', ← List.append_assoc] at this; exact this.symm
          have := hm _ _ e
          rw [List.length_take] at this; omega
theorem last_found {w q : List Nat} (hq : ∀ r ∈ q, Scal r) (hw : ∀ r ∈ w, Scal r) : (Lib.lastIndex (enc w) (enc q) = -1 ∧ ∀ o, Found w q true o (-1)) ∨ ∃ j, j ≤ w.length ∧ Lib.lastIndex (enc w) (enc q) = ((enc (w.take j)).length : Int) ∧ ∀ o : Int, Found w q true o (o + (j : Int)) := by
  by_cases hne : q = []
  · subst hne
    refine .inr ⟨w.length, Nat.le_refl _, ?_, fun o => .inr ⟨w.length, by simp, nil_here w _, rfl, fun _ i h1 h2 => by simp at h2; omega, (fun h => by cases h)⟩⟩
    rw [List.take_length]
    have ho : occAt (enc w) [] (enc w).length = true := by unfold occAt; cases (enc w).drop (enc w).length <;> rfl
    show Lib.lastIndex (enc w) [] = _
    unfold Lib.lastIndex
    rw [List.length_nil, if_pos (Nat.zero_le _), Nat.sub_zero, Lib.lastOcc_hit _ _ _ ho]
  · have hlen : ∀ j, j + q.length ≤ w.length → hereB w q j = true → (enc (w.take j)).length + (enc q).length ≤ (enc w).length := fun j hj hh => by
      obtain ⟨b, hb⟩ := prefix_split hh
      have e : w = w.take j ++ q ++ b := by
        have := List.take_append_drop j w
        rw [hb, ← List.append_assoc] at this; exact this.symm
      have := congrArg (fun l => (enc l).length) e
      simp only [enc_app, List.length_append] at this; omega
    unfold Lib.lastIndex
    by_cases hl : (enc q).length ≤ (enc w).length
    · rw [if_pos hl]
      rcases Lib.lastOcc_spec (enc w) (enc q) ((enc w).length - (enc q).length + 1) with ⟨h1, h2⟩ | ⟨i, h1, h2, h3, h4⟩
      · refine .inl ⟨h1, fun o => .inl ⟨rfl, fun j hj => ?_⟩⟩
        cases hh : hereB w q j with
        | false => rfl
        | true =>
          have g := here_enc hh (by omega)
          have g2 := hlen j hj hh
          rw [h2 _ (by omega)] at g; cases g
      · obtain ⟨j, g1, g2, g3⟩ := enc_here hne hq hw h3
        refine .inr ⟨j, by omega, by rw [h2, g3], fun o => .inr ⟨j, g1, g2, rfl, fun _ k hk hk2 => ?_, (fun h => by cases h)⟩⟩
        cases hh : hereB w q k with
        | false => rfl
        | true =>
          have g := here_enc hh (by omega)
          have g4 := hlen k hk2 hh
          have g5 := enc_mono (p := w) hk (by omega)
          rw [h4 _ (by omega) (by omega)] at g; cases g
    · rw [if_neg hl]
      refine .inl ⟨rfl, fun o => .inl ⟨rfl, fun j hj => ?_⟩⟩
      cases hh : hereB w q j with
      | false => rfl
      | true =>
        have g2 := hlen j hj hh
        omega

theorem fault2_bad {s t : ByteArray} (h : ¬ (okS s = true ∧ okS t = true)) : ∃ k : Int, faultL [s, t] 0 = (6, k) := by
  show ∃ k : Int, (if okS s = true then (if okS t = true then (0, 0) else (6, -1 - ((0 + 1 : Nat) : Int))) else (6, -1 - ((0 : Nat) : Int))) = (6, k)
  by_cases h1 : okS s = true
  · rw [if_pos h1, if_neg (fun h2 => h ⟨h1, h2⟩)]; exact ⟨_, rfl⟩
  · rw [if_neg h1]; exact ⟨_, rfl⟩
theorem window_tot {p : List Nat} {a b : Int} (hp : ∀ r ∈ p, Scal r) (hl : (enc p).length ≤ 4000) : Tot (fun n => textstr_window n (strOf (enc p)) a b) (fun r => if a < 0 ∨ (p.length : Int) < a then r = (strOf [], (4, -3)) else if b < a ∨ (p.length : Int) < b then r = (strOf [], (4, -4)) else r = (strOf (enc ((p.take b.toNat).drop a.toNat)), (0, 0))) := by
  unfold textstr_window
  refine Tot.bind0 (rn_enc hp (by omega)) ?_
  rw [ints_len]
  refine Tot.ite (fun h => ?_) fun h => ?_
  · rw [Bool.or_eq_true] at h
    have h : a < 0 ∨ (p.length : Int) < a := h.imp of_decide_eq_true of_decide_eq_true
    exact Tot.bindq (tat_tot _ _) fun r hr => Tot.ret (by rw [if_pos h, hr])
  · have h : ¬ (a < 0 ∨ (p.length : Int) < a) := fun hh => by
      rcases hh with hh | hh
      · rw [decide_eq_true hh] at h; cases h
      · rw [decide_eq_true (show a > (p.length : Int) from hh), Bool.or_true] at h; cases h
    refine Tot.ite (fun g => ?_) fun g => ?_
    · rw [Bool.or_eq_true] at g
      have g : b < a ∨ (p.length : Int) < b := g.imp of_decide_eq_true of_decide_eq_true
      exact Tot.bindq (tat_tot _ _) fun r hr => Tot.ret (by rw [if_neg h, if_pos g, hr])
    · have g : ¬ (b < a ∨ (p.length : Int) < b) := fun hh => by
        rcases hh with hh | hh
        · rw [decide_eq_true hh] at g; cases g
        · rw [decide_eq_true (show b > (p.length : Int) from hh), Bool.or_true] at g; cases g
      refine Tot.bind0 (sub_ok (by omega) (by omega) (by rw [ints_len]; omega)) (Tot.ret ?_)
      rw [if_neg h, if_neg g]
      have : (List.take b.toNat (ints p)).drop a.toNat = ints ((p.take b.toNat).drop a.toNat) := by unfold ints; rw [← List.map_take, ← List.map_drop]
      rw [this, strR_ints (scal_drop (scal_take hp _) _)]
theorem CountA_tot {p q : List Nat} (hp : ∀ r ∈ p, Scal r) (hq : ∀ r ∈ q, Scal r) (hl : (enc p).length ≤ 4000) : Tot (fun n => strings_CountA n (strOf (enc p)) (strOf (enc q))) (fun r => r = if q = [] then ((p.length + 1 : Nat) : Int) else ((cutsK q p.length p 0).length : Int)) := by
  unfold strings_CountA
  have hpl := enc_len_ge p
  refine Tot.ite (fun h => ?_) fun h => ?_
  · have h : q = [] := by
      have h := beq_iff_eq.1 h
      have := enc_len_ge q
      rw [size_str] at h
      exact List.eq_nil_of_length_eq_zero (by omega)
    rw [if_pos h]
    exact Tot.bindq (RuneCount_tot hp (by omega)) fun r hr => Tot.ret (by rw [hr]; exact iw (by omega) (by omega))
  · have h : q ≠ [] := fun e => by subst e; rw [size_str] at h; simp [enc] at h
    have h1 := List.length_pos_iff.2 (enc_ne' h)
    unfold strings_Count
    rw [if_pos ⟨by rw [size_str]; omega, by rw [size_str]; exact h1⟩, if_neg h]
    refine Tot.ret ?_
    have := count_cuts h hq p.length p 0 (Nat.le_refl _) hp
    show ((Lib.count (bytesOf (strOf (enc p))) (bytesOf (strOf (enc q))) : Nat) : Int) = _
    rw [bytes_str, bytes_str, this]

theorem Finds_tot {s t : ByteArray} {a b : Int} {last : Bool} (hs : s.size ≤ 1048576) (ht : t.size ≤ 1048576) : Tot (fun n => law4_TextstrFinds n s t a b last) (· = true) := by
  have hss : ∀ x ∈ [s, t], x.size ≤ 1048576 := by simp; exact ⟨hs, ht⟩
  unfold law4_TextstrFinds
  by_cases hok : okS s = true ∧ okS t = true
  · obtain ⟨p, hp, e, hl⟩ := okS_text hok.1
    obtain ⟨q, hq, e2, hl2⟩ := okS_text hok.2
    have hf : faultL [s, t] 0 = (0, 0) := check_ok (by simp) (by simp; exact hok)
    subst e e2
    have hpl := enc_len_ge p
    have hql := enc_len_ge q
    -- the search
    have hfind : Tot (fun n => textstr_Find n (strOf (enc p)) (strOf (enc q)) a b last) (fun r => if a < 0 ∨ (p.length : Int) < a then r = (0, (4, -3)) else if b < a ∨ (p.length : Int) < b then r = (0, (4, -4)) else r.2 = (0, 0) ∧ Found ((p.take b.toNat).drop a.toNat) q last a r.1) := by
      unfold textstr_Find
      refine Tot.bindq (tcheck_tot (by simp) hss) fun r hr => ?_
      rw [hf] at hr; subst hr
      refine Tot.if_ rfl (Tot.bindq (window_tot hp hl) fun r hr => ?_)
      by_cases h1 : a < 0 ∨ (p.length : Int) < a
      · rw [if_pos h1] at hr; subst hr
        exact Tot.it rfl (Tot.ret (by rw [if_pos h1]))
      · rw [if_neg h1] at hr
        by_cases h2 : b < a ∨ (p.length : Int) < b
        · rw [if_pos h2] at hr; subst hr
          exact Tot.it rfl (Tot.ret (by rw [if_neg h1, if_pos h2]))
        · rw [if_neg h2] at hr; subst hr
          refine Tot.if_ rfl ?_
          have hw : ∀ r ∈ (p.take b.toNat).drop a.toNat, Scal r := scal_drop (scal_take hp _) _
          have hwl : ((p.take b.toNat).drop a.toNat).length ≤ p.length := by rw [List.length_drop, List.length_take]; omega
          generalize (p.take b.toNat).drop a.toNat = w at hw hwl
          have hwe := enc_len_le w
          dsimp only
          refine Tot.bindq (P := fun r => r = Lib.index (enc w) (enc q)) (by unfold strings_Index; rw [if_pos (by rw [size_str]; omega), bytes_str, bytes_str]; exact Tot.ret rfl) fun r hr => ?_
          refine Tot.bindq (P := fun r => (r = -1 ∧ Found w q last a (-1)) ∨ ∃ j, j ≤ w.length ∧ r = ((enc (w.take j)).length : Int) ∧ Found w q last a (a + (j : Int))) ?_ fun r hr => ?_
          · cases last with
            | true =>
              refine Tot.it rfl ?_
              unfold strings_LastIndex
              rw [if_pos (by rw [size_str]; omega), bytes_str, bytes_str]
              refine Tot.some_bind (Tot.ret ?_)
              rcases last_found hq hw with ⟨g1, g2⟩ | ⟨j, g0, g1, g2⟩
              · exact .inl ⟨g1, g2 a⟩
              · exact .inr ⟨j, g0, g1, g2 a⟩
            | false =>
              refine Tot.if_ rfl (Tot.ret ?_)
              rcases index_found hq hw with ⟨g1, g2⟩ | ⟨j, g0, g1, g2⟩
              · exact .inl ⟨by rw [hr, g1], g2 a⟩
              · exact .inr ⟨j, g0, by rw [hr, g1], g2 a⟩
          rcases hr with ⟨e, g⟩ | ⟨j, g0, e, g⟩
          · subst e
            exact Tot.it rfl (Tot.ret (by rw [if_neg h1, if_neg h2]; exact ⟨rfl, g⟩))
          · subst e
            have hj : (enc (w.take j)).length ≤ (enc w).length := by
              have := congrArg (fun l => (enc l).length) (List.take_append_drop j w)
              simp only [enc_app, List.length_append] at this; omega
            have hsub : ssub (strOf (enc w)) 0 ((enc (w.take j)).length : Int) = some (strOf (enc (w.take j))) := by
              have := ssub_str (l := enc w) (i := 0) (j := (enc (w.take j)).length) (by omega) hj
              rw [show ((0 : Nat) : Int) = 0 from rfl] at this
              rw [this, List.drop_zero]
              have h5 := enc_take (w.take j) (w.drop j)
              rw [List.take_append_drop] at h5
              rw [h5]
            refine Tot.if_ (decide_eq_false (by omega)) (Tot.bind0 hsub (Tot.bindq (RuneCount_tot (scal_take hw j) (by omega)) fun r hr => Tot.ret ?_))
            subst hr
            rw [if_neg h1, if_neg h2]
            refine ⟨rfl, ?_⟩
            dsimp only
            rw [List.length_take, show min j w.length = j by omega, i64_small (by omega) (by omega)]
            exact g
    have hcount : Tot (fun n => textstr_Count n (strOf (enc p)) (strOf (enc q))) (fun r => r = (if q = [] then ((p.length + 1 : Nat) : Int) else ((cutsK q p.length p 0).length : Int), (0, 0))) := by
      unfold textstr_Count
      refine Tot.bindq (tcheck_tot (by simp) hss) fun r hr => ?_
      rw [hf] at hr; subst hr
      exact Tot.if_ rfl (Tot.bindq (CountA_tot hp hq hl) fun r hr => Tot.ret (by rw [hr]))
    refine Tot.bindq hfind fun r1 h1 => Tot.bindq hcount fun r2 h2 => Tot.bindq (faults_tot (by simp) hss) fun w hw => ?_
    rw [hf] at hw; subst hw h2
    refine Tot.bindq (P := fun j => j = false) (Tot.bindq letters_tot fun x hx => by subst hx; exact Tot.if_ rfl (Tot.ret rfl)) fun j hj => ?_
    subst hj
    refine Tot.if_ rfl (Tot.if_ rfl (Tot.bindq (points_enc hp (by omega)) fun r3 h3 => Tot.bindq (points_enc hq (by omega)) fun r4 h4 => ?_))
    subst h3 h4
    dsimp only
    rw [ints_len]
    refine Tot.bindq (P := fun l => (l.length : Int) = if q = [] then ((p.length + 1 : Nat) : Int) else ((cutsK q p.length p 0).length : Int)) ?_ fun l hl3 => ?_
    · by_cases hqe : q = []
      · subst hqe
        exact (Places_nil (by omega)).mono fun l h => by rw [if_pos rfl, h]
      · exact (Places_tot hqe (by omega) (by omega)).mono fun l h => by rw [if_neg hqe, h, ints_len]
    rw [hl3]
    refine Tot.if_ (by simp) (Tot.ite (fun g => ?_) fun g => ?_)
    · rw [Bool.or_eq_true] at g
      have g : a < 0 ∨ (p.length : Int) < a := g.imp of_decide_eq_true of_decide_eq_true
      rw [if_pos g] at h1; subst h1
      exact Tot.bindq (P := fun j => j = true) (Tot.bindq (rat_tot _ _) fun r hr => by subst hr; exact Tot.it rfl (Tot.ret rfl)) fun j hj => Tot.ret hj
    · have g : ¬ (a < 0 ∨ (p.length : Int) < a) := fun hh => by
        rcases hh with hh | hh
        · rw [decide_eq_true hh] at g; cases g
        · rw [decide_eq_true (show a > (p.length : Int) from hh), Bool.or_true] at g; cases g
      rw [if_neg g] at h1
      refine Tot.ite (fun g2 => ?_) fun g2 => ?_
      · rw [Bool.or_eq_true] at g2
        have g2 : b < a ∨ (p.length : Int) < b := g2.imp of_decide_eq_true of_decide_eq_true
        rw [if_pos g2] at h1; subst h1
        exact Tot.bindq (P := fun j => j = true) (Tot.bindq (rat_tot _ _) fun r hr => by subst hr; exact Tot.it rfl (Tot.ret rfl)) fun j hj => Tot.ret hj
      · have g2 : ¬ (b < a ∨ (p.length : Int) < b) := fun hh => by
          rcases hh with hh | hh
          · rw [decide_eq_true hh] at g2; cases g2
          · rw [decide_eq_true (show b > (p.length : Int) from hh), Bool.or_true] at g2; cases g2
        rw [if_neg g2] at h1
        obtain ⟨h1a, h1b⟩ := h1
        rw [h1a]
        refine Tot.bindq (P := fun j => j = true) (Tot.it rfl ?_) fun j hj => Tot.ret hj
        have ea : ((a.toNat : Nat) : Int) = a := by omega
        have eb : ((b.toNat : Nat) : Int) = b := by omega
        have ho := Occurs_tot (p := p) (q := q) (a := a.toNat) (b := b.toNat) (last := last) (by omega) (by omega) (by omega) (by omega)
        rw [ea, eb] at ho
        refine Tot.bindq ho fun r hr => Tot.ret ?_
        rw [h1b.unique hr]; exact beq_self_eq_true _
  · obtain ⟨k, hk⟩ := fault2_bad hok
    refine Tot.bindq (P := fun r => r = (0, (6, k))) (by
      unfold textstr_Find
      refine Tot.bindq (tcheck_tot (by simp) hss) fun r hr => ?_
      rw [hk] at hr; subst hr
      exact Tot.it rfl (Tot.ret rfl)) fun r1 h1 => Tot.bindq (P := fun r => r = (0, (6, k))) (by
      unfold textstr_Count
      refine Tot.bindq (tcheck_tot (by simp) hss) fun r hr => ?_
      rw [hk] at hr; subst hr
      exact Tot.it rfl (Tot.ret rfl)) fun r2 h2 => Tot.bindq (faults_tot (by simp) hss) fun w hw => ?_
    rw [hk] at hw; subst hw h1 h2
    refine Tot.bindq (P := fun j => j = false) (Tot.bindq letters_tot fun x hx => by subst hx; exact Tot.if_ rfl (Tot.ret (by simp))) fun j hj => ?_
    subst hj
    refine Tot.if_ rfl (Tot.it rfl (Tot.bindq (P := fun j => j = true) (Tot.it (by simp) (Tot.it rfl (Tot.ret rfl))) fun j hj => Tot.ret hj))
theorem TextstrFinds_said (s : ByteArray) (sub : ByteArray) (a b : Int) (last : Bool) (_ : s.size ≤ maxLen) (_ : sub.size ≤ maxLen) (_ : inK .i64 a) (_ : inK .i64 b) (_ : True) (h : (s.size + 1) + ((sub.size + 1) + (1 + (1 + 1))) ≤ 1048576) : Tot (fun n => law4_TextstrFinds n s sub a b last) (· = true) := Finds_tot (by omega) (by omega)
end Go.Gv.R
