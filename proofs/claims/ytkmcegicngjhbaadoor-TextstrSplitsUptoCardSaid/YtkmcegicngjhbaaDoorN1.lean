import Derived.Test.YtkmcegicngjhbaaDoorM6
set_option linter.all false
namespace Go.Gv.R
open Go Go.Gv Go.Gv.D Go.Lib

/-- what a search from one place to another one finds, told within the part -/
def Found (w q : List Nat) (last : Bool) (o : Int) (r : Int) : Prop :=
  (r = -1 ∧ ∀ j, j + q.length ≤ w.length → hereB w q j = false) ∨
  ∃ j, j + q.length ≤ w.length ∧ hereB w q j = true ∧ r = o + (j : Int) ∧ (last = true → ∀ i, j < i → i + q.length ≤ w.length → hereB w q i = false) ∧ (last = false → ∀ i, i < j → hereB w q i = false)
/-! the program's search -/
theorem here_enc {q p : List Nat} {j : Nat} (h : hereB p q j = true) (hj : j ≤ p.length) : occAt (enc p) (enc q) (enc (p.take j)).length = true := by
  obtain ⟨b, hb⟩ := prefix_split h
  have e : p = p.take j ++ q ++ b := by
    have := List.take_append_drop j p
    rw [hb, ← List.append_assoc] at this; exact this.symm
  have := occ_at (s := q) (a := p.take j) (b := b)
  rw [← e] at this; exact this
theorem enc_here {q p : List Nat} (hne : q ≠ []) (hq : ∀ r ∈ q, Scal r) (hp : ∀ r ∈ p, Scal r) {x : Nat} (h : occAt (enc p) (enc q) x = true) : ∃ j, j + q.length ≤ p.length ∧ hereB p q j = true ∧ x = (enc (p.take j)).length := by
  obtain ⟨a, b, e, hx⟩ := occ_enc hne hq p x hp h
  refine ⟨a.length, ?_, ?_, ?_⟩
  · rw [e, List.length_append, List.length_append]; omega
  · unfold hereB; rw [e, List.append_assoc, List.drop_left]; exact prefix_app q b
  · rw [e, List.append_assoc, List.take_left]; exact hx
theorem enc_mono {p : List Nat} {i j : Nat} (h : i < j) (hj : j ≤ p.length) : (enc (p.take i)).length < (enc (p.take j)).length := by
  have e : p.take j = p.take i ++ (p.take j).drop i := by
    have := List.take_append_drop i (p.take j)
    rw [List.take_take, show min i j = i by omega] at this; exact this.symm
  rw [e, enc_app, List.length_append]
  have hl : 0 < ((p.take j).drop i).length := by rw [List.length_drop, List.length_take]; omega
  have := enc_len_ge ((p.take j).drop i)
  omega
theorem nil_here (p : List Nat) (j : Nat) : hereB p [] j = true := by unfold hereB; cases p.drop j <;> rfl
theorem last_found {w q : List Nat} (hq : ∀ r ∈ q, Scal r) (hw : ∀ r ∈ w, Scal r) : (Lib.lastIndex (enc w) (enc q) = -1 ∧ ∀ o, Found w q true o (-1)) ∨ ∃ j, j ≤ w.length ∧ Lib.lastIndex (enc w) (enc q) = ((enc (w.take j)).length : Int) ∧ ∀ o : Int, Found w q true o (o + (j : Int)) := by
  by_cases hne : q = []
  · subst hne
    refine .inr ⟨w.length, Nat.le_refl _, ?_, fun o => .inr ⟨w.length, by simp, nil_here w _, rfl, fun _ i h1 h2 => by simp at h2; omega, (fun h => by cases h)⟩⟩
    rw [List.take_length]
    have ho : occAt (enc w) [] (enc w).length = true := by unfold occAt; cases (enc w).drop (enc w).length <;> rfl
    show Lib.lastIndex (enc w) [] = _
    unfold Lib.lastIndex
    rw [List.length_nil, if_pos (Nat.zero_le _), Nat.sub_zero, Lib.lastOcc_hit _ _ _ ho]
  · have hlen : ∀ j, j + q.length ≤ w.length → hereB w q j = true → (enc (w.take j)).length + (enc q).length ≤ (enc w).length := fun j hj hh => by
      obtain ⟨b, hb⟩ := prefix_split hh
      have e : w = w.take j ++ q ++ b := by
        have := List.take_append_drop j w
        rw [hb, ← List.append_assoc] at this; exact this.symm
      have := congrArg (fun l => (enc l).length) e
      simp only [enc_app, List.length_append] at this; omega
    unfold Lib.lastIndex
    by_cases hl : (enc q).length ≤ (enc w).length
    · rw [if_pos hl]
      rcases Lib.lastOcc_spec (enc w) (enc q) ((enc w).length - (enc q).length + 1) with ⟨h1, h2⟩ | ⟨i, h1, h2, h3, h4⟩
      · refine .inl ⟨h1, fun o => .inl ⟨rfl, fun j hj => ?_⟩⟩
        cases hh : hereB w q j with
        | false => rfl
        | true =>
          have g := here_enc hh (by omega)
          have g2 := hlen j hj hh
          rw [h2 _ (by omega)] at g; cases g
      · obtain ⟨j, g1, g2, g3⟩ := enc_here hne hq hw h3
        refine .inr ⟨j, by omega, by rw [h2, g3], fun o => .inr ⟨j, g1, g2, rfl, fun _ k hk hk2 => ?_, (fun h => by cases h)⟩⟩
        cases hh : hereB w q k with
        | false => rfl
        | true =>
          have g := here_enc hh (by omega)
          have g4 := hlen k hk2 hh
          have g5 := enc_mono (p := w) hk (by omega)
          rw [h4 _ (by omega) (by omega)] at g; cases g
    · rw [if_neg hl]
      refine .inl ⟨rfl, fun o => .inl ⟨rfl, fun j hj => ?_⟩⟩
      cases hh : hereB w q j with
      | false => rfl
      | true =>
        have g2 := hlen j hj hh
        omega

theorem fault2_bad {s t : ByteArray} (h : ¬ (okS s = true ∧ okS t = true)) : ∃ k : Int, faultL [s, t] 0 = (6, k) := by
  show ∃ k : Int, (if okS s = true then (if okS t = true then (0, 0) else (6, -1 - ((0 + 1 : Nat) : Int))) else (6, -1 - ((0 : Nat) : Int))) = (6, k)
  by_cases h1 : okS s = true
  · rw [if_pos h1, if_neg (fun h2 => h ⟨h1, h2⟩)]; exact ⟨_, rfl⟩
  · rw [if_neg h1]; exact ⟨_, rfl⟩
end Go.Gv.R
namespace Go.Gv.R
open Go Go.Gv Go.Gv.D Go.Lib

/-! joined lists -/
def jn (w : List Nat) : List (List Nat) → List Nat
  | [] => []
  | [x] => x
  | x :: y :: r => x ++ w ++ jn w (y :: r)
theorem jn_cons {w x : List Nat} {l : List (List Nat)} (h : l ≠ []) : jn w (x :: l) = x ++ w ++ jn w l := by
  cases l with
  | nil => exact absurd rfl h
  | cons y r => rfl
theorem parts_ne (q : List Nat) (k : Nat) (p : List Nat) : partsK q k p ≠ [] := by
  intro e
  have := parts_len (q := q) k p 0
  rw [e] at this; simp at this
theorem jn_parts {q : List Nat} : ∀ (k : Nat) (p : List Nat), jn q (partsK q k p) = p
  | 0, p => rfl
  | k + 1, p => by
    cases h : firstOcc q p with
    | none => rw [partsK_none h]; rfl
    | some i => rw [partsK_some h, jn_cons (parts_ne q k _), jn_parts k, ← (occ_parts h).1]
/-- fewer cuts are asked than there are -/
theorem parts_cut {q : List Nat} : ∀ (m : Nat) (p : List Nat) (o k : Nat), (cutsK q m p o).length ≤ k → k ≤ m → partsK q m p = partsK q k p
  | 0, p, o, k, _, h => by
    have : k = 0 := by omega
    subst this; rfl
  | m + 1, p, o, k, h, hk => by
    cases hf : firstOcc q p with
    | none => rw [partsK_none hf, partsK_none hf]
    | some i =>
      rw [cutsK_some hf, List.length_cons] at h
      obtain ⟨k, rfl⟩ : ∃ x, k = x + 1 := ⟨k - 1, by omega⟩
      rw [partsK_some hf, partsK_some hf, parts_cut m _ (o + i + q.length) k (by omega) (by omega)]
/-- how many occurrences there are; how many are used -/
def cN (q p : List Nat) : Nat := (cutsK q p.length p 0).length
def kN (q p : List Nat) (most : Int) : Nat := if most < 0 then cN q p else min most.toNat (cN q p)
theorem cN_le {q p : List Nat} (hne : q ≠ []) : cN q p ≤ p.length := (cuts_le hne p.length p 0).2
theorem cuts_off {q : List Nat} : ∀ (k : Nat) (p : List Nat) (o o' : Nat), (cutsK q k p o).length = (cutsK q k p o').length
  | 0, _, _, _ => rfl
  | k + 1, p, o, o' => by
    cases hf : firstOcc q p with
    | none => rw [cutsK_none hf, cutsK_none hf]
    | some i => rw [cutsK_some hf, cutsK_some hf, List.length_cons, List.length_cons, cuts_off k _ (o + i + q.length) (o' + i + q.length)]
theorem cuts_len_min {q p : List Nat} (hne : q ≠ []) (m : Nat) : (cutsK q m p 0).length = min m (cN q p) := by
  unfold cN
  rcases Nat.le_total m p.length with h | h
  · rw [← cuts_take m p.length p 0 h, List.length_take]
  · rw [cuts_more hne p.length p m 0 (Nat.le_refl _) h]
    have := (cuts_le hne p.length p 0).2
    omega
theorem parts_min {q p : List Nat} (hne : q ≠ []) (m : Nat) : partsK q m p = partsK q (min m (cN q p)) p := by
  refine parts_cut m p 0 _ ?_ (Nat.min_le_left _ _)
  rw [cuts_len_min hne]; exact Nat.le_refl _
theorem parts_num {q p : List Nat} (hne : q ≠ []) (most : Int) : (partsK q (kN q p most) p).length = kN q p most + 1 := by
  rw [parts_len _ _ 0, cuts_len_min hne]
  unfold kN
  split <;> omega

/-! the program's divisions -/
theorem empty_str {q : List Nat} : ((strOf (enc q)).toList == (strOf []).toList) = decide (q = []) := by
  rw [str_eq]
  refine decide_eq_decide.2 ⟨fun h => ?_, fun h => by rw [h]; rfl⟩
  have := congrArg bytesOf h
  rw [bytes_str, bytes_str] at this
  cases q with
  | nil => rfl
  | cons c q => exact absurd this enc_ne
theorem pieces_tot {l : List ByteArray} : Tot (fun n => textstr_pieces n l) (fun r => r = if 1000 < l.length then ([], (2, -1)) else (l, (0, 0))) := by
  unfold textstr_pieces
  refine Tot.ite (fun h => ?_) fun h => ?_
  · have h := of_decide_eq_true h
    exact Tot.bindq (tat_tot _ _) fun r hr => Tot.ret (by rw [if_pos (by omega), hr])
  · have h := of_decide_eq_false h
    exact Tot.ret (by rw [if_neg (by omega)])
def strs (l : List (List Nat)) : List ByteArray := l.map fun x => strOf (enc x)
theorem Split_tot {p q : List Nat} {most : Int} (hp : ∀ r ∈ p, Scal r) (hq : ∀ r ∈ q, Scal r) (hl : (enc p).length ≤ 4000) (hl2 : (enc q).length ≤ 4000) (hm : inK .i64 most) :
    Tot (fun n => textstr_Split n (strOf (enc p)) (strOf (enc q)) most) (fun r => r = if q = [] then ([], (10, -2)) else if 1000 < kN q p most + 1 then ([], (2, -1)) else (strs (partsK q (kN q p most) p), (0, 0))) := by
  unfold textstr_Split
  refine Tot.bindq (tcheck_tot (by simp) (by simp [size_str]; omega)) fun r hr => ?_
  rw [check_ok (by simp) (by simp; exact ⟨okS_enc hp hl, okS_enc hq hl2⟩)] at hr; subst hr
  refine Tot.if_ rfl ?_
  rw [empty_str]
  refine Tot.ite (fun h => ?_) fun h => ?_
  · have h := of_decide_eq_true h
    exact Tot.bindq (tat_tot _ _) fun r hr => Tot.ret (by rw [if_pos h, hr])
  · have h := of_decide_eq_false h
    have h1 := List.length_pos_iff.2 (enc_ne' h)
    have hpl := enc_len_ge p
    have hc := cN_le (q := q) (p := p) h
    have hnum := parts_num (p := p) h most
    have fin : ∀ l : List ByteArray, l = strs (partsK q (kN q p most) p) → Tot (fun n => (textstr_pieces n l).bind fun r96 => some (r96.1, r96.2.1, r96.2.2)) (fun r => r = if q = [] then ([], (10, -2)) else if 1000 < kN q p most + 1 then ([], (2, -1)) else (strs (partsK q (kN q p most) p), (0, 0))) := by
      intro l e
      refine Tot.bindq pieces_tot fun r hr => Tot.ret ?_
      have hll : l.length = kN q p most + 1 := by rw [e]; unfold strs; rw [List.length_map, hnum]
      rw [hll] at hr
      rw [if_neg h, hr, e]
    refine Tot.ite (fun g => ?_) fun g => ?_
    · have g := of_decide_eq_true g
      unfold strings_Split
      rw [if_pos ⟨by rw [size_str]; omega, by rw [size_str]; exact h1⟩]
      refine Tot.some_bind (fin _ ?_)
      have hcb : Lib.countB (strOf (enc p)) (strOf (enc q)) = cN q p := by
        have := count_cuts h hq p.length p 0 (Nat.le_refl _) hp
        show Lib.count (bytesOf _) (bytesOf _) = _
        rw [bytes_str, bytes_str, this]; rfl
      rw [hcb, split_parts h hq _ p hp]
      unfold kN strs
      rw [if_pos g]
    · have g := of_decide_eq_false g
      have hm := inK_i64 hm
      have hw : IntKind.i64.wrap ((if 4000 < most then 4000 else most) + 1) = ((min most.toNat 4000 + 1 : Nat) : Int) := by
        refine iw ?_ (by omega)
        split <;> omega
      rw [hw]
      unfold strings_SplitN
      rw [if_pos ⟨by rw [size_str]; omega, by rw [size_str]; exact h1, by omega, by omega⟩]
      refine Tot.some_bind (fin _ ?_)
      rw [split_parts h hq _ p hp, size_str, Int.toNat_natCast, parts_min h, parts_min h (kN q p most)]
      unfold strs
      congr 2
      unfold kN
      rw [if_neg g]
      omega
end Go.Gv.R
namespace Go.Gv.R
open Go Go.Gv Go.Gv.D Go.Lib

end Go.Gv.R
namespace Go.Gv.R
open Go Go.Gv Go.Gv.D Go.Lib

/-! occurrences from the end -/
theorem occ_rev {q p : List Nat} : (∃ a b, p = a ++ q ++ b) ↔ ∃ a b, p.reverse = a ++ q.reverse ++ b := by
  constructor
  · rintro ⟨a, b, e⟩
    exact ⟨b.reverse, a.reverse, by rw [e]; simp⟩
  · rintro ⟨a, b, e⟩
    refine ⟨b.reverse, a.reverse, ?_⟩
    have := congrArg List.reverse e
    rw [List.reverse_reverse] at this
    rw [this]; simp
theorem rev_ne {q : List Nat} (h : q ≠ []) : q.reverse ≠ [] := by simpa using h
theorem firstOcc_iff {q p : List Nat} : firstOcc q p = none ↔ ¬ ∃ a b, p = a ++ q ++ b := by
  constructor
  · exact firstOcc_none
  · intro h
    cases hf : firstOcc q p with
    | none => rfl
    | some i => exact absurd ⟨_, _, (occ_parts hf).1⟩ h
theorem firstOcc_rev {q p : List Nat} : firstOcc q.reverse p.reverse = none ↔ firstOcc q p = none := by
  rw [firstOcc_iff, firstOcc_iff, occ_rev (q := q) (p := p)]
theorem here_split {p q : List Nat} {j : Nat} (h : hereB p q j = true) : p = p.take j ++ q ++ p.drop (j + q.length) := by
  obtain ⟨b, hb⟩ := prefix_split h
  have e := List.take_append_drop j p
  have hd : p.drop (j + q.length) = b := by rw [← List.drop_drop, hb, List.drop_left]
  rw [hd, List.append_assoc, ← hb, e]
theorem split_here {p q a b : List Nat} (h : p = a ++ q ++ b) : hereB p q a.length = true := by
  unfold hereB; rw [h, List.append_assoc, List.drop_left]; exact prefix_app q b
theorem last_rev {p q : List Nat} (hne : q ≠ []) (hq : ∀ r ∈ q, Scal r) (hp : ∀ r ∈ p, Scal r) : Lib.lastIndex (enc p) (enc q) = match firstOcc q.reverse p.reverse with | none => -1 | some i => ((enc (p.take (p.length - (i + q.length)))).length : Int) := by
  rcases last_found hq hp with ⟨h1, h2⟩ | ⟨j, h0, h1, h2⟩
  · rcases h2 0 with ⟨_, h3⟩ | ⟨j, _, _, h3, _⟩
    · have : firstOcc q.reverse p.reverse = none := by
        rw [firstOcc_rev, firstOcc_iff]
        rintro ⟨a, b, e⟩
        have h4 := split_here e
        have h5 : a.length + q.length ≤ p.length := by rw [e]; simp
        rw [h3 _ h5] at h4; cases h4
      rw [this]; exact h1
    · omega
  · rcases h2 0 with ⟨h3, _⟩ | ⟨j', g1, g2, g3, g4, _⟩
    · omega
    · have : j' = j := by omega
      subst this
      have e := here_split g2
      have hlen := hereB_len g2 h0
      cases hf : firstOcc q.reverse p.reverse with
      | none =>
        have := firstOcc_rev.1 hf
        exact absurd ⟨_, _, e⟩ (firstOcc_none this)
      | some i =>
        obtain ⟨o1, o2⟩ := occ_parts hf
        obtain ⟨_, _, o3⟩ := firstOcc_some hf
        rw [List.length_reverse] at o2
        rw [List.length_reverse] at o2
        -- the other way round
        have e2 : p = (p.reverse.drop (i + q.reverse.length)).reverse ++ q ++ (p.reverse.take i).reverse := by
          have := congrArg List.reverse o1
          rw [List.reverse_reverse] at this
          rw [List.reverse_append, List.reverse_append, List.reverse_reverse, ← List.append_assoc] at this
          exact this
        have h4 := split_here e2
        have h5 : ((p.reverse.drop (i + q.reverse.length)).reverse).length = p.length - (i + q.length) := by simp
        rw [h5] at h4
        have h6 : p.length - (i + q.length) ≤ j' := by
          rcases Nat.lt_or_ge j' (p.length - (i + q.length)) with h | h
          · rw [g4 rfl _ h (by omega)] at h4; cases h4
          · exact h
        have h7 : i ≤ (p.drop (j' + q.length)).reverse.length := o3 _ (p.take j').reverse (by
          have := congrArg List.reverse e
          rw [List.reverse_append, List.reverse_append, ← List.append_assoc] at this
          exact this)
        rw [List.length_reverse, List.length_drop] at h7
        have : j' = p.length - (i + q.length) := by omega
        rw [h1, this]

/-! as many from the end as from the beginning -/
theorem greedy {q : List Nat} (hne : q ≠ []) : ∀ (n : Nat) (p : List Nat) (L : List (List Nat)), p.length ≤ n → L ≠ [] → jn q L = p → L.length ≤ cN q p + 1 := by
  intro n
  induction n with
  | zero =>
    intro p L hn hL e
    cases L with
    | nil => exact absurd rfl hL
    | cons x L =>
      cases L with
      | nil => simp
      | cons y L =>
        rw [jn_cons (by simp)] at e
        have := congrArg List.length e
        have h3 := List.length_pos_iff.2 hne
        rw [List.length_append, List.length_append] at this; omega
  | succ n ih =>
    intro p L hn hL e
    cases L with
    | nil => exact absurd rfl hL
    | cons x L =>
      cases L with
      | nil => simp
      | cons y L =>
        rw [jn_cons (by simp)] at e
        cases hf : firstOcc q p with
        | none => exact absurd ⟨x, _, e.symm⟩ (firstOcc_none hf)
        | some i =>
          obtain ⟨o1, o2⟩ := occ_parts hf
          obtain ⟨_, _, o3⟩ := firstOcc_some hf
          have hi := o3 x _ e.symm
          have h3 := List.length_pos_iff.2 hne
          have hd : p.drop (i + q.length) = (x ++ q).drop (i + q.length) ++ jn q (y :: L) := by
            rw [← e, List.drop_append_of_le_length (by rw [List.length_append]; omega)]
          have hj : (x ++ q).drop (i + q.length) ++ jn q (y :: L) = jn q (((x ++ q).drop (i + q.length) ++ y) :: L) := by
            cases L with
            | nil => rfl
            | cons z L =>
              show _ = (((x ++ q).drop (i + q.length) ++ y) ++ q ++ jn q (z :: L))
              rw [jn_cons (x := y) (l := z :: L) (by simp)]; simp only [List.append_assoc]
          have h4 := ih (p.drop (i + q.length)) _ (by rw [List.length_drop]; omega) (by simp) (hj.symm.trans hd.symm)
          have hc : cN q p = cN q (p.drop (i + q.length)) + 1 := by
            unfold cN
            obtain ⟨m, hm⟩ : ∃ m, p.length = m + 1 := ⟨p.length - 1, by omega⟩
            rw [hm, cutsK_some hf, List.length_cons]
            rw [cuts_off m _ _ 0, cuts_more hne (p.drop (i + q.length)).length _ m 0 (Nat.le_refl _) (by rw [List.length_drop]; omega)]
          rw [List.length_cons] at h4 ⊢
          rw [List.length_cons]; omega
theorem jn_snoc {w x : List Nat} : ∀ {l : List (List Nat)}, l ≠ [] → jn w (l ++ [x]) = jn w l ++ w ++ x
  | [], h => absurd rfl h
  | [y], _ => rfl
  | y :: z :: r, _ => by
    rw [List.cons_append, jn_cons (by simp), jn_snoc (l := z :: r) (by simp), jn_cons (l := z :: r) (by simp)]
    simp
theorem jn_rev (q : List Nat) : ∀ L : List (List Nat), (jn q L).reverse = jn q.reverse ((L.map List.reverse).reverse)
  | [] => rfl
  | [x] => rfl
  | x :: y :: r => by
    rw [jn_cons (by simp), List.reverse_append, List.reverse_append, jn_rev q (y :: r)]
    have h : ((x :: y :: r).map List.reverse).reverse = ((y :: r).map List.reverse).reverse ++ [x.reverse] := by simp
    rw [h, jn_snoc (by simp), List.append_assoc]
/-- the parts cut off from the end -/
def partsR (q : List Nat) (k : Nat) (p : List Nat) : List (List Nat) := ((partsK q.reverse k p.reverse).map List.reverse).reverse
theorem jn_partsR (q : List Nat) (k : Nat) (p : List Nat) : jn q (partsR q k p) = p := by
  have h := jn_rev q.reverse (partsK q.reverse k p.reverse)
  rw [jn_parts, List.reverse_reverse, List.reverse_reverse] at h
  exact h.symm
theorem cN_rev {q p : List Nat} (hne : q ≠ []) : cN q.reverse p.reverse = cN q p := by
  have h1 := greedy hne p.length p (partsR q (cN q.reverse p.reverse) p) (Nat.le_refl _) (by unfold partsR; simp; exact parts_ne _ _ _) (jn_partsR q _ p)
  have hl1 : (partsR q (cN q.reverse p.reverse) p).length = cN q.reverse p.reverse + 1 := by
    unfold partsR
    rw [List.length_reverse, List.length_map, parts_len _ _ 0, cuts_len_min (rev_ne hne), Nat.min_self]
  have h2 := greedy (rev_ne hne) p.reverse.length p.reverse ((partsK q (cN q p) p).map List.reverse).reverse (Nat.le_refl _) (by simp; exact parts_ne _ _ _) (by rw [← jn_rev, jn_parts])
  have hl2 : (((partsK q (cN q p) p).map List.reverse).reverse).length = cN q p + 1 := by
    rw [List.length_reverse, List.length_map, parts_len _ _ 0, cuts_len_min hne, Nat.min_self]
  omega
theorem kN_rev {q p : List Nat} (hne : q ≠ []) (most : Int) : kN q.reverse p.reverse most = kN q p most := by
  unfold kN; rw [cN_rev hne]

theorem parts_step {q : List Nat} {K t : Nat} {p r : List Nat} {i : Nat} {pre : List (List Nat)} (h : partsK q K p = pre ++ partsK q (K - t) r) (ht : t < K) (hf : firstOcc q r = some i) : partsK q K p = (pre ++ [r.take i]) ++ partsK q (K - (t + 1)) (r.drop (i + q.length)) := by
  rw [h]
  obtain ⟨m, hm⟩ : ∃ m, K - t = m + 1 := ⟨K - t - 1, by omega⟩
  rw [hm, partsK_some hf, show K - (t + 1) = m by omega]
  simp
theorem SplitLast_tot {p q : List Nat} {most : Int} (hp : ∀ r ∈ p, Scal r) (hq : ∀ r ∈ q, Scal r) (hl : (enc p).length ≤ 4000) (hl2 : (enc q).length ≤ 4000) (hm : inK .i64 most) :
    Tot (fun n => textstr_SplitLast n (strOf (enc p)) (strOf (enc q)) most) (fun r => r = if q = [] then ([], (10, -2)) else if 1000 < kN q p most + 1 then ([], (2, -1)) else (strs (partsR q (kN q p most) p), (0, 0))) := by
  unfold textstr_SplitLast
  refine Tot.bindq (tcheck_tot (by simp) (by simp [size_str]; omega)) fun r hr => ?_
  rw [check_ok (by simp) (by simp; exact ⟨okS_enc hp hl, okS_enc hq hl2⟩)] at hr; subst hr
  refine Tot.if_ rfl ?_
  rw [empty_str]
  refine Tot.ite (fun h => ?_) fun h => ?_
  · have h := of_decide_eq_true h
    exact Tot.bindq (tat_tot _ _) fun r hr => Tot.ret (by rw [if_pos h, hr])
  have hqe := of_decide_eq_false h
  have hm := inK_i64 hm
  have hpl := enc_len_ge p
  have hq3 := List.length_pos_iff.2 hqe
  have last : ∀ r : List Nat, (∀ x ∈ r, Scal x) → (enc r).length ≤ 4000 → Tot (fun n => strings_LastIndex n (strOf (enc r)) (strOf (enc q))) (· = Lib.lastIndex (enc r) (enc q)) := by
    intro r hr hrl
    unfold strings_LastIndex
    rw [if_pos (by rw [size_str]; omega), bytes_str, bytes_str]
    exact Tot.ret rfl
  refine Tot.bindq (last p hp hl) fun i0 hi0 => ?_
  subst hi0
  -- how many cuts are allowed
  obtain ⟨K, hK, hK2⟩ : ∃ K : Nat, (most < 0 → K = p.length) ∧ (0 ≤ most → K = most.toNat) := by
    by_cases g : most < 0
    · exact ⟨p.length, fun _ => rfl, fun h => absurd g (by omega)⟩
    · exact ⟨most.toNat, fun h => absurd h g, fun _ => rfl⟩
  have hkK : partsK q.reverse (kN q p most) p.reverse = partsK q.reverse K p.reverse := by
    rw [parts_min (rev_ne hqe) K, parts_min (rev_ne hqe) (kN q p most), cN_rev hqe]
    congr 1
    have hc := cN_le (p := p) hqe
    unfold kN
    by_cases g : most < 0
    · rw [if_pos g, hK g]; omega
    · rw [if_neg g, hK2 (by omega)]; omega
  refine Tot.bindq (P := fun j => ∃ (r : List Nat) (pre : List (List Nat)), j = (strOf (enc r.reverse), strs (pre.map List.reverse)) ∧ partsK q.reverse K p.reverse = pre ++ [r] ∧ pre.length ≤ p.length) ?_ fun j hj => ?_
  · refine Tot.loop (fun st => ∃ (r : List Nat) (pre : List (List Nat)), st = (strOf (enc r.reverse), strs (pre.map List.reverse), Lib.lastIndex (enc r.reverse) (enc q)) ∧ pre.length ≤ K ∧ partsK q.reverse K p.reverse = pre ++ partsK q.reverse (K - pre.length) r ∧ (∀ x ∈ r, Scal x) ∧ (enc r.reverse).length ≤ 4000 ∧ pre.length + r.length ≤ p.length) (fun st => 4001 - (4000 - st.1.size) + 0) ⟨p.reverse, [], by simp [strs], Nat.zero_le _, by simp, (fun x hx => hp x (List.mem_reverse.1 hx)), by rw [List.reverse_reverse]; exact hl, by simp⟩ fun st ⟨r, pre, e, hpre, hall, hrs, hrl, hsum⟩ => ?_
    subst e
    dsimp only
    have hlen : (strs (pre.map List.reverse)).length = pre.length := by unfold strs; rw [List.length_map, List.length_map]
    rw [hlen]
    have hrs' : ∀ x ∈ r.reverse, Scal x := fun x hx => hrs x (List.mem_reverse.1 hx)
    have hli := last_rev hqe hq hrs'
    rw [List.reverse_reverse] at hli
    refine Tot.ite (fun g => ?_) fun g => ?_
    · rw [Bool.and_eq_true, Bool.or_eq_true] at g
      have g1 := of_decide_eq_true g.1
      have g2 : most < 0 ∨ (pre.length : Int) < most := g.2.imp of_decide_eq_true of_decide_eq_true
      cases hf : firstOcc q.reverse r with
      | none => rw [hf] at hli; dsimp only at hli; omega
      | some i =>
        rw [hf] at hli
        obtain ⟨o1, o2⟩ := occ_parts hf
        rw [List.length_reverse] at o2
        have ht : pre.length < K := by
          rcases g2 with g2 | g2
          · rw [hK g2]; omega
          · rw [hK2 (by omega)]; omega
        have hstep := parts_step hall ht hf
        rw [List.length_reverse] at hstep
        -- r turned: front, q, what is cut off
        have er : r.reverse = (r.drop (i + q.length)).reverse ++ q ++ (r.take i).reverse := by
          have := congrArg List.reverse o1
          rw [List.reverse_append, List.reverse_append, List.reverse_reverse, ← List.append_assoc, List.length_reverse] at this
          exact this
        have hfl : r.reverse.take (r.length - (i + q.length)) = (r.drop (i + q.length)).reverse := by
          have h5 : ((r.drop (i + q.length)).reverse).length = r.length - (i + q.length) := by simp
          rw [er, List.append_assoc, ← h5, List.take_left]
        dsimp only at hli
        rw [List.length_reverse, hfl] at hli
        have henc : enc r.reverse = enc (r.drop (i + q.length)).reverse ++ enc q ++ enc (r.take i).reverse := by rw [← enc_app, ← enc_app, ← er]
        have hel := congrArg List.length henc
        rw [List.length_append, List.length_append] at hel
        have hq4 := List.length_pos_iff.2 (enc_ne' hqe)
        rw [hli, size_str, size_str]
        generalize hA : enc (r.drop (i + q.length)).reverse = A at henc hel hli ⊢
        generalize hB : enc (r.take i).reverse = B at henc hel ⊢
        rw [show IntKind.i64.wrap ((A.length : Int) + ((enc q).length : Nat)) = ((A.length + (enc q).length : Nat) : Int) from iw (by omega) (by omega)]
        have s1 : ssub (strOf (enc r.reverse)) ((A.length + (enc q).length : Nat) : Int) (((enc r.reverse).length : Nat) : Int) = some (strOf B) := by
          rw [ssub_str (by omega) (Nat.le_refl _), List.take_of_length_le (Nat.le_refl _), henc, ← List.length_append, List.drop_left]
        have s2 : ssub (strOf (enc r.reverse)) 0 (A.length : Int) = some (strOf A) := by
          have := ssub_str (l := enc r.reverse) (i := 0) (j := A.length) (by omega) (by omega)
          rw [show ((0 : Nat) : Int) = 0 from rfl] at this
          rw [this, List.drop_zero, henc, List.append_assoc, List.take_left]
        refine Tot.bind0 s1 (Tot.bind0 (app_ok (by rw [hlen]; simp; omega)) (Tot.bind0 s2 ?_))
        have hds : ∀ x ∈ r.drop (i + q.length), Scal x := scal_drop hrs _
        rw [← hA]
        refine Tot.bindq (last _ (fun x hx => hds x (List.mem_reverse.1 hx)) (by rw [hA]; omega)) fun y hy => Tot.ret ⟨⟨r.drop (i + q.length), pre ++ [r.take i], ?_, by rw [List.length_append]; simp; omega, ?_, hds, by rw [hA]; omega, ?_⟩, ?_⟩
        · rw [hy, ← hB]; unfold strs; simp
        · rw [hstep, List.length_append]; simp
        · rw [List.length_append, List.length_drop]; simp; omega
        · simp only [size_str]; rw [hA]; omega
    · refine Tot.ret ⟨r, pre, rfl, ?_, by omega⟩
      rw [hall]
      refine congrArg (pre ++ ·) ?_
      cases hf : firstOcc q.reverse r with
      | none => exact partsK_none hf
      | some i =>
        rw [hf] at hli
        have g1 : ¬ (most < 0 ∨ (pre.length : Int) < most) := fun h => by
          dsimp only at hli
          have : (decide (Lib.lastIndex (enc r.reverse) (enc q) ≥ 0)) = true := decide_eq_true (by rw [hli]; exact Int.natCast_nonneg _)
          rw [this, Bool.true_and] at g
          rcases h with h | h
          · rw [decide_eq_true h] at g; cases g
          · rw [decide_eq_true h, Bool.or_true] at g; cases g
        have : K - pre.length = 0 := by rw [hK2 (by omega)]; omega
        rw [this]; rfl
  · obtain ⟨r, pre, e, hparts, hpl2⟩ := hj
    subst e
    have hlen : (strs (pre.map List.reverse)).length = pre.length := by unfold strs; rw [List.length_map, List.length_map]
    dsimp only
    rw [hlen]
    refine Tot.some_bind (Tot.bindq (P := fun l => l = strs (partsR q (kN q p most) p)) ?_ fun l hl3 => ?_)
    · have hfin : strs (partsR q (kN q p most) p) = strOf (enc r.reverse) :: (strs (pre.map List.reverse)).reverse := by
        unfold partsR strs
        rw [hkK, hparts]; simp
      rw [hfin, show IntKind.i64.wrap ((pre.length : Nat) - 1) = (pre.length : Int) - 1 by rw [i64_small (by omega) (by omega)]]
      generalize strs (pre.map List.reverse) = B at hlen ⊢
      generalize strOf (enc r.reverse) = x
      refine Tot.loop (fun st => ∃ i : Nat, i ≤ B.length ∧ st = (x :: (B.drop i).reverse, (i : Int) - 1)) (fun st => (st.2 + 1).toNat) ⟨B.length, Nat.le_refl _, by rw [List.drop_length, hlen]; rfl⟩ fun st ⟨i, hi, e⟩ => ?_
      subst e
      dsimp only
      refine Tot.ite (fun g => ?_) fun g => ?_
      · have g : 0 < i := by have := of_decide_eq_true g; omega
        obtain ⟨i, rfl⟩ : ∃ m, i = m + 1 := ⟨i - 1, by omega⟩
        rw [show (((i + 1 : Nat) : Int) - 1) = (i : Int) by omega]
        refine Tot.bind0 (idx_nat (by omega)) (Tot.bind0 (app_ok (by simp; omega)) (Tot.ret ⟨⟨i, by omega, ?_⟩, ?_⟩))
        · have hd := List.drop_eq_getElem_cons (l := B) (i := i) (by omega)
          rw [i64_small (by omega) (by omega), hd, List.reverse_cons]; rfl
        · dsimp only; rw [i64_small (by omega) (by omega)]; omega
      · have g : i = 0 := by have := of_decide_eq_false g; omega
        subst g
        exact Tot.ret (by rw [List.drop_zero])
    · subst hl3
      refine Tot.bindq pieces_tot fun r hr => Tot.ret ?_
      have hll : (strs (partsR q (kN q p most) p)).length = kN q p most + 1 := by
        unfold strs partsR
        rw [List.length_map, List.length_reverse, List.length_map, ← kN_rev hqe, parts_num (rev_ne hqe)]
      rw [hll] at hr
      rw [if_neg hqe, hr]
end Go.Gv.R

