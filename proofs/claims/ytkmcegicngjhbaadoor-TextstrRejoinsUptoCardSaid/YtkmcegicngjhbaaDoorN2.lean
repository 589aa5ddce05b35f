import Derived.Test.YtkmcegicngjhbaaDoorN1
set_option linter.all false
namespace Go.Gv.R
open Go Go.Gv Go.Gv.D Go.Lib

/-! joined lists -/
def jn (w : List Nat) : List (List Nat) → List Nat
  | [] => []
  | [x] => x
  | x :: y :: r => x ++ w ++ jn w (y :: r)
theorem jn_cons {w x : List Nat} {l : List (List Nat)} (h : l ≠ []) : jn w (x :: l) = x ++ w ++ jn w l := by
  cases l with
  | nil => exact absurd rfl h
  | cons y r => rfl
theorem lib_cons {w x : List UInt8} {l : List (List UInt8)} (h : l ≠ []) : Lib.join (x :: l) w = x ++ w ++ Lib.join l w := by
  cases l with
  | nil => exact absurd rfl h
  | cons y r => simp [Lib.join, List.intercalate]
theorem lib_jn (w : List Nat) : ∀ l : List (List Nat), Lib.join (l.map enc) (enc w) = enc (jn w l)
  | [] => rfl
  | [x] => by simp [Lib.join, jn, List.intercalate]
  | x :: y :: r => by
    rw [List.map_cons, lib_cons (by simp), jn_cons (by simp), lib_jn w (y :: r), enc_app, enc_app]
theorem parts_ne (q : List Nat) (k : Nat) (p : List Nat) : partsK q k p ≠ [] := by
  intro e
  have := parts_len (q := q) k p 0
  rw [e] at this; simp at this
theorem jn_parts {q : List Nat} : ∀ (k : Nat) (p : List Nat), jn q (partsK q k p) = p
  | 0, p => rfl
  | k + 1, p => by
    cases h : firstOcc q p with
    | none => rw [partsK_none h]; rfl
    | some i => rw [partsK_some h, jn_cons (parts_ne q k _), jn_parts k, ← (occ_parts h).1]
theorem parts_scal {q : List Nat} : ∀ (k : Nat) (p : List Nat), (∀ r ∈ p, Scal r) → ∀ x ∈ partsK q k p, ∀ r ∈ x, Scal r
  | 0, p, h, x, hx => by rw [List.mem_singleton.1 hx]; exact h
  | k + 1, p, h, x, hx => by
    cases hf : firstOcc q p with
    | none => rw [partsK_none hf] at hx; rw [List.mem_singleton.1 hx]; exact h
    | some i =>
      rw [partsK_some hf] at hx
      rcases List.mem_cons.1 hx with e | e
      · rw [e]; exact scal_take h i
      · exact parts_scal k _ (scal_drop h _) x e
/-- lengths: by points, and by bytes -/
def lenS (f : List Nat → Nat) (l : List (List Nat)) : Nat := (l.map f).sum
theorem jn_lenS {f : List Nat → Nat} (hf : ∀ a b, f (a ++ b) = f a + f b) (w : List Nat) : ∀ (l : List (List Nat)), l ≠ [] → f (jn w l) + f w = lenS f l + l.length * f w
  | [], h => absurd rfl h
  | [x], _ => by simp [jn, lenS]
  | x :: y :: r, _ => by
    have := jn_lenS hf w (y :: r) (by simp)
    rw [jn_cons (by simp), hf, hf]
    simp only [lenS, List.map_cons, List.sum_cons, List.length_cons, Nat.succ_mul] at this ⊢
    omega
/-- fewer cuts are asked than there are -/
theorem parts_cut {q : List Nat} : ∀ (m : Nat) (p : List Nat) (o k : Nat), (cutsK q m p o).length ≤ k → k ≤ m → partsK q m p = partsK q k p
  | 0, p, o, k, _, h => by
    have : k = 0 := by omega
    subst this; rfl
  | m + 1, p, o, k, h, hk => by
    cases hf : firstOcc q p with
    | none => rw [partsK_none hf, partsK_none hf]
    | some i =>
      rw [cutsK_some hf, List.length_cons] at h
      obtain ⟨k, rfl⟩ : ∃ x, k = x + 1 := ⟨k - 1, by omega⟩
      rw [partsK_some hf, partsK_some hf, parts_cut m _ (o + i + q.length) k (by omega) (by omega)]
/-- how many occurrences there are; how many are used -/
def cN (q p : List Nat) : Nat := (cutsK q p.length p 0).length
def kN (q p : List Nat) (most : Int) : Nat := if most < 0 then cN q p else min most.toNat (cN q p)
theorem cN_le {q p : List Nat} (hne : q ≠ []) : cN q p ≤ p.length := (cuts_le hne p.length p 0).2
theorem cuts_off {q : List Nat} : ∀ (k : Nat) (p : List Nat) (o o' : Nat), (cutsK q k p o).length = (cutsK q k p o').length
  | 0, _, _, _ => rfl
  | k + 1, p, o, o' => by
    cases hf : firstOcc q p with
    | none => rw [cutsK_none hf, cutsK_none hf]
    | some i => rw [cutsK_some hf, cutsK_some hf, List.length_cons, List.length_cons, cuts_off k _ (o + i + q.length) (o' + i + q.length)]
theorem cuts_len_min {q p : List Nat} (hne : q ≠ []) (m : Nat) : (cutsK q m p 0).length = min m (cN q p) := by
  unfold cN
  rcases Nat.le_total m p.length with h | h
  · rw [← cuts_take m p.length p 0 h, List.length_take]
  · rw [cuts_more hne p.length p m 0 (Nat.le_refl _) h]
    have := (cuts_le hne p.length p 0).2
    omega
theorem parts_min {q p : List Nat} (hne : q ≠ []) (m : Nat) : partsK q m p = partsK q (min m (cN q p)) p := by
  refine parts_cut m p 0 _ ?_ (Nat.min_le_left _ _)
  rw [cuts_len_min hne]; exact Nat.le_refl _
theorem parts_num {q p : List Nat} (hne : q ≠ []) (most : Int) : (partsK q (kN q p most) p).length = kN q p most + 1 := by
  rw [parts_len _ _ 0, cuts_len_min hne]
  unfold kN
  split <;> omega

/-! the program's divisions -/
theorem empty_str {q : List Nat} : ((strOf (enc q)).toList == (strOf []).toList) = decide (q = []) := by
  rw [str_eq]
  refine decide_eq_decide.2 ⟨fun h => ?_, fun h => by rw [h]; rfl⟩
  have := congrArg bytesOf h
  rw [bytes_str, bytes_str] at this
  cases q with
  | nil => rfl
  | cons c q => exact absurd this enc_ne
theorem pieces_tot {l : List ByteArray} : Tot (fun n => textstr_pieces n l) (fun r => r = if 1000 < l.length then ([], (2, -1)) else (l, (0, 0))) := by
  unfold textstr_pieces
  refine Tot.ite (fun h => ?_) fun h => ?_
  · have h := of_decide_eq_true h
    exact Tot.bindq (tat_tot _ _) fun r hr => Tot.ret (by rw [if_pos (by omega), hr])
  · have h := of_decide_eq_false h
    exact Tot.ret (by rw [if_neg (by omega)])
def strs (l : List (List Nat)) : List ByteArray := l.map fun x => strOf (enc x)
theorem Split_tot {p q : List Nat} {most : Int} (hp : ∀ r ∈ p, Scal r) (hq : ∀ r ∈ q, Scal r) (hl : (enc p).length ≤ 4000) (hl2 : (enc q).length ≤ 4000) (hm : inK .i64 most) :
    Tot (fun n => textstr_Split n (strOf (enc p)) (strOf (enc q)) most) (fun r => r = if q = [] then ([], (10, -2)) else if 1000 < kN q p most + 1 then ([], (2, -1)) else (strs (partsK q (kN q p most) p), (0, 0))) := by
  unfold textstr_Split
  refine Tot.bindq (tcheck_tot (by simp) (by simp [size_str]; omega)) fun r hr => ?_
  rw [check_ok (by simp) (by simp; exact ⟨okS_enc hp hl, okS_enc hq hl2⟩)] at hr; subst hr
  refine Tot.if_ rfl ?_
  rw [empty_str]
  refine Tot.ite (fun h => ?_) fun h => ?_
  · have h := of_decide_eq_true h
    exact Tot.bindq (tat_tot _ _) fun r hr => Tot.ret (by rw [if_pos h, hr])
  · have h := of_decide_eq_false h
    have h1 := List.length_pos_iff.2 (enc_ne' h)
    have hpl := enc_len_ge p
    have hc := cN_le (q := q) (p := p) h
    have hnum := parts_num (p := p) h most
    have fin : ∀ l : List ByteArray, l = strs (partsK q (kN q p most) p) → Tot (fun n => (textstr_pieces n l).bind fun r96 => some (r96.1, r96.2.1, r96.2.2)) (fun r => r = if q = [] then ([], (10, -2)) else if 1000 < kN q p most + 1 then ([], (2, -1)) else (strs (partsK q (kN q p most) p), (0, 0))) := by
      intro l e
      refine Tot.bindq pieces_tot fun r hr => Tot.ret ?_
      have hll : l.length = kN q p most + 1 := by rw [e]; unfold strs; rw [List.length_map, hnum]
      rw [hll] at hr
      rw [if_neg h, hr, e]
    refine Tot.ite (fun g => ?_) fun g => ?_
    · have g := of_decide_eq_true g
      unfold strings_Split
      rw [if_pos ⟨by rw [size_str]; omega, by rw [size_str]; exact h1⟩]
      refine Tot.some_bind (fin _ ?_)
      have hcb : Lib.countB (strOf (enc p)) (strOf (enc q)) = cN q p := by
        have := count_cuts h hq p.length p 0 (Nat.le_refl _) hp
        show Lib.count (bytesOf _) (bytesOf _) = _
        rw [bytes_str, bytes_str, this]; rfl
      rw [hcb, split_parts h hq _ p hp]
      unfold kN strs
      rw [if_pos g]
    · have g := of_decide_eq_false g
      have hm := inK_i64 hm
      have hw : IntKind.i64.wrap ((if 4000 < most then 4000 else most) + 1) = ((min most.toNat 4000 + 1 : Nat) : Int) := by
        refine iw ?_ (by omega)
        split <;> omega
      rw [hw]
      unfold strings_SplitN
      rw [if_pos ⟨by rw [size_str]; omega, by rw [size_str]; exact h1, by omega, by omega⟩]
      refine Tot.some_bind (fin _ ?_)
      rw [split_parts h hq _ p hp, size_str, Int.toNat_natCast, parts_min h, parts_min h (kN q p most)]
      unfold strs
      congr 2
      unfold kN
      rw [if_neg g]
      omega
theorem Replace_tot {p q w : List Nat} {most : Int} (hp : ∀ r ∈ p, Scal r) (hq : ∀ r ∈ q, Scal r) (hw : ∀ r ∈ w, Scal r) (hl : (enc p).length ≤ 4000) (hl2 : (enc q).length ≤ 4000) (hl3 : (enc w).length ≤ 4000) (hm : inK .i64 most) :
    Tot (fun n => textstr_Replace n (strOf (enc p)) (strOf (enc q)) (strOf (enc w)) most) (fun r => r = if q = [] then (strOf [], (10, -2)) else if 4000 < (enc (jn w (partsK q (kN q p most) p))).length then (strOf [], (3, -1)) else (strOf (enc (jn w (partsK q (kN q p most) p))), (0, 0))) := by
  unfold textstr_Replace
  refine Tot.bindq (tcheck_tot (by simp) (by simp [size_str]; omega)) fun r hr => ?_
  rw [check_ok (by simp) (by simp; exact ⟨okS_enc hp hl, okS_enc hq hl2, okS_enc hw hl3⟩)] at hr; subst hr
  refine Tot.if_ rfl ?_
  rw [empty_str]
  refine Tot.ite (fun h => ?_) fun h => ?_
  · have h := of_decide_eq_true h
    exact Tot.bindq (tat_tot _ _) fun r hr => Tot.ret (by rw [if_pos h, hr])
  · have h := of_decide_eq_false h
    have hpl := enc_len_ge p
    have hc := cN_le (q := q) (p := p) h
    have hm := inK_i64 hm
    refine Tot.bindq (CountA_tot hp hq hl) fun r hr => ?_
    rw [if_neg h] at hr
    have hr : r = ((cN q p : Nat) : Int) := hr
    subst hr
    refine Tot.bindq (P := fun j => j = ((kN q p most : Nat) : Int)) ?_ fun j hj => ?_
    · refine Tot.ite (fun g => Tot.ret ?_) fun g => Tot.ret ?_
      · have g := of_decide_eq_true g
        have hk : kN q p most = min most.toNat (cN q p) := by unfold kN; rw [if_neg (by omega)]
        rw [hk]
        split <;> omega
      · have g := of_decide_eq_false g
        have hk : kN q p most = cN q p := by unfold kN; rw [if_pos (by omega)]
        rw [hk]
    subst hj
    have hk : kN q p most ≤ cN q p := by unfold kN; split <;> omega
    have hnum := parts_num (p := p) h most
    have j1 := jn_lenS (f := fun x => (enc x).length) (fun a b => by simp [enc_app]) w _ (parts_ne q (kN q p most) p)
    have j2 := jn_lenS (f := fun x => (enc x).length) (fun a b => by simp [enc_app]) q _ (parts_ne q (kN q p most) p)
    rw [jn_parts] at j2
    rw [hnum] at j1 j2
    rw [Nat.succ_mul] at j1 j2
    generalize hL : (enc (jn w (partsK q (kN q p most) p))).length = L at j1 ⊢
    generalize lenS _ _ = S at j1 j2
    have b1 : kN q p most * (enc w).length ≤ 4000 * 4000 := Nat.mul_le_mul (by omega) hl3
    have b2 : kN q p most * (enc q).length ≤ 4000 * 4000 := Nat.mul_le_mul (by omega) hl2
    have hsz : IntKind.i64.wrap (((strOf (enc p)).size : Int) + IntKind.i64.wrap ((kN q p most : Int) * IntKind.i64.wrap (((strOf (enc w)).size : Int) - ((strOf (enc q)).size : Int)))) = (L : Int) := by
      rw [size_str, size_str, size_str, i64_small (x := ((enc w).length : Int) - _) (by omega) (by omega), Int.mul_sub]
      rw [← Int.natCast_mul, ← Int.natCast_mul, i64_small (x := ((kN q p most * (enc w).length : Nat) : Int) - _) (by omega) (by omega), i64_small (by omega) (by omega)]
      omega
    rw [hsz]
    refine Tot.ite (fun g => ?_) fun g => ?_
    · have g := of_decide_eq_true g
      exact Tot.bindq (tat_tot _ _) fun r hr => Tot.ret (by rw [if_neg h, if_pos (by omega), hr])
    · have g := of_decide_eq_false g
      have hcb : Lib.count (enc p) (enc q) = cN q p := count_cuts h hq p.length p 0 (Nat.le_refl _) hp
      unfold strings_Replace
      have b3 : cN q p * (enc w).length ≤ 4000 * 4000 := Nat.mul_le_mul (by omega) hl3
      have hcb2 : Lib.countB (strOf (enc p)) (strOf (enc q)) = cN q p := by
        show Lib.count (bytesOf _) (bytesOf _) = _
        rw [bytes_str, bytes_str, hcb]
      rw [hcb2]
      rw [if_pos ⟨by rw [size_str]; omega, by rw [size_str]; exact List.length_pos_iff.2 (enc_ne' h), by rw [size_str, size_str]; omega⟩]
      refine Tot.some_bind (Tot.ret ?_)
      rw [if_neg h, if_neg (by omega), bytes_str, bytes_str, bytes_str]
      have : Lib.replace (enc p) (enc q) (enc w) ((kN q p most : Nat) : Int) = enc (jn w (partsK q (kN q p most) p)) := by
        unfold Lib.replace
        by_cases e : q = w
        · subst e
          rw [if_pos (beq_self_eq_true _), jn_parts]
        · rw [if_neg (by rw [beq_eq_false_iff_ne.2 (fun e2 => e (enc_inj hq hw e2))]; simp)]
          have hnm : Lib.replaceNum (enc p) (enc q) ((kN q p most : Nat) : Int) = kN q p most := by
            unfold Lib.replaceNum
            rw [hcb]
            split <;> omega
          rw [hnm, replace_parts h hq _ p hp, lib_jn]
      rw [this]
end Go.Gv.R
