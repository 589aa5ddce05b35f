import Derived.Test.YtlclmpegnkomcaaDoorM4
import Derived.Test.YtlclmpegnkomcaaDoorM2
set_option linter.all false
namespace Go.Gv.R
open Go Go.Gv Go.Gv.D Go.Lib

theorem tValid_tot {s : ByteArray} (hs : s.size ≤ 1048576) : Tot (fun fuel => textstr_Valid fuel s) (fun r => r = (validD (bytesOf s) && decide (s.size ≤ 4000))) := by
  unfold textstr_Valid
  refine Tot.bindq (P := fun r => r = (validD (bytesOf s) && decide (s.size ≤ 4000))) (Tot.bindq (ValidString_tot (by omega)) fun r hr => ?_) fun r hr => Tot.ret hr
  subst hr
  refine Tot.ite (fun h => ?_) (fun h => ?_)
  · rw [h, Bool.true_and]
    exact Tot.some_bind (Tot.ret (decide_eq_decide.2 ⟨fun h => by omega, fun h => by omega⟩))
  · rw [h]; exact Tot.ret rfl
theorem tat_tot (a b : Int) : Tot (fun fuel => textstr_at fuel a b) (fun r => r = (a, b)) := by unfold textstr_at; exact Tot.ret rfl
/-- all texts of a list are valid: no fault -/
theorem tcheck_ok {l : List ByteArray} (hl : l.length ≤ 1000) (h : ∀ s ∈ l, validD (bytesOf s) = true ∧ s.size ≤ 4000) : Tot (fun fuel => textstr_check fuel l) (fun r => r = (0, 0)) := by
  unfold textstr_check
  refine Tot.bindq (P := fun r => r = .inl (0, 0)) ?_ fun r hr => by subst hr; exact Tot.contl (Tot.ret rfl)
  refine Tot.loop (fun st => ∃ i : Nat, st = ((i : Int), (0, 0)) ∧ i ≤ l.length) (fun st => l.length - st.1.toNat) ⟨0, rfl, by omega⟩ fun st ⟨i, e, hi⟩ => ?_
  subst e
  refine Tot.ite (fun q => ?_) (fun q => ?_)
  · have q : i < l.length := by have : ((i : Nat) : Int) < (l.length : Int) := of_decide_eq_true q; omega
    obtain ⟨h1, h2⟩ := h _ (List.getElem_mem q)
    refine Tot.bind0 (idx_nat q) (Tot.bindq (tValid_tot (by omega)) fun r hr => ?_)
    rw [h1, decide_eq_true h2] at hr
    subst hr
    refine Tot.if_ rfl (Tot.ret ⟨⟨i + 1, ?_, q⟩, ?_⟩)
    · show (IntKind.i64.wrap ((i : Int) + 1), ((0 : Int), (0 : Int))) = _
      rw [iw (n := i + 1) (by omega) (by omega)]
    · show l.length - (IntKind.i64.wrap ((i : Int) + 1)).toNat < l.length - ((i : Nat) : Int).toNat
      rw [iw (n := i + 1) (by omega) (by omega)]; omega
  · exact Tot.ret rfl
/-- a scalar replaced by nothing -/
theorem tReplace_tot {p : List Nat} {q : Nat} (hq : Scal q) (hp : ∀ r ∈ p, Scal r) (hl : (enc p).length ≤ 4000) : Tot (fun fuel => textstr_Replace fuel (strOf (enc p)) (strOf (encR q)) (strOf []) (-1)) (fun r => r = (strOf (enc (p.filter (· ≠ q))), (0, 0))) := by
  unfold textstr_Replace
  have hqp := encR_pos q
  refine Tot.bindq (tcheck_ok (by simp) ?_) fun r hr => ?_
  · intro s hs
    simp only [List.mem_cons, List.not_mem_nil, or_false] at hs
    rcases hs with e | e | e
    · rw [e, bytes_str, size_str]; exact ⟨valid_enc p hp, hl⟩
    · rw [e, bytes_str, size_str, ← enc_one]; exact ⟨valid_enc [q] (by simpa using hq), by rw [enc_one]; omega⟩
    · rw [e, bytes_str, size_str]; exact ⟨rfl, by simp⟩
  subst hr
  refine Tot.if_ rfl (Tot.if_ ?_ ?_)
  · rw [str_eq]
    exact decide_eq_false fun e => by
      have := congrArg bytesOf e
      rw [bytes_str, bytes_str] at this
      rw [this] at hqp; simp at hqp
  have hc : Lib.countB (strOf (enc p)) (strOf (encR q)) = p.count q := by
    show Lib.count (enc p) (encR q) = _
    exact count_enc hq hp
  have hcl : p.count q ≤ p.length := List.count_le_length
  have hpl := enc_len_ge p
  refine Tot.bindq (P := fun n => n = ((p.count q : Nat) : Int)) ?_ fun n hn => ?_
  · unfold strings_Count
    rw [if_pos ⟨by rw [size_str]; omega, by rw [size_str]; exact hqp.1⟩, hc]
    exact Tot.ret rfl
  subst hn
  refine Tot.bindq (P := fun n => n = ((p.count q : Nat) : Int)) (Tot.if_ rfl (Tot.ret rfl)) fun n hn => ?_
  subst hn
  have hm : p.count q * (encR q).length ≤ 4000 * 4 := Nat.mul_le_mul (by omega) hqp.2
  have hw : IntKind.i64.wrap ((((strOf (enc p)).size : Nat) : Int) + IntKind.i64.wrap (((p.count q : Nat) : Int) * IntKind.i64.wrap ((((strOf []).size : Nat) : Int) - (((strOf (encR q)).size : Nat) : Int)))) ≤ 4000 := by
    rw [size_str, size_str, size_str]
    have e1 : (((([] : List UInt8).length : Nat) : Int)) - (((encR q).length : Nat) : Int) = - (((encR q).length : Nat) : Int) := by simp
    rw [e1, i64_small (x := - (((encR q).length : Nat) : Int)) (by omega) (by omega), Int.mul_neg, ← Int.natCast_mul, i64_small (x := -((p.count q * (encR q).length : Nat) : Int)) (by omega) (by omega), i64_small (by omega) (by omega)]
    omega
  refine Tot.if_ (decide_eq_false (by omega)) (Tot.bindq (P := fun x => x = strOf (enc (p.filter (· ≠ q)))) ?_ fun x hx => Tot.ret (by rw [hx]))
  unfold strings_Replace
  rw [if_pos ⟨by rw [size_str]; omega, by rw [size_str]; exact hqp.1, by rw [size_str, size_str, hc]; simp; omega⟩, bytes_str, bytes_str, bytes_str, replace_enc hq hp]
  exact Tot.ret rfl

theorem put_len3 {c m : Int} {l : List UInt8} (hl : l ≠ []) : (put m (V c l).1).length ≤ 3 * (V c l).2 := by
  have hw := V_width c hl
  have h3 : (encR 65533).length = 3 := by kernel_rfl
  have hd : ∀ x : Int, x < 0 → (put m x).length ≤ 3 := fun x hx => by
    unfold put
    rw [if_neg (by omega)]
    split
    · omega
    · simp
  have hp : ∀ r : Nat, put m (r : Int) = encR r := fun r => by unfold put; rw [if_pos (by omega), Int.toNat_natCast]
  by_cases h2 : 2 ≤ (V c l).2
  · have := put_len m (V c l).1
    omega
  · have h1 : (V c l).2 = 1 := by omega
    rw [h1]
    by_cases hn : (V c l).1 < 0
    · exact hd _ hn
    · -- one byte that is a scalar of at most two bytes
      have key : ∃ r : Nat, r < 256 ∧ (V c l).1 = (r : Int) := by
        have hx := byte_lt (l.getD 0 0)
        unfold V at h1 hn ⊢
        split
        · rename_i c0
          rw [if_pos c0] at h1 hn
          split
          · rename_i hb; rw [if_pos hb] at hn; exact absurd (by decide) hn
          · rename_i hb
            rw [if_neg hb] at h1
            have h1 : (decodeL l).2 = 1 := h1
            have hs := encode_decode l hl hb
            have hsc := decode_scal hl hb
            refine ⟨(decodeL l).1, ?_, rfl⟩
            have hlen : (encR (decodeL l).1).length ≤ 1 := by
              have e : encR (decodeL l).1 = l.take (decodeL l).2 := hs
              rw [e, h1, List.length_take]; omega
            refine Nat.lt_of_not_le fun hge => ?_
            rcases (by omega : (decodeL l).1 ≤ 2047 ∨ (2048 ≤ (decodeL l).1 ∧ (decodeL l).1 ≤ 65535) ∨ 65536 ≤ (decodeL l).1) with g | g | g
            · rw [encR2 (by omega) g] at hlen; simp at hlen
            · rw [encR3 g.1 g.2 hsc] at hlen; simp at hlen
            · rw [encR4 g (by unfold Scal at hsc; omega)] at hlen; simp at hlen
        · rename_i c0
          rw [if_neg c0] at h1 hn
          split
          · exact ⟨(l.getD 0 0).toNat, hx, rfl⟩
          · rename_i c1
            rw [if_neg c1] at h1 hn
            split
            · rename_i g; rw [if_pos g] at hn; exact absurd (by decide) hn
            · rename_i g
              rw [if_neg g] at h1
              exfalso
              split at h1
              · cases h1
              · split at h1 <;> cases h1
      obtain ⟨r, hr, e⟩ := key
      rw [e, hp]
      rcases (by omega : r ≤ 127 ∨ 128 ≤ r) with g | g
      · rw [encR1 g]; simp
      · rw [encR2 g (by omega)]; simp
theorem outs_len3 {c m : Int} {L : List UInt8} : ∀ k, (∀ j, j < k → At c L j < L.length) → (outs c m L k).length ≤ 3 * At c L k := by
  intro k
  induction k with
  | zero => intro _; simp [outs]
  | succ k ih =>
    intro h
    have h1 := ih fun j hj => h j (by omega)
    have h2 := put_len3 (c := c) (m := m) (drop_ne (h k (by omega)))
    rw [outs_succ, List.length_append]
    show _ + (put m (V c (L.drop (At c L k))).1).length ≤ 3 * (At c L k + (V c (L.drop (At c L k))).2)
    omega
theorem outs_good {c m m' : Int} {L : List UInt8} : ∀ k, (∀ j, j < k → 0 ≤ pt c L j) → outs c m L k = outs c m' L k := by
  intro k
  induction k with
  | zero => intro _; rfl
  | succ k ih =>
    intro h
    rw [outs_succ, outs_succ, ih fun j hj => h j (by omega)]
    have := h k (by omega)
    unfold put
    rw [if_pos this, if_pos this]
theorem outs_less {c : Int} {L : List UInt8} : ∀ k, (outs c 2 L k).length ≤ (outs c 1 L k).length ∧ ((∃ j, j < k ∧ pt c L j < 0) → (outs c 2 L k).length < (outs c 1 L k).length) := by
  intro k
  induction k with
  | zero => exact ⟨by simp [outs], fun ⟨j, h, _⟩ => by omega⟩
  | succ k ih =>
    rw [outs_succ, outs_succ, List.length_append, List.length_append]
    by_cases h : 0 ≤ pt c L k
    · have e : put 2 (pt c L k) = put 1 (pt c L k) := by unfold put; rw [if_pos h, if_pos h]
      rw [e]
      refine ⟨by omega, fun ⟨j, j1, j2⟩ => ?_⟩
      have hjk : j < k := by
        rcases (by omega : j < k ∨ j = k) with g | g
        · exact g
        · subst g; omega
      have := ih.2 ⟨j, hjk, j2⟩
      omega
    · have e1 : put 2 (pt c L k) = [] := by unfold put; rw [if_neg h, if_neg (by decide)]
      have e2 : (put 1 (pt c L k)).length = 3 := by unfold put; rw [if_neg h, if_pos rfl]; kernel_rfl
      rw [e1, e2]
      simp only [List.length_nil]
      exact ⟨by omega, fun _ => by omega⟩
theorem scal_pts {c m : Int} {L : List UInt8} {n : Nat} (hn : ∀ j, j < n → At c L j < L.length) : ∀ z ∈ (pts c L n).flatMap (putN m), Scal z := by
  intro z hz
  obtain ⟨w, hw1, hw2⟩ := List.mem_flatMap.1 hz
  obtain ⟨j, hj1, hj2⟩ := List.mem_map.1 hw1
  have hj := List.mem_range.1 hj1
  have hv := V_pt c (drop_ne (hn j hj))
  have e0 : pt c L j = (V c (L.drop (At c L j))).1 := rfl
  unfold putN at hw2
  split at hw2
  · rename_i h0
    rw [List.mem_singleton.1 hw2]
    rcases hv with e | ⟨a, ha, e⟩
    · omega
    · rw [← hj2, e0, e]; simpa using ha
  · split at hw2
    · rw [List.mem_singleton.1 hw2]; unfold Scal; omega
    · cases hw2
theorem filter_same (l : List Int) : (l.flatMap (putN 1)).filter (· ≠ 65533) = (l.flatMap (putN 2)).filter (· ≠ 65533) := by
  induction l with
  | nil => rfl
  | cons x l ih =>
    rw [List.flatMap_cons, List.flatMap_cons, List.filter_append, List.filter_append, ih]
    congr 1
    unfold putN
    split
    · rfl
    · rw [if_pos rfl, if_neg (by decide)]; rfl
theorem Repaired_tot {b : List UInt8} {c : Int} (hb : b.length ≤ 1048576) : Tot (fun fuel => law4_BytestrRepaired fuel b c) (fun r => r = true) := by
  unfold law4_BytestrRepaired
  refine Tot.bindq (P := fun j => j = decide (¬ (0 ≤ c ∧ c ≤ 2) ∨ 1000 < b.length)) ?_ fun j hj => ?_
  · refine Tot.bindq bytesOf_tot fun r hr => ?_
    subst hr
    refine Tot.if_ rfl (Tot.ite (fun h => ?_) (fun h => Tot.ite (fun h2 => ?_) (fun h2 => ?_)))
    · have h : c < 0 := of_decide_eq_true h
      exact Tot.ret (decide_eq_true (.inl (by omega))).symm
    · have h2 : c > 2 := of_decide_eq_true h2
      exact Tot.ret (decide_eq_true (.inl (by omega))).symm
    · have h : ¬ c < 0 := of_decide_eq_false h
      have h2 : ¬ c > 2 := of_decide_eq_false h2
      exact Tot.ret (decide_eq_decide.2 ⟨fun g => .inr (by omega), fun g => by rcases g with g | g <;> omega⟩)
  subst hj
  refine Tot.ite (fun h => Tot.bindq bytesOf_tot fun r hr => Tot.ret hr) (fun h => ?_)
  have h := of_decide_eq_false h
  have hc : 0 ≤ c ∧ c ≤ 2 := Classical.byContradiction fun g => h (.inl g)
  have hl : b.length ≤ 1000 := Nat.le_of_not_lt fun g => h (.inr g)
  refine Tot.bindq (Decode_tot hb) fun r1 h1 => Tot.bindq (Decode_tot hb) fun r2 h2 => Tot.bindq (Decode_tot hb) fun r0 h0 => ?_
  rw [if_neg (by omega), if_neg (fun g => g hc), if_neg (by omega)] at h1 h2 h0
  obtain ⟨n, hn, d1⟩ := h1
  obtain ⟨n2, hn2, d2⟩ := h2
  obtain ⟨n0, hn0, d0⟩ := h0
  have := Ends_eq hn2 hn
  subst this
  have := Ends_eq hn0 hn2
  subst this
  have hat : At c b n0 ≤ 1000 := by rw [hn.2]; exact hl
  have l1 := outs_len3 (m := 1) n0 hn.1
  have l2 := outs_len3 (m := 2) n0 hn.1
  have l0 := outs_len3 (m := 0) n0 hn.1
  have e1 : r1 = (strOf (outs c 1 b n0), (0, 0)) := by
    rcases d1 with ⟨g, _⟩ | ⟨_, g⟩
    · cases g
    · rw [g, if_neg (by omega)]
  have e2 : r2 = (strOf (outs c 2 b n0), (0, 0)) := by
    rcases d2 with ⟨g, _⟩ | ⟨_, g⟩
    · cases g
    · rw [g, if_neg (by omega)]
  subst e1 e2
  refine Tot.bindq (P := fun j => j = false) (Tot.if_ rfl (Tot.ret rfl)) fun j hj => ?_
  subst hj
  refine Tot.if_ rfl ?_
  rcases d0 with ⟨_, k, k1, k2, k3, k4⟩ | ⟨g, k4⟩
  rotate_left
  · have e0 : r0 = (strOf (outs c 0 b n0), (0, 0)) := by rw [k4, if_neg (by omega)]
    subst e0
    refine Tot.it rfl (Tot.ret ?_)
    rw [str_eq, str_eq, outs_good (m := 1) (m' := 0) n0 (g rfl), outs_good (m := 2) (m' := 0) n0 (g rfl)]
    simp
  subst k4
  have s1 := scal_pts (m := 1) hn.1
  have s2 := scal_pts (m := 2) hn.1
  have o1 : outs c 1 b n0 = enc ((pts c b n0).flatMap (putN 1)) := (enc_pts ..).symm
  have o2 : outs c 2 b n0 = enc ((pts c b n0).flatMap (putN 2)) := (enc_pts ..).symm
  have hless := (outs_less (c := c) (L := b) n0).2 ⟨k, k1, k2⟩
  rw [o1, o2] at hless
  rw [o1] at l1
  rw [o2] at l2
  rw [o1, o2]
  have hf := filter_same (pts c b n0)
  generalize (pts c b n0).flatMap (putN 1) = p1 at *
  generalize (pts c b n0).flatMap (putN 2) = p2 at *
  have hq : Scal 65533 := by unfold Scal; omega
  have hqe : strOf [239, 191, 189] = strOf (encR 65533) := by kernel_rfl
  refine Tot.if_ rfl ?_
  rw [hqe]
  refine Tot.bindq (tReplace_tot hq s1 (by omega)) fun u hu => Tot.bindq (tReplace_tot hq s2 (by omega)) fun v hv => Tot.bindq (Encode_tot (by rw [size_str]; omega)) fun x hx => ?_
  subst hu hv
  rw [bytes_str, size_str, valid_enc p1 s1, decide_eq_true (by omega : (enc p1).length ≤ 4000), if_pos (show (true && true) = true from rfl), if_pos ⟨by decide, by decide⟩] at hx
  obtain ⟨p, hp, he, hcq⟩ := hx
  have := enc_inj s1 hp he
  subst this
  have hx2 : x = (codeL 0 p1, (0, 0)) := by
    rcases hcq with ⟨g, _⟩ | ⟨_, g⟩
    · cases g
    · rw [g, if_neg (by rw [codeL_zero]; omega)]
  subst hx2
  refine Tot.bindq (Decode_tot (b_0 := codeL 0 p1) (by rw [codeL_zero]; omega)) fun y hy => ?_
  rw [if_neg (by rw [codeL_zero]; omega), if_neg (fun g => g ⟨by decide, by decide⟩), if_neg (fun g => g ⟨by decide, by decide⟩)] at hy
  have c1 : (0 : Int) = 1 → ∀ x ∈ p1, x ≤ 255 := fun g => by cases g
  obtain ⟨n', hn', dy⟩ := hy
  have := Ends_eq hn' (Ends_back ⟨by decide, by decide⟩ s1 c1)
  subst this
  have hout := outs_back (m := 0) (c := 0) ⟨by decide, by decide⟩ s1 c1 p1.length (Nat.le_refl _)
  rw [List.take_length] at hout
  have hy2 : y = (strOf (enc p1), (0, 0)) := by
    rcases dy with ⟨_, k', k1', k2', _, _⟩ | ⟨_, g⟩
    · rw [pt_back ⟨by decide, by decide⟩ s1 c1 k1'] at k2'; omega
    · rw [g, hout, if_neg (by omega)]
  subst hy2
  refine Tot.bindq (P := fun j => j = true) ?_ fun j hj => Tot.ret hj
  have yes : ∀ s : ByteArray, (s.toList == s.toList) = true := fun s => by rw [str_eq]; exact decide_eq_true rfl
  refine Tot.it (yes _) (Tot.it rfl (Tot.it rfl (Tot.it rfl (Tot.it rfl (Tot.it rfl (Tot.it ?_ (Tot.it (yes _) (Tot.some_bind (Tot.ret ?_)))))))))
  · dsimp only
    rw [hf]; exact yes _
  · dsimp only
    rw [size_str, size_str]
    exact decide_eq_true (by omega)
theorem BytestrRepaired_said (b : List UInt8) (c : Int) (_ : (∀ x ∈ b, (fun _ => True) x) ∧ b.length ≤ maxLen) (_ : inK .i64 c) (h : sumL (fun _ => 1) b + 1 ≤ 1048576) : Tot (fun n => law4_BytestrRepaired n b c) (· = true) :=
  Repaired_tot (by have := sumL_one b; omega)
end Go.Gv.R
