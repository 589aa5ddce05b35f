import Derived.Test.YtlclmpegnkomcaaDoorM1
set_option linter.all false
namespace Go.Gv.R
open Go Go.Gv Go.Gv.D Go.Lib

/-! ### back again -/
theorem hv_hx {n : Nat} (h : n < 16) : hv (hx n) = (n : Int) := by
  have : ((List.range 16).all fun n => hv (hx n) == ((n : Nat) : Int)) = true := by kernel_rfl
  exact eq_of_beq (List.all_eq_true.1 this n (List.mem_range.2 h))
theorem unhex_hex : ∀ (b : List UInt8), unhex (hexL b) = b
  | [] => rfl
  | x :: b => by
    have hx' := byte_lt x
    have ih := unhex_hex b
    show unhex (hx (x.toNat / 16) :: hx (x.toNat % 16) :: hexL b) = _
    unfold unhex
    rw [ih]
    have e1 : hn (hx (x.toNat / 16)) = x.toNat / 16 := by unfold hn; rw [hv_hx (by omega), Int.toNat_natCast]
    have e2 : hn (hx (x.toNat % 16)) = x.toNat % 16 := by unfold hn; rw [hv_hx (by omega), Int.toNat_natCast]
    rw [e1, e2, show 16 * (x.toNat / 16) + x.toNat % 16 = x.toNat by omega, UInt8.ofNat_toNat]
theorem hex_fine : ∀ (b : List UInt8), ∀ x ∈ hexL b, 0 ≤ hv x
  | [], x, h => by cases h
  | y :: b, x, h => by
    have hy := byte_lt y
    have h' : x ∈ hx (y.toNat / 16) :: hx (y.toNat % 16) :: hexL b := h
    rcases List.mem_cons.1 h' with e | h'
    · rw [e, hv_hx (by omega)]; omega
    rcases List.mem_cons.1 h' with e | h'
    · rw [e, hv_hx (by omega)]; omega
    · exact hex_fine b x h'
theorem HexR_back {b : List UInt8} {r : List UInt8 × Int × Int} (h : HexR (hexL b) r) : r = (b, (0, 0)) := by
  rcases h with ⟨i, hi, h1, _⟩ | ⟨_, h2⟩
  · have := hex_fine b _ (List.getElem_mem hi); omega
  · rw [h2, unhex_hex]

theorem nat8 {n : Nat} (h : n < 256) : (UInt8.ofNat n).toNat = n := by rw [UInt8.toNat_ofNat', Nat.mod_eq_of_lt (by omega)]
theorem sur_back (z : Nat) (h : z < 1048576) : (216 + z / 1024 / 256) * 256 + z / 1024 % 256 = 55296 + z / 1024 ∧ (220 + z % 1024 / 256) * 256 + z % 1024 % 256 = 56320 + z % 1024 := by omega
/-- A CODED RUNE IS ONE UNIT AGAIN. -/
theorem V_code {c : Int} (hc : 0 ≤ c ∧ c ≤ 2) {r : Nat} (hr : Scal r) (h1 : c = 1 → r ≤ 255) (t : List UInt8) : V c (codeR c r ++ t) = ((r : Int), (codeR c r).length) := by
  have hs : r ≤ 1114111 := by unfold Scal at hr; omega
  unfold V codeR
  by_cases c0 : c = 0
  · rw [if_pos c0, if_pos c0, decode_enc r hr, if_neg (show ¬ bad (r, (encR r).length) from not_bad hr)]
  rw [if_neg c0, if_neg c0]
  by_cases c1 : c = 1
  · rw [if_pos c1, if_pos c1]
    have := h1 c1
    simp only [List.cons_append, List.nil_append, List.getD_cons_zero, List.length_cons, List.length_nil]
    rw [nat8 (by omega)]
  rw [if_neg c1, if_neg c1]
  by_cases h6 : r < 65536
  · rw [if_pos h6]
    have hb : b16 ([UInt8.ofNat (r / 256), UInt8.ofNat (r % 256)] ++ t) 0 = r := by
      unfold b16
      simp only [List.cons_append, List.nil_append, List.getD_cons_zero, List.getD_cons_succ]
      rw [nat8 (by omega), nat8 (by omega)]; omega
    unfold Scal at hr
    rw [hb, if_neg (by simp), if_pos (by omega)]
    simp only [List.length_cons, List.length_nil]
  · rw [if_neg h6]
    obtain ⟨z, rfl⟩ : ∃ z, r = 65536 + z := ⟨r - 65536, by omega⟩
    have hz : z < 1048576 := by clear hr h1 h6; omega
    rw [Nat.add_sub_cancel_left]
    obtain ⟨s1, s2⟩ := sur_back z hz
    have l1 : 216 + z / 1024 / 256 < 256 := by omega
    have l2 : z / 1024 % 256 < 256 := Nat.mod_lt _ (by decide)
    have l3 : 220 + z % 1024 / 256 < 256 := by omega
    have l4 : z % 1024 % 256 < 256 := Nat.mod_lt _ (by decide)
    have l5 : z / 1024 < 1024 := sur_q z hz
    have l6 : z % 1024 < 1024 := Nat.mod_lt _ (by decide)
    have b0 : b16 ([UInt8.ofNat (216 + z / 1024 / 256), UInt8.ofNat (z / 1024 % 256), UInt8.ofNat (220 + z % 1024 / 256), UInt8.ofNat (z % 1024 % 256)] ++ t) 0 = 55296 + z / 1024 := by
      unfold b16
      simp only [List.cons_append, List.nil_append, List.getD_cons_zero, List.getD_cons_succ]
      rw [nat8 l1, nat8 l2, s1]
    have b2 : b16 ([UInt8.ofNat (216 + z / 1024 / 256), UInt8.ofNat (z / 1024 % 256), UInt8.ofNat (220 + z % 1024 / 256), UInt8.ofNat (z % 1024 % 256)] ++ t) 2 = 56320 + z % 1024 := by
      unfold b16
      simp only [List.cons_append, List.nil_append, List.getD_cons_zero, List.getD_cons_succ]
      rw [nat8 l3, nat8 l4, s2]
    have hq : z = z / 1024 * 1024 + z % 1024 := by omega
    rw [b0, b2, if_neg (by simp), if_neg (by omega), if_pos ⟨by omega, by simp, by omega, by omega⟩]
    refine Prod.ext ?_ rfl
    show ((65536 + (55296 + z / 1024 - 55296) * 1024 + (56320 + z % 1024 - 56320) : Nat) : Int) = ((65536 + z : Nat) : Int)
    rw [Nat.add_sub_cancel_left, Nat.add_sub_cancel_left]
    congr 1
    omega
theorem codeR_pos {c : Int} (r : Nat) : 1 ≤ (codeR c r).length := by
  have := encR_pos r
  unfold codeR
  repeat' split
  all_goals first | omega | simp
theorem codeL_cons (c : Int) (r : Nat) (p : List Nat) : codeL c (r :: p) = codeR c r ++ codeL c p := by simp [codeL]
theorem codeL_app (c : Int) (p q : List Nat) : codeL c (p ++ q) = codeL c p ++ codeL c q := by simp [codeL]
theorem units_back {c : Int} (hc : 0 ≤ c ∧ c ≤ 2) {p : List Nat} (hp : ∀ r ∈ p, Scal r) (h1 : c = 1 → ∀ x ∈ p, x ≤ 255) : ∀ k, (hk : k ≤ p.length) → At c (codeL c p) k = (codeL c (p.take k)).length := by
  intro k
  induction k with
  | zero => intro _; rfl
  | succ k ih =>
    intro hk
    have hk' : k < p.length := hk
    have e := ih (by omega)
    show At c (codeL c p) k + (V c ((codeL c p).drop (At c (codeL c p) k))).2 = _
    have hsplit : codeL c p = codeL c (p.take k) ++ (codeR c p[k] ++ codeL c (p.drop (k + 1))) := by
      rw [← codeL_cons, ← codeL_app, ← List.drop_eq_getElem_cons hk', List.take_append_drop]
    have hd : (codeL c p).drop (At c (codeL c p) k) = codeR c p[k] ++ codeL c (p.drop (k + 1)) := by
      rw [e]
      conv => lhs; rw [hsplit]
      rw [List.drop_left]
    rw [hd, V_code hc (hp _ (List.getElem_mem hk')) (fun h => h1 h _ (List.getElem_mem hk')), e, take_snoc hk', codeL_snoc, List.length_append]
theorem pt_back {c : Int} (hc : 0 ≤ c ∧ c ≤ 2) {p : List Nat} (hp : ∀ r ∈ p, Scal r) (h1 : c = 1 → ∀ x ∈ p, x ≤ 255) {k : Nat} (hk : k < p.length) : pt c (codeL c p) k = (p[k] : Int) := by
  have e := units_back hc hp h1 k (by omega)
  have hsplit : codeL c p = codeL c (p.take k) ++ (codeR c p[k] ++ codeL c (p.drop (k + 1))) := by
    rw [← codeL_cons, ← codeL_app, ← List.drop_eq_getElem_cons hk, List.take_append_drop]
  have hd : (codeL c p).drop (At c (codeL c p) k) = codeR c p[k] ++ codeL c (p.drop (k + 1)) := by
    rw [e]
    conv => lhs; rw [hsplit]
    rw [List.drop_left]
  unfold pt
  rw [hd, V_code hc (hp _ (List.getElem_mem hk)) (fun h => h1 h _ (List.getElem_mem hk))]
theorem Ends_back {c : Int} (hc : 0 ≤ c ∧ c ≤ 2) {p : List Nat} (hp : ∀ r ∈ p, Scal r) (h1 : c = 1 → ∀ x ∈ p, x ≤ 255) : Ends c (codeL c p) p.length := by
  refine ⟨fun j hj => ?_, ?_⟩
  · rw [units_back hc hp h1 j (by omega)]
    have e : codeL c p = codeL c (p.take j) ++ (codeR c p[j] ++ codeL c (p.drop (j + 1))) := by
      rw [← codeL_cons, ← codeL_app, ← List.drop_eq_getElem_cons hj, List.take_append_drop]
    have := codeR_pos (c := c) p[j]
    have e2 := congrArg List.length e
    rw [List.length_append, List.length_append] at e2
    omega
  · rw [units_back hc hp h1 _ (Nat.le_refl _), List.take_length]
theorem outs_back {c m : Int} (hc : 0 ≤ c ∧ c ≤ 2) {p : List Nat} (hp : ∀ r ∈ p, Scal r) (h1 : c = 1 → ∀ x ∈ p, x ≤ 255) : ∀ k, k ≤ p.length → outs c m (codeL c p) k = enc (p.take k) := by
  intro k
  induction k with
  | zero => intro _; rfl
  | succ k ih =>
    intro hk
    have hk' : k < p.length := hk
    rw [outs_succ, ih (by omega), pt_back hc hp h1 hk', take_snoc hk', enc_snoc]
    unfold put
    rw [if_pos (by omega), Int.toNat_natCast]
theorem Back_tot {b : List UInt8} {s : ByteArray} {c m : Int} (hb : b.length ≤ 1048576) (hs : s.size ≤ 1048576) : Tot (fun fuel => law4_BytestrBack fuel b s c m) (fun r => r = true) := by
  unfold law4_BytestrBack
  have same : ∀ x : List UInt8, Tot (fun fuel => ref4_SameBytes fuel x x) (fun r => r = true) := fun x => by
    unfold ref4_SameBytes
    exact Tot.some_bind (Tot.ret (by rw [str_eq]; exact decide_eq_true rfl))
  refine Tot.bindq bytesOf_tot fun r hr => ?_
  subst hr
  refine Tot.if_ rfl (Tot.bindq (Hex_tot hb) fun r hr => Tot.bindq (Base64_tot hb) fun q hq => Tot.bindq (P := fun j => j = .inl ()) ?_ fun j hj => ?_)
  · by_cases h : 2000 < b.length
    · rw [if_pos h] at hr
      subst hr
      exact Tot.if_ rfl (Tot.ret rfl)
    · rw [if_neg h] at hr
      subst hr
      have hl := hexL_len b
      refine Tot.it rfl (Tot.bindq (FromHex_tot (s := strOf (hexL b)) (by rw [size_str]; omega)) fun x hx => ?_)
      rw [size_str, if_neg (by omega), if_neg (by omega), bytes_str] at hx
      have hx := HexR_back hx
      subst hx
      refine Tot.bindq (P := fun j => j = false) (Tot.if_ rfl (Tot.bindq (same b) fun y hy => Tot.ret (by rw [hy]; rfl))) fun j hj => ?_
      subst hj
      exact Tot.if_ rfl (Tot.ret rfl)
  subst hj
  refine Tot.contl (Tot.bindq (P := fun j => j = .inl ()) ?_ fun j hj => ?_)
  · by_cases h : 3000 < b.length
    · rw [if_pos h] at hq
      subst hq
      exact Tot.if_ rfl (Tot.ret rfl)
    · rw [if_neg h] at hq
      subst hq
      have hl := b64L_len b
      refine Tot.it rfl (Tot.bindq (FromBase64_tot (s := strOf (b64L b)) (by rw [size_str]; omega)) fun x hx => ?_)
      rw [size_str, if_neg (by omega), if_neg (by omega), bytes_str] at hx
      have hx2 : x = (b, (0, 0)) := by
        rcases hx with ⟨_, h⟩ | ⟨h1, h2, h3⟩
        · exact absurd rfl (h b)
        · exact Prod.ext (h3 b rfl) h1
      subst hx2
      refine Tot.bindq (P := fun j => j = false) (Tot.if_ rfl (Tot.bindq (same b) fun y hy => Tot.ret (by rw [hy]; rfl))) fun j hj => ?_
      subst hj
      exact Tot.if_ rfl (Tot.ret rfl)
  subst hj
  refine Tot.contl (Tot.bindq (Encode_tot hs) fun e he => ?_)
  have hempty : e.2.1 ≠ 0 → e.1 = [] := fun h => by
    split at he
    · split at he
      · obtain ⟨p, _, _, hq⟩ := he
        rcases hq with ⟨_, k, _, _, _, k3⟩ | ⟨_, k3⟩
        · rw [k3]
        · split at k3
          · rw [k3]
          · rw [k3] at h; exact absurd rfl h
      · rw [he]
    · rw [he]
  refine Tot.bindq (P := fun j => j = decide (e.2.1 ≠ 0 ∨ ¬ (0 ≤ m ∧ m ≤ 2))) ?_ fun j hj => ?_
  · refine Tot.ite (fun h => ?_) (fun h => ?_)
    · have h := bne_iff_ne.1 h
      exact Tot.ret (decide_eq_true (.inl h)).symm
    have h : e.2.1 = 0 := by simpa using h
    refine Tot.ite (fun g => ?_) (fun g => ?_)
    · have g := of_decide_eq_true g
      exact Tot.ret (decide_eq_true (.inr (by omega))).symm
    have g := of_decide_eq_false g
    exact Tot.ret (decide_eq_decide.2 ⟨fun h => .inr (by omega), fun h' => by (rcases h' with h' | h'); (exact absurd h h'); omega⟩)
  subst hj
  refine Tot.ite (fun h => ?_) (fun h => ?_)
  · refine Tot.bindq (P := fun j => j = true) ?_ fun j hj => Tot.ret hj
    refine Tot.ite (fun g => Tot.ret rfl) (fun g => Tot.some_bind (Tot.ret ?_))
    have g : e.2.1 ≠ 0 := fun h => by rw [h] at g; cases g
    rw [hempty g]; rfl
  have h := of_decide_eq_false h
  have h0 : e.2.1 = 0 := Classical.byContradiction fun g => h (.inl g)
  have hm : 0 ≤ m ∧ m ≤ 2 := Classical.byContradiction fun g => h (.inr g)
  have hsz := size_bytes s
  by_cases hv : (validD (bytesOf s) && decide (s.size ≤ 4000)) = true
  rotate_left
  · rw [if_neg hv] at he; rw [he] at h0; cases h0
  rw [if_pos hv] at he
  by_cases hc : 0 ≤ c ∧ c ≤ 2
  rotate_left
  · rw [if_neg hc] at he; rw [he] at h0; cases h0
  rw [if_pos hc] at he
  obtain ⟨p, hp, hL, hq⟩ := he
  have h4 : s.size ≤ 4000 := of_decide_eq_true (Bool.and_eq_true_iff.1 hv).2
  rcases hq with ⟨_, k, _, _, _, k3⟩ | ⟨c1, k3⟩
  · rw [k3] at h0; cases h0
  split at k3
  · rw [k3] at h0; cases h0
  rename_i hcl
  subst k3
  refine Tot.bindq (Decode_tot (b_0 := codeL c p) (by omega)) fun d hd => ?_
  rw [if_neg hcl, if_neg (fun h => h hc), if_neg (fun h => h hm)] at hd
  obtain ⟨n, hn, hdr⟩ := hd
  have hnp := Ends_eq hn (Ends_back hc hp c1)
  subst hnp
  have hout := outs_back (m := m) hc hp c1 p.length (Nat.le_refl _)
  rw [List.take_length] at hout
  have hd2 : d = (s, (0, 0)) := by
    rcases hdr with ⟨_, k, k1, k2, _, _⟩ | ⟨_, h⟩
    · rw [pt_back hc hp c1 k1] at k2; omega
    · rw [hout, ← hL, ← hsz, if_neg (by omega), str_bytes] at h
      exact h
  subst hd2
  exact Tot.bindq (P := fun j => j = true) (Tot.it rfl (Tot.ret (by rw [str_eq]; exact decide_eq_true rfl))) fun j hj => Tot.ret hj
theorem BytestrBack_said (b : List UInt8) (s : ByteArray) (c m : Int) (_ : (∀ x ∈ b, (fun _ => True) x) ∧ b.length ≤ maxLen) (_ : s.size ≤ maxLen) (_ : inK .i64 c) (_ : inK .i64 m) (h : sumL (fun _ => 1) b + ((s.size + 1) + (1 + 1)) ≤ 1048576) : Tot (fun n => law4_BytestrBack n b s c m) (· = true) :=
  Back_tot (by have := sumL_one b; omega) (by omega)
end Go.Gv.R
