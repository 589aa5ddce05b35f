import Derived.Test.YtlclmpegnkomcaaDoorL5
set_option linter.all false
namespace Go.Gv.R
open Go Go.Gv Go.Gv.D

/-! ### letters are read -/
def lv (x : UInt8) : Int := nIdxB [(65 : UInt8), (66 : UInt8), (67 : UInt8), (68 : UInt8), (69 : UInt8), (70 : UInt8), (71 : UInt8), (72 : UInt8), (73 : UInt8), (74 : UInt8), (75 : UInt8), (76 : UInt8), (77 : UInt8), (78 : UInt8), (79 : UInt8), (80 : UInt8), (81 : UInt8), (82 : UInt8), (83 : UInt8), (84 : UInt8), (85 : UInt8), (86 : UInt8), (87 : UInt8), (88 : UInt8), (89 : UInt8), (90 : UInt8), (97 : UInt8), (98 : UInt8), (99 : UInt8), (100 : UInt8), (101 : UInt8), (102 : UInt8), (103 : UInt8), (104 : UInt8), (105 : UInt8), (106 : UInt8), (107 : UInt8), (108 : UInt8), (109 : UInt8), (110 : UInt8), (111 : UInt8), (112 : UInt8), (113 : UInt8), (114 : UInt8), (115 : UInt8), (116 : UInt8), (117 : UInt8), (118 : UInt8), (119 : UInt8), (120 : UInt8), (121 : UInt8), (122 : UInt8), (48 : UInt8), (49 : UInt8), (50 : UInt8), (51 : UInt8), (52 : UInt8), (53 : UInt8), (54 : UInt8), (55 : UInt8), (56 : UInt8), (57 : UInt8), (43 : UInt8), (47 : UInt8)] (x.toNat : Int)
theorem lv_lt {n : Nat} (h : n < 64) : lv (lt n) = (n : Int) := by
  have : ((List.range 64).all fun n => lv (lt n) == ((n : Nat) : Int)) = true := by kernel_rfl
  exact eq_of_beq (List.all_eq_true.1 this n (List.mem_range.2 h))
theorem lv_eq : lv 61 = -1 := by kernel_rfl
theorem lv_ge (x : UInt8) : -1 ≤ lv x ∧ lv x < 64 := by
  have h : ((List.range 256).all fun n => decide (-1 ≤ lv (UInt8.ofNat n)) && decide (lv (UInt8.ofNat n) < 64)) = true := by kernel_rfl
  have := byte_all (p := fun n => decide (-1 ≤ lv (UInt8.ofNat n)) && decide (lv (UInt8.ofNat n) < 64)) h x
  simpa only [UInt8.ofNat_toNat, Bool.and_eq_true, decide_eq_true_eq] using this
theorem quad_len (y : List UInt8) : (quad y).length = 4 := rfl
theorem quad_get (y : List UInt8) {k : Nat} (h : k < 4) : (quad y)[k]'(by rw [quad_len]; exact h) = if k ≤ y.length then lt (num3 y / 2 ^ (18 - 6 * k) % 64) else 61 := by
  unfold quad
  rw [List.getElem_map, List.getElem_range]
theorem flatMap4_len (m : List (List UInt8)) : (m.flatMap quad).length = 4 * m.length := by
  induction m with
  | nil => rfl
  | cons x m ih => rw [List.flatMap_cons, List.length_append, quad_len, ih, List.length_cons]; omega
theorem flatMap4_get : ∀ (m : List (List UInt8)) (i k : Nat) (hi : i < m.length) (hk : k < 4) (h : 4 * i + k < (m.flatMap quad).length), (m.flatMap quad)[4 * i + k] = (quad m[i])[k]'(by rw [quad_len]; exact hk)
  | [], i, k, hi, _, _ => absurd hi (Nat.not_lt_zero _)
  | x :: m, 0, k, _, hk, h => by
    simp only [Nat.mul_zero, Nat.zero_add, List.flatMap_cons, List.getElem_cons_zero]
    rw [List.getElem_append_left (by rw [quad_len]; exact hk)]
  | x :: m, i + 1, k, hi, hk, h => by
    have hi' : i < m.length := by simp only [List.length_cons] at hi; omega
    have := flatMap4_get m i k hi' hk (by rw [flatMap4_len]; omega)
    simp only [List.flatMap_cons, List.getElem_cons_succ]
    rw [← this, List.getElem_append_right (by rw [quad_len]; omega)]
    congr 1
    rw [quad_len]; omega
theorem chunk_pos {b : List UInt8} {i : Nat} (h : i < (chunks b).length) : 0 < ((chunks b)[i]).length ∧ ((chunks b)[i]).length ≤ 3 := by
  have hc : (chunks b)[i] = chunk b i := by simp [chunks]
  rw [hc, chunk_len]
  simp [chunks] at h
  omega
theorem b64L_len (b : List UInt8) : (b64L b).length = 4 * ((b.length + 2) / 3) := by
  unfold b64L
  rw [flatMap4_len]
  simp [chunks]
theorem bytes3 (y : List UInt8) (h : 0 < y.length) (h' : y.length ≤ 3) : [UInt8.ofNat (num3 y / 65536), UInt8.ofNat (num3 y / 256), UInt8.ofNat (num3 y)].take y.length = y := by
  have hw : ∀ (a : Nat) (z : UInt8), a % 256 = z.toNat → UInt8.ofNat a = z := fun a z e => by
    apply UInt8.toNat.inj
    rw [UInt8.toNat_ofNat', e]
  match y, h, h' with
  | [a], _, _ =>
    have := byte_lt a
    simp only [num3, List.getD_cons_zero, List.getD_cons_succ, List.getD_nil, List.length_cons, List.length_nil, List.take_succ_cons, List.take_zero, UInt8.toNat_zero]
    rw [hw _ a (by omega)]
  | [a, b], _, _ =>
    have := byte_lt a
    have := byte_lt b
    simp only [num3, List.getD_cons_zero, List.getD_cons_succ, List.getD_nil, List.length_cons, List.length_nil, List.take_succ_cons, List.take_zero, UInt8.toNat_zero]
    rw [hw _ a (by omega), hw _ b (by omega)]
  | [a, b, c], _, _ =>
    have := byte_lt a
    have := byte_lt b
    have := byte_lt c
    simp only [num3, List.getD_cons_zero, List.getD_cons_succ, List.getD_nil, List.length_cons, List.length_nil, List.take_succ_cons, List.take_zero]
    rw [hw _ a (by omega), hw _ b (by omega), hw _ c (by omega)]
/-- the number that the first k letters of y make -/
def part (y : List UInt8) (k : Nat) : Nat := num3 y / 2 ^ (24 - 6 * k) * 2 ^ (24 - 6 * k)
theorem part_all (y : List UInt8) (h : 0 < y.length) (h' : y.length ≤ 3) : part y (y.length + 1) = num3 y := by
  match y, h, h' with
  | [a], _, _ =>
    simp only [part, num3, List.getD_cons_zero, List.getD_cons_succ, List.getD_nil, List.length_cons, List.length_nil, UInt8.toNat_zero]
    omega
  | [a, b], _, _ =>
    simp only [part, num3, List.getD_cons_zero, List.getD_cons_succ, List.getD_nil, List.length_cons, List.length_nil, UInt8.toNat_zero]
    omega
  | [a, b, c], _, _ =>
    simp only [part, num3, List.getD_cons_zero, List.getD_cons_succ, List.getD_nil, List.length_cons, List.length_nil]
    omega
theorem part_step (y : List UInt8) {k : Nat} (h : k < 4) : part y (k + 1) = part y k + num3 y / 2 ^ (18 - 6 * k) % 64 * 2 ^ (18 - 6 * k) := by
  have := num3_lt y
  unfold part
  generalize num3 y = n at this
  rcases (by omega : k = 0 ∨ k = 1 ∨ k = 2 ∨ k = 3) with e | e | e | e <;> subst e <;> simp only [Nat.mul_zero, Nat.mul_one, Nat.reduceMul, Nat.reduceAdd, Nat.reduceSub, Nat.reducePow] <;> omega
theorem shl_mul (m k : Nat) (hk : k ≤ 64) (h : m * 2 ^ k < 4611686018427387904) : shlI .i64 (m : Int) (k : Int) = ((m * 2 ^ k : Nat) : Int) := by
  unfold shlI
  rw [Int.toNat_natCast, show min k IntKind.i64.bits = k by show min k 64 = k; omega]
  have e : (m : Int) * 2 ^ k = ((m * 2 ^ k : Nat) : Int) := by simp
  rw [e, i64_small (by omega) (by omega)]
theorem FromBase64_tot {s : ByteArray} (hs : s.size ≤ 1048576) : Tot (fun fuel => bytestr_FromBase64 fuel s) (fun r => if 4000 < s.size then r = ([], (3, -1)) else if s.size % 4 ≠ 0 then r = ([], (9, -1)) else (r = ([], (1, -1)) ∧ ∀ x, bytesOf s ≠ b64L x) ∨ (r.2 = (0, 0) ∧ bytesOf s = b64L r.1 ∧ ∀ x, bytesOf s = b64L x → r.1 = x)) := by
  unfold bytestr_FromBase64
  refine Tot.some_bind (Tot.ite (fun h => ?_) (fun h => Tot.some_bind (Tot.ite (fun h2 => ?_) (fun h2 => ?_))))
  · have h : (s.size : Int) > 4000 := of_decide_eq_true h
    refine Tot.bindq (bytestr_at_tot 3 (-1)) fun r hr => Tot.ret ?_
    subst hr
    rw [if_pos (by omega)]
  · have h : ¬ (s.size : Int) > 4000 := of_decide_eq_false h
    have h2 : (s.size : Int).tmod 4 ≠ 0 := by simpa using h2
    rw [Int.tmod_eq_emod_of_nonneg (by omega)] at h2
    refine Tot.bindq (bytestr_at_tot 9 (-1)) fun r hr => Tot.ret ?_
    subst hr
    rw [if_neg (by omega), if_pos (by omega)]
  · have h : ¬ (s.size : Int) > 4000 := of_decide_eq_false h
    have h2 : (s.size : Int).tmod 4 = 0 := by simpa using h2
    rw [Int.tmod_eq_emod_of_nonneg (by omega)] at h2
    refine Tot.mono (Q := fun r => (r = ([], (1, -1)) ∧ ∀ x, bytesOf s ≠ b64L x) ∨ (r.2 = (0, 0) ∧ bytesOf s = b64L r.1 ∧ ∀ x, bytesOf s = b64L x → r.1 = x)) ?_ fun r hr => by rw [if_neg (by omega), if_neg (by omega)]; exact hr
    have hsz := size_bytes s
    rw [hsz] at h h2 ⊢
    have hstr := str_bytes s
    generalize hL : bytesOf s = L at h h2 hstr ⊢
    refine Tot.bindq (P := fun out => out.length ≤ 3000 ∧ ∀ x, L = b64L x → out = x) ?_ fun out ⟨ho, hx⟩ => ?_
    · refine Tot.loop (fun st => ∃ i : Nat, st.2 = ((4 * i : Nat) : Int) ∧ 4 * i ≤ L.length ∧ st.1.length ≤ 3 * i ∧ ∀ x, L = b64L x → st.1 = x.take (3 * i)) (fun st => L.length - st.2.toNat) ⟨0, rfl, by omega, by simp, fun x _ => rfl⟩ fun st ⟨i, e, hi, hlen, hx⟩ => ?_
      obtain ⟨out, k⟩ := st
      simp only at e hlen hx
      subst e
      dsimp only
      refine Tot.ite (fun h3 => ?_) (fun h3 => ?_)
      · have hq : 4 * i + 3 < L.length := by have : ((4 * i : Nat) : Int) < (L.length : Int) := of_decide_eq_true h3; omega
        refine Tot.bindq (P := fun r => (∃ m : Nat, r.2 = (m : Int) ∧ m ≤ 3) ∧ ∀ x, L = b64L x → ∃ hi : i < (chunks x).length, r = ((num3 (chunks x)[i] : Int), (((chunks x)[i]).length : Int))) ?_ fun r ⟨⟨m, em, hm⟩, hr⟩ => ?_
        · refine Tot.loop (fun st => ∃ k : Nat, st.2.2 = (k : Int) ∧ k ≤ 4 ∧ ((k = 0 ∧ st.2.1 = 3) ∨ (0 < k ∧ st.2.1 = ((k - 1 : Nat) : Int))) ∧ ∀ x, L = b64L x → ∃ hi : i < (chunks x).length, k ≤ ((chunks x)[i]).length + 1 ∧ st.1 = (part (chunks x)[i] k : Int)) (fun st => 4 - st.2.2.toNat) ⟨0, rfl, by omega, .inl ⟨rfl, rfl⟩, fun x e => ?_⟩ fun st ⟨k, e, hk, hm, hx⟩ => ?_
          · have hb := b64L_len x
            rw [← e] at hb
            have hi : i < (chunks x).length := by simp [chunks]; omega
            refine ⟨hi, by omega, ?_⟩
            unfold part
            have := num3_lt (chunks x)[i]
            rw [Nat.div_eq_of_lt (by omega)]; rfl
          obtain ⟨n, m, q⟩ := st
          simp only at e hm hx
          subst e
          dsimp only
          refine Tot.ite (fun h4 => ?_) (fun h4 => ?_)
          · have h4 : k < 4 := by have : ((k : Nat) : Int) < 4 := of_decide_eq_true h4; omega
            rw [show IntKind.i64.wrap (((4 * i : Nat) : Int) + (k : Int)) = ((4 * i + k : Nat) : Int) by rw [i64_small (by omega) (by omega)]; omega]
            refine Tot.bind0 (a := (L[4 * i + k].toNat : Int)) (by rw [sidx_nat (by rw [hL]; omega)]; simp only [hL]) ?_
            refine Tot.bindq (P := fun r => r = lv L[4 * i + k]) (by unfold bytes_IndexByte; exact Tot.ret rfl) fun r hr => ?_
            subst hr
            have hat : ∀ x, L = b64L x → ∀ hi : i < (chunks x).length, L[4 * i + k] = if k ≤ ((chunks x)[i]).length then lt (num3 (chunks x)[i] / 2 ^ (18 - 6 * k) % 64) else 61 := fun x e hci => by
              subst e
              rw [← quad_get _ h4, ← flatMap4_get _ i k hci h4]
              rfl
            refine Tot.ite (fun h5 => ?_) (fun h5 => ?_)
            · have h5 : lv L[4 * i + k] < 0 := of_decide_eq_true h5
              refine Tot.ret ⟨?_, fun x e => ?_⟩
              · rcases hm with ⟨_, e⟩ | ⟨_, e⟩
                · exact ⟨3, e, by omega⟩
                · exact ⟨k - 1, e, by omega⟩
              · obtain ⟨hi, hk1, en⟩ := hx x e
                have := hat x e hi
                obtain ⟨c0, c3⟩ := chunk_pos hi
                refine ⟨hi, ?_⟩
                by_cases h6 : k ≤ ((chunks x)[i]).length
                · rw [if_pos h6] at this
                  rw [this, lv_lt (Nat.mod_lt _ (by omega))] at h5
                  omega
                · have hk2 : k = ((chunks x)[i]).length + 1 := by omega
                  rcases hm with ⟨h0, e'⟩ | ⟨_, e'⟩
                  · omega
                  · rw [en, e', hk2, part_all _ c0 c3]; rfl
            · have h5 : ¬ lv L[4 * i + k] < 0 := of_decide_eq_false h5
              have hk18 : IntKind.i64.wrap (18 - IntKind.i64.wrap (6 * (k : Int))) = ((18 - 6 * k : Nat) : Int) := by
                rw [i64_small (x := 6 * (k : Int)) (by omega) (by omega), i64_small (by omega) (by omega)]
                omega
              rw [hk18]
              refine Tot.bind0 (a := ()) (by unfold nn; rw [if_pos (by omega)]) (Tot.some_bind (Tot.ret ⟨⟨k + 1, ?_, h4, .inr ⟨by omega, by simp⟩, fun x e => ?_⟩, ?_⟩))
              · show IntKind.i64.wrap ((k : Int) + 1) = ((k + 1 : Nat) : Int)
                rw [i64_small (by omega) (by omega)]; omega
              · obtain ⟨hi, hk1, en⟩ := hx x e
                have h7 := hat x e hi
                obtain ⟨c0, c3⟩ := chunk_pos hi
                have h6 : k ≤ ((chunks x)[i]).length := Nat.le_of_not_lt fun h => h5 (by rw [h7, if_neg (by omega), lv_eq]; omega)
                refine ⟨hi, by omega, ?_⟩
                show bwOr .i64 n _ = _
                have hn := num3_lt (chunks x)[i]
                have hv : num3 (chunks x)[i] / 2 ^ (18 - 6 * k) % 64 < 64 := Nat.mod_lt _ (by omega)
                have hp : 2 ^ (18 - 6 * k) ≤ 2 ^ 18 := Nat.pow_le_pow_right (by omega) (by omega)
                have hle : num3 (chunks x)[i] / 2 ^ (18 - 6 * k) % 64 * 2 ^ (18 - 6 * k) < 2 ^ (24 - 6 * k) := by
                  rw [show 24 - 6 * k = 6 + (18 - 6 * k) by omega, Nat.pow_add]
                  exact Nat.mul_lt_mul_of_pos_right (by omega) (Nat.two_pow_pos _)
                have hp2 : 2 ^ (24 - 6 * k) ≤ 2 ^ 24 := Nat.pow_le_pow_right (by omega) (by omega)
                have hpl : part (chunks x)[i] k ≤ num3 (chunks x)[i] := Nat.div_mul_le_self ..
                rw [h7, if_pos h6, lv_lt hv, en, shl_mul _ _ (by omega) (by omega), part_step _ h4]
                unfold part at hpl ⊢
                rw [Nat.mul_comm] at hpl ⊢
                rw [or_add _ _ (24 - 6 * k) hle (by omega)]
              · show 4 - (IntKind.i64.wrap ((k : Int) + 1)).toNat < 4 - ((k : Nat) : Int).toNat
                rw [i64_small (by omega) (by omega)]; omega
          · have h4 : k = 4 := by have : ¬ ((k : Nat) : Int) < 4 := of_decide_eq_false h4; omega
            subst h4
            refine Tot.ret ⟨?_, fun x e => ?_⟩
            · rcases hm with ⟨h, _⟩ | ⟨_, e⟩
              · omega
              · exact ⟨3, e, by omega⟩
            · obtain ⟨hi, hk1, en⟩ := hx x e
              obtain ⟨c0, c3⟩ := chunk_pos hi
              have h3 : ((chunks x)[i]).length = 3 := by omega
              refine ⟨hi, ?_⟩
              rcases hm with ⟨h, _⟩ | ⟨_, e'⟩
              · omega
              · have := part_all _ c0 c3
                rw [h3] at this
                rw [en, e', this, h3]
        · obtain ⟨n, q⟩ := r
          simp only at em
          subst em
          dsimp only
          have hu : ∀ z : Int, u8 (IntKind.u8.wrap z) = some (UInt8.ofNat (IntKind.u8.wrap z).toNat) := fun z => by
            unfold u8
            rw [if_pos (by rw [u8_wrap]; omega)]
          refine Tot.bind0 (hu _) (Tot.bind0 (hu _) (Tot.bind0 (hu _) (Tot.bind0 (sub_ok (by omega) (by omega) (by simp only [List.length_cons, List.length_nil]; omega)) (Tot.bind0 (app_ok ?_) (Tot.ret ?_)))))
          · simp only [List.length_drop, List.length_take, List.length_cons, List.length_nil]
            omega
          · refine ⟨⟨i + 1, ?_, by omega, ?_, fun x e => ?_⟩, ?_⟩
            · show IntKind.i64.wrap (((4 * i : Nat) : Int) + 4) = ((4 * (i + 1) : Nat) : Int)
              rw [i64_small (by omega) (by omega)]; omega
            · simp only [List.length_append, List.length_drop, List.length_take, List.length_cons, List.length_nil]
              omega
            · obtain ⟨hi, en⟩ := hr x e
              obtain ⟨c0, c3⟩ := chunk_pos hi
              have hnum := num3_lt (chunks x)[i]
              obtain ⟨e1, e2⟩ := Prod.mk.inj en
              have hf : ∀ k : Nat, UInt8.ofNat (IntKind.u8.wrap ((n).fdiv (2 ^ k))).toNat = UInt8.ofNat (num3 (chunks x)[i] / 2 ^ k) := fun k => by
                rw [e1, Int.fdiv_eq_ediv_of_nonneg _ (Int.le_of_lt (Int.pow_pos (by decide))), u8_wrap]
                apply UInt8.toNat.inj
                rw [UInt8.toNat_ofNat', UInt8.toNat_ofNat']
                have : ((num3 (chunks x)[i] : Nat) : Int) / 2 ^ k = ((num3 (chunks x)[i] / 2 ^ k : Nat) : Int) := by simp
                rw [this]
                omega
              have hf0 : UInt8.ofNat (IntKind.u8.wrap n).toNat = UInt8.ofNat (num3 (chunks x)[i]) := by
                have := hf 0
                simpa using this
              show out ++ _ = _
              rw [hf 16, hf 8, hf0, hx x e]
              have hm' : ((m : Int)).toNat = ((chunks x)[i]).length := by omega
              rw [hm', Int.toNat_zero, List.drop_zero]
              rw [show (2 ^ 16 : Nat) = 65536 from rfl, show (2 ^ 8 : Nat) = 256 from rfl, bytes3 _ c0 c3]
              have hc : (chunks x)[i] = chunk x i := by simp [chunks]
              rw [hc]
              unfold chunk
              rw [show 3 * (i + 1) = 3 * i + 3 by omega, List.take_add]
            · show L.length - (IntKind.i64.wrap (((4 * i : Nat) : Int) + 4)).toNat < L.length - ((4 * i : Nat) : Int).toNat
              rw [i64_small (by omega) (by omega)]; omega
      · have h3 : 4 * i = L.length := by have : ¬ ((4 * i : Nat) : Int) < (L.length : Int) := of_decide_eq_false h3; omega
        refine Tot.ret ⟨by omega, fun x e => ?_⟩
        have hb := b64L_len x
        rw [← e] at hb
        rw [hx x e, List.take_of_length_le (by omega)]
    · refine Tot.bindq (Base64_tot (b := out) (by omega)) fun r hr => ?_
      rw [if_neg (by omega)] at hr
      subst hr
      dsimp only
      refine Tot.ite (fun h4 => ?_) (fun h4 => ?_)
      · refine Tot.bindq (bytestr_at_tot 1 (-1)) fun r hr => Tot.ret ?_
        subst hr
        rw [str_eq] at h4
        refine .inl ⟨rfl, fun x e => ?_⟩
        have := hx x e
        subst this
        rw [← hstr, e] at h4
        simp at h4
      · rw [str_eq] at h4
        have h4 : strOf (b64L out) = s := by simpa using h4
        refine Tot.ret (.inr ⟨rfl, ?_, hx⟩)
        show L = b64L out
        rw [← hL, ← h4, bytes_str]
end Go.Gv.R
