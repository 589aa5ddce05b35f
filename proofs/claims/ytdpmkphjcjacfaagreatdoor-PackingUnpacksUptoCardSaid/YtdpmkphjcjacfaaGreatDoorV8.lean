import Derived.Test.YtdpmkphjcjacfaaGreatDoorV6
import Derived.Test.YtdpmkphjcjacfaaGreatDoorGo
set_option linter.all false
namespace Go.Gv.P
open Go Go.Gv Go.Gv.D Go.Gv.R
set_option maxRecDepth 100000
theorem shl1 {n : Nat} (hn : n = 1 ∨ n = 2 ∨ n = 4 ∨ n = 8) : shlI .u64 1 (((8 * n - 1 : Nat)) : Int) = ((2 ^ (8 * n - 1) : Nat) : Int) := by
  rcases hn with e | e | e | e <;> subst e <;> kernel_rfl
def inRange (s : Bool) (n : Nat) (v : Int) : Prop := if s = true then -2 ^ (8 * n - 1) ≤ v ∧ v < 2 ^ (8 * n - 1) else 0 ≤ v ∧ v < 2 ^ (8 * n)
theorem word_gen {v : Int} {n : Nat} {s : Bool} (hv : v.natAbs < 18446744073709551616) (hn : n = 1 ∨ n = 2 ∨ n = 4 ∨ n = 8) : Tot (fun fuel => packing_word fuel (decide (v < 0), lim v.natAbs) (n : Int) s) (fun r => (r.2 = true ↔ inRange s n v) ∧ (r.2 = true → r.1 = v % 18446744073709551616)) := by
  unfold packing_word
  have hlim : ∀ m, (lim m).length ≤ 2 := lim_len
  obtain ⟨m, hm0⟩ : ∃ m, v.natAbs = m := ⟨_, rfl⟩
  rw [hm0] at hv ⊢
  have hm : m < 18446744073709551616 := hv
  have hl := lim_len m
  refine Tot.if_ (decide_eq_false (by show ¬ (((lim m).length : Nat) : Int) > 2; omega)) ?_
  refine Tot.bindq (P := (· = (m : Int))) ?_ fun x hx => ?_
  · have hpart : ∀ i, i ≤ 2 → ∀ j : Nat, i = j → True := fun _ _ _ _ => trivial
    refine Tot.loop (fun st => ∃ i : Nat, st.2 = (i : Int) ∧ i ≤ (lim m).length ∧ ((i = 0 ∧ st.1 = 0) ∨ (i = 1 ∧ st.1 = ((m % 4294967296 : Nat) : Int)) ∨ (i = 2 ∧ st.1 = (m : Int)))) (fun st => 2 - st.2.toNat) ⟨0, rfl, Nat.zero_le _, .inl ⟨rfl, rfl⟩⟩ fun st ⟨i, e, hi, hI⟩ => ?_
    obtain ⟨a, j⟩ := st
    simp only at e hI
    subst e
    refine Tot.ite (fun h => ?_) (fun h => Tot.ret ?_)
    · have h : ((i : Nat) : Int) < (((lim m).length : Nat) : Int) := of_decide_eq_true h
      have hil : i < (lim m).length := by omega
      refine Tot.bind0 (idx_nat hil) ?_
      rw [i64_small (x := 32 * (i : Int)) (by omega) (by omega)]
      refine Tot.bind0 (a := ()) (by unfold nn; rw [if_pos (by omega)]) (Tot.some_bind (Tot.ret ?_))
      rw [i64_small (by omega) (by omega)]
      refine ⟨⟨i + 1, by simp, hil, ?_⟩, by show 2 - ((i : Int) + 1).toNat < 2 - ((i : Int)).toNat; omega⟩
      have hx : ∃ x : Nat, (lim m)[i] = (x : Int) ∧ x < 4294967296 ∧ ((i = 0 ∧ x = m % 4294967296) ∨ (i = 1 ∧ x = m / 4294967296)) := by
        have hcase : i = 0 ∨ i = 1 := by omega
        have hq : ∀ (l : List Int) (hl : lim m = l) (h : i < l.length), (lim m)[i]'hil = l[i]'h := fun l hl h => by subst hl; rfl
        have h0 : m ≠ 0 := fun e => by rw [e] at hil; exact absurd hil (by show ¬ i < 0; omega)
        by_cases h1 : m < 4294967296
        · have el : lim m = [(m : Int)] := by unfold lim; rw [if_neg h0, if_pos h1]
          have hi0 : i = 0 := by rw [el] at hil; simp at hil; exact hil
          subst hi0
          exact ⟨m, hq _ el (by simp), h1, .inl ⟨rfl, (Nat.mod_eq_of_lt h1).symm⟩⟩
        · have el : lim m = [((m % 4294967296 : Nat) : Int), ((m / 4294967296 : Nat) : Int)] := by unfold lim; rw [if_neg h0, if_neg h1]
          rcases hcase with hi0 | hi0
          · subst hi0
            exact ⟨m % 4294967296, hq _ el (by simp), by omega, .inl ⟨rfl, rfl⟩⟩
          · subst hi0
            exact ⟨m / 4294967296, hq _ el (by simp), by omega, .inr ⟨rfl, rfl⟩⟩
      obtain ⟨x, ex, hxl, hx⟩ := hx
      rw [ex, u64_wrap, show ((x : Nat) : Int) % 18446744073709551616 = (x : Int) by omega, show (32 * (i : Int)) = ((32 * i : Nat) : Int) by omega, shl64 _ _ (by omega)]
      rcases hx with ⟨h0, h1⟩ | ⟨h0, h1⟩
      · subst h0
        rcases hI with ⟨_, ha⟩ | ⟨h, _⟩ | ⟨h, _⟩
        · subst ha
          refine .inr (.inl ⟨rfl, ?_⟩)
          show bwOr .u64 0 (((x : Nat) : Int) * 2 ^ (32 * 0) % 18446744073709551616) = _
          rw [show ((x : Nat) : Int) * 2 ^ (32 * 0) % 18446744073709551616 = (x : Int) by simp; omega, or64_zero (by omega), h1]
        · omega
        · omega
      · subst h0
        rcases hI with ⟨h, _⟩ | ⟨_, ha⟩ | ⟨h, _⟩
        · omega
        · subst ha
          refine .inr (.inr ⟨rfl, ?_⟩)
          show bwOr .u64 ((m % 4294967296 : Nat) : Int) (((x : Nat) : Int) * 2 ^ (32 * 1) % 18446744073709551616) = _
          rw [show ((x : Nat) : Int) * 2 ^ (32 * 1) % 18446744073709551616 = (x : Int) * 4294967296 by omega, or64_shift (by omega) (by omega)]
          omega
        · omega
    · have h : ¬ ((i : Nat) : Int) < (((lim m).length : Nat) : Int) := of_decide_eq_false h
      have hil : i = (lim m).length := by omega
      show a = _
      rcases hI with ⟨h0, ha⟩ | ⟨h0, ha⟩ | ⟨h0, ha⟩
      · have : m = 0 := by
          unfold lim at hil
          by_cases h1 : m = 0
          · exact h1
          · rw [if_neg h1] at hil; split at hil <;> simp at hil <;> omega
        rw [ha, this]; rfl
      · have : m < 4294967296 := by
          unfold lim at hil
          by_cases h1 : m = 0
          · omega
          · rw [if_neg h1] at hil; split at hil
            · assumption
            · simp at hil; omega
        rw [ha, Nat.mod_eq_of_lt this]
      · exact ha
  subst hx
  have e8 : IntKind.i64.wrap (IntKind.i64.wrap (8 * (n : Int)) - 1) = ((8 * n - 1 : Nat) : Int) := by
    rw [i64_small (x := 8 * (n : Int)) (by omega) (by omega), i64_small (by omega) (by omega)]; omega
  rw [e8, shl1 hn]
  refine Tot.bind0 (a := ()) (by unfold nn; rw [if_pos (by omega)]) (Tot.some_bind ?_)
  have hr0 : inRange false n v ↔ (0 ≤ v ∧ v < 2 ^ (8 * n)) := by unfold inRange; rw [if_neg (by decide)]
  have hr1 : inRange true n v ↔ (-2 ^ (8 * n - 1) ≤ v ∧ v < 2 ^ (8 * n - 1)) := by unfold inRange; rw [if_pos rfl]
  have hf : ((m : Nat) : Int).fdiv (2 ^ 1) = ((m / 2 : Nat) : Int) := by rw [Int.fdiv_eq_ediv_of_nonneg _ (by decide)]; omega
  cases s with
  | false =>
    refine Tot.it rfl ?_
    rw [hr0]
    refine Tot.bindq (P := fun r => r = (((m : Nat) : Int), decide (0 ≤ v ∧ m / 2 < 2 ^ (8 * n - 1)))) (Tot.ite (fun g => Tot.ret ?_) (fun g => Tot.ret ?_)) fun j hj => Tot.ret ?_
    · have g : ¬ v < 0 := by simpa using g
      rw [hf]
      congr 1
      rw [decide_eq_decide]; omega
    · have g : v < 0 := by simpa using g
      rw [decide_eq_false (by omega)]
    · subst hj
      simp only [decide_eq_true_iff]
      rcases hn with e | e | e | e <;> subst e <;> simp only [Nat.reduceMul, Nat.reduceSub, Nat.reducePow, Int.reducePow] <;> omega
  | true =>
    refine Tot.if_ rfl ?_
    rw [hr1]
    refine Tot.ite (fun g => Tot.ret ?_) (fun g => Tot.ret ?_)
    · have g : v < 0 := of_decide_eq_true g
      rw [u64_wrap]
      simp only [decide_eq_true_iff]
      rcases hn with e | e | e | e <;> subst e <;> simp only [Nat.reduceMul, Nat.reduceSub, Nat.reducePow, Int.reducePow, Int.reduceNeg] <;> omega
    · have g : ¬ v < 0 := of_decide_eq_false g
      simp only [decide_eq_true_iff]
      rcases hn with e | e | e | e <;> subst e <;> simp only [Nat.reduceMul, Nat.reduceSub, Nat.reducePow, Int.reducePow, Int.reduceNeg] <;> omega
theorem wLE_cut : ∀ {L : List UInt8} {k : Nat} (h : k < L.length), wLE L = wLE (L.take k) + 256 ^ k * ((L[k]).toNat + 256 * wLE (L.drop (k + 1)))
  | b :: L, 0, _ => by simp [wLE]
  | b :: L, k + 1, h => by
    have h' : k < L.length := by simp at h; omega
    have := wLE_cut h'
    simp only [List.take_succ_cons, List.drop_succ_cons, List.getElem_cons_succ, wLE]
    rw [this, Nat.pow_succ]
    generalize (L[k]).toNat + 256 * wLE (L.drop (k + 1)) = X
    have e : 256 * (256 ^ k * X) = 256 ^ k * 256 * X := by rw [← Nat.mul_assoc, Nat.mul_comm 256]
    rw [Nat.mul_add, e, Nat.add_assoc]
theorem byte_of {L : List UInt8} {u n k : Nat} (hL : L.length = n) (hu : u % 2 ^ (8 * n) = wLE L) (hk : k < n) : u / 2 ^ (8 * k) % 256 = (L[k]'(by omega)).toNat := by
  have hkl : k < L.length := by omega
  have h1 := Nat.mod_add_div u (2 ^ (8 * n))
  rw [hu, wLE_cut hkl] at h1
  have h2 := wLE_lt (L.take k)
  rw [List.length_take, Nat.min_eq_left (by omega)] at h2
  have hb := byte_lt L[k]
  have e : 2 ^ (8 * n) = 256 ^ k * (256 * 256 ^ (n - k - 1)) := by
    rw [← pow256, ← Nat.pow_succ', ← Nat.pow_add]
    congr 1; omega
  rw [e, Nat.mul_assoc, Nat.mul_assoc, Nat.add_assoc, ← Nat.mul_add, Nat.add_assoc, ← Nat.mul_add] at h1
  rw [← pow256, ← h1, Nat.add_mul_div_left _ _ (Nat.pow_pos (by decide)), Nat.div_eq_of_lt h2]
  omega
theorem order_tot {out b : List UInt8} {u n : Nat} {big : Bool} (ho : out.length ≤ 4000000) (hb : b.length = n) (hn : n ≤ 8) (hu : u % 2 ^ (8 * n) = word big b) :
    Tot (fun fuel => packing_order fuel out (u : Int) (n : Int) big) (· = out ++ b) := by
  unfold packing_order
  unfold word at hu
  generalize hL : (if big = true then b.reverse else b) = L at hu
  have hLl : L.length = n := by rw [← hL]; split <;> simp [hb]
  refine Tot.bindq (P := (· = out ++ b)) ?_ fun r hr => Tot.ret hr
  refine Tot.loop (fun st => ∃ i : Nat, i ≤ n ∧ st = (out ++ b.take i, (i : Int))) (fun st => n - st.2.toNat) ⟨0, by omega, by simp⟩ fun st ⟨i, hi, e⟩ => ?_
  subst e
  refine Tot.ite (fun g => ?_) (fun g => Tot.ret ?_)
  · have g : (i : Int) < (n : Int) := of_decide_eq_true g
    have hib : i < b.length := by omega
    have e1 : IntKind.i64.wrap ((IntKind.i64.wrap ((n : Int) - 1)) - (i : Int)) = ((n - 1 - i : Nat) : Int) := by
      rw [i64_small (x := (n : Int) - 1) (by omega) (by omega), i64_small (by omega) (by omega)]; omega
    refine Tot.bindq (P := fun j => ∃ k : Nat, j = (k : Int) ∧ ∃ h : k < n, L[k]'(by omega) = b[i]) (Tot.ite (fun g2 => Tot.some_bind (Tot.ret ⟨n - 1 - i, e1, by omega, ?_⟩)) (fun g2 => Tot.ret ⟨i, rfl, by omega, ?_⟩)) fun j ⟨k, hj, hk, hjb⟩ => ?_
    · subst g2
      have : L = b.reverse := by rw [← hL]; rfl
      subst this
      rw [List.getElem_reverse]
      simp only [show b.length - 1 - (n - 1 - i) = i by omega]
    · subst g2
      have : L = b := by rw [← hL]; rfl
      subst this
      rfl
    subst hj
    have hx := byte_of hLl hu hk
    rw [hjb] at hx
    have e8 : IntKind.i64.wrap (8 * (k : Int)) = ((8 * k : Nat) : Int) := by rw [i64_small (by omega) (by omega)]; omega
    rw [e8]
    have es : shrI .u64 (u : Int) ((8 * k : Nat) : Int) = ((u / 2 ^ (8 * k) : Nat) : Int) := by
      unfold shrI
      rw [show min (((8 * k : Nat)) : Int).toNat IntKind.u64.bits = 8 * k by show min (((8 * k : Nat)) : Int).toNat 64 = 8 * k; omega, Int.fdiv_eq_ediv_of_nonneg _ (Int.pow_nonneg (by decide))]
      rw [show ((2 : Int) ^ (8 * k)) = ((2 ^ (8 * k) : Nat) : Int) from (Int.natCast_pow 2 _).symm]
      rfl
    rw [es]
    have ew : IntKind.u8.wrap ((u / 2 ^ (8 * k) : Nat) : Int) = ((b[i]).toNat : Int) := by rw [u8_wrap]; omega
    refine Tot.bind0 (a := ()) (by unfold nn; rw [if_pos (by omega)]) (Tot.bind0 (a := b[i]) ?_ (Tot.bind0 (app_ok (by simp; omega)) (Tot.ret ?_)))
    · rw [ew]
      have hb8 := byte_lt b[i]
      unfold u8
      rw [if_pos ⟨by omega, by omega⟩, Int.toNat_natCast]
      congr 1
      exact UInt8.ofNat_toNat
    · have e2 : IntKind.i64.wrap ((i : Int) + 1) = ((i + 1 : Nat) : Int) := by rw [i64_small (by omega) (by omega)]; omega
      rw [e2]
      refine ⟨⟨i + 1, by omega, ?_⟩, by show n - (((i + 1 : Nat) : Int)).toNat < n - ((i : Int)).toNat; omega⟩
      rw [List.take_succ_eq_append_getElem hib, List.append_assoc]
  · have g : ¬ (i : Int) < (n : Int) := of_decide_eq_false g
    show out ++ b.take i = _
    rw [List.take_of_length_le (by omega)]
end Go.Gv.P
namespace Go.Gv.P
open Go Go.Gv Go.Gv.D Go.Gv.R
set_option maxRecDepth 100000
theorem sgn_back {s : Bool} {n u : Nat} (hn : n = 1 ∨ n = 2 ∨ n = 4 ∨ n = 8) (hu : u < 2 ^ (8 * n)) : inRange s n (sgn s n u) ∧ (sgn s n u % 18446744073709551616).toNat % 2 ^ (8 * n) = u ∧ (sgn s n u).natAbs < 18446744073709551616 := by
  unfold inRange sgn
  cases s with
  | false =>
    rw [if_neg (by decide), if_neg (fun e => by cases e.1)]
    rcases hn with e | e | e | e <;> subst e <;> simp only [Nat.reduceMul, Nat.reduceSub, Nat.reducePow, Int.reducePow] at hu ⊢ <;> omega
  | true =>
    rw [if_pos rfl]
    rcases hn with e | e | e | e <;> subst e <;> simp only [Nat.reduceMul, Nat.reduceSub, Nat.reducePow, Int.reducePow, Int.reduceNeg, true_and] at hu ⊢ <;> split <;> omega
theorem zigzag_gen {out : List UInt8} {n : Int} (ho : out.length ≤ 4000000) (h0 : -9223372036854775808 ≤ n) (h1 : n ≤ 9223372036854775807) : Tot (fun fuel => packing_zigzag fuel out (n % 18446744073709551616)) (· = out ++ vint 9 (zig n)) := by
  unfold packing_zigzag
  rw [zig_xor h0 h1]
  have hz := zig_lt h0 h1
  generalize zig n = z at hz ⊢
  refine Tot.some_bind ?_
  refine Tot.bindq (P := fun x => ∃ u : Nat, u < 128 ∧ x.2 = (u : Int) ∧ out ++ vint 9 z = x.1 ++ [u.toUInt8] ∧ x.1.length ≤ 4000100) ?_ fun x ⟨u, hu, e2, e1, hl⟩ => ?_
  · refine Tot.loop (fun st => ∃ i u : Nat, i ≤ 9 ∧ u < 2 ^ (64 - 7 * i) ∧ st.2 = (u : Int) ∧ out ++ vint 9 z = st.1 ++ vint (9 - i) u ∧ st.1.length = out.length + i) (fun st => st.2.toNat) ⟨0, z, by omega, hz, rfl, rfl, rfl⟩ fun st ⟨i, u, hi, hu, e, eo, hl⟩ => ?_
    obtain ⟨cur, q⟩ := st
    simp only at e eo hl
    subst e
    refine Tot.ite (fun h => ?_) (fun h => Tot.ret ?_)
    · have h : ((u : Nat) : Int) ≥ 128 := of_decide_eq_true h
      have hi8 : i ≤ 8 := by
        rcases Nat.lt_or_ge i 9 with g | g
        · omega
        · have : i = 9 := by omega
          subst this
          have : u < 2 := by simpa using hu
          omega
      have hw : IntKind.u8.wrap ((u : Nat) : Int) = ((u % 256 : Nat) : Int) := by rw [u8_wrap]; omega
      have hb : u8 (bwOr .u8 (IntKind.u8.wrap ((u : Nat) : Int)) 128) = some (u % 128 + 128).toUInt8 := by
        rw [hw, or128 (by omega), show u % 256 % 128 = u % 128 by omega, u8_ok (by omega)]
      refine Tot.bind0 hb ?_
      have ha : app cur [(u % 128 + 128).toUInt8] = some (cur ++ [(u % 128 + 128).toUInt8]) := by unfold app; rw [if_pos (by simp; omega)]
      refine Tot.bind0 ha (Tot.ret ?_)
      have hd : ((u : Nat) : Int).fdiv (2 ^ 7) = ((u / 128 : Nat) : Int) := by rw [Int.fdiv_eq_ediv_of_nonneg _ (by decide)]; omega
      have hstep : vint (9 - i) u = (u % 128 + 128).toUInt8 :: vint (9 - (i + 1)) (u / 128) := by
        rw [show 9 - i = (9 - (i + 1)) + 1 by omega]
        show (if 128 ≤ u then _ else _) = _
        rw [if_pos (by omega)]
      refine ⟨⟨i + 1, u / 128, by omega, ?_, hd, ?_, by show (cur ++ [_]).length = _; simp; omega⟩, ?_⟩
      · refine Nat.div_lt_of_lt_mul ?_
        rw [show 64 - 7 * i = 7 + (64 - 7 * (i + 1)) by omega, Nat.pow_add] at hu
        exact hu
      · rw [eo, hstep]; simp
      · show (((u : Nat) : Int).fdiv (2 ^ 7)).toNat < ((u : Nat) : Int).toNat
        rw [hd]; omega
    · have h : ¬ ((u : Nat) : Int) ≥ 128 := of_decide_eq_false h
      refine ⟨u, by omega, rfl, ?_, by show cur.length ≤ _; omega⟩
      rw [eo]
      congr 1
      cases 9 - i with
      | zero => rfl
      | succ k =>
        show (if 128 ≤ u then _ else _) = _
        rw [if_neg (by omega)]
  · obtain ⟨cur, q⟩ := x
    simp only at e2 e1 hl
    subst e2
    have hb : u8 (IntKind.u8.wrap ((u : Nat) : Int)) = some u.toUInt8 := by
      rw [u8_small (by omega) (by omega), u8_ok (by omega)]
    refine Tot.bind0 hb ?_
    have ha : app cur [u.toUInt8] = some (cur ++ [u.toUInt8]) := by unfold app; rw [if_pos (by simp; omega)]
    exact Tot.bind0 ha (Tot.ret e1.symm)
theorem valid_val {v : Int} (h : v.natAbs < 18446744073709551616) : Tot (fun fuel => packing_valid fuel (valOf v)) (· = true) := by
  unfold packing_valid
  refine Tot.it rfl (Tot.bindq (Valid_lim (b := decide (v < 0)) (m := v.natAbs) (fun h => by have := of_decide_eq_true h; omega) (by omega)) fun r hr => Tot.ret hr)
theorem valid_txt (l : List UInt8) : Tot (fun fuel => packing_valid fuel (txt l)) (· = true) := by
  unfold packing_valid
  exact Tot.if_ rfl (Tot.if_ rfl (Tot.ret rfl))
theorem valid_bool {b : Int} (h : b = 0 ∨ b = 1) : Tot (fun fuel => packing_valid fuel (1, (false, []), (false, []), strOf [], b)) (· = true) := by
  unfold packing_valid
  refine Tot.if_ rfl (Tot.it rfl ?_)
  refine Tot.bindq (P := (· = true)) (Tot.ite (fun g => Tot.ret rfl) (fun g => Tot.ret ?_)) fun j hj => Tot.ret hj
  have g : ¬ b = 0 := beq_eq_false_iff_ne.1 g
  exact beq_iff_eq.2 (by show b = 1; omega)
theorem rdF_valid {x : Fld} {b : Bool} (hg : good b x) (ho : okF x) {d : List UInt8} (h : (rdF x d).1 = 0) : Tot (fun fuel => packing_valid fuel (rdF x d).2.1) (· = true) := by
  obtain ⟨h1, h2, h3, hk⟩ := kindsF hg ho
  rcases hk with ⟨k1, _⟩ | ⟨k1, (⟨e, _⟩ | ⟨e, _⟩ | ⟨e, _⟩ | ⟨e, _, _⟩)⟩
  · rw [rdF_wid k1] at h ⊢
    split at h
    · cases h
    · rename_i g
      rw [if_neg g]
      have hn : (wid x.1.toNat).toNat = 1 ∨ (wid x.1.toNat).toNat = 2 ∨ (wid x.1.toNat).toNat = 4 ∨ (wid x.1.toNat).toNat = 8 := by have := wid_cases x.1.toNat; omega
      refine valid_val (sgn_back hn ?_).2.2
      unfold word
      refine (wLE_lt8 (n := (wid x.1.toNat).toNat) ?_ (by omega)).1
      split
      · rw [List.length_reverse, List.length_take]; omega
      · rw [List.length_take]; omega
  · rw [rdF_118 k1 e] at h ⊢
    split at h
    · rename_i g
      rw [if_pos g]
      have := unzig_rng (vrd_vint _ 0 (by decide) g).2.1
      exact valid_val (by show (unzig _).natAbs < _; omega)
    · rename_i g; exact absurd h g
  · rw [rdF_112 k1 e] at h ⊢
    cases d with
    | nil => cases h
    | cons c t =>
      simp only at h ⊢
      split at h
      · cases h
      · rename_i g; rw [if_neg g]; exact valid_txt _
  · rw [rdF_63 k1 e] at h ⊢
    cases d with
    | nil => cases h
    | cons c t =>
      simp only at h ⊢
      split at h
      · cases h
      · rename_i g; rw [if_neg g]; exact valid_bool (by omega)
  · rw [rdF_sx k1 e] at h ⊢
    split at h
    · cases h
    · rename_i g
      rw [if_neg g]
      split at h
      · cases h
      · rename_i g2; rw [if_neg g2]; exact valid_txt _
theorem pack_gen {x : Fld} {b : Bool} (hg : good b x) (ho : okF x) {d out : List UInt8} (hd : d.length ≤ 1048576) (hout : out.length ≤ 2000000) (h120 : x.1.toNat ≠ 120) (h : (rdF x d).1 = 0) :
    Tot (fun fuel => packing_pack fuel out x (rdF x d).2.1) (· = (out ++ d.take (rdF x d).2.2, 0)) := by
  obtain ⟨h1, h2, h3, hk⟩ := kindsF hg ho
  unfold packing_pack
  have hw : Tot (fun n => packing_width n x.1) (· = (wid x.1.toNat, decide (97 ≤ x.1.toNat))) := by
    have := width_tot h2
    rwa [← h1] at this
  rcases hk with ⟨k1, k2, k3, k4, k5, k6, k7⟩ | ⟨k1, (⟨e, ek⟩ | ⟨e, ek⟩ | ⟨e, ek⟩ | ⟨e, ek0, ek1⟩)⟩
  · rw [rdF_wid k1] at h ⊢
    split at h
    · cases h
    rename_i g
    rw [if_neg g]
    have hn : (wid x.1.toNat).toNat = 1 ∨ (wid x.1.toNat).toNat = 2 ∨ (wid x.1.toNat).toNat = 4 ∨ (wid x.1.toNat).toNat = 8 := by have := wid_cases x.1.toNat; omega
    have hwn : wid x.1.toNat = (((wid x.1.toNat).toNat : Nat) : Int) := by omega
    generalize hnn : (wid x.1.toNat).toNat = n at *
    rw [hwn] at hw
    have hbl : (d.take n).length = n := by rw [List.length_take]; omega
    have hu : word x.2.2 (d.take n) < 2 ^ (8 * n) := by
      unfold word
      refine (wLE_lt8 (n := n) ?_ (by omega)).1
      split
      · rw [List.length_reverse]; omega
      · omega
    refine Tot.bindq (P := (· = false)) (Tot.if_ (beq_f (by omega)) (Tot.ret (beq_f (by omega)))) fun j hj => ?_
    subst hj
    refine Tot.bindq (P := (· = 2)) (Tot.if_ rfl (Tot.if_ (beq_f (by omega)) (Tot.ret rfl))) fun j hj => ?_
    subst hj
    refine Tot.if_ rfl (Tot.if_ (beq_f (by omega)) (Tot.if_ (beq_f (by omega)) (Tot.if_ (beq_f (by omega)) (Tot.bindq hw fun r hr => ?_))))
    subst hr
    refine Tot.bindq (P := (· = (n : Int))) (Tot.if_ (beq_f (by omega)) (Tot.ret rfl)) fun j hj => ?_
    subst hj
    obtain ⟨b1, b2, b3⟩ := sgn_back (s := decide (97 ≤ x.1.toNat)) hn hu
    refine Tot.bindq (word_gen (s := decide (97 ≤ x.1.toNat)) b3 hn) fun r ⟨r1, r2⟩ => ?_
    have r1 := r1.2 b1
    have r2 := r2 r1
    refine Tot.if_ (by rw [r1]; rfl) (Tot.if_ (beq_f (by omega)) ?_)
    have hord := order_tot (out := out) (b := d.take n) (u := (sgn (decide (97 ≤ x.1.toNat)) n (word x.2.2 (d.take n)) % 18446744073709551616).toNat) (n := n) (big := x.2.2) (by omega) hbl (by omega) b2
    rw [Int.toNat_of_nonneg (Int.emod_nonneg _ (by decide)), ← r2] at hord
    exact Tot.bindq hord fun r hr => Tot.ret (by rw [hr])
  · rw [rdF_118 k1 e] at h ⊢
    split at h
    · rename_i g
      rw [if_pos g]
      obtain ⟨v1, v2, _⟩ := vrd_vint _ 0 (by decide) g
      have hz := unzig_rng v2
      have hw0 : wid x.1.toNat = 0 := by have := wid_cases x.1.toNat; omega
      refine Tot.bindq (P := (· = false)) (Tot.if_ (beq_f (by omega)) (Tot.ret (beq_f (by omega)))) fun j hj => ?_
      subst hj
      refine Tot.bindq (P := (· = 2)) (Tot.if_ rfl (Tot.if_ (beq_f (by omega)) (Tot.ret rfl))) fun j hj => ?_
      subst hj
      refine Tot.if_ rfl (Tot.if_ (beq_f (by omega)) (Tot.if_ (beq_f (by omega)) (Tot.if_ (beq_f (by omega)) (Tot.bindq hw fun r hr => ?_))))
      subst hr
      refine Tot.bindq (P := (· = 8)) (Tot.it (beq_t (by omega)) (Tot.ret rfl)) fun j hj => ?_
      subst hj
      have hs : decide (97 ≤ x.1.toNat) = true := decide_eq_true (by omega)
      rw [hs]
      refine Tot.bindq (word_gen (v := unzig (vrd 0 d).2.1) (n := 8) (s := true) (by omega) (by omega)) fun r ⟨r1, r2⟩ => ?_
      have r1 := r1.2 (by unfold inRange; rw [if_pos rfl]; simp only [Nat.reduceMul, Nat.reduceSub, Int.reducePow, Int.reduceNeg]; omega)
      have r2 := r2 r1
      refine Tot.if_ (by rw [r1]; rfl) (Tot.it (beq_t (by omega)) ?_)
      rw [r2]
      refine Tot.bindq (zigzag_gen (out := out) (by omega) hz.1 hz.2) fun r hr => Tot.ret ?_
      rw [hr, zig_unzig]
      have : vint 9 (vrd 0 d).2.1 = d.take (vrd 0 d).2.2 := v1
      rw [this]
    · rename_i g; exact absurd h g
  · rw [rdF_112 k1 e] at h
    cases d with
    | nil => cases h
    | cons c t =>
      simp only at h
      split at h
      · cases h
      rename_i g
      have hR : rdF x (c :: t) = (0, txt (t.take c.toNat), c.toNat + 1) := by rw [rdF_112 k1 e]; simp only; rw [if_neg g]
      rw [hR]
      have hc := byte_lt c
      have htl : (t.take c.toNat).length = c.toNat := by rw [List.length_take]; omega
      refine Tot.bindq (P := (· = true)) (Tot.if_ (beq_f (by omega)) (Tot.ret (beq_t (by omega)))) fun j hj => ?_
      subst hj
      refine Tot.bindq (P := (· = 5)) (Tot.it rfl (Tot.ret rfl)) fun j hj => ?_
      subst hj
      refine Tot.if_ rfl (Tot.if_ (beq_f (by omega)) (Tot.it (beq_t (by omega)) ?_))
      have hsz : (strOf (t.take c.toNat)).size = c.toNat := by rw [size_str, htl]
      refine Tot.if_ (decide_eq_false (by show ¬ (((strOf (t.take c.toNat)).size : Nat) : Int) > 255; omega)) ?_
      have hu8 : u8 (IntKind.u8.wrap (((strOf (t.take c.toNat)).size : Nat) : Int)) = some c := by
        rw [hsz, u8_small (by omega) (by omega)]
        unfold u8
        rw [if_pos ⟨by omega, by omega⟩, Int.toNat_natCast]
        congr 1
        exact UInt8.ofNat_toNat
      refine Tot.bind0 hu8 (Tot.bind0 (app_ok (by simp; omega)) (Tot.bind0 (app_ok (by rw [bytes_str, List.length_append, htl]; simp; omega)) (Tot.ret ?_)))
      rw [bytes_str, List.append_assoc]
      rfl
  · rw [rdF_63 k1 e] at h
    cases d with
    | nil => cases h
    | cons c t =>
      simp only at h
      split at h
      · cases h
      rename_i g
      have hR : rdF x (c :: t) = (0, (1, (false, []), (false, []), strOf [], (c.toNat : Int)), 1) := by rw [rdF_63 k1 e]; simp only; rw [if_neg g]
      rw [hR]
      have hc := byte_lt c
      refine Tot.bindq (P := (· = false)) (Tot.if_ (beq_f (by omega)) (Tot.ret (beq_f (by omega)))) fun j hj => ?_
      subst hj
      refine Tot.bindq (P := (· = 1)) (Tot.if_ rfl (Tot.it (beq_t (by omega)) (Tot.ret rfl))) fun j hj => ?_
      subst hj
      refine Tot.if_ rfl (Tot.if_ (beq_f (by omega)) (Tot.if_ (beq_f (by omega)) (Tot.it (beq_t (by omega)) ?_)))
      have hu8 : u8 (IntKind.u8.wrap ((c.toNat : Nat) : Int)) = some c := by
        rw [u8_small (by omega) (by omega)]
        unfold u8
        rw [if_pos ⟨by omega, by omega⟩, Int.toNat_natCast]
        congr 1
        exact UInt8.ofNat_toNat
      exact Tot.bind0 hu8 (Tot.bind0 (app_ok (by simp; omega)) (Tot.ret rfl))
  · rw [rdF_sx k1 e] at h ⊢
    split at h
    · cases h
    rename_i g
    rw [if_neg g]
    split at h
    · cases h
    rename_i g2
    rw [if_neg g2]
    have htl : (d.take x.2.1.toNat).length = x.2.1.toNat := by rw [List.length_take]; omega
    refine Tot.bindq (P := (· = true)) (Tot.it (beq_t (by omega)) (Tot.ret (beq_t (by omega)))) fun j hj => ?_
    subst hj
    refine Tot.bindq (P := (· = 5)) (Tot.it rfl (Tot.ret rfl)) fun j hj => ?_
    subst hj
    have hsz : (strOf (d.take x.2.1.toNat)).size = x.2.1.toNat := by rw [size_str, htl]
    refine Tot.if_ rfl (Tot.it (beq_t (by omega)) (Tot.if_ ?_ ?_))
    · have : (((strOf (d.take x.2.1.toNat)).size : Nat) : Int) = x.2.1 := by omega
      show ((((strOf (d.take x.2.1.toNat)).size : Nat) : Int) != x.2.1) = false
      rw [this]
      simp
    · refine Tot.bind0 (app_ok (by rw [bytes_str, htl]; omega)) (Tot.ret ?_)
      rw [bytes_str]
end Go.Gv.P
namespace Go.Gv.P
open Go Go.Gv Go.Gv.D Go.Gv.R
set_option maxRecDepth 100000
theorem SameBytes_tot (a b : List UInt8) : Tot (fun n => ref4_SameBytes n a b) (· = decide (a = b)) := by
  unfold ref4_SameBytes
  refine Tot.some_bind (Tot.ret ?_)
  rw [str_eq, decide_eq_decide]
  exact ⟨fun h => by have := congrArg bytesOf h; rwa [bytes_str, bytes_str] at this, fun h => by rw [h]⟩
theorem u8_okF {x : Fld} (h : inK .u8 x.1) : okF x := by
  have : 0 ≤ x.1 ∧ x.1 ≤ 255 := by simpa [inK, Lit.wf, IntKind.min, IntKind.max, IntKind.signed, IntKind.bits] using h
  exact ⟨this.1, by omega⟩
theorem sumL_len {α : Type} (m : α → Nat) (hm : ∀ x, 1 ≤ m x) : ∀ (l : List α), l.length + 1 ≤ sumL m l
  | [] => Nat.le_refl _
  | x :: t => by
    have := sumL_len m hm t
    unfold sumL at this ⊢
    simp only [List.map_cons, List.sum_cons, List.length_cons]
    have := hm x
    omega
def nv : List Fld → Nat
  | [] => 0
  | x :: t => (if x.1 ≠ 120 then 1 else 0) + nv t
theorem nv_le : ∀ l : List Fld, nv l ≤ l.length
  | [] => Nat.le_refl _
  | x :: t => by
    have := nv_le t
    unfold nv
    simp only [List.length_cons]
    split <;> omega
theorem values_tot {l : List Fld} (hl : l.length ≤ 1048576) : Tot (fun fuel => packing_values fuel l) (· = ((nv l : Nat) : Int)) := by
  unfold packing_values
  refine Tot.bindq (P := (· = ((nv l : Nat) : Int))) ?_ fun r hr => Tot.ret hr
  refine Tot.loop (fun st => ∃ i n : Nat, st = ((n : Int), (i : Int)) ∧ i ≤ l.length ∧ n ≤ i ∧ n + nv (l.drop i) = nv l) (fun st => l.length - st.2.toNat) ⟨0, 0, rfl, by omega, by omega, by simp⟩ fun st ⟨i, n, e, hi, hn, hv⟩ => ?_
  subst e
  refine Tot.ite (fun g => ?_) (fun g => Tot.ret ?_)
  · have g : (i : Int) < (l.length : Int) := of_decide_eq_true g
    have hil : i < l.length := by omega
    rw [drop_cons hil] at hv
    refine Tot.bind0 (idx_nat hil) ?_
    generalize l[i] = x at *
    have hv : n + ((if x.1 ≠ 120 then 1 else 0) + nv (l.drop (i + 1))) = nv l := hv
    refine Tot.bindq (P := (· = ((n + (if x.1 ≠ 120 then 1 else 0) : Nat) : Int))) (Tot.ite (fun g2 => Tot.ret ?_) (fun g2 => Tot.ret ?_)) fun j hj => Tot.ret ?_
    · have g2 : x.1 ≠ 120 := by simpa using g2
      rw [if_pos g2, i64_small (by omega) (by omega)]; rfl
    · have g2 : x.1 = 120 := by simpa using g2
      rw [if_neg (by omega)]; rfl
    · subst hj
      have e1 : IntKind.i64.wrap ((i : Int) + 1) = ((i + 1 : Nat) : Int) := by rw [i64_small (by omega) (by omega)]; omega
      rw [e1]
      refine ⟨⟨i + 1, n + (if x.1 ≠ 120 then 1 else 0), rfl, by omega, by split <;> omega, by omega⟩, by show l.length - (((i + 1 : Nat) : Int)).toNat < l.length - ((i : Int)).toNat; omega⟩
  · have g : ¬ (i : Int) < (l.length : Int) := of_decide_eq_false g
    rw [List.drop_of_length_le (by omega)] at hv
    show (n : Int) = _
    have : n + 0 = nv l := hv
    omega
theorem unp_vals : ∀ (l : List Fld) (i : Nat) (d : List UInt8) (out : List Val), (unp l i d out).2.1 = 0 → (unp l i d out).2 = (0, 0) ∧ ∃ t, (unp l i d out).1 = out ++ t ∧ t.length = nv l
  | [], i, d, out, h => by
    rw [unp_nil] at h ⊢
    split at h
    · cases h
    · rename_i g
      rw [if_neg g]
      exact ⟨rfl, [], by simp, rfl⟩
  | x :: l, i, d, out, h => by
    rw [unp_cons] at h ⊢
    by_cases g : (rdF x d).1 ≠ 0
    · rw [if_pos g] at h
      exact absurd h g
    · rw [if_neg g] at h ⊢
      obtain ⟨h1, t, h2, h3⟩ := unp_vals l (i + 1) _ _ h
      refine ⟨h1, ?_⟩
      by_cases g2 : x.1 ≠ 120
      · rw [if_pos g2] at h2 ⊢
        refine ⟨(rdF x d).2.1 :: t, by rw [h2]; simp, ?_⟩
        show t.length + 1 = (if x.1 ≠ 120 then 1 else 0) + nv l
        rw [if_pos g2]; omega
      · rw [if_neg g2] at h2 ⊢
        refine ⟨t, h2, ?_⟩
        show t.length = (if x.1 ≠ 120 then 1 else 0) + nv l
        rw [if_neg g2]; omega
theorem unp_err : ∀ (l : List Fld) (i : Nat) (d : List UInt8) (out : List Val), (unp l i d out).2.1 ≠ 0 → (unp l i d out).1 = []
  | [], i, d, out, h => by
    rw [unp_nil] at h ⊢
    split at h
    · rename_i g; rw [if_pos g]
    · exact absurd rfl h
  | x :: l, i, d, out, h => by
    rw [unp_cons] at h ⊢
    by_cases g : (rdF x d).1 ≠ 0
    · rw [if_pos g]
    · rw [if_neg g] at h ⊢
      exact unp_err l (i + 1) _ _ h
def smallV (v : Val) : Prop := v.2.1.2.length ≤ 1000 ∧ v.2.2.1.2.length ≤ 1000
theorem small_val (n : Int) : smallV (valOf n) := ⟨Nat.le_trans (lim_len _) (by decide), Nat.zero_le _⟩
theorem rdF_small (x : Fld) (d : List UInt8) : smallV (rdF x d).2.1 := by
  unfold rdF
  split
  · split
    · exact ⟨Nat.zero_le _, Nat.zero_le _⟩
    · exact small_val _
  split
  · split
    · exact small_val _
    · exact ⟨Nat.zero_le _, Nat.zero_le _⟩
  split
  · split
    · exact ⟨Nat.zero_le _, Nat.zero_le _⟩
    · split <;> exact ⟨Nat.zero_le _, Nat.zero_le _⟩
  split
  · split
    · exact ⟨Nat.zero_le _, Nat.zero_le _⟩
    · split
      · exact ⟨Nat.zero_le _, Nat.zero_le _⟩
      · exact ⟨Nat.zero_le _, Nat.zero_le _⟩
  split
  · exact ⟨Nat.zero_le _, Nat.zero_le _⟩
  split
  · exact ⟨Nat.zero_le _, Nat.zero_le _⟩
  · exact ⟨Nat.zero_le _, Nat.zero_le _⟩
theorem unp_small : ∀ (l : List Fld) (i : Nat) (d : List UInt8) (out : List Val), (∀ v ∈ out, smallV v) → ∀ v ∈ (unp l i d out).1, smallV v
  | [], i, d, out, h => by
    rw [unp_nil]
    split
    · intro v hv; cases hv
    · exact h
  | x :: l, i, d, out, h => by
    rw [unp_cons]
    split
    · intro v hv; cases hv
    · refine unp_small l (i + 1) _ _ ?_
      split
      · intro v hv
        rcases List.mem_append.1 hv with e | e
        · exact h v e
        · simp only [List.mem_cons, List.not_mem_nil, or_false] at e
          subst e
          exact rdF_small x d
      · exact h
theorem SameInts_same {a : Bool × List Int} (h : a.2.length ≤ 1000) : Tot (fun fuel => ref3_SameInts fuel a a) (· = true) := by
  unfold ref3_SameInts
  refine Tot.bindq (P := (· = true)) (Tot.it (by simp) (Tot.bindq (RI.SameLimbs_tot a.2 h) fun r hr => Tot.ret hr)) fun j hj => Tot.ret hj
theorem SameValue_same {v : Val} (h : smallV v) : Tot (fun fuel => ref3_SameValue fuel v v) (· = true) := by
  unfold ref3_SameValue
  refine Tot.bindq (P := (· = true)) (Tot.it (by simp) (Tot.bindq (SameInts_same (a := (v.2.1.1, v.2.1.2)) h.1) fun r hr => ?_)) fun j hj => Tot.ret hj
  subst hr
  refine Tot.it rfl (Tot.bindq (SameInts_same (a := (v.2.2.1.1, v.2.2.1.2)) h.2) fun r hr => ?_)
  subst hr
  exact Tot.it rfl (Tot.it (by simp) (Tot.ret (by simp)))
theorem SameValues_same {l : List Val} (hl : l.length ≤ 1048576) (h : ∀ v ∈ l, smallV v) : Tot (fun fuel => ref3_SameValues fuel l l) (· = true) := by
  unfold ref3_SameValues
  refine Tot.if_ (by simp) ?_
  refine Tot.bindq (P := fun x => x = .inl ()) ?_ fun x hx => by subst hx; exact Tot.contl (Tot.ret rfl)
  refine Tot.loop (fun st : Int => ∃ i : Nat, st = (i : Int) ∧ i ≤ l.length) (fun st : Int => l.length - st.toNat) ⟨0, rfl, by omega⟩ fun st ⟨i, e, hi⟩ => ?_
  subst e
  refine Tot.ite (fun g => ?_) (fun g => Tot.ret rfl)
  have g : i < l.length := by have : ((i : Nat) : Int) < (l.length : Int) := of_decide_eq_true g; omega
  refine Tot.bind0 (idx_nat g) (Tot.bind0 (idx_nat g) (Tot.bindq (SameValue_same (h _ (List.getElem_mem g))) fun r hr => ?_))
  subst hr
  refine Tot.if_ rfl (Tot.ret ?_)
  have e1 : IntKind.i64.wrap ((i : Int) + 1) = ((i + 1 : Nat) : Int) := by rw [i64_small (by omega) (by omega)]; omega
  rw [e1]
  exact ⟨⟨i + 1, rfl, by omega⟩, by omega⟩
/-- what was unpacked is packed into the same bytes -/
theorem Pack_back {l : List Fld} {data : List UInt8} (ho : ∀ x ∈ l, okF x) (hl : l.length ≤ 1048576) (hd : data.length ≤ 1048576) (hc : (check l).1 = 0) (hU : (unp l 0 data []).2.1 = 0) :
    Tot (fun fuel => packing_Pack fuel l (unp l 0 data []).1) (· = (data, (0, 0))) := by
  obtain ⟨u1, t0, u2, u3⟩ := unp_vals l 0 data [] hU
  rw [List.nil_append] at u2
  generalize hvs : (unp l 0 data []).1 = vs at u2
  have hUv : unp l 0 data [] = (vs, (0, 0)) := by rw [← hvs, ← u1]
  have hvl : vs.length = nv l := by rw [u2, u3]
  have hnl := nv_le l
  unfold packing_Pack
  refine Tot.bindq (Check_tot hl ho) fun r hr => ?_
  subst hr
  have hgood := (check_zero hc).2
  refine Tot.if_ (by rw [hc]; rfl) (Tot.bindq (values_tot hl) fun r hr => ?_)
  subst hr
  refine Tot.if_ (by rw [hvl]; simp) ?_
  refine Tot.bindq (P := fun z => ∃ q, z = .inl (data, q)) ?_ fun z ⟨q, hz⟩ => by subst hz; exact Tot.contl (Tot.ret rfl)
  refine Tot.loop (fun st => ∃ i j p : Nat, i ≤ l.length ∧ p ≤ data.length ∧ j ≤ vs.length ∧ j ≤ i ∧ st.1 = data.take p ∧ st.2.1 = (j : Int) ∧ st.2.2.1 = (i : Int) ∧ unp (l.drop i) i (data.drop p) (vs.take j) = (vs, (0, 0))) (fun st => l.length - st.2.2.1.toNat)
    ⟨0, 0, 0, by omega, by omega, by omega, by omega, rfl, rfl, rfl, by rw [List.drop_zero, List.drop_zero, List.take_zero]; exact hUv⟩ fun st ⟨i, j, p, hi, hp, hj, hji, e0, e1, e2, hu⟩ => ?_
  obtain ⟨out, jj, ii, ⟨f1, f2⟩⟩ := st
  simp only at e0 e1 e2
  subst e0 e1 e2
  refine Tot.ite (fun g => ?_) (fun g => Tot.ret ?_)
  · have g : (i : Int) < (l.length : Int) := of_decide_eq_true g
    have hil : i < l.length := by omega
    have hx := hgood _ (List.getElem_mem hil)
    have hxo := ho _ (List.getElem_mem hil)
    rw [drop_cons hil, unp_cons] at hu
    generalize hxx : l[i] = x at *
    have hidx : idx l (i : Int) = some x := by rw [idx_nat hil, hxx]
    obtain ⟨h1, h2, h3, hk⟩ := kindsF hx hxo
    have ha : (rdF x (data.drop p)).1 = 0 := by
      apply Classical.byContradiction
      intro ha
      rw [if_pos ha] at hu
      have := congrArg (fun z => z.2.1) hu
      exact ha this
    have hlen := rdF_len hx hxo ha
    rw [List.length_drop] at hlen
    rw [if_neg (by omega)] at hu
    have e3 : IntKind.i64.wrap ((i : Int) + 1) = ((i + 1 : Nat) : Int) := by rw [i64_small (by omega) (by omega)]; omega
    have htk : data.take p ++ (data.drop p).take (rdF x (data.drop p)).2.2 = data.take (p + (rdF x (data.drop p)).2.2) := by rw [List.take_add]
    have hdl : (data.drop p).length ≤ 1048576 := by rw [List.length_drop]; omega
    have htl : (data.take p).length ≤ 1048576 := by rw [List.length_take]; omega
    refine Tot.bindq (P := fun z => ∃ j' : Nat, ∃ q, z = .inl (data.take (p + (rdF x (data.drop p)).2.2), (j' : Int), q) ∧ j' ≤ vs.length ∧ j' ≤ j + 1 ∧ unp (l.drop (i + 1)) (i + 1) ((data.drop p).drop (rdF x (data.drop p)).2.2) (vs.take j') = (vs, (0, 0))) ?_ fun z ⟨j', q, hz, g1, g2, g3⟩ => ?_
    · refine Tot.bind0 hidx (Tot.ite (fun g2 => ?_) (fun g2 => ?_))
      · have g2 : x.1 = 120 := beq_iff_eq.1 g2
        rw [if_neg (by omega)] at hu
        have hkx : ¬ 0 < wid x.1.toNat ∧ 0 ≤ x.2.1 ∧ x.2.1 ≤ 100 := by
          rcases hk with ⟨k1, k2, k3, k4, k5, k6, k7⟩ | ⟨k1, (⟨e, ek⟩ | ⟨e, ek⟩ | ⟨e, ek⟩ | ⟨e, ek0, ek1⟩)⟩
          · omega
          · omega
          · omega
          · omega
          · exact ⟨k1, ek0, ek1⟩
        have hR := rdF_sx hkx.1 (.inr (by omega)) (data.drop p)
        have hz : zeros x.2.1 = some (List.replicate x.2.1.toNat 0) := by unfold zeros; rw [if_pos ⟨by omega, by omega⟩]
        refine Tot.bind0 hz (Tot.bind0 (app_ok (xs := data.take p) (by rw [List.length_replicate]; omega)) (Tot.ret ?_))
        refine ⟨j, (f1, f2), ?_, hj, by omega, hu⟩
        have hpart : (data.drop p).take (rdF x (data.drop p)).2.2 = List.replicate x.2.1.toNat 0 := by
          rw [hR] at ha ⊢
          split at ha
          · cases ha
          rename_i c1
          rw [if_neg c1]
          split at ha
          · cases ha
          rename_i c2
          rw [if_neg c2]
          show (data.drop p).take x.2.1.toNat = _
          rw [List.eq_replicate_iff]
          refine ⟨by rw [List.length_take]; omega, fun b hb => ?_⟩
          have : b.toNat = 0 := Classical.byContradiction fun c => c2 ⟨by omega, b, hb, c⟩
          exact UInt8.toNat_inj.1 this
        rw [← htk, hpart]
      · have g2 : ¬ x.1 = 120 := beq_eq_false_iff_ne.1 g2
        rw [if_pos (by omega)] at hu
        have hok : (unp (l.drop (i + 1)) (i + 1) ((data.drop p).drop (rdF x (data.drop p)).2.2) (vs.take j ++ [(rdF x (data.drop p)).2.1])).2.1 = 0 := by rw [hu]
        obtain ⟨_, t, ht, _⟩ := unp_vals _ _ _ _ hok
        rw [hu] at ht
        have ht : vs = vs.take j ++ [(rdF x (data.drop p)).2.1] ++ t := ht
        have hjl : j < vs.length := by
          have := congrArg List.length ht
          simp only [List.length_append, List.length_take, List.length_cons, List.length_nil] at this
          omega
        have hjt : (vs.take j).length = j := by rw [List.length_take]; omega
        have hget : vs[j] = (rdF x (data.drop p)).2.1 := by
          have h5 : vs[j]? = (vs.take j ++ [(rdF x (data.drop p)).2.1] ++ t)[j]? := congrArg (·[j]?) ht
          rw [List.getElem?_eq_getElem hjl, List.append_assoc, List.getElem?_append_right (by omega), hjt, Nat.sub_self] at h5
          exact Option.some.inj h5
        have hidv : idx vs (j : Int) = some (rdF x (data.drop p)).2.1 := by rw [idx_nat hjl, hget]
        refine Tot.bind0 hidv (Tot.bindq (rdF_valid hx hxo ha) fun r hr => ?_)
        subst hr
        refine Tot.if_ rfl (Tot.bind0 hidv (Tot.bindq (pack_gen (out := data.take p) hx hxo hdl (by omega) (by omega) ha) fun r hr => ?_))
        subst hr
        have e4 : IntKind.i64.wrap ((j : Int) + 1) = ((j + 1 : Nat) : Int) := by rw [i64_small (by omega) (by omega)]; omega
        refine Tot.if_ rfl (Tot.ret ?_)
        rw [e4, htk]
        refine ⟨j + 1, (f1, f2), rfl, by omega, by omega, ?_⟩
        rw [List.take_succ_eq_append_getElem hjl, hget]
        exact hu
    · subst hz
      refine Tot.contl (Tot.ret ?_)
      rw [e3]
      refine ⟨⟨i + 1, j', p + (rdF x (data.drop p)).2.2, by omega, by omega, g1, by omega, rfl, rfl, rfl, ?_⟩, by show l.length - (((i + 1 : Nat) : Int)).toNat < l.length - ((i : Int)).toNat; omega⟩
      rw [List.drop_drop] at g3
      exact g3
  · have g : ¬ (i : Int) < (l.length : Int) := of_decide_eq_false g
    rw [List.drop_of_length_le (by omega), unp_nil] at hu
    refine ⟨(f1, f2), ?_⟩
    by_cases hdn : data.drop p ≠ []
    · rw [if_pos hdn] at hu
      have := congrArg (fun z => z.2.1) hu
      exact absurd this (by show ¬ (3 : Int) = 0; decide)
    · have hdn : data.drop p = [] := Classical.not_not.1 hdn
      have : data.length ≤ p := by have := congrArg List.length hdn; rw [List.length_drop] at this; simp at this; omega
      show Sum.inl (data.take p, _) = _
      rw [List.take_of_length_le this]
theorem PackingUnpacks_tot {l : List Fld} {data : List UInt8} (ho : ∀ x ∈ l, okF x) (hl : l.length ≤ 1048576) (hd : data.length ≤ 1048576) : Tot (fun n => law4_PackingUnpacks n l data) (· = true) := by
  unfold law4_PackingUnpacks
  refine Tot.bindq (Unpack_gen hl ho hd) fun r hr => ?_
  refine Tot.bindq (Unpacked_gen hl ho hd) fun r2 hr2 => ?_
  rw [← hr] at hr2
  have hr3 := hr2.symm
  subst hr3
  have hfacts : r.1.length ≤ 1048576 ∧ (∀ v ∈ r.1, smallV v) ∧ (r.2.1 ≠ 0 → r.1 = []) ∧ (r.2.1 = 0 → (check l).1 = 0 ∧ r = unp l 0 data [] ∧ (unp l 0 data []).2.1 = 0) := by
    rw [hr]
    by_cases h : (check l).1 ≠ 0
    · rw [if_pos h]
      exact ⟨Nat.zero_le _, fun v hv => (by cases hv), fun _ => rfl, fun e => absurd e h⟩
    · rw [if_neg h]
      have h : (check l).1 = 0 := by omega
      refine ⟨?_, unp_small _ _ _ _ (fun v hv => (by cases hv)), unp_err _ _ _ _, fun e => ⟨h, rfl, e⟩⟩
      by_cases he : (unp l 0 data []).2.1 = 0
      · obtain ⟨_, t, h2, h3⟩ := unp_vals _ _ _ _ he
        have := nv_le l
        rw [h2]
        simp only [List.nil_append]
        omega
      · rw [unp_err _ _ _ _ he]; decide
  obtain ⟨f1, f2, f3, f4⟩ := hfacts
  refine Tot.bindq (P := (· = false)) (Tot.bindq packs_tot fun rp hrp => ?_) fun j hj => ?_
  · subst hrp
    refine Tot.if_ rfl (Tot.if_ (by simp) (Tot.bindq (SameValues_same f1 f2) fun r5 h5 => Tot.ret ?_))
    rw [h5]; rfl
  subst hj
  refine Tot.if_ rfl (Tot.ite (fun g => Tot.ret ?_) (fun g => ?_))
  · have g : r.2.1 ≠ 0 := by simpa using g
    rw [f3 g]; rfl
  · have g : r.2.1 = 0 := by simpa using g
    obtain ⟨c1, c2, c3⟩ := f4 g
    have hp := Pack_back ho hl hd c1 c3
    rw [← c2] at hp
    refine Tot.bindq hp fun r5 h5 => ?_
    subst h5
    refine Tot.bindq (P := (· = true)) (Tot.it rfl (Tot.bindq (SameBytes_tot data data) fun r6 h6 => Tot.ret ?_)) fun j hj => Tot.ret hj
    rw [h6]; simp
theorem PackingUnpacks_said (l : List (Int × Int × Bool)) (data : List UInt8) (hl : (∀ x ∈ l, (fun x => inK .u8 x.1 ∧ (fun x => inK .i64 x.1 ∧ (fun _ => True) x.2) x.2) x) ∧ l.length ≤ maxLen) (hd : (∀ x ∈ data, (fun _ => True) x) ∧ data.length ≤ maxLen) (hb : (sumL (fun x => (fun x => (fun _ => 1) x.1 + (fun x => (fun _ => 1) x.1 + (fun _ => 1) x.2) x.2) x + 1) l) + sumL (fun _ => 1) data ≤ 1048576) : Tot (fun n => law4_PackingUnpacks n l data) (· = true) := by
  have := sumL_len (fun x : Int × Int × Bool => (fun x => (fun _ => 1) x.1 + (fun x => (fun _ => 1) x.1 + (fun _ => 1) x.2) x.2) x + 1) (fun x => by simp) l
  have h2 := sumL_len (fun _ : UInt8 => 1) (fun _ => Nat.le_refl _) data
  exact PackingUnpacks_tot (fun x hx => u8_okF (hl.1 x hx).1) (by omega) (by omega)
end Go.Gv.P

