import Derived.Test.YtdpmkphjcjacfaaGreatDoorV6
import Derived.Test.YtdpmkphjcjacfaaGreatDoorGo
set_option linter.all false
namespace Go.Gv.P
open Go Go.Gv Go.Gv.D Go.Gv.R
set_option maxRecDepth 100000
theorem shl1 {n : Nat} (hn : n = 1 ∨ n = 2 ∨ n = 4 ∨ n = 8) : shlI .u64 1 (((8 * n - 1 : Nat)) : Int) = ((2 ^ (8 * n - 1) : Nat) : Int) := by
  rcases hn with e | e | e | e <;> subst e <;> kernel_rfl
def inRange (s : Bool) (n : Nat) (v : Int) : Prop := if s = true then -2 ^ (8 * n - 1) ≤ v ∧ v < 2 ^ (8 * n - 1) else 0 ≤ v ∧ v < 2 ^ (8 * n)
theorem word_gen {v : Int} {n : Nat} {s : Bool} (hv : v.natAbs < 18446744073709551616) (hn : n = 1 ∨ n = 2 ∨ n = 4 ∨ n = 8) : Tot (fun fuel => packing_word fuel (decide (v < 0), lim v.natAbs) (n : Int) s) (fun r => (r.2 = true ↔ inRange s n v) ∧ (r.2 = true → r.1 = v % 18446744073709551616)) := by
  unfold packing_word
  have hlim : ∀ m, (lim m).length ≤ 2 := lim_len
  obtain ⟨m, hm0⟩ : ∃ m, v.natAbs = m := ⟨_, rfl⟩
  rw [hm0] at hv ⊢
  have hm : m < 18446744073709551616 := hv
  have hl := lim_len m
  refine Tot.if_ (decide_eq_false (by show ¬ (((lim m).length : Nat) : Int) > 2; omega)) ?_
  refine Tot.bindq (P := (· = (m : Int))) ?_ fun x hx => ?_
  · have hpart : ∀ i, i ≤ 2 → ∀ j : Nat, i = j → True := fun _ _ _ _ => trivial
    refine Tot.loop (fun st => ∃ i : Nat, st.2 = (i : Int) ∧ i ≤ (lim m).length ∧ ((i = 0 ∧ st.1 = 0) ∨ (i = 1 ∧ st.1 = ((m % 4294967296 : Nat) : Int)) ∨ (i = 2 ∧ st.1 = (m : Int)))) (fun st => 2 - st.2.toNat) ⟨0, rfl, Nat.zero_le _, .inl ⟨rfl, rfl⟩⟩ fun st ⟨i, e, hi, hI⟩ => ?_
    obtain ⟨a, j⟩ := st
    simp only at e hI
    subst e
    refine Tot.ite (fun h => ?_) (fun h => Tot.ret ?_)
    · have h : ((i : Nat) : Int) < (((lim m).length : Nat) : Int) := of_decide_eq_true h
      have hil : i < (lim m).length := by omega
      refine Tot.bind0 (idx_nat hil) ?_
      rw [i64_small (x := 32 * (i : Int)) (by omega) (by omega)]
      refine Tot.bind0 (a := ()) (by unfold nn; rw [if_pos (by omega)]) (Tot.some_bind (Tot.ret ?_))
      rw [i64_small (by omega) (by omega)]
      refine ⟨⟨i + 1, by simp, hil, ?_⟩, by show 2 - ((i : Int) + 1).toNat < 2 - ((i : Int)).toNat; omega⟩
      have hx : ∃ x : Nat, (lim m)[i] = (x : Int) ∧ x < 4294967296 ∧ ((i = 0 ∧ x = m % 4294967296) ∨ (i = 1 ∧ x = m / 4294967296)) := by
        have hcase : i = 0 ∨ i = 1 := by omega
        have hq : ∀ (l : List Int) (hl : lim m = l) (h : i < l.length), (lim m)[i]'hil = l[i]'h := fun l hl h => by subst hl; rfl
        have h0 : m ≠ 0 := fun e => by rw [e] at hil; exact absurd hil (by show ¬ i < 0; omega)
        by_cases h1 : m < 4294967296
        · have el : lim m = [(m : Int)] := by unfold lim; rw [if_neg h0, if_pos h1]
          have hi0 : i = 0 := by rw [el] at hil; simp at hil; exact hil
          subst hi0
          exact ⟨m, hq _ el (by simp), h1, .inl ⟨rfl, (Nat.mod_eq_of_lt h1).symm⟩⟩
        · have el : lim m = [((m % 4294967296 : Nat) : Int), ((m / 4294967296 : Nat) : Int)] := by unfold lim; rw [if_neg h0, if_neg h1]
          rcases hcase with hi0 | hi0
          · subst hi0
            exact ⟨m % 4294967296, hq _ el (by simp), by omega, .inl ⟨rfl, rfl⟩⟩
          · subst hi0
            exact ⟨m / 4294967296, hq _ el (by simp), by omega, .inr ⟨rfl, rfl⟩⟩
      obtain ⟨x, ex, hxl, hx⟩ := hx
      rw [ex, u64_wrap, show ((x : Nat) : Int) % 18446744073709551616 = (x : Int) by omega, show (32 * (i : Int)) = ((32 * i : Nat) : Int) by omega, shl64 _ _ (by omega)]
      rcases hx with ⟨h0, h1⟩ | ⟨h0, h1⟩
      · subst h0
        rcases hI with ⟨_, ha⟩ | ⟨h, _⟩ | ⟨h, _⟩
        · subst ha
          refine .inr (.inl ⟨rfl, ?_⟩)
          show bwOr .u64 0 (((x : Nat) : Int) * 2 ^ (32 * 0) % 18446744073709551616) = _
          rw [show ((x : Nat) : Int) * 2 ^ (32 * 0) % 18446744073709551616 = (x : Int) by simp; omega, or64_zero (by omega), h1]
        · omega
        · omega
      · subst h0
        rcases hI with ⟨h, _⟩ | ⟨_, ha⟩ | ⟨h, _⟩
        · omega
        · subst ha
          refine .inr (.inr ⟨rfl, ?_⟩)
          show bwOr .u64 ((m % 4294967296 : Nat) : Int) (((x : Nat) : Int) * 2 ^ (32 * 1) % 18446744073709551616) = _
          rw [show ((x : Nat) : Int) * 2 ^ (32 * 1) % 18446744073709551616 = (x : Int) * 4294967296 by omega, or64_shift (by omega) (by omega)]
          omega
        · omega
    · have h : ¬ ((i : Nat) : Int) < (((lim m).length : Nat) : Int) := of_decide_eq_false h
      have hil : i = (lim m).length := by omega
      show a = _
      rcases hI with ⟨h0, ha⟩ | ⟨h0, ha⟩ | ⟨h0, ha⟩
      · have : m = 0 := by
          unfold lim at hil
          by_cases h1 : m = 0
          · exact h1
          · rw [if_neg h1] at hil; split at hil <;> simp at hil <;> omega
        rw [ha, this]; rfl
      · have : m < 4294967296 := by
          unfold lim at hil
          by_cases h1 : m = 0
          · omega
          · rw [if_neg h1] at hil; split at hil
            · assumption
            · simp at hil; omega
        rw [ha, Nat.mod_eq_of_lt this]
      · exact ha
  subst hx
  have e8 : IntKind.i64.wrap (IntKind.i64.wrap (8 * (n : Int)) - 1) = ((8 * n - 1 : Nat) : Int) := by
    rw [i64_small (x := 8 * (n : Int)) (by omega) (by omega), i64_small (by omega) (by omega)]; omega
  rw [e8, shl1 hn]
  refine Tot.bind0 (a := ()) (by unfold nn; rw [if_pos (by omega)]) (Tot.some_bind ?_)
  have hr0 : inRange false n v ↔ (0 ≤ v ∧ v < 2 ^ (8 * n)) := by unfold inRange; rw [if_neg (by decide)]
  have hr1 : inRange true n v ↔ (-2 ^ (8 * n - 1) ≤ v ∧ v < 2 ^ (8 * n - 1)) := by unfold inRange; rw [if_pos rfl]
  have hf : ((m : Nat) : Int).fdiv (2 ^ 1) = ((m / 2 : Nat) : Int) := by rw [Int.fdiv_eq_ediv_of_nonneg _ (by decide)]; omega
  cases s with
  | false =>
    refine Tot.it rfl ?_
    rw [hr0]
    refine Tot.bindq (P := fun r => r = (((m : Nat) : Int), decide (0 ≤ v ∧ m / 2 < 2 ^ (8 * n - 1)))) (Tot.ite (fun g => Tot.ret ?_) (fun g => Tot.ret ?_)) fun j hj => Tot.ret ?_
    · have g : ¬ v < 0 := by simpa using g
      rw [hf]
      congr 1
      rw [decide_eq_decide]; omega
    · have g : v < 0 := by simpa using g
      rw [decide_eq_false (by omega)]
    · subst hj
      simp only [decide_eq_true_iff]
      rcases hn with e | e | e | e <;> subst e <;> simp only [Nat.reduceMul, Nat.reduceSub, Nat.reducePow, Int.reducePow] <;> omega
  | true =>
    refine Tot.if_ rfl ?_
    rw [hr1]
    refine Tot.ite (fun g => Tot.ret ?_) (fun g => Tot.ret ?_)
    · have g : v < 0 := of_decide_eq_true g
      rw [u64_wrap]
      simp only [decide_eq_true_iff]
      rcases hn with e | e | e | e <;> subst e <;> simp only [Nat.reduceMul, Nat.reduceSub, Nat.reducePow, Int.reducePow, Int.reduceNeg] <;> omega
    · have g : ¬ v < 0 := of_decide_eq_false g
      simp only [decide_eq_true_iff]
      rcases hn with e | e | e | e <;> subst e <;> simp only [Nat.reduceMul, Nat.reduceSub, Nat.reducePow, Int.reducePow, Int.reduceNeg] <;> omega
theorem wLE_cut : ∀ {L : List UInt8} {k : Nat} (h : k < L.length), wLE L = wLE (L.take k) + 256 ^ k * ((L[k]).toNat + 256 * wLE (L.drop (k + 1)))
  | b :: L, 0, _ => by simp [wLE]
  | b :: L, k + 1, h => by
    have h' : k < L.length := by simp at h; omega
    have := wLE_cut h'
    simp only [List.take_succ_cons, List.drop_succ_cons, List.getElem_cons_succ, wLE]
    rw [this, Nat.pow_succ]
    generalize (L[k]).toNat + 256 * wLE (L.drop (k + 1)) = X
    have e : 256 * (256 ^ k * X) = 256 ^ k * 256 * X := by rw [← Nat.mul_assoc, Nat.mul_comm 256]
    rw [Nat.mul_add, e, Nat.add_assoc]
theorem byte_of {L : List UInt8} {u n k : Nat} (hL : L.length = n) (hu : u % 2 ^ (8 * n) = wLE L) (hk : k < n) : u / 2 ^ (8 * k) % 256 = (L[k]'(by omega)).toNat := by
  have hkl : k < L.length := by omega
  have h1 := Nat.mod_add_div u (2 ^ (8 * n))
  rw [hu, wLE_cut hkl] at h1
  have h2 := wLE_lt (L.take k)
  rw [List.length_take, Nat.min_eq_left (by omega)] at h2
  have hb := byte_lt L[k]
  have e : 2 ^ (8 * n) = 256 ^ k * (256 * 256 ^ (n - k - 1)) := by
    rw [← pow256, ← Nat.pow_succ', ← Nat.pow_add]
    congr 1; omega
  rw [e, Nat.mul_assoc, Nat.mul_assoc, Nat.add_assoc, ← Nat.mul_add, Nat.add_assoc, ← Nat.mul_add] at h1
  rw [← pow256, ← h1, Nat.add_mul_div_left _ _ (Nat.pow_pos (by decide)), Nat.div_eq_of_lt h2]
  omega
theorem order_tot {out b : List UInt8} {u n : Nat} {big : Bool} (ho : out.length ≤ 4000000) (hb : b.length = n) (hn : n ≤ 8) (hu : u % 2 ^ (8 * n) = word big b) :
    Tot (fun fuel => packing_order fuel out (u : Int) (n : Int) big) (· = out ++ b) := by
  unfold packing_order
  unfold word at hu
  generalize hL : (if big = true then b.reverse else b) = L at hu
  have hLl : L.length = n := by rw [← hL]; split <;> simp [hb]
  refine Tot.bindq (P := (· = out ++ b)) ?_ fun r hr => Tot.ret hr
  refine Tot.loop (fun st => ∃ i : Nat, i ≤ n ∧ st = (out ++ b.take i, (i : Int))) (fun st => n - st.2.toNat) ⟨0, by omega, by simp⟩ fun st ⟨i, hi, e⟩ => ?_
  subst e
  refine Tot.ite (fun g => ?_) (fun g => Tot.ret ?_)
  · have g : (i : Int) < (n : Int) := of_decide_eq_true g
    have hib : i < b.length := by omega
    have e1 : IntKind.i64.wrap ((IntKind.i64.wrap ((n : Int) - 1)) - (i : Int)) = ((n - 1 - i : Nat) : Int) := by
      rw [i64_small (x := (n : Int) - 1) (by omega) (by omega), i64_small (by omega) (by omega)]; omega
    refine Tot.bindq (P := fun j => ∃ k : Nat, j = (k : Int) ∧ ∃ h : k < n, L[k]'(by omega) = b[i]) (Tot.ite (fun g2 => Tot.some_bind (Tot.ret ⟨n - 1 - i, e1, by omega, ?_⟩)) (fun g2 => Tot.ret ⟨i, rfl, by omega, ?_⟩)) fun j ⟨k, hj, hk, hjb⟩ => ?_
    · subst g2
      have : L = b.reverse := by rw [← hL]; rfl
      subst this
      rw [List.getElem_reverse]
      simp only [show b.length - 1 - (n - 1 - i) = i by omega]
    · subst g2
      have : L = b := by rw [← hL]; rfl
      subst this
      rfl
    subst hj
    have hx := byte_of hLl hu hk
    rw [hjb] at hx
    have e8 : IntKind.i64.wrap (8 * (k : Int)) = ((8 * k : Nat) : Int) := by rw [i64_small (by omega) (by omega)]; omega
    rw [e8]
    have es : shrI .u64 (u : Int) ((8 * k : Nat) : Int) = ((u / 2 ^ (8 * k) : Nat) : Int) := by
      unfold shrI
      rw [show min (((8 * k : Nat)) : Int).toNat IntKind.u64.bits = 8 * k by show min (((8 * k : Nat)) : Int).toNat 64 = 8 * k; omega, Int.fdiv_eq_ediv_of_nonneg _ (Int.pow_nonneg (by decide))]
      rw [show ((2 : Int) ^ (8 * k)) = ((2 ^ (8 * k) : Nat) : Int) from (Int.natCast_pow 2 _).symm]
      rfl
    rw [es]
    have ew : IntKind.u8.wrap ((u / 2 ^ (8 * k) : Nat) : Int) = ((b[i]).toNat : Int) := by rw [u8_wrap]; omega
    refine Tot.bind0 (a := ()) (by unfold nn; rw [if_pos (by omega)]) (Tot.bind0 (a := b[i]) ?_ (Tot.bind0 (app_ok (by simp; omega)) (Tot.ret ?_)))
    · rw [ew]
      have hb8 := byte_lt b[i]
      unfold u8
      rw [if_pos ⟨by omega, by omega⟩, Int.toNat_natCast]
      congr 1
      exact UInt8.ofNat_toNat
    · have e2 : IntKind.i64.wrap ((i : Int) + 1) = ((i + 1 : Nat) : Int) := by rw [i64_small (by omega) (by omega)]; omega
      rw [e2]
      refine ⟨⟨i + 1, by omega, ?_⟩, by show n - (((i + 1 : Nat) : Int)).toNat < n - ((i : Int)).toNat; omega⟩
      rw [List.take_succ_eq_append_getElem hib, List.append_assoc]
  · have g : ¬ (i : Int) < (n : Int) := of_decide_eq_false g
    show out ++ b.take i = _
    rw [List.take_of_length_le (by omega)]
end Go.Gv.P
namespace Go.Gv.P
open Go Go.Gv Go.Gv.D Go.Gv.R
set_option maxRecDepth 100000
theorem zigzag_gen {out : List UInt8} {n : Int} (ho : out.length ≤ 4000000) (h0 : -9223372036854775808 ≤ n) (h1 : n ≤ 9223372036854775807) : Tot (fun fuel => packing_zigzag fuel out (n % 18446744073709551616)) (· = out ++ vint 9 (zig n)) := by
  unfold packing_zigzag
  rw [zig_xor h0 h1]
  have hz := zig_lt h0 h1
  generalize zig n = z at hz ⊢
  refine Tot.some_bind ?_
  refine Tot.bindq (P := fun x => ∃ u : Nat, u < 128 ∧ x.2 = (u : Int) ∧ out ++ vint 9 z = x.1 ++ [u.toUInt8] ∧ x.1.length ≤ 4000100) ?_ fun x ⟨u, hu, e2, e1, hl⟩ => ?_
  · refine Tot.loop (fun st => ∃ i u : Nat, i ≤ 9 ∧ u < 2 ^ (64 - 7 * i) ∧ st.2 = (u : Int) ∧ out ++ vint 9 z = st.1 ++ vint (9 - i) u ∧ st.1.length = out.length + i) (fun st => st.2.toNat) ⟨0, z, by omega, hz, rfl, rfl, rfl⟩ fun st ⟨i, u, hi, hu, e, eo, hl⟩ => ?_
    obtain ⟨cur, q⟩ := st
    simp only at e eo hl
    subst e
    refine Tot.ite (fun h => ?_) (fun h => Tot.ret ?_)
    · have h : ((u : Nat) : Int) ≥ 128 := of_decide_eq_true h
      have hi8 : i ≤ 8 := by
        rcases Nat.lt_or_ge i 9 with g | g
        · omega
        · have : i = 9 := by omega
          subst this
          have : u < 2 := by simpa using hu
          omega
      have hw : IntKind.u8.wrap ((u : Nat) : Int) = ((u % 256 : Nat) : Int) := by rw [u8_wrap]; omega
      have hb : u8 (bwOr .u8 (IntKind.u8.wrap ((u : Nat) : Int)) 128) = some (u % 128 + 128).toUInt8 := by
        rw [hw, or128 (by omega), show u % 256 % 128 = u % 128 by omega, u8_ok (by omega)]
      refine Tot.bind0 hb ?_
      have ha : app cur [(u % 128 + 128).toUInt8] = some (cur ++ [(u % 128 + 128).toUInt8]) := by unfold app; rw [if_pos (by simp; omega)]
      refine Tot.bind0 ha (Tot.ret ?_)
      have hd : ((u : Nat) : Int).fdiv (2 ^ 7) = ((u / 128 : Nat) : Int) := by rw [Int.fdiv_eq_ediv_of_nonneg _ (by decide)]; omega
      have hstep : vint (9 - i) u = (u % 128 + 128).toUInt8 :: vint (9 - (i + 1)) (u / 128) := by
        rw [show 9 - i = (9 - (i + 1)) + 1 by omega]
        show (if 128 ≤ u then _ else _) = _
        rw [if_pos (by omega)]
      refine ⟨⟨i + 1, u / 128, by omega, ?_, hd, ?_, by show (cur ++ [_]).length = _; simp; omega⟩, ?_⟩
      · refine Nat.div_lt_of_lt_mul ?_
        rw [show 64 - 7 * i = 7 + (64 - 7 * (i + 1)) by omega, Nat.pow_add] at hu
        exact hu
      · rw [eo, hstep]; simp
      · show (((u : Nat) : Int).fdiv (2 ^ 7)).toNat < ((u : Nat) : Int).toNat
        rw [hd]; omega
    · have h : ¬ ((u : Nat) : Int) ≥ 128 := of_decide_eq_false h
      refine ⟨u, by omega, rfl, ?_, by show cur.length ≤ _; omega⟩
      rw [eo]
      congr 1
      cases 9 - i with
      | zero => rfl
      | succ k =>
        show (if 128 ≤ u then _ else _) = _
        rw [if_neg (by omega)]
  · obtain ⟨cur, q⟩ := x
    simp only at e2 e1 hl
    subst e2
    have hb : u8 (IntKind.u8.wrap ((u : Nat) : Int)) = some u.toUInt8 := by
      rw [u8_small (by omega) (by omega), u8_ok (by omega)]
    refine Tot.bind0 hb ?_
    have ha : app cur [u.toUInt8] = some (cur ++ [u.toUInt8]) := by unfold app; rw [if_pos (by simp; omega)]
    exact Tot.bind0 ha (Tot.ret e1.symm)
end Go.Gv.P
namespace Go.Gv.P
open Go Go.Gv Go.Gv.D Go.Gv.R
set_option maxRecDepth 100000
theorem SameBytes_tot (a b : List UInt8) : Tot (fun n => ref4_SameBytes n a b) (· = decide (a = b)) := by
  unfold ref4_SameBytes
  refine Tot.some_bind (Tot.ret ?_)
  rw [str_eq, decide_eq_decide]
  exact ⟨fun h => by have := congrArg bytesOf h; rwa [bytes_str, bytes_str] at this, fun h => by rw [h]⟩
theorem u8_okF {x : Fld} (h : inK .u8 x.1) : okF x := by
  have : 0 ≤ x.1 ∧ x.1 ≤ 255 := by simpa [inK, Lit.wf, IntKind.min, IntKind.max, IntKind.signed, IntKind.bits] using h
  exact ⟨this.1, by omega⟩
theorem sumL_len {α : Type} (m : α → Nat) (hm : ∀ x, 1 ≤ m x) : ∀ (l : List α), l.length + 1 ≤ sumL m l
  | [] => Nat.le_refl _
  | x :: t => by
    have := sumL_len m hm t
    unfold sumL at this ⊢
    simp only [List.map_cons, List.sum_cons, List.length_cons]
    have := hm x
    omega
def nv : List Fld → Nat
  | [] => 0
  | x :: t => (if x.1 ≠ 120 then 1 else 0) + nv t
theorem values_tot {l : List Fld} (hl : l.length ≤ 1048576) : Tot (fun fuel => packing_values fuel l) (· = ((nv l : Nat) : Int)) := by
  unfold packing_values
  refine Tot.bindq (P := (· = ((nv l : Nat) : Int))) ?_ fun r hr => Tot.ret hr
  refine Tot.loop (fun st => ∃ i n : Nat, st = ((n : Int), (i : Int)) ∧ i ≤ l.length ∧ n ≤ i ∧ n + nv (l.drop i) = nv l) (fun st => l.length - st.2.toNat) ⟨0, 0, rfl, by omega, by omega, by simp⟩ fun st ⟨i, n, e, hi, hn, hv⟩ => ?_
  subst e
  refine Tot.ite (fun g => ?_) (fun g => Tot.ret ?_)
  · have g : (i : Int) < (l.length : Int) := of_decide_eq_true g
    have hil : i < l.length := by omega
    rw [drop_cons hil] at hv
    refine Tot.bind0 (idx_nat hil) ?_
    generalize l[i] = x at *
    have hv : n + ((if x.1 ≠ 120 then 1 else 0) + nv (l.drop (i + 1))) = nv l := hv
    refine Tot.bindq (P := (· = ((n + (if x.1 ≠ 120 then 1 else 0) : Nat) : Int))) (Tot.ite (fun g2 => Tot.ret ?_) (fun g2 => Tot.ret ?_)) fun j hj => Tot.ret ?_
    · have g2 : x.1 ≠ 120 := by simpa using g2
      rw [if_pos g2, i64_small (by omega) (by omega)]; rfl
    · have g2 : x.1 = 120 := by simpa using g2
      rw [if_neg (by omega)]; rfl
    · subst hj
      have e1 : IntKind.i64.wrap ((i : Int) + 1) = ((i + 1 : Nat) : Int) := by rw [i64_small (by omega) (by omega)]; omega
      rw [e1]
      refine ⟨⟨i + 1, n + (if x.1 ≠ 120 then 1 else 0), rfl, by omega, by split <;> omega, by omega⟩, by show l.length - (((i + 1 : Nat) : Int)).toNat < l.length - ((i : Int)).toNat; omega⟩
  · have g : ¬ (i : Int) < (l.length : Int) := of_decide_eq_false g
    rw [List.drop_of_length_le (by omega)] at hv
    show (n : Int) = _
    have : n + 0 = nv l := hv
    omega
end Go.Gv.P

