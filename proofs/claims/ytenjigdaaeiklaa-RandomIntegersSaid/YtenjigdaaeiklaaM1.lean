import Derived.Test.YtenjigdaaeiklaaL6
set_option linter.all false
namespace Go.Gv.R
open Go Go.Gv Go.Gv.D

/-! ### digits to any base -/
def vb (b : Int) : List Int → Int
  | [] => 0
  | x :: xs => x + b * vb b xs
def Db (b : Int) (l : List Int) : Prop := ∀ x ∈ l, 0 ≤ x ∧ x < b
theorem vb_val : ∀ l, vb 4294967296 l = val l
  | [] => rfl
  | x :: xs => by simp only [vb, val, vb_val xs]
section
variable {b : Int}
theorem vb_append (l m : List Int) : vb b (l ++ m) = vb b l + b ^ l.length * vb b m := by
  induction l with
  | nil => simp [vb]
  | cons x l ih =>
    simp only [List.cons_append, vb, ih, List.length_cons, Int.pow_succ]
    grind
theorem vb_snoc (l : List Int) (x : Int) : vb b (l ++ [x]) = vb b l + b ^ l.length * x := by
  rw [vb_append]; simp [vb]
theorem vb_zeros : ∀ k, vb b (List.replicate k 0) = 0
  | 0 => rfl
  | k + 1 => by simp [List.replicate_succ, vb, vb_zeros k]
theorem Db.append {l m : List Int} (ha : Db b l) (hb : Db b m) : Db b (l ++ m) := fun x hx => (List.mem_append.1 hx).elim (ha x) (hb x)
theorem Db.left {l m : List Int} (h : Db b (l ++ m)) : Db b l := fun x hx => h x (List.mem_append_left _ hx)
theorem Db.right {l m : List Int} (h : Db b (l ++ m)) : Db b m := fun x hx => h x (List.mem_append_right _ hx)
theorem Db.one {x : Int} (h : 0 ≤ x ∧ x < b) : Db b [x] := fun y hy => by simp at hy; subst hy; exact h
theorem Db.nil : Db b [] := fun x hx => by simp at hx
theorem Db.take {l : List Int} (h : Db b l) (i : Nat) : Db b (l.take i) := fun x hx => h x (List.mem_of_mem_take hx)
theorem Db.drop {l : List Int} (h : Db b l) (i : Nat) : Db b (l.drop i) := fun x hx => h x (List.mem_of_mem_drop hx)
theorem Db.get {l : List Int} (h : Db b l) {i : Nat} (hi : i < l.length) : 0 ≤ l[i] ∧ l[i] < b := h _ (List.getElem_mem hi)
theorem vb_take_succ {a : List Int} {i : Nat} (h : i < a.length) : vb b (a.take (i + 1)) = vb b (a.take i) + b ^ i * a[i] := by
  rw [List.take_succ_eq_append_getElem h, vb_snoc, List.length_take, Nat.min_eq_left (by omega)]
theorem vb_take_all {a : List Int} {i : Nat} (h : a.length ≤ i) : vb b (a.take i) = vb b a := by
  rw [List.take_of_length_le h]
theorem vb_cut {a : List Int} {i : Nat} (h : i < a.length) : vb b a = vb b (a.take i) + b ^ i * (a[i] + b * vb b (a.drop (i + 1))) := by
  conv => lhs; rw [cut h]
  rw [vb_append, List.length_take, Nat.min_eq_left (by omega)]
  rfl
theorem vb_bound (hb : 1 < b) {l : List Int} (h : Db b l) : 0 ≤ vb b l ∧ vb b l < b ^ l.length := by
  induction l with
  | nil => simp [vb]
  | cons x l ih =>
    have h1 := h x (List.mem_cons_self ..)
    have h2 := ih fun y hy => h y (List.mem_cons_of_mem _ hy)
    simp only [vb, List.length_cons, Int.pow_succ]
    have h3 : b * (vb b l + 1) ≤ b * b ^ l.length := Int.mul_le_mul_of_nonneg_left (by omega) (by omega)
    have h4 : 0 ≤ b * vb b l := Int.mul_nonneg (by omega) h2.1
    rw [Int.mul_add, Int.mul_comm b (b ^ l.length)] at h3
    omega
theorem pow_pos' (hb : 1 < b) (n : Nat) : 0 < b ^ n := Int.pow_pos (by omega)
theorem vb_big (hb : 1 < b) {l : List Int} (h : Db b l) (hn : Nz l) (hl : l ≠ []) : b ^ (l.length - 1) ≤ vb b l := by
  obtain ⟨a, x, rfl⟩ : ∃ a x, l = a ++ [x] := ⟨l.dropLast, l.getLast hl, (List.dropLast_concat_getLast hl).symm⟩
  have hx : x ≠ 0 := fun e => by
    rcases hn with h | h
    · exact hl h
    · subst e; simp at h
  have h1 := h x (by simp)
  have h2 := vb_bound hb h.left
  rw [vb_snoc]
  simp only [List.length_append, List.length_singleton, Nat.add_sub_cancel]
  have : b ^ a.length * 1 ≤ b ^ a.length * x := Int.mul_le_mul_of_nonneg_left (by omega) (by have := pow_pos' hb a.length; omega)
  omega
theorem vb_mono (hb : 1 < b) {m n : Nat} (h : m ≤ n) : b ^ m ≤ b ^ n := by
  obtain ⟨d, rfl⟩ := Nat.exists_eq_add_of_le h
  rw [Int.pow_add]
  have h1 := pow_pos' hb m
  have h2 := pow_pos' hb d
  have : b ^ m * 1 ≤ b ^ m * b ^ d := Int.mul_le_mul_of_nonneg_left (by omega) (by omega)
  omega
theorem vb_longer (hb : 1 < b) {l m : List Int} (hl : Db b l) (hm : Db b m) (hn : Nz m) (h : l.length < m.length) : vb b l < vb b m := by
  have h1 := (vb_bound hb hl).2
  have h2 := vb_big hb hm hn (fun e => by subst e; simp at h)
  have h3 := vb_mono hb (show l.length ≤ m.length - 1 by omega)
  omega
theorem vb_inj (hb : 1 < b) : ∀ {l m : List Int}, Db b l → Db b m → l.length = m.length → vb b l = vb b m → l = m
  | [], [], _, _, _, _ => rfl
  | x :: l, y :: m, hl, hm, he, hv => by
    have h1 := hl x (List.mem_cons_self ..)
    have h2 := hm y (List.mem_cons_self ..)
    simp only [vb] at hv
    have h3 := congrArg (· % b) hv
    simp only [Int.add_mul_emod_self_left] at h3
    rw [Int.emod_eq_of_lt h1.1 h1.2, Int.emod_eq_of_lt h2.1 h2.2] at h3
    subst h3
    have h4 : b * vb b l = b * vb b m := by omega
    have h5 := Int.eq_of_mul_eq_mul_left (by omega) h4
    rw [vb_inj hb (fun z hz => hl z (List.mem_cons_of_mem _ hz)) (fun z hz => hm z (List.mem_cons_of_mem _ hz)) (by simpa using he) h5]
theorem vb_norm (hb : 1 < b) {l m : List Int} (hl : Db b l) (hm : Db b m) (nl : Nz l) (nm : Nz m) (hv : vb b l = vb b m) : l = m := by
  rcases Nat.lt_trichotomy l.length m.length with h | h | h
  · have := vb_longer hb hl hm nm h; omega
  · exact vb_inj hb hl hm h hv
  · have := vb_longer hb hm hl nl h; omega
theorem vb_nil (hb : 1 < b) {l : List Int} (h : Db b l) (hn : Nz l) (hv : vb b l = 0) : l = [] := vb_norm hb h Db.nil hn (.inl rfl) hv
theorem Trim.vb {l r : List Int} (h : Trim l r) : vb b r = vb b l := by
  obtain ⟨⟨k, e⟩, _⟩ := h
  rw [e, vb_append, vb_zeros]
  omega
theorem Trim.db {l r : List Int} (h : Trim l r) (hd : Db b l) : Db b r := by
  obtain ⟨⟨k, e⟩, _⟩ := h
  rw [e] at hd
  exact hd.left
end

theorem rtrim_tot {l : List Int} (hl : l.length < 4611686018427387904) : Tot (fun fuel => ref3_trim fuel l) (Trim l) :=
  Tot.bindq (trim_tot hl) fun _ h => Tot.ret h

/-- digits to the base 65536 -/
abbrev w (l : List Int) : Int := vb 65536 l
/-- a number of the reference -/
def Ok3 (l : List Int) : Prop := Db 65536 l ∧ Nz l ∧ l.length ≤ 100000
theorem h16 : (1 : Int) < 65536 := by decide

/-! ### limbs and digits -/
theorem Of3_tot {l : List Int} (hd : Dg l) (hl : l.length ≤ 10000) : Tot (fun fuel => ref3_Of fuel l) (fun r => Ok3 r ∧ w r = val l ∧ r.length ≤ 2 * l.length) := by
  unfold ref3_Of
  refine Tot.bindq (P := fun r => Db 65536 r ∧ r.length = 2 * l.length ∧ w r = val l) ?_ fun r ⟨h1, h2, h3⟩ => ?_
  · refine Tot.loop (fun st => ∃ i : Nat, st.2 = (i : Int) ∧ i ≤ l.length ∧ Db 65536 st.1 ∧ st.1.length = 2 * i ∧ w st.1 = val (l.take i)) (fun st => l.length - st.2.toNat)
      ⟨0, rfl, by omega, Db.nil, rfl, by simp [w, vb, val]⟩ fun st ⟨i, e, hi, g1, g2, g3⟩ => ?_
    obtain ⟨out, z⟩ := st
    simp only at e g1 g2 g3
    subst e
    refine Tot.ite (fun h => ?_) (fun h => ?_)
    · have h : i < l.length := by have : ((i : Nat) : Int) < (l.length : Int) := of_decide_eq_true h; omega
      have hx := hd.get h
      have ht := val_take_succ h
      refine Tot.bind0 (idx_nat h) (Tot.bind0 (idx_nat h) (Tot.bind0 (app_ok (by simp; omega)) (Tot.ret ?_)))
      have hw : IntKind.i64.wrap ((i : Int) + 1) = ((i + 1 : Nat) : Int) := by rw [i64_small (by omega) (by omega)]; omega
      have e1 : IntKind.i64.wrap (l[i].tmod 65536) = l[i] % 65536 := by rw [Int.tmod_eq_emod_of_nonneg hx.1, i64_small (by omega) (by omega)]
      have e2 : IntKind.i64.wrap (IntKind.u32.wrap (l[i].tdiv 65536)) = l[i] / 65536 := by rw [Int.tdiv_eq_ediv_of_nonneg hx.1, u32_small (by omega) (by omega), i64_small (by omega) (by omega)]
      simp only [hw, e1, e2]
      refine ⟨⟨i + 1, rfl, by omega, g1.append (fun y hy => ?_), by simp [g2]; omega, ?_⟩, by show l.length - (((i + 1 : Nat) : Int)).toNat < l.length - ((i : Nat) : Int).toNat; omega⟩
      · rcases List.mem_cons.1 hy with h | h
        · subst h; omega
        · simp at h; subst h; omega
      · rw [w, vb_append, g2, ht, ← g3]
        simp only [vb]
        rw [show (65536 : Int) ^ (2 * i) = 4294967296 ^ i by rw [Int.pow_mul]; rfl]
        have e3 : l[i] % 65536 + 65536 * (l[i] / 65536 + 65536 * 0) = l[i] := by omega
        rw [e3]
    · have h : i = l.length := by have : ¬ ((i : Nat) : Int) < (l.length : Int) := of_decide_eq_false h; omega
      subst h
      rw [List.take_length] at g3
      exact Tot.ret ⟨g1, g2, g3⟩
  · refine Tot.bindq (rtrim_tot (by omega)) fun t ht => Tot.ret ⟨⟨ht.db h1, ht.nz, ?_⟩, by rw [w, ht.vb]; exact h3, ?_⟩
    · have := ht.len; omega
    · have := ht.len; omega

theorem Limbs_tot {a : List Int} (ha : Ok3 a) : Tot (fun fuel => ref3_Limbs fuel a) (fun r => Dg r ∧ Nz r ∧ val r = w a ∧ r.length = (a.length + 1) / 2) := by
  obtain ⟨hd, hn, hl⟩ := ha
  unfold ref3_Limbs
  refine Tot.bindq (P := fun r => Dg r ∧ r.length = (a.length + 1) / 2 ∧ val r = w a) ?_ fun r ⟨h1, h2, h3⟩ => Tot.ret ⟨h1, ?_, h3, h2⟩
  · refine Tot.loop (fun st => ∃ i : Nat, st.2 = ((2 * i : Nat) : Int) ∧ 2 * i ≤ a.length + 1 ∧ Dg st.1 ∧ st.1.length = i ∧ val st.1 = w (a.take (2 * i))) (fun st => a.length + 1 - st.2.toNat)
      ⟨0, rfl, by omega, fun x hx => by simp at hx, rfl, by simp [w, vb, val]⟩ fun st ⟨i, e, hi, g1, g2, g3⟩ => ?_
    obtain ⟨out, z⟩ := st
    simp only at e g1 g2 g3
    subst e
    refine Tot.ite (fun h => ?_) (fun h => ?_)
    · have h : 2 * i < a.length := by have : ((2 * i : Nat) : Int) < (a.length : Int) := of_decide_eq_true h; omega
      have hx := hd.get h
      have ht := vb_take_succ (b := 65536) h
      have hw : IntKind.i64.wrap (((2 * i : Nat) : Int) + 1) = ((2 * i + 1 : Nat) : Int) := by rw [i64_small (by omega) (by omega)]; omega
      have hw2 : IntKind.i64.wrap (((2 * i : Nat) : Int) + 2) = ((2 * (i + 1) : Nat) : Int) := by rw [i64_small (by omega) (by omega)]; omega
      have ex : IntKind.u32.wrap a[2 * i] = a[2 * i] := u32_small hx.1 (by omega)
      simp only [hw]
      refine Tot.bind0 (idx_nat h) ?_
      refine Tot.bindq (P := fun j => 0 ≤ j ∧ j < 4294967296 ∧ val out + 4294967296 ^ i * j = w (a.take (2 * (i + 1)))) ?_ fun j ⟨k1, k2, k3⟩ => ?_
      · have hp : (65536 : Int) ^ (2 * i) = 4294967296 ^ i := by rw [Int.pow_mul]; rfl
        have hp1 : (65536 : Int) ^ (2 * i + 1) = 4294967296 ^ i * 65536 := by rw [Int.pow_succ, hp]
        refine Tot.ite (fun hh => ?_) (fun hh => ?_)
        · have hh : 2 * i + 1 < a.length := by have : ((2 * i + 1 : Nat) : Int) < (a.length : Int) := of_decide_eq_true hh; omega
          have hy := hd.get hh
          have ht2 := vb_take_succ (b := 65536) hh
          refine Tot.bind0 (idx_nat hh) (Tot.some_bind (Tot.ret ?_))
          have ey : IntKind.u32.wrap a[2 * i + 1] = a[2 * i + 1] := u32_small hy.1 (by omega)
          rw [ex, ey, u32_small (x := a[2 * i + 1] * 65536) (by omega) (by omega), u32_small (by omega) (by omega)]
          refine ⟨by omega, by omega, ?_⟩
          rw [show 2 * (i + 1) = 2 * i + 1 + 1 by omega, w, ht2, ht, g3, hp1, hp]
          show w (a.take (2 * i)) + _ = w (a.take (2 * i)) + _ + _
          grind
        · have hh : a.length ≤ 2 * i + 1 := by have : ¬ ((2 * i + 1 : Nat) : Int) < (a.length : Int) := of_decide_eq_false hh; omega
          refine Tot.ret ?_
          rw [ex]
          refine ⟨hx.1, by omega, ?_⟩
          have e1 : w (a.take (2 * (i + 1))) = w (a.take (2 * i + 1)) := by rw [w, vb_take_all (by omega), w, vb_take_all (by omega)]
          rw [e1, w, ht, g3, hp]
      · refine Tot.bind0 (app_ok (by simp; omega)) (Tot.ret ?_)
        simp only [hw2]
        refine ⟨⟨i + 1, rfl, by omega, g1.append (Dg.one ⟨k1, k2⟩), by simp [g2], ?_⟩, by show a.length + 1 - (((2 * (i + 1) : Nat) : Int)).toNat < a.length + 1 - ((2 * i : Nat) : Int).toNat; omega⟩
        rw [val_snoc, g2]
        exact k3
    · have h : a.length ≤ 2 * i := by have : ¬ ((2 * i : Nat) : Int) < (a.length : Int) := of_decide_eq_false h; omega
      refine Tot.ret ⟨g1, by show out.length = _; omega, ?_⟩
      rw [g3, w, vb_take_all h]
  · -- no leading zero: the value is too great for fewer limbs
    by_cases h0 : r = []
    · exact .inl h0
    · refine .inr fun hz => ?_
      have hrp : 0 < r.length := by
        cases r with
        | nil => exact absurd rfl h0
        | cons => simp
      have ha0 : a ≠ [] := fun e => by subst e; rw [h2] at hrp; exact absurd hrp (by decide)
      obtain ⟨q, x, rfl⟩ : ∃ q x, r = q ++ [x] := ⟨r.dropLast, r.getLast h0, (List.dropLast_concat_getLast h0).symm⟩
      have hx0 : x = 0 := by simpa using hz
      subst hx0
      rw [val_snoc, Int.mul_zero, Int.add_zero] at h3
      have b1 := (val_bound h1.left).2
      have b2 := vb_big h16 hd hn ha0
      have hq : q.length + 1 = (a.length + 1) / 2 := by simpa using h2
      have b3 : (4294967296 : Int) ^ q.length ≤ 65536 ^ (a.length - 1) := by
        rw [show (4294967296 : Int) = 65536 ^ 2 by decide, ← Int.pow_mul]
        exact vb_mono h16 (by omega)
      have : w a = vb 65536 a := rfl
      omega
end Go.Gv.R
