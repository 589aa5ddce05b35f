import Derived.Test.YtdpmkphjcjacfaaGreatDoorRP
import Derived.Test.YtdpmkphjcjacfaaGreatDoorRP
set_option linter.all false
namespace Go.Gv.RI
open Go Go.Gv Go.Gv.D

/-! ### digits to any base -/
def vb (b : Int) : List Int → Int
  | [] => 0
  | x :: xs => x + b * vb b xs
def Db (b : Int) (l : List Int) : Prop := ∀ x ∈ l, 0 ≤ x ∧ x < b
section
variable {b : Int}
theorem vb_append (l m : List Int) : vb b (l ++ m) = vb b l + b ^ l.length * vb b m := by
  induction l with
  | nil => simp [vb]
  | cons x l ih =>
    simp only [List.cons_append, vb, ih, List.length_cons, Int.pow_succ]
    grind
theorem vb_snoc (l : List Int) (x : Int) : vb b (l ++ [x]) = vb b l + b ^ l.length * x := by
  rw [vb_append]; simp [vb]
theorem vb_zeros : ∀ k, vb b (List.replicate k 0) = 0
  | 0 => rfl
  | k + 1 => by simp [List.replicate_succ, vb, vb_zeros k]
theorem Db.append {l m : List Int} (ha : Db b l) (hb : Db b m) : Db b (l ++ m) := fun x hx => (List.mem_append.1 hx).elim (ha x) (hb x)
theorem Db.left {l m : List Int} (h : Db b (l ++ m)) : Db b l := fun x hx => h x (List.mem_append_left _ hx)
theorem Db.right {l m : List Int} (h : Db b (l ++ m)) : Db b m := fun x hx => h x (List.mem_append_right _ hx)
theorem Db.one {x : Int} (h : 0 ≤ x ∧ x < b) : Db b [x] := fun y hy => by simp at hy; subst hy; exact h
theorem Db.nil : Db b [] := fun x hx => by simp at hx
theorem Db.take {l : List Int} (h : Db b l) (i : Nat) : Db b (l.take i) := fun x hx => h x (List.mem_of_mem_take hx)
theorem Db.drop {l : List Int} (h : Db b l) (i : Nat) : Db b (l.drop i) := fun x hx => h x (List.mem_of_mem_drop hx)
theorem Db.get {l : List Int} (h : Db b l) {i : Nat} (hi : i < l.length) : 0 ≤ l[i] ∧ l[i] < b := h _ (List.getElem_mem hi)
theorem vb_take_succ {a : List Int} {i : Nat} (h : i < a.length) : vb b (a.take (i + 1)) = vb b (a.take i) + b ^ i * a[i] := by
  rw [List.take_succ_eq_append_getElem h, vb_snoc, List.length_take, Nat.min_eq_left (by omega)]
theorem vb_take_all {a : List Int} {i : Nat} (h : a.length ≤ i) : vb b (a.take i) = vb b a := by
  rw [List.take_of_length_le h]
theorem vb_cut {a : List Int} {i : Nat} (h : i < a.length) : vb b a = vb b (a.take i) + b ^ i * (a[i] + b * vb b (a.drop (i + 1))) := by
  conv => lhs; rw [cut h]
  rw [vb_append, List.length_take, Nat.min_eq_left (by omega)]
  rfl
theorem vb_bound (hb : 1 < b) {l : List Int} (h : Db b l) : 0 ≤ vb b l ∧ vb b l < b ^ l.length := by
  induction l with
  | nil => simp [vb]
  | cons x l ih =>
    have h1 := h x (List.mem_cons_self ..)
    have h2 := ih fun y hy => h y (List.mem_cons_of_mem _ hy)
    simp only [vb, List.length_cons, Int.pow_succ]
    have h3 : b * (vb b l + 1) ≤ b * b ^ l.length := Int.mul_le_mul_of_nonneg_left (by omega) (by omega)
    have h4 : 0 ≤ b * vb b l := Int.mul_nonneg (by omega) h2.1
    rw [Int.mul_add, Int.mul_comm b (b ^ l.length)] at h3
    omega
theorem pow_pos' (hb : 1 < b) (n : Nat) : 0 < b ^ n := Int.pow_pos (by omega)
theorem vb_big (hb : 1 < b) {l : List Int} (h : Db b l) (hn : Nz l) (hl : l ≠ []) : b ^ (l.length - 1) ≤ vb b l := by
  obtain ⟨a, x, rfl⟩ : ∃ a x, l = a ++ [x] := ⟨l.dropLast, l.getLast hl, (List.dropLast_concat_getLast hl).symm⟩
  have hx : x ≠ 0 := fun e => by
    rcases hn with h | h
    · exact hl h
    · subst e; simp at h
  have h1 := h x (by simp)
  have h2 := vb_bound hb h.left
  rw [vb_snoc]
  simp only [List.length_append, List.length_singleton, Nat.add_sub_cancel]
  have : b ^ a.length * 1 ≤ b ^ a.length * x := Int.mul_le_mul_of_nonneg_left (by omega) (by have := pow_pos' hb a.length; omega)
  omega
theorem vb_mono (hb : 1 < b) {m n : Nat} (h : m ≤ n) : b ^ m ≤ b ^ n := by
  obtain ⟨d, rfl⟩ := Nat.exists_eq_add_of_le h
  rw [Int.pow_add]
  have h1 := pow_pos' hb m
  have h2 := pow_pos' hb d
  have : b ^ m * 1 ≤ b ^ m * b ^ d := Int.mul_le_mul_of_nonneg_left (by omega) (by omega)
  omega
theorem vb_longer (hb : 1 < b) {l m : List Int} (hl : Db b l) (hm : Db b m) (hn : Nz m) (h : l.length < m.length) : vb b l < vb b m := by
  have h1 := (vb_bound hb hl).2
  have h2 := vb_big hb hm hn (fun e => by subst e; simp at h)
  have h3 := vb_mono hb (show l.length ≤ m.length - 1 by omega)
  omega
theorem vb_inj (hb : 1 < b) : ∀ {l m : List Int}, Db b l → Db b m → l.length = m.length → vb b l = vb b m → l = m
  | [], [], _, _, _, _ => rfl
  | x :: l, y :: m, hl, hm, he, hv => by
    have h1 := hl x (List.mem_cons_self ..)
    have h2 := hm y (List.mem_cons_self ..)
    simp only [vb] at hv
    have h3 := congrArg (· % b) hv
    simp only [Int.add_mul_emod_self_left] at h3
    rw [Int.emod_eq_of_lt h1.1 h1.2, Int.emod_eq_of_lt h2.1 h2.2] at h3
    subst h3
    have h4 : b * vb b l = b * vb b m := by omega
    have h5 := Int.eq_of_mul_eq_mul_left (by omega) h4
    rw [vb_inj hb (fun z hz => hl z (List.mem_cons_of_mem _ hz)) (fun z hz => hm z (List.mem_cons_of_mem _ hz)) (by simpa using he) h5]
theorem vb_norm (hb : 1 < b) {l m : List Int} (hl : Db b l) (hm : Db b m) (nl : Nz l) (nm : Nz m) (hv : vb b l = vb b m) : l = m := by
  rcases Nat.lt_trichotomy l.length m.length with h | h | h
  · have := vb_longer hb hl hm nm h; omega
  · exact vb_inj hb hl hm h hv
  · have := vb_longer hb hm hl nl h; omega
theorem vb_nil (hb : 1 < b) {l : List Int} (h : Db b l) (hn : Nz l) (hv : vb b l = 0) : l = [] := vb_norm hb h Db.nil hn (.inl rfl) hv
theorem Trim.vb {l r : List Int} (h : Trim l r) : vb b r = vb b l := by
  obtain ⟨⟨k, e⟩, _⟩ := h
  rw [e, vb_append, vb_zeros]
  omega
theorem Trim.db {l r : List Int} (h : Trim l r) (hd : Db b l) : Db b r := by
  obtain ⟨⟨k, e⟩, _⟩ := h
  rw [e] at hd
  exact hd.left
end

theorem rtrim_tot {l : List Int} (hl : l.length < 4611686018427387904) : Tot (fun fuel => ref3_trim fuel l) (Trim l) :=
  Tot.bindq (trim_tot hl) fun _ h => Tot.ret h

/-- digits to the base 65536 -/
abbrev w (l : List Int) : Int := vb 65536 l
/-- a number of the reference -/
def Ok3 (l : List Int) : Prop := Db 65536 l ∧ Nz l ∧ l.length ≤ 100000
theorem h16 : (1 : Int) < 65536 := by decide

/-! ### limbs and digits -/
theorem Of3_tot {l : List Int} (hd : Dg l) (hl : l.length ≤ 10000) : Tot (fun fuel => ref3_Of fuel l) (fun r => Ok3 r ∧ w r = val l ∧ r.length ≤ 2 * l.length) := by
  unfold ref3_Of
  refine Tot.bindq (P := fun r => Db 65536 r ∧ r.length = 2 * l.length ∧ w r = val l) ?_ fun r ⟨h1, h2, h3⟩ => ?_
  · refine Tot.loop (fun st => ∃ i : Nat, st.2 = (i : Int) ∧ i ≤ l.length ∧ Db 65536 st.1 ∧ st.1.length = 2 * i ∧ w st.1 = val (l.take i)) (fun st => l.length - st.2.toNat)
      ⟨0, rfl, by omega, Db.nil, rfl, by simp [w, vb, val]⟩ fun st ⟨i, e, hi, g1, g2, g3⟩ => ?_
    obtain ⟨out, z⟩ := st
    simp only at e g1 g2 g3
    subst e
    refine Tot.ite (fun h => ?_) (fun h => ?_)
    · have h : i < l.length := by have : ((i : Nat) : Int) < (l.length : Int) := of_decide_eq_true h; omega
      have hx := hd.get h
      have ht := val_take_succ h
      refine Tot.bind0 (idx_nat h) (Tot.bind0 (idx_nat h) (Tot.bind0 (app_ok (by simp; omega)) (Tot.ret ?_)))
      have hw : IntKind.i64.wrap ((i : Int) + 1) = ((i + 1 : Nat) : Int) := by rw [i64_small (by omega) (by omega)]; omega
      have e1 : IntKind.i64.wrap (l[i].tmod 65536) = l[i] % 65536 := by rw [Int.tmod_eq_emod_of_nonneg hx.1, i64_small (by omega) (by omega)]
      have e2 : IntKind.i64.wrap (IntKind.u32.wrap (l[i].tdiv 65536)) = l[i] / 65536 := by rw [Int.tdiv_eq_ediv_of_nonneg hx.1, u32_small (by omega) (by omega), i64_small (by omega) (by omega)]
      simp only [hw, e1, e2]
      refine ⟨⟨i + 1, rfl, by omega, g1.append (fun y hy => ?_), by simp [g2]; omega, ?_⟩, by show l.length - (((i + 1 : Nat) : Int)).toNat < l.length - ((i : Nat) : Int).toNat; omega⟩
      · rcases List.mem_cons.1 hy with h | h
        · subst h; omega
        · simp at h; subst h; omega
      · rw [w, vb_append, g2, ht, ← g3]
        simp only [vb]
        rw [show (65536 : Int) ^ (2 * i) = 4294967296 ^ i by rw [Int.pow_mul]; rfl]
        have e3 : l[i] % 65536 + 65536 * (l[i] / 65536 + 65536 * 0) = l[i] := by omega
        rw [e3]
    · have h : i = l.length := by have : ¬ ((i : Nat) : Int) < (l.length : Int) := of_decide_eq_false h; omega
      subst h
      rw [List.take_length] at g3
      exact Tot.ret ⟨g1, g2, g3⟩
  · refine Tot.bindq (rtrim_tot (by omega)) fun t ht => Tot.ret ⟨⟨ht.db h1, ht.nz, ?_⟩, by rw [w, ht.vb]; exact h3, ?_⟩
    · have := ht.len; omega
    · have := ht.len; omega

end Go.Gv.RI
namespace Go.Gv.RI
open Go Go.Gv Go.Gv.D

/-! ### comparing -/
theorem Compare_tot {a b : List Int} (ha : Ok3 a) (hb : Ok3 b) : Tot (fun fuel => ref3_Compare fuel a b) (fun r => (r < 0 ↔ w a < w b) ∧ (r = 0 ↔ w a = w b)) := by
  obtain ⟨da, na, la⟩ := ha
  obtain ⟨db, nb, lb⟩ := hb
  unfold ref3_Compare
  refine Tot.ite (fun h => ?_) (fun h => ?_)
  · have h : a.length ≠ b.length := fun e => by rw [e] at h; simp at h
    refine Tot.ite (fun h1 => ?_) (fun h1 => ?_)
    · have h1 : ((a.length : Nat) : Int) < b.length := of_decide_eq_true h1
      have := vb_longer h16 da db nb (by omega)
      exact Tot.ret ⟨⟨fun _ => this, fun _ => by decide⟩, ⟨fun h => (by cases h), fun h => by unfold w at h; omega⟩⟩
    · have h1 : ¬ ((a.length : Nat) : Int) < b.length := of_decide_eq_false h1
      have := vb_longer h16 db da na (by omega)
      exact Tot.ret ⟨⟨fun h => (by cases h), fun h => by unfold w at h; omega⟩, ⟨fun h => (by cases h), fun h => by unfold w at h; omega⟩⟩
  · have hl : a.length = b.length := by
      have : ((a.length : Int) != (b.length : Int)) = false := h
      simp at this
      omega
    refine Tot.some_bind ?_
    rw [i64_small (by omega) (by omega)]
    refine Tot.bindq (P := fun x => match x with | .inl () => a = b | .inr r => (r < 0 ↔ w a < w b) ∧ (r = 0 ↔ w a = w b)) ?_ fun x hx => ?_
    · refine Tot.loop (fun st : Int => -1 ≤ st ∧ st < (a.length : Int) ∧ a.drop (st + 1).toNat = b.drop (st + 1).toNat) (fun st : Int => (st + 1).toNat) ⟨by omega, by omega, ?_⟩ fun st ⟨h0, h1, h2⟩ => ?_
      · rw [show ((a.length : Int) - 1 + 1).toNat = a.length by omega, List.drop_length, List.drop_eq_nil_of_le (by omega)]
      · refine Tot.ite (fun h => ?_) (fun h => ?_)
        · have h3 : 0 ≤ st := of_decide_eq_true h
          obtain ⟨i, rfl⟩ : ∃ i : Nat, st = (i : Int) := ⟨st.toNat, by omega⟩
          have hia : i < a.length := by omega
          have hib : i < b.length := by omega
          have h2' : a.drop (i + 1) = b.drop (i + 1) := h2
          have ea : idx a (i : Int) = some a[i] := idx_nat hia
          have eb : idx b (i : Int) = some b[i] := idx_nat hib
          have va := vb_cut (b := 65536) hia
          have vb' := vb_cut (b := 65536) hib
          rw [h2'] at va
          have ba := vb_bound h16 (da.take i)
          have bb := vb_bound h16 (db.take i)
          rw [List.length_take, Nat.min_eq_left (by omega)] at ba bb
          have hpos : (0 : Int) < 65536 ^ i := Int.pow_pos (by decide)
          have key : ∀ {x y z u v : Int}, 0 ≤ u → v < 65536 ^ i → 0 ≤ v → x < y → v + 65536 ^ i * (x + z) < u + 65536 ^ i * (y + z) := fun {x y z u v} h1 h2 h3 h4 => by
            have : (65536 : Int) ^ i * (x + z + 1) ≤ 65536 ^ i * (y + z) := Int.mul_le_mul_of_nonneg_left (by omega) (by omega)
            rw [Int.mul_add _ _ 1] at this
            omega
          refine Tot.bind0 ea (Tot.bind0 eb (Tot.ite (fun hlt => ?_) (fun hlt => Tot.bind0 ea (Tot.bind0 eb (Tot.ite (fun hgt => ?_) (fun hgt => ?_))))))
          · have hlt : a[i] < b[i] := of_decide_eq_true hlt
            refine Tot.ret ?_
            have : w a < w b := by
              rw [w, w, va, vb']
              exact key bb.1 ba.2 ba.1 hlt
            exact ⟨⟨fun _ => this, fun _ => by decide⟩, ⟨fun h => (by cases h), fun _ => by omega⟩⟩
          · have hgt : b[i] < a[i] := of_decide_eq_true hgt
            refine Tot.ret ?_
            have : w b < w a := by
              rw [w, w, va, vb']
              exact key ba.1 bb.2 bb.1 hgt
            exact ⟨⟨fun h => (by cases h), fun _ => by omega⟩, ⟨fun h => (by cases h), fun _ => by omega⟩⟩
          · have hlt : ¬ a[i] < b[i] := of_decide_eq_false hlt
            have hgt : ¬ b[i] < a[i] := of_decide_eq_false hgt
            have he : a[i] = b[i] := by omega
            refine Tot.ret ?_
            have hw : IntKind.i64.wrap ((i : Int) - 1) = (i : Int) - 1 := i64_wrap (by omega) (by omega)
            show (_ ∧ _ ∧ _) ∧ _
            rw [hw]
            refine ⟨⟨by omega, by omega, ?_⟩, by omega⟩
            rw [show ((i : Int) - 1 + 1).toNat = i by omega, List.drop_eq_getElem_cons hia, List.drop_eq_getElem_cons hib, he, h2']
        · have h3 : ¬ 0 ≤ st := of_decide_eq_false h
          refine Tot.ret ?_
          rw [show (st + 1).toNat = 0 by omega] at h2
          exact h2
    · cases x with
      | inl u =>
        have hx : a = b := hx
        subst hx
        exact Tot.contl (Tot.ret ⟨⟨fun h => (by cases h), fun h => by omega⟩, ⟨fun _ => rfl, fun _ => rfl⟩⟩)
      | inr r => exact Tot.contr hx

/-! ### sums -/
theorem Plus3_tot {a b : List Int} (ha : Ok3 a) (hb : Ok3 b) (la : a.length ≤ 20000) (lb : b.length ≤ 20000) : Tot (fun fuel => ref3_Plus fuel a b) (fun r => Ok3 r ∧ w r = w a + w b) := by
  obtain ⟨da, na, _⟩ := ha
  obtain ⟨db, nb, _⟩ := hb
  unfold ref3_Plus
  refine Tot.bindq (P := fun r => Db 65536 r ∧ r.length ≤ 20001 ∧ w r = w a + w b) ?_ fun r ⟨h1, h2, h3⟩ => ?_
  · refine Tot.loop (fun st => ∃ i : Nat, st.2.2 = (i : Int) ∧ i ≤ 20001 ∧ Db 65536 st.1 ∧ st.1.length = i ∧ 0 ≤ st.2.1 ∧ st.2.1 ≤ 1 ∧ (20000 < i → st.2.1 = 0) ∧ w st.1 + 65536 ^ i * st.2.1 = w (a.take i) + w (b.take i)) (fun st => 20002 - st.2.2.toNat)
      ⟨0, rfl, by omega, Db.nil, rfl, Int.le_refl 0, (by decide : (0 : Int) ≤ 1), fun h => by omega, by simp [w, vb]⟩ fun st ⟨i, e, hi, g1, g2, g3, g4, g5, g6⟩ => ?_
    obtain ⟨out, carry, k⟩ := st
    simp only at e g1 g2 g3 g4 g5 g6
    subst e
    refine Tot.ite (fun h => ?_) (fun h => ?_)
    · have hi2 : i ≤ 20000 := by
        rw [Bool.or_eq_true, Bool.or_eq_true] at h
        rcases Nat.lt_or_ge 20000 i with h1 | h1
        · have := g5 h1
          rcases h with h | h | h <;> have h := of_decide_eq_true h <;> simp only at h <;> omega
        · exact h1
      refine Tot.bindq (P := fun s => 0 ≤ s ∧ s ≤ 65536 ∧ 65536 ^ i * s + w (a.take i) = 65536 ^ i * carry + w (a.take (i + 1))) ?_ fun s ⟨k1, k2, k3⟩ => ?_
      · refine Tot.ite (fun hh => ?_) (fun hh => ?_)
        · have hh : i < a.length := by have : ((i : Nat) : Int) < (a.length : Int) := of_decide_eq_true hh; omega
          have hx := da.get hh
          have ht := vb_take_succ (b := 65536) hh
          refine Tot.bind0 (idx_nat hh) (Tot.ret ?_)
          rw [i64_small (by omega) (by omega)]
          refine ⟨by omega, by omega, ?_⟩
          show 65536 ^ i * (carry + a[i]) + vb 65536 (a.take i) = 65536 ^ i * carry + vb 65536 (a.take (i + 1))
          rw [ht, Int.mul_add]
          omega
        · have hh : a.length ≤ i := by have : ¬ ((i : Nat) : Int) < (a.length : Int) := of_decide_eq_false hh; omega
          refine Tot.ret ⟨g3, by show carry ≤ 65536; omega, ?_⟩
          show _ + vb 65536 _ = _ + vb 65536 _
          rw [vb_take_all hh, vb_take_all (a := a) (i := i + 1) (by omega)]
      · refine Tot.bindq (P := fun t => 0 ≤ t ∧ t ≤ 131071 ∧ 65536 ^ i * t + w (b.take i) = 65536 ^ i * s + w (b.take (i + 1))) ?_ fun t ⟨m1, m2, m3⟩ => ?_
        · refine Tot.ite (fun hh => ?_) (fun hh => ?_)
          · have hh : i < b.length := by have : ((i : Nat) : Int) < (b.length : Int) := of_decide_eq_true hh; omega
            have hx := db.get hh
            have ht := vb_take_succ (b := 65536) hh
            refine Tot.bind0 (idx_nat hh) (Tot.ret ?_)
            rw [i64_small (by omega) (by omega)]
            refine ⟨by omega, by omega, ?_⟩
            show _ + vb 65536 _ = _ + vb 65536 _
            rw [ht, Int.mul_add]
            omega
          · have hh : b.length ≤ i := by have : ¬ ((i : Nat) : Int) < (b.length : Int) := of_decide_eq_false hh; omega
            refine Tot.ret ⟨k1, by omega, ?_⟩
            show _ + vb 65536 _ = _ + vb 65536 _
            rw [vb_take_all hh, vb_take_all (a := b) (i := i + 1) (by omega)]
        · refine Tot.bind0 (app_ok (by simp; omega)) (Tot.ret ?_)
          have hw : IntKind.i64.wrap ((i : Int) + 1) = ((i + 1 : Nat) : Int) := by rw [i64_small (by omega) (by omega)]; omega
          have e1 : t.tmod 65536 = t % 65536 := Int.tmod_eq_emod_of_nonneg m1
          have e2 : IntKind.i64.wrap (t.tdiv 65536) = t / 65536 := by rw [Int.tdiv_eq_ediv_of_nonneg m1, i64_small (by omega) (by omega)]
          simp only [hw, e1, e2]
          refine ⟨⟨i + 1, rfl, by omega, g1.append (Db.one (by omega)), by simp [g2], by omega, by omega, fun h => ?_, ?_⟩, by show 20002 - (((i + 1 : Nat) : Int)).toNat < 20002 - ((i : Nat) : Int).toNat; omega⟩
          · -- both numbers are at their end
            have e3 : w (a.take i) = w (a.take (i + 1)) := by rw [w, w, vb_take_all (by omega), vb_take_all (by omega)]
            have e4 : w (b.take i) = w (b.take (i + 1)) := by rw [w, w, vb_take_all (by omega), vb_take_all (by omega)]
            have hp : (65536 : Int) ^ i ≠ 0 := Int.ne_of_gt (Int.pow_pos (by decide))
            have e5 : s = carry := Int.eq_of_mul_eq_mul_left hp (by omega)
            have e6 : t = s := Int.eq_of_mul_eq_mul_left hp (by omega)
            omega
          · rw [w, vb_snoc, g2, Int.pow_succ]
            have e3 : t = t % 65536 + 65536 * (t / 65536) := by omega
            have e4 : vb 65536 out = w out := rfl
            rw [e4]
            generalize (65536 : Int) ^ i = P at *
            generalize t % 65536 = u at *
            generalize t / 65536 = v at *
            subst e3
            grind
    · rw [Bool.or_eq_false_iff, Bool.or_eq_false_iff] at h
      obtain ⟨h1, h2, h3⟩ := h
      have h1 : ¬ ((i : Nat) : Int) < (a.length : Int) := of_decide_eq_false h1
      have h2 : ¬ ((i : Nat) : Int) < (b.length : Int) := of_decide_eq_false h2
      have h3 : ¬ carry > 0 := of_decide_eq_false h3
      refine Tot.ret ⟨g1, by show out.length ≤ _; omega, ?_⟩
      have hc : carry = 0 := by omega
      rw [hc, Int.mul_zero, Int.add_zero] at g6
      show w out = _
      rw [g6, w, w, vb_take_all (by omega), vb_take_all (by omega)]
  · refine Tot.bindq (rtrim_tot (by omega)) fun t ht => Tot.ret ⟨⟨ht.db h1, ht.nz, ?_⟩, by rw [w, ht.vb]; exact h3⟩
    have := ht.len; omega

theorem Minus3_tot {a b : List Int} (ha : Ok3 a) (hb : Ok3 b) (hv : w b ≤ w a) : Tot (fun fuel => ref3_Minus fuel a b) (fun r => Ok3 r ∧ w r = w a - w b) := by
  obtain ⟨da, na, la⟩ := ha
  obtain ⟨db, nb, lb⟩ := hb
  have hlen : b.length ≤ a.length := by
    rcases Nat.lt_or_ge a.length b.length with h | h
    · have := vb_longer h16 da db nb h; unfold w at hv; omega
    · exact h
  unfold ref3_Minus
  refine Tot.bindq (P := fun r => Db 65536 r ∧ r.length = a.length ∧ w r = w a - w b) ?_ fun r ⟨h1, h2, h3⟩ => ?_
  · refine Tot.loop (fun st => ∃ i : Nat, st.2.2 = (i : Int) ∧ i ≤ a.length ∧ Db 65536 st.1 ∧ st.1.length = i ∧ 0 ≤ st.2.1 ∧ st.2.1 ≤ 1 ∧ w st.1 = w (a.take i) - w (b.take i) + 65536 ^ i * st.2.1) (fun st => a.length - st.2.2.toNat)
      ⟨0, rfl, by omega, Db.nil, rfl, Int.le_refl 0, (by decide : (0 : Int) ≤ 1), by simp [w, vb]⟩ fun st ⟨i, e, hi, g1, g2, g3, g4, g5⟩ => ?_
    obtain ⟨out, bor, k⟩ := st
    simp only at e g1 g2 g3 g4 g5
    subst e
    refine Tot.ite (fun h => ?_) (fun h => ?_)
    · have h : i < a.length := by have : ((i : Nat) : Int) < (a.length : Int) := of_decide_eq_true h; omega
      have hx := da.get h
      have ta := vb_take_succ (b := 65536) h
      refine Tot.bind0 (idx_nat h) ?_
      have hxb : IntKind.i64.wrap (a[i] - bor) = a[i] - bor := i64_small (by omega) (by omega)
      rw [hxb]
      refine Tot.bindq (P := fun x => -65536 ≤ x ∧ x < 65536 ∧ w (a.take (i + 1)) - w (b.take (i + 1)) = w (a.take i) - w (b.take i) + 65536 ^ i * (x + bor)) ?_ fun x ⟨k1, k2, k3⟩ => ?_
      · refine Tot.ite (fun hh => ?_) (fun hh => ?_)
        · have hh : i < b.length := by have : ((i : Nat) : Int) < (b.length : Int) := of_decide_eq_true hh; omega
          have hy := db.get hh
          have tb := vb_take_succ (b := 65536) hh
          refine Tot.bind0 (idx_nat hh) (Tot.some_bind (Tot.ret ?_))
          rw [i64_small (by omega) (by omega)]
          refine ⟨by omega, by omega, ?_⟩
          show vb 65536 _ - vb 65536 _ = _
          rw [ta, tb]
          show _ = vb 65536 _ - vb 65536 _ + _
          grind
        · have hh : b.length ≤ i := by have : ¬ ((i : Nat) : Int) < (b.length : Int) := of_decide_eq_false hh; omega
          refine Tot.ret ⟨by omega, by omega, ?_⟩
          show vb 65536 _ - vb 65536 _ = vb 65536 _ - vb 65536 _ + _
          rw [ta, vb_take_all hh, vb_take_all (a := b) (i := i + 1) (by omega)]
          grind
      · refine Tot.bindq (P := fun j => 0 ≤ j.1 ∧ j.1 ≤ 1 ∧ 0 ≤ j.2 ∧ j.2 < 65536 ∧ j.2 = x + 65536 * j.1) ?_ fun j ⟨m1, m2, m3, m4, m5⟩ => ?_
        · refine Tot.ite (fun hh => Tot.ret ?_) (fun hh => Tot.ret ?_)
          · have hh : x < 0 := of_decide_eq_true hh
            rw [i64_small (by omega) (by omega)]
            refine ⟨?_, ?_, ?_, ?_, ?_⟩ <;> simp only <;> omega
          · have hh : ¬ x < 0 := of_decide_eq_false hh
            refine ⟨?_, ?_, ?_, ?_, ?_⟩ <;> simp only <;> omega
        · refine Tot.bind0 (app_ok (by simp; omega)) (Tot.ret ?_)
          have hw : IntKind.i64.wrap ((i : Int) + 1) = ((i + 1 : Nat) : Int) := by rw [i64_small (by omega) (by omega)]; omega
          simp only [hw]
          refine ⟨⟨i + 1, rfl, by omega, g1.append (Db.one ⟨m3, m4⟩), by simp [g2], m1, m2, ?_⟩, by show a.length - (((i + 1 : Nat) : Int)).toNat < a.length - ((i : Nat) : Int).toNat; omega⟩
          rw [w, vb_snoc, g2, k3, Int.pow_succ, m5]
          show w out + _ = _
          rw [g5]
          generalize (65536 : Int) ^ i = P
          grind
    · have h : i = a.length := by have : ¬ ((i : Nat) : Int) < (a.length : Int) := of_decide_eq_false h; omega
      subst h
      refine Tot.ret ⟨g1, g2, ?_⟩
      show w out = _
      rw [w, w, w, vb_take_all (Nat.le_refl _), vb_take_all hlen] at g5
      have := (vb_bound h16 g1).2
      rw [g2] at this
      unfold w at *
      rcases (by omega : bor = 0 ∨ bor = 1) with h0 | h0
      · rw [h0] at g5; omega
      · rw [h0] at g5; omega
  · refine Tot.bindq (rtrim_tot (by omega)) fun t ht => Tot.ret ⟨⟨ht.db h1, ht.nz, ?_⟩, by rw [w, ht.vb]; exact h3⟩
    have := ht.len; omega
end Go.Gv.RI
namespace Go.Gv.RI
open Go Go.Gv Go.Gv.D

/-! ### binary digits -/
def b2 (b : Bool) : Int := if b then 1 else 0
def vbits (l : List Bool) : Int := vb 2 (l.map b2)
theorem b2_db (l : List Bool) : Db 2 (l.map b2) := fun x hx => by
  obtain ⟨b, _, rfl⟩ := List.mem_map.1 hx
  cases b <;> simp [b2]
theorem vbits_bound (l : List Bool) : 0 ≤ vbits l ∧ vbits l < 2 ^ l.length := by
  have := vb_bound (by decide) (b2_db l)
  simpa [vbits] using this
theorem vbits_append (l m : List Bool) : vbits (l ++ m) = vbits l + 2 ^ l.length * vbits m := by
  unfold vbits
  rw [List.map_append, vb_append, List.length_map]
theorem vbits_snoc (l : List Bool) (b : Bool) : vbits (l ++ [b]) = vbits l + 2 ^ l.length * b2 b := by
  rw [vbits_append]; simp [vbits, vb]
/-- trimmed: the last digit is set -/
def TrimB (l r : List Bool) : Prop := (∃ k, l = r ++ List.replicate k false) ∧ (r = [] ∨ r.getLast? = some true)
theorem vbits_zeros (k : Nat) : vbits (List.replicate k false) = 0 := by
  unfold vbits
  rw [List.map_replicate]
  exact vb_zeros k
theorem TrimB.val {l r : List Bool} (h : TrimB l r) : vbits r = vbits l := by
  obtain ⟨⟨k, e⟩, _⟩ := h
  rw [e, vbits_append, vbits_zeros]
  omega
theorem TrimB.len {l r : List Bool} (h : TrimB l r) : r.length ≤ l.length := by
  obtain ⟨⟨k, e⟩, _⟩ := h
  rw [e]; simp
/-- the number of digits of a trimmed list -/
theorem TrimB.Len {l r : List Bool} (h : TrimB l r) : Len (vbits l) r.length := by
  rw [← h.val]
  refine ⟨by omega, by have := (vbits_bound r).2; simpa using this, fun hp => ?_⟩
  rcases h.2 with h0 | h0
  · subst h0; simp at hp
  · have hr : r ≠ [] := fun e => by subst e; simp at h0
    have e := List.dropLast_concat_getLast hr
    have e2 : r.getLast hr = true := by
      have := List.getLast?_eq_some_getLast hr
      rw [h0] at this
      exact (Option.some.inj this).symm
    rw [e2] at e
    have hv := vbits_snoc r.dropLast true
    rw [e] at hv
    rw [hv]
    have := (vbits_bound r.dropLast).1
    have hl : r.dropLast.length = r.length - 1 := List.length_dropLast
    rw [hl]
    simp [b2]
    omega

theorem tailB_tot {l : List Bool} (hl : l.length < 4611686018427387904) : Tot (fun fuel => loopN (fun (s71 : (List Bool)) => (Option.bind (if (decide (((List.length s71 : Nat) : Int) > 0)) then (Option.bind (idx s71 (IntKind.i64.wrap (((List.length s71 : Nat) : Int) - 1))) fun x82 => (some ((!x82)))) else (some (false))) fun (j79 : Bool) => (if j79 then (Option.bind (sub s71 0 (IntKind.i64.wrap (((List.length s71 : Nat) : Int) - 1))) fun x89 => (some (.inl x89))) else (some (.inr (s71)))))) fuel l) (TrimB l) := by
  refine Tot.loop (fun st => ∃ k, l = st ++ List.replicate k false) (fun st => st.length) ⟨0, by simp⟩ fun st ⟨k, hk⟩ => ?_
  have hsl : st.length ≤ l.length := by rw [hk]; simp
  by_cases h0 : st = []
  · subst h0
    refine Tot.bindq (P := fun j => j = false) (Tot.if_ rfl (Tot.ret rfl)) fun j hj => ?_
    subst hj
    exact Tot.if_ rfl (Tot.ret ⟨⟨k, hk⟩, .inl rfl⟩)
  · have hp : 0 < st.length := by
      cases st with
      | nil => exact absurd rfl h0
      | cons => simp
    have hw : IntKind.i64.wrap ((st.length : Int) - 1) = ((st.length - 1 : Nat) : Int) := by rw [i64_small (by omega) (by omega)]; omega
    rw [hw]
    have hlast : st.getLast? = some (st[st.length - 1]'(by omega)) := by
      rw [List.getLast?_eq_getElem?, ← List.getElem?_eq_getElem]
    refine Tot.bindq (P := fun j => j = !(st[st.length - 1]'(by omega))) (Tot.it (decide_eq_true (by omega)) (Tot.bind0 (idx_nat (by omega)) (Tot.ret rfl))) fun j hj => ?_
    subst hj
    generalize (st[st.length - 1]'(by omega)) = x at hlast
    refine Tot.ite (fun hx => ?_) (fun hx => ?_)
    · have hx : x = false := by simpa using hx
      subst hx
      refine Tot.bind0 (sub_ok (by omega) (by omega) (by omega)) (Tot.ret ⟨⟨k + 1, ?_⟩, ?_⟩)
      · have e : st = st.dropLast ++ [false] := by
          have h1 := List.dropLast_concat_getLast h0
          have h2 : st.getLast h0 = false := by
            have := List.getLast?_eq_some_getLast h0
            rw [hlast] at this
            exact (Option.some.inj this).symm
          rw [h2] at h1
          exact h1.symm
        show l = (st.take (((st.length - 1 : Nat) : Int)).toNat).drop (0 : Int).toNat ++ _
        rw [show (((st.length - 1 : Nat) : Int)).toNat = st.length - 1 by omega, show (0 : Int).toNat = 0 from rfl, List.drop_zero, ← List.dropLast_eq_take, hk]
        conv => lhs; rw [e]
        rw [List.append_assoc, List.replicate_succ]
        rfl
      · show ((st.take (((st.length - 1 : Nat) : Int)).toNat).drop (0 : Int).toNat).length < st.length
        simp
        omega
    · have hx : x = true := by simpa using hx
      subst hx
      exact Tot.ret ⟨⟨k, hk⟩, .inr hlast⟩

theorem b2_mod {x : Int} (h : 0 ≤ x) : b2 (x.tmod 2 == 1) = x % 2 := by
  rw [Int.tmod_eq_emod_of_nonneg h]
  rcases (by omega : x % 2 = 0 ∨ x % 2 = 1) with e | e <;> rw [e] <;> rfl
theorem mod_twice {a p : Int} (hp : 0 < p) : a % (p * 2) = a % p + p * (a / p % 2) := by
  have h1 := Int.emod_add_mul_ediv a p
  have h2 := Int.emod_add_mul_ediv (a / p) 2
  have h3 : a = (a % p + p * (a / p % 2)) + (p * 2) * (a / p / 2) := by grind
  have h4 := Int.emod_nonneg a (Int.ne_of_gt hp)
  have h5 := Int.emod_lt_of_pos a hp
  conv => lhs; rw [h3]
  rw [Int.add_mul_emod_self_left]
  rcases (by omega : a / p % 2 = 0 ∨ a / p % 2 = 1) with e | e <;> rw [e] <;> apply Int.emod_eq_of_lt <;> omega
theorem Ones_tot {a : List Int} (ha : Ok3 a) : Tot (fun fuel => ref3_Ones fuel a) (fun r => vbits r = w a ∧ (r = [] ∨ r.getLast? = some true) ∧ r.length ≤ 16 * a.length) := by
  obtain ⟨da, na, la⟩ := ha
  unfold ref3_Ones
  refine Tot.bindq (P := fun r => vbits r = w a ∧ r.length = 16 * a.length) ?_ fun r ⟨h1, h2⟩ => ?_
  · refine Tot.loop (fun st => ∃ i : Nat, st.2 = (i : Int) ∧ i ≤ a.length ∧ st.1.length = 16 * i ∧ vbits st.1 = w (a.take i)) (fun st => a.length - st.2.toNat)
      ⟨0, rfl, by omega, rfl, by simp [w, vb, vbits]⟩ fun st ⟨i, e, hi, g1, g2⟩ => ?_
    obtain ⟨out, k⟩ := st
    simp only at e g1 g2
    subst e
    refine Tot.ite (fun h => ?_) (fun h => ?_)
    · have h : i < a.length := by have : ((i : Nat) : Int) < (a.length : Int) := of_decide_eq_true h; omega
      have hx := da.get h
      have ta := vb_take_succ (b := 65536) h
      refine Tot.bind0 (idx_nat h) ?_
      refine Tot.bindq (P := fun o => o.length = 16 * (i + 1) ∧ vbits o = w (a.take (i + 1))) ?_ fun o ⟨k1, k2⟩ => ?_
      · refine Tot.loop (fun st => ∃ j : Nat, st.2.2 = (j : Int) ∧ j ≤ 16 ∧ st.1.length = 16 * i + j ∧ st.2.1 = a[i] / 2 ^ j ∧ vbits st.1 = w (a.take i) + 65536 ^ i * (a[i] % 2 ^ j)) (fun st => 16 - st.2.2.toNat)
          ⟨0, rfl, by omega, g1, by simp, by simp [g2, Int.emod_one]⟩ fun st ⟨j, e, hj, m1, m2, m3⟩ => ?_
        obtain ⟨o, x, z⟩ := st
        simp only at e m1 m2 m3
        subst e
        have hxx : 0 ≤ x := by rw [m2]; exact Int.ediv_nonneg hx.1 (Int.le_of_lt (Int.pow_pos (by decide)))
        have hx2 : x < 65536 := by rw [m2]; exact Int.lt_of_le_of_lt (Int.ediv_le_self _ hx.1) hx.2
        refine Tot.ite (fun hh => ?_) (fun hh => ?_)
        · have hh : j < 16 := by have : ((j : Nat) : Int) < 16 := of_decide_eq_true hh; omega
          refine Tot.bind0 (app_ok (by simp; omega)) (Tot.ret ?_)
          have hw : IntKind.i64.wrap ((j : Int) + 1) = ((j + 1 : Nat) : Int) := by rw [i64_small (by omega) (by omega)]; omega
          have e2 : IntKind.i64.wrap (x.tdiv 2) = x / 2 := by rw [Int.tdiv_eq_ediv_of_nonneg hxx, i64_small (by omega) (by omega)]
          simp only [hw, e2]
          have hp : (0 : Int) < 2 ^ j := Int.pow_pos (by decide)
          refine ⟨⟨j + 1, rfl, by omega, by simp [m1]; omega, ?_, ?_⟩, by show 16 - (((j + 1 : Nat) : Int)).toNat < 16 - ((j : Nat) : Int).toNat; omega⟩
          · rw [m2, Int.pow_succ, Int.ediv_ediv_of_nonneg (Int.le_of_lt hp)]
          · rw [vbits_snoc, m3, b2_mod hxx, m1, show 16 * i + j = 16 * i + j from rfl, Int.pow_add, Int.pow_mul, show (2 : Int) ^ 16 = 65536 by decide, m2]
            have e3 : a[i] % 2 ^ (j + 1) = a[i] % 2 ^ j + 2 ^ j * (a[i] / 2 ^ j % 2) := by
              rw [Int.pow_succ]
              exact mod_twice hp
            rw [e3]
            grind
        · have hh : j = 16 := by have : ¬ ((j : Nat) : Int) < 16 := of_decide_eq_false hh; omega
          subst hh
          refine Tot.ret ⟨by show o.length = _; omega, ?_⟩
          show vbits o = _
          rw [m3, show (2 : Int) ^ 16 = 65536 by decide, Int.emod_eq_of_lt hx.1 hx.2, w, w, ta]
      · refine Tot.ret ?_
        have hw : IntKind.i64.wrap ((i : Int) + 1) = ((i + 1 : Nat) : Int) := by rw [i64_small (by omega) (by omega)]; omega
        simp only [hw]
        exact ⟨⟨i + 1, rfl, by omega, k1, k2⟩, by show a.length - (((i + 1 : Nat) : Int)).toNat < a.length - ((i : Nat) : Int).toNat; omega⟩
    · have h : i = a.length := by have : ¬ ((i : Nat) : Int) < (a.length : Int) := of_decide_eq_false h; omega
      subst h
      rw [List.take_length] at g2
      exact Tot.ret ⟨g2, g1⟩
  · refine Tot.bindq (tailB_tot (by omega)) fun t ht => Tot.ret ⟨by rw [ht.val, h1], ht.2, ?_⟩
    have := ht.len
    omega

theorem Binary_tot {l : List Bool} (hl : l.length ≤ 400000) : Tot (fun fuel => ref3_Binary fuel l) (fun r => Ok3 r ∧ w r = vbits l) := by
  unfold ref3_Binary
  refine Tot.bindq (P := fun r => Db 65536 r ∧ r.length ≤ (l.length + 15) / 16 ∧ w r = vbits l) ?_ fun r ⟨h1, h2, h3⟩ => ?_
  · refine Tot.loop (fun st => ∃ i : Nat, st.2 = ((16 * i : Nat) : Int) ∧ 16 * i ≤ l.length + 15 ∧ Db 65536 st.1 ∧ st.1.length = i ∧ w st.1 = vbits (l.take (16 * i))) (fun st => l.length + 16 - st.2.toNat)
      ⟨0, rfl, by omega, Db.nil, rfl, by simp [w, vb, vbits]⟩ fun st ⟨i, e, hi, g1, g2, g3⟩ => ?_
    obtain ⟨out, z⟩ := st
    simp only at e g1 g2 g3
    subst e
    refine Tot.ite (fun h => ?_) (fun h => ?_)
    · have h : 16 * i < l.length := by have : ((16 * i : Nat) : Int) < (l.length : Int) := of_decide_eq_true h; omega
      refine Tot.bindq (P := fun x => x = vbits ((l.drop (16 * i)).take 16)) ?_ fun x hx => ?_
      · refine Tot.loop (fun st => ∃ j : Nat, st.2 = (j : Int) - 1 ∧ j ≤ 16 ∧ st.1 = vbits (((l.drop (16 * i)).take 16).drop j)) (fun st => (st.2 + 1).toNat)
          ⟨16, rfl, by omega, by rw [List.drop_eq_nil_of_le (by simp; omega)]; rfl⟩ fun st ⟨j, e, hj, m1⟩ => ?_
        obtain ⟨x, z⟩ := st
        simp only at e m1
        subst e
        have hlt : (((l.drop (16 * i)).take 16).drop j).length ≤ 16 := by simp; omega
        have hxb := vbits_bound (((l.drop (16 * i)).take 16).drop j)
        have hxb2 : vbits (((l.drop (16 * i)).take 16).drop j) < 65536 := Int.lt_of_lt_of_le hxb.2 (by
          have := vb_mono (b := 2) (by decide) hlt
          exact this)
        rw [← m1] at hxb hxb2
        refine Tot.ite (fun hh => ?_) (fun hh => ?_)
        · have hh : 1 ≤ j := by have : (j : Int) - 1 ≥ 0 := of_decide_eq_true hh; omega
          have hw : IntKind.i64.wrap (((16 * i : Nat) : Int) + ((j : Int) - 1)) = ((16 * i + (j - 1) : Nat) : Int) := by rw [i64_small (by omega) (by omega)]; omega
          have hw2 : IntKind.i64.wrap ((j : Int) - 1 - 1) = ((j - 1 : Nat) : Int) - 1 := by rw [i64_small (by omega) (by omega)]; omega
          simp only [hw, hw2]
          refine Tot.bindq (P := fun y => y = l.getD (16 * i + (j - 1)) false) ?_ fun y hy => ?_
          · refine Tot.ite (fun hq => ?_) (fun hq => ?_)
            · have hq : 16 * i + (j - 1) < l.length := by have : ((16 * i + (j - 1) : Nat) : Int) < (l.length : Int) := of_decide_eq_true hq; omega
              exact Tot.bind0 (idx_nat hq) (Tot.ret (by simp [List.getD, hq]))
            · have hq : l.length ≤ 16 * i + (j - 1) := by have : ¬ ((16 * i + (j - 1) : Nat) : Int) < (l.length : Int) := of_decide_eq_false hq; omega
              exact Tot.ret (by simp [List.getD, hq])
          · have hstep : vbits (((l.drop (16 * i)).take 16).drop (j - 1)) = b2 y + 2 * x := by
              subst hy
              rw [m1]
              by_cases hq : 16 * i + (j - 1) < l.length
              · have hj1 : j - 1 < ((l.drop (16 * i)).take 16).length := by simp; omega
                rw [List.drop_eq_getElem_cons hj1, show j - 1 + 1 = j by omega]
                have : ((l.drop (16 * i)).take 16)[j - 1]'hj1 = l.getD (16 * i + (j - 1)) false := by
                  simp [List.getD, hq]
                rw [this]
                rfl
              · rw [List.drop_eq_nil_of_le (by simp; omega), List.drop_eq_nil_of_le (by simp; omega)]
                simp [List.getD, Nat.not_lt.1 hq, vbits, vb, b2]
            refine Tot.bindq (P := fun q => q = b2 y + 2 * x) ?_ fun q hq => ?_
            · have hw3 : IntKind.i64.wrap (x * 2) = x * 2 := i64_small (by omega) (by omega)
              rw [hw3]
              refine Tot.ite (fun hy1 => Tot.some_bind (Tot.ret ?_)) (fun hy1 => Tot.ret ?_)
              · rw [i64_small (by omega) (by omega), hy1]
                simp [b2]; omega
              · rw [hy1]
                simp [b2]; omega
            · refine Tot.ret ⟨⟨j - 1, rfl, by omega, by rw [hq, hstep]⟩, ?_⟩
              show (((j - 1 : Nat) : Int) - 1 + 1).toNat < ((j : Int) - 1 + 1).toNat
              omega
        · have hh : j = 0 := by have : ¬ (j : Int) - 1 ≥ 0 := of_decide_eq_false hh; omega
          subst hh
          refine Tot.ret ?_
          show x = _
          rw [m1, List.drop_zero]
      · refine Tot.bind0 (app_ok (by simp; omega)) (Tot.ret ?_)
        have hw : IntKind.i64.wrap (((16 * i : Nat) : Int) + 16) = ((16 * (i + 1) : Nat) : Int) := by rw [i64_small (by omega) (by omega)]; omega
        simp only [hw]
        have hb := vbits_bound ((l.drop (16 * i)).take 16)
        have hb2 : vbits ((l.drop (16 * i)).take 16) < 65536 := Int.lt_of_lt_of_le hb.2 (by
          have := vb_mono (b := 2) (by decide) (show ((l.drop (16 * i)).take 16).length ≤ 16 by simp; omega)
          exact this)
        refine ⟨⟨i + 1, rfl, by omega, g1.append (Db.one (by omega)), by simp [g2], ?_⟩, by show l.length + 16 - (((16 * (i + 1) : Nat) : Int)).toNat < l.length + 16 - ((16 * i : Nat) : Int).toNat; omega⟩
        rw [w, vb_snoc, g2, hx]
        have e1 : l.take (16 * (i + 1)) = l.take (16 * i) ++ (l.drop (16 * i)).take 16 := by
          rw [show 16 * (i + 1) = 16 * i + 16 by omega, List.take_add]
        rw [e1, vbits_append, List.length_take, Nat.min_eq_left (by omega), Int.pow_mul, show (2 : Int) ^ 16 = 65536 by decide, ← g3]
    · have h : l.length ≤ 16 * i := by have : ¬ ((16 * i : Nat) : Int) < (l.length : Int) := of_decide_eq_false h; omega
      refine Tot.ret ⟨g1, by show out.length ≤ _; omega, ?_⟩
      rw [g3, List.take_of_length_le h]
  · refine Tot.bindq (rtrim_tot (by omega)) fun t ht => Tot.ret ⟨⟨ht.db h1, ht.nz, ?_⟩, by rw [w, ht.vb]; exact h3⟩
    have := ht.len; omega

/-- a small number's absolute value -/
theorem Number_tot {n : Int} (h0 : -4611686018427387904 < n) (h1 : n < 4611686018427387904) : Tot (fun fuel => ref3_Number fuel n) (fun r => r.1 = decide (n < 0) ∧ Ok3 r.2 ∧ w r.2 = n.natAbs) := by
  unfold ref3_Number
  refine Tot.bindq (P := fun l => vbits l = n.natAbs ∧ l.length ≤ 64) ?_ fun l ⟨g1, g2⟩ => ?_
  · refine Tot.loop (fun st => ∃ i : Nat, i ≤ 63 ∧ st.2.length = i ∧ (n.natAbs : Int) = vbits st.2 + 2 ^ i * st.1.natAbs ∧ (st.1.natAbs : Int) < 2 ^ (63 - i)) (fun st => st.1.natAbs)
      ⟨0, by omega, rfl, by simp [vbits, vb], by show ((n.natAbs : Nat) : Int) < 2 ^ 63; have : (2 : Int) ^ 63 = 9223372036854775808 := by decide
                                                 omega⟩ fun st ⟨i, hi, m1, m2, m3⟩ => ?_
    obtain ⟨x, l⟩ := st
    simp only at m1 m2 m3
    refine Tot.ite (fun hh => ?_) (fun hh => ?_)
    · have hh : x ≠ 0 := by simpa using hh
      have hi2 : i < 63 := by
        rcases Nat.lt_or_ge i 63 with h | h
        · exact h
        · rw [show 63 - i = 0 by omega] at m3
          simp at m3
          omega
      have hxb : (x.natAbs : Int) < 9223372036854775808 := Int.lt_of_lt_of_le m3 (by
        have := vb_mono (b := 2) (by decide) (show 63 - i ≤ 63 by omega)
        exact this)
      have hdv : (x.tdiv 2).natAbs = x.natAbs / 2 := by rw [Int.natAbs_tdiv]; rfl
      have hmod : (x.tmod 2 != 0) = decide (x.natAbs % 2 = 1) := by
        have e : (x.tmod 2).natAbs = x.natAbs % 2 := by rw [Int.natAbs_tmod]; rfl
        by_cases h2 : x.natAbs % 2 = 1
        · rw [decide_eq_true h2]
          exact bne_iff_ne.2 (fun e0 => by rw [e0] at e; simp at e; omega)
        · rw [decide_eq_false h2]
          have : x.tmod 2 = 0 := Int.natAbs_eq_zero.1 (by omega)
          rw [this]; rfl
      have hw : IntKind.i64.wrap (x.tdiv 2) = x.tdiv 2 := i64_wrap (by omega) (by omega)
      refine Tot.bind0 (app_ok (by simp; omega)) (Tot.ret ?_)
      simp only [hw]
      refine ⟨⟨i + 1, by omega, by simp [m1], ?_, ?_⟩, by show (x.tdiv 2).natAbs < x.natAbs; omega⟩
      · show (n.natAbs : Int) = vbits (l ++ [x.tmod 2 != 0]) + 2 ^ (i + 1) * ((x.tdiv 2).natAbs : Int)
        rw [vbits_snoc, m1, m2, hmod, hdv, Int.pow_succ]
        have e1 : b2 (decide (x.natAbs % 2 = 1)) = ((x.natAbs % 2 : Nat) : Int) := by
          rcases Nat.mod_two_eq_zero_or_one x.natAbs with h | h <;> rw [h] <;> rfl
        rw [e1]
        have e2 : (x.natAbs : Int) = ((x.natAbs % 2 : Nat) : Int) + 2 * ((x.natAbs / 2 : Nat) : Int) := by omega
        generalize (2 : Int) ^ i = P
        generalize ((x.natAbs % 2 : Nat) : Int) = u at *
        generalize ((x.natAbs / 2 : Nat) : Int) = v at *
        rw [e2]
        grind
      · show ((x.tdiv 2).natAbs : Int) < 2 ^ (63 - (i + 1))
        rw [hdv]
        have e : (2 : Int) ^ (63 - i) = 2 ^ (63 - (i + 1)) * 2 := by rw [← Int.pow_succ]; congr 1; omega
        omega
    · have hh : x = 0 := by simpa using hh
      subst hh
      refine Tot.ret ⟨?_, by show l.length ≤ 64; omega⟩
      show vbits l = _
      rw [m2]; simp
  · refine Tot.bindq (Binary_tot (by omega)) fun r ⟨r1, r2⟩ => Tot.ret ⟨rfl, r1, ?_⟩
    show w r = _
    rw [r2, g1]
end Go.Gv.RI
namespace Go.Gv.RI
open Go Go.Gv Go.Gv.D

/-! ### integers of the reference -/
def iv3 (a : Bool × List Int) : Int := if a.1 then - w a.2 else w a.2
theorem w_nonneg {l : List Int} (h : Ok3 l) : 0 ≤ w l := (vb_bound h16 h.1).1
theorem w_zero {l : List Int} (h : Ok3 l) (hv : w l = 0) : l = [] := vb_nil h16 h.1 h.2.1 hv
theorem Ok3.nil : Ok3 [] := ⟨Db.nil, .inl rfl, by decide⟩
theorem Ok3.lenBig {l : List Int} (h : Ok3 l) : (l.length ≤ 256 ↔ w l < Big) := by
  have hB : Big = 65536 ^ 256 := by decide
  constructor
  · intro hl
    have h1 := (vb_bound h16 h.1).2
    have h2 := vb_mono h16 hl
    rw [hB]
    exact Int.lt_of_lt_of_le h1 h2
  · intro hl
    rcases Nat.lt_or_ge 256 l.length with h1 | h1
    · have h2 := vb_big h16 h.1 h.2.1 (fun e => by subst e; simp at h1)
      have h3 := vb_mono h16 (show 256 ≤ l.length - 1 by omega)
      rw [hB] at hl
      have : w l = vb 65536 l := rfl
      omega
    · exact h1

theorem IntOf_tot {a : Bool × List Int} (ha : OkI a) : Tot (fun fuel => ref3_IntOf fuel a) (fun r => r.1 = a.1 ∧ Ok3 r.2 ∧ w r.2 = val a.2 ∧ r.2.length ≤ 256) := by
  unfold ref3_IntOf
  have hl := ha.1.2.2
  exact Tot.bindq (Of3_tot ha.1.1 (by omega)) fun r ⟨h1, h2, h3⟩ => Tot.ret ⟨rfl, h1, h2, by show r.length ≤ 256; omega⟩
theorem iv3_of {a r : Bool × List Int} (h1 : r.1 = a.1) (h2 : w r.2 = val a.2) : iv3 r = ival a := by
  unfold iv3 ival
  rw [h1, h2]

theorem IPlus_tot {a b : Bool × List Int} (ha : Ok3 a.2) (hb : Ok3 b.2) (la : a.2.length ≤ 20000) (lb : b.2.length ≤ 20000) : Tot (fun fuel => ref3_Int_Plus fuel a b) (fun r => Ok3 r.2 ∧ iv3 r = iv3 a + iv3 b) := by
  obtain ⟨x, l⟩ := a
  obtain ⟨y, m⟩ := b
  unfold ref3_Int_Plus
  refine Tot.ite (fun h => ?_) (fun h => ?_)
  · have h : x = y := by simpa using h
    subst h
    refine Tot.bindq (Plus3_tot ha hb la lb) fun r ⟨h1, h2⟩ => Tot.ret ⟨h1, ?_⟩
    show (if x then - w r else w r) = (if x then - w l else w l) + (if x then - w m else w m)
    rw [h2]
    cases x <;> simp only [if_true, Bool.false_eq_true, if_false] <;> omega
  · have h : x ≠ y := by simpa using h
    refine Tot.bindq (Compare_tot ha hb) fun c ⟨c1, c2⟩ => Tot.ite (fun hc => ?_) (fun hc => ?_)
    · have hc : c ≥ 0 := of_decide_eq_true hc
      have hle : w m ≤ w l := by
        have : ¬ w l < w m := fun e => by have := c1.2 e; omega
        omega
      refine Tot.bindq (Minus3_tot ha hb hle) fun r ⟨h1, h2⟩ => Tot.ret ⟨h1, ?_⟩
      show (if x then - w r else w r) = (if x then - w l else w l) + (if y then - w m else w m)
      rw [h2]
      cases x <;> cases y <;> first | exact absurd rfl h | (simp only [if_true, Bool.false_eq_true, if_false]; omega)
    · have hc : ¬ c ≥ 0 := of_decide_eq_false hc
      have hle : w l ≤ w m := by
        have : w l < w m := c1.1 (by omega)
        omega
      refine Tot.bindq (Minus3_tot hb ha hle) fun r ⟨h1, h2⟩ => Tot.ret ⟨h1, ?_⟩
      show (if y then - w r else w r) = (if x then - w l else w l) + (if y then - w m else w m)
      rw [h2]
      cases x <;> cases y <;> first | exact absurd rfl h | (simp only [if_true, Bool.false_eq_true, if_false]; omega)

theorem pos_of {l : List Int} (h : Ok3 l) : (0 < l.length) ↔ 0 < w l := by
  have h1 := w_nonneg h
  constructor
  · intro hp
    rcases Int.lt_or_eq_of_le h1 with h2 | h2
    · exact h2
    · have := w_zero h h2.symm
      subst this; simp at hp
  · intro hp
    cases l with
    | nil => simp [w, vb] at hp
    | cons => simp
theorem Order_tot {a b : Bool × List Int} (ha : Ok3 a.2) (hb : Ok3 b.2) : Tot (fun fuel => ref3_Int_Order fuel a b) (fun r => (r < 0 ↔ iv3 a < iv3 b) ∧ (r = 0 ↔ iv3 a = iv3 b)) := by
  obtain ⟨x, l⟩ := a
  obtain ⟨y, m⟩ := b
  have ha : Ok3 l := ha
  have hb : Ok3 m := hb
  have pa := pos_of ha
  have pb := pos_of hb
  have na := w_nonneg ha
  have nb := w_nonneg hb
  unfold ref3_Int_Order
  refine Tot.bindq (P := fun j => j = (x && decide (0 < w l), y && decide (0 < w m))) ?_ fun j hj => ?_
  · have e1 : decide (((l.length : Nat) : Int) > 0) = decide (0 < w l) := by
      congr 1
      apply propext
      rw [← pa]; omega
    have e2 : decide (((m.length : Nat) : Int) > 0) = decide (0 < w m) := by
      congr 1
      apply propext
      rw [← pb]; omega
    simp only [e1, e2]
    cases x <;> cases y <;> exact Tot.ret rfl
  subst hj
  have fin : ∀ {p q : List Int} (hp : Ok3 p) (hq : Ok3 q), (w p < w q ↔ iv3 (x, l) < iv3 (y, m)) → (w p = w q ↔ iv3 (x, l) = iv3 (y, m)) → Tot (fun fuel => Option.bind (ref3_Compare fuel p q) fun r => some r) (fun r => (r < 0 ↔ iv3 (x, l) < iv3 (y, m)) ∧ (r = 0 ↔ iv3 (x, l) = iv3 (y, m))) := fun hp hq e1 e2 =>
    Tot.bindq (Compare_tot hp hq) fun c ⟨c1, c2⟩ => Tot.ret ⟨c1.trans e1, c2.trans e2⟩
  refine Tot.ite (fun h => ?_) (fun h => Tot.ite (fun h1 => ?_) (fun h1 => Tot.ite (fun h2 => ?_) (fun h2 => ?_)))
  · simp only [Bool.and_eq_true, decide_eq_true_eq] at h
    obtain ⟨⟨e1, e2⟩, e3, e4⟩ := h
    subst e1 e3
    exact fin hb ha (by simp only [iv3, if_true]; omega) (by simp only [iv3, if_true]; omega)
  · simp only [Bool.and_eq_true, decide_eq_true_eq] at h1
    simp only [h1, decide_true, Bool.true_and, Bool.and_self, Bool.and_eq_false_iff, decide_eq_false_iff_not] at h
    obtain ⟨e1, e2⟩ := h1
    subst e1
    refine Tot.ret ?_
    cases y
    · simp only [iv3, if_true, Bool.false_eq_true, if_false]; omega
    · have : ¬ 0 < w m := by
        rcases h with h | h
        · cases h
        · exact h
      simp only [iv3, if_true]; omega
  · simp only [Bool.and_eq_true, decide_eq_true_eq] at h2
    simp only [Bool.and_eq_false_iff, decide_eq_false_iff_not] at h1
    obtain ⟨e1, e2⟩ := h2
    subst e1
    refine Tot.ret ?_
    cases x
    · simp only [iv3, if_true, Bool.false_eq_true, if_false]; omega
    · have : ¬ 0 < w l := by
        rcases h1 with h | h
        · cases h
        · exact h
      simp only [iv3, if_true]; omega
  · simp only [Bool.and_eq_false_iff, decide_eq_false_iff_not] at h1 h2
    have ex : iv3 (x, l) = w l := by
      cases x
      · rfl
      · have : ¬ 0 < w l := by
          rcases h1 with h | h
          · cases h
          · exact h
        simp only [iv3, if_true]; omega
    have ey : iv3 (y, m) = w m := by
      cases y
      · rfl
      · have : ¬ 0 < w m := by
          rcases h2 with h | h
          · cases h
          · exact h
        simp only [iv3, if_true]; omega
    exact fin ha hb (by rw [ex, ey]) (by rw [ex, ey])

theorem IMinus_tot {a : Bool × List Int} (ha : Ok3 a.2) : Tot (fun fuel => ref3_Int_Minus fuel a) (fun r => r.2 = a.2 ∧ iv3 r = - iv3 a) := by
  obtain ⟨x, l⟩ := a
  have ha : Ok3 l := ha
  unfold ref3_Int_Minus
  refine Tot.bindq (P := fun r => r.2 = l ∧ iv3 r = - iv3 (x, l)) ?_ fun r h => Tot.ret h
  refine Tot.ite (fun h => Tot.ret ⟨rfl, ?_⟩) (fun h => Tot.ret ⟨rfl, ?_⟩)
  · have h : x = false := by simpa using h
    subst h
    by_cases h0 : l = []
    · subst h0; rfl
    · have : 0 < l.length := by
        cases l with
        | nil => exact absurd rfl h0
        | cons => simp
      simp [iv3, this]
  · have h : x = true := by simpa using h
    subst h
    simp [iv3]

end Go.Gv.RI

