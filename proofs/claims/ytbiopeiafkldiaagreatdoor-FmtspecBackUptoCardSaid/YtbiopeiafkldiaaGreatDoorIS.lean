import Derived.Test.YtbiopeiafkldiaaGreatDoorRP
set_option linter.all false
namespace Go.Gv.RI
open Go Go.Gv Go.Gv.D

/-! ### the number of bits -/
/-- r bits are needed for x -/
def Len (x : Int) (r : Int) : Prop := 0 ≤ r ∧ x < 2 ^ r.toNat ∧ (0 < r → 2 ^ (r.toNat - 1) ≤ x)

theorem Len.limbs {l : List Int} (h : Dg l) (hl : l ≠ []) {r : Int} (hr : Len (l.getLast hl) r) (hp : 0 < r) : Len (val l) (32 * ((l.length : Int) - 1) + r) := by
  have e := List.dropLast_concat_getLast hl
  generalize l.getLast hl = x at *
  generalize hd : l.dropLast = a at *
  subst e
  have ha := val_bound h.left
  rw [val_snoc]
  have hpow : (4294967296 : Int) ^ a.length = 2 ^ (32 * a.length) := by rw [show (4294967296 : Int) = 2 ^ 32 by decide, ← Int.pow_mul]
  obtain ⟨h1, h2, h3⟩ := hr
  have hlen : ((a ++ [x]).length : Int) - 1 = a.length := by simp
  rw [hlen]
  rw [hpow] at ha ⊢
  have hP : (0 : Int) < 2 ^ (32 * a.length) := Int.pow_pos (by decide)
  refine ⟨by omega, ?_, fun _ => ?_⟩
  · rw [show (32 * (a.length : Int) + r).toNat = 32 * a.length + r.toNat by omega, Int.pow_add]
    have : (2 : Int) ^ (32 * a.length) * (x + 1) ≤ 2 ^ (32 * a.length) * 2 ^ r.toNat := Int.mul_le_mul_of_nonneg_left (by omega) (by omega)
    rw [Int.mul_add] at this
    omega
  · rw [show (32 * (a.length : Int) + r).toNat - 1 = 32 * a.length + (r.toNat - 1) by omega, Int.pow_add]
    have : (2 : Int) ^ (32 * a.length) * 2 ^ (r.toNat - 1) ≤ 2 ^ (32 * a.length) * x := Int.mul_le_mul_of_nonneg_left (h3 hp) (by omega)
    omega

end Go.Gv.RI
namespace Go.Gv.RI
open Go Go.Gv Go.Gv.D

/-! ### drawing bits -/
def lm (c s : Int) (n : Nat) : List Int :=
  if h : n = 0 then [] else (if n < 32 then mixI (stp c s) / 4294967296 / 2 ^ (32 - n) else mixI (stp c s) / 4294967296) :: lm c (stp c s) (n - 32)
  termination_by n
theorem lm_zero (c s : Int) : lm c s 0 = [] := by rw [lm]; rfl
theorem lm_pos (c s : Int) {n : Nat} (h : n ≠ 0) : lm c s n = (if n < 32 then mixI (stp c s) / 4294967296 / 2 ^ (32 - n) else mixI (stp c s) / 4294967296) :: lm c (stp c s) (n - 32) := by
  conv => lhs; rw [lm]
  rw [dif_neg h]
theorem U_mix (x : Int) : U (mixI x) := U_xor _ _
theorem high (x : Int) : 0 ≤ mixI x / 4294967296 ∧ mixI x / 4294967296 < 4294967296 := by
  have := U_mix x
  unfold U at this
  omega

theorem lm_facts (c : Int) : ∀ (n : Nat) (s : Int), Dg (lm c s n) ∧ (lm c s n).length = (n + 31) / 32 ∧ val (lm c s n) < 2 ^ n ∧ (0 < n → mixI (it c s ((n + 31) / 32)) < 9223372036854775808 → val (lm c s n) < 2 ^ (n - 1)) := by
  intro n
  induction n using Nat.strongRecOn with
  | _ n ih =>
    intro s
    by_cases h0 : n = 0
    · subst h0
      rw [lm_zero]
      exact ⟨fun x hx => by simp at hx, rfl, by decide, fun h => absurd h (by decide)⟩
    · rw [lm_pos c s h0]
      have hx := high (stp c s)
      obtain ⟨i1, i2, i3, i4⟩ := ih (n - 32) (by omega) (stp c s)
      have hit : ∀ k, 0 < k → it c s k = it c (stp c s) (k - 1) := fun k hk => by rw [it_shift, Nat.sub_add_cancel hk]
      have hv0 := (val_bound i1).1
      by_cases h32 : n < 32
      · rw [if_pos h32]
        have hz : n - 32 = 0 := by omega
        rw [hz, lm_zero]
        have hp : (0 : Int) < 2 ^ (32 - n) := Int.pow_pos (by decide)
        have hpn : (2 : Int) ^ n * 2 ^ (32 - n) = 4294967296 := by rw [← Int.pow_add, show n + (32 - n) = 32 by omega]; rfl
        have h1 : mixI (stp c s) / 4294967296 / 2 ^ (32 - n) < 2 ^ n := Int.ediv_lt_of_lt_mul hp (by rw [hpn]; exact hx.2)
        have h2 : 0 ≤ mixI (stp c s) / 4294967296 / 2 ^ (32 - n) := Int.ediv_nonneg hx.1 (Int.le_of_lt hp)
        have h3 : (2 : Int) ^ n ≤ 4294967296 := by
          have : (2 : Nat) ^ n ≤ 2 ^ 32 := Nat.pow_le_pow_right (by decide) (by omega)
          have h4 : ((2 ^ n : Nat) : Int) ≤ ((2 ^ 32 : Nat) : Int) := Int.ofNat_le.2 this
          simpa using h4
        refine ⟨Dg.one ⟨h2, Int.lt_of_lt_of_le h1 h3⟩, by simp; omega, by simpa [val] using h1, fun hpos hm => ?_⟩
        have e1 : (n + 31) / 32 = 1 := by omega
        rw [e1] at hm
        have hm : mixI (stp c s) < 9223372036854775808 := hm
        have hpn' : (2 : Int) ^ (n - 1) * 2 ^ (32 - n) = 2147483648 := by rw [← Int.pow_add, show n - 1 + (32 - n) = 31 by omega]; rfl
        have : mixI (stp c s) / 4294967296 / 2 ^ (32 - n) < 2 ^ (n - 1) := Int.ediv_lt_of_lt_mul hp (by rw [hpn']; omega)
        simpa [val] using this
      · rw [if_neg h32]
        have hp2 : (2 : Int) ^ n = 4294967296 * 2 ^ (n - 32) := by
          rw [show n = 32 + (n - 32) by omega, Int.pow_add, show 32 + (n - 32) - 32 = n - 32 by omega]; rfl
        refine ⟨fun y hy => (List.mem_cons.1 hy).elim (fun e => by subst e; exact hx) (i1 y), by simp [i2]; omega, ?_, fun _ hm => ?_⟩
        · simp only [val]
          rw [hp2]
          omega
        · simp only [val]
          by_cases h33 : n = 32
          · subst h33
            have hm : mixI (stp c s) < 9223372036854775808 := hm
            rw [show 32 - 32 = 0 from rfl, lm_zero]
            simp only [val]
            have : (2 : Int) ^ (32 - 1) = 2147483648 := by decide
            omega
          · have e1 : (n + 31) / 32 = (n - 32 + 31) / 32 + 1 := by omega
            rw [e1, ← it_shift] at hm
            have := i4 (by omega) hm
            have hp3 : (2 : Int) ^ (n - 1) = 4294967296 * 2 ^ (n - 32 - 1) := by
              rw [show n - 1 = 32 + (n - 32 - 1) by omega, Int.pow_add]; rfl
            rw [hp3]
            omega

/-! ### drawing below a number -/
/-- what the m-th try gives -/
def try_ (c s : Int) (size L m : Nat) : List Int := lm c (it c s (m * L)) size
/-- x and the state are what the first try below v gives -/
def Drawn (c s : Int) (v : Int) (x : List Int) (s' : Int) : Prop :=
  ∃ (size : Nat) (m : Nat), Len (v - 1) size ∧ size ≤ 4096 ∧ s' = it c s ((m + 1) * ((size + 31) / 32)) ∧ Trim (try_ c s size ((size + 31) / 32) m) x ∧ val x < v ∧ ∀ m', m' < m → v ≤ val (try_ c s size ((size + 31) / 32) m')
theorem Drawn.ok {c s v : Int} {x : List Int} {s' : Int} (h : Drawn c s v x s') : OkL x ∧ 0 ≤ val x ∧ val x < v := by
  obtain ⟨size, m, h1, h2, h3, h4, h5, h6⟩ := h
  have hf := lm_facts c size (it c s (m * ((size + 31) / 32)))
  have hd := h4.dg hf.1
  have hl := h4.len
  have e : (try_ c s size ((size + 31) / 32) m).length = (size + 31) / 32 := hf.2.1
  exact ⟨⟨hd, h4.nz, by omega⟩, (val_bound hd).1, h5⟩

/-! ### an integer as a small one -/
theorem or_shift {a b : Int} (ha : 0 ≤ a ∧ a < 4294967296) (hb : 0 ≤ b ∧ b < 4294967296) : bwOr .u64 a (b * 4294967296) = a + b * 4294967296 := by
  unfold bwOr
  have h1 : (BitVec.ofInt 64 a ||| BitVec.ofInt 64 (b * 4294967296)).toNat = a.toNat + b.toNat * 4294967296 := by
    rw [BitVec.toNat_or]
    have e1 : (BitVec.ofInt 64 a).toNat = a.toNat := by simp only [BitVec.toNat_ofInt]; omega
    have e2 : (BitVec.ofInt 64 (b * 4294967296)).toNat = 2 ^ 32 * b.toNat := by simp only [BitVec.toNat_ofInt]; omega
    rw [e1, e2, Nat.or_comm, ← Nat.two_pow_add_eq_or_of_lt (by omega)]
    omega
  show IntKind.u64.wrap ((BitVec.ofInt 64 a ||| BitVec.ofInt 64 (b * 4294967296)).toNat : Int) = _
  rw [h1, u64_wrap]
  omega
end Go.Gv.RI
namespace Go.Gv.RI
open Go Go.Gv Go.Gv.D

/-! ### digits to any base -/
def vb (b : Int) : List Int → Int
  | [] => 0
  | x :: xs => x + b * vb b xs
def Db (b : Int) (l : List Int) : Prop := ∀ x ∈ l, 0 ≤ x ∧ x < b
section
variable {b : Int}
theorem vb_append (l m : List Int) : vb b (l ++ m) = vb b l + b ^ l.length * vb b m := by
  induction l with
  | nil => simp [vb]
  | cons x l ih =>
    simp only [List.cons_append, vb, ih, List.length_cons, Int.pow_succ]
    grind
theorem vb_snoc (l : List Int) (x : Int) : vb b (l ++ [x]) = vb b l + b ^ l.length * x := by
  rw [vb_append]; simp [vb]
theorem vb_zeros : ∀ k, vb b (List.replicate k 0) = 0
  | 0 => rfl
  | k + 1 => by simp [List.replicate_succ, vb, vb_zeros k]
theorem Db.append {l m : List Int} (ha : Db b l) (hb : Db b m) : Db b (l ++ m) := fun x hx => (List.mem_append.1 hx).elim (ha x) (hb x)
theorem Db.left {l m : List Int} (h : Db b (l ++ m)) : Db b l := fun x hx => h x (List.mem_append_left _ hx)
theorem Db.right {l m : List Int} (h : Db b (l ++ m)) : Db b m := fun x hx => h x (List.mem_append_right _ hx)
theorem Db.one {x : Int} (h : 0 ≤ x ∧ x < b) : Db b [x] := fun y hy => by simp at hy; subst hy; exact h
theorem Db.nil : Db b [] := fun x hx => by simp at hx
theorem Db.take {l : List Int} (h : Db b l) (i : Nat) : Db b (l.take i) := fun x hx => h x (List.mem_of_mem_take hx)
theorem Db.drop {l : List Int} (h : Db b l) (i : Nat) : Db b (l.drop i) := fun x hx => h x (List.mem_of_mem_drop hx)
theorem Db.get {l : List Int} (h : Db b l) {i : Nat} (hi : i < l.length) : 0 ≤ l[i] ∧ l[i] < b := h _ (List.getElem_mem hi)
theorem vb_take_succ {a : List Int} {i : Nat} (h : i < a.length) : vb b (a.take (i + 1)) = vb b (a.take i) + b ^ i * a[i] := by
  rw [List.take_succ_eq_append_getElem h, vb_snoc, List.length_take, Nat.min_eq_left (by omega)]
theorem vb_take_all {a : List Int} {i : Nat} (h : a.length ≤ i) : vb b (a.take i) = vb b a := by
  rw [List.take_of_length_le h]
theorem vb_bound (hb : 1 < b) {l : List Int} (h : Db b l) : 0 ≤ vb b l ∧ vb b l < b ^ l.length := by
  induction l with
  | nil => simp [vb]
  | cons x l ih =>
    have h1 := h x (List.mem_cons_self ..)
    have h2 := ih fun y hy => h y (List.mem_cons_of_mem _ hy)
    simp only [vb, List.length_cons, Int.pow_succ]
    have h3 : b * (vb b l + 1) ≤ b * b ^ l.length := Int.mul_le_mul_of_nonneg_left (by omega) (by omega)
    have h4 : 0 ≤ b * vb b l := Int.mul_nonneg (by omega) h2.1
    rw [Int.mul_add, Int.mul_comm b (b ^ l.length)] at h3
    omega
theorem pow_pos' (hb : 1 < b) (n : Nat) : 0 < b ^ n := Int.pow_pos (by omega)
theorem vb_big (hb : 1 < b) {l : List Int} (h : Db b l) (hn : Nz l) (hl : l ≠ []) : b ^ (l.length - 1) ≤ vb b l := by
  obtain ⟨a, x, rfl⟩ : ∃ a x, l = a ++ [x] := ⟨l.dropLast, l.getLast hl, (List.dropLast_concat_getLast hl).symm⟩
  have hx : x ≠ 0 := fun e => by
    rcases hn with h | h
    · exact hl h
    · subst e; simp at h
  have h1 := h x (by simp)
  have h2 := vb_bound hb h.left
  rw [vb_snoc]
  simp only [List.length_append, List.length_singleton, Nat.add_sub_cancel]
  have : b ^ a.length * 1 ≤ b ^ a.length * x := Int.mul_le_mul_of_nonneg_left (by omega) (by have := pow_pos' hb a.length; omega)
  omega
theorem vb_mono (hb : 1 < b) {m n : Nat} (h : m ≤ n) : b ^ m ≤ b ^ n := by
  obtain ⟨d, rfl⟩ := Nat.exists_eq_add_of_le h
  rw [Int.pow_add]
  have h1 := pow_pos' hb m
  have h2 := pow_pos' hb d
  have : b ^ m * 1 ≤ b ^ m * b ^ d := Int.mul_le_mul_of_nonneg_left (by omega) (by omega)
  omega
theorem vb_longer (hb : 1 < b) {l m : List Int} (hl : Db b l) (hm : Db b m) (hn : Nz m) (h : l.length < m.length) : vb b l < vb b m := by
  have h1 := (vb_bound hb hl).2
  have h2 := vb_big hb hm hn (fun e => by subst e; simp at h)
  have h3 := vb_mono hb (show l.length ≤ m.length - 1 by omega)
  omega
theorem vb_inj (hb : 1 < b) : ∀ {l m : List Int}, Db b l → Db b m → l.length = m.length → vb b l = vb b m → l = m
  | [], [], _, _, _, _ => rfl
  | x :: l, y :: m, hl, hm, he, hv => by
    have h1 := hl x (List.mem_cons_self ..)
    have h2 := hm y (List.mem_cons_self ..)
    simp only [vb] at hv
    have h3 := congrArg (· % b) hv
    simp only [Int.add_mul_emod_self_left] at h3
    rw [Int.emod_eq_of_lt h1.1 h1.2, Int.emod_eq_of_lt h2.1 h2.2] at h3
    subst h3
    have h4 : b * vb b l = b * vb b m := by omega
    have h5 := Int.eq_of_mul_eq_mul_left (by omega) h4
    rw [vb_inj hb (fun z hz => hl z (List.mem_cons_of_mem _ hz)) (fun z hz => hm z (List.mem_cons_of_mem _ hz)) (by simpa using he) h5]
theorem vb_norm (hb : 1 < b) {l m : List Int} (hl : Db b l) (hm : Db b m) (nl : Nz l) (nm : Nz m) (hv : vb b l = vb b m) : l = m := by
  rcases Nat.lt_trichotomy l.length m.length with h | h | h
  · have := vb_longer hb hl hm nm h; omega
  · exact vb_inj hb hl hm h hv
  · have := vb_longer hb hm hl nl h; omega
theorem vb_nil (hb : 1 < b) {l : List Int} (h : Db b l) (hn : Nz l) (hv : vb b l = 0) : l = [] := vb_norm hb h Db.nil hn (.inl rfl) hv
theorem Trim.vb {l r : List Int} (h : Trim l r) : vb b r = vb b l := by
  obtain ⟨⟨k, e⟩, _⟩ := h
  rw [e, vb_append, vb_zeros]
  omega
theorem Trim.db {l r : List Int} (h : Trim l r) (hd : Db b l) : Db b r := by
  obtain ⟨⟨k, e⟩, _⟩ := h
  rw [e] at hd
  exact hd.left
end

theorem rtrim_tot {l : List Int} (hl : l.length < 4611686018427387904) : Tot (fun fuel => ref3_trim fuel l) (Trim l) :=
  Tot.bindq (trim_tot hl) fun _ h => Tot.ret h

/-- digits to the base 65536 -/
abbrev w (l : List Int) : Int := vb 65536 l
/-- a number of the reference -/
def Ok3 (l : List Int) : Prop := Db 65536 l ∧ Nz l ∧ l.length ≤ 100000
theorem h16 : (1 : Int) < 65536 := by decide

/-! ### limbs and digits -/
theorem Of3_tot {l : List Int} (hd : Dg l) (hl : l.length ≤ 10000) : Tot (fun fuel => ref3_Of fuel l) (fun r => Ok3 r ∧ w r = val l ∧ r.length ≤ 2 * l.length) := by
  unfold ref3_Of
  refine Tot.bindq (P := fun r => Db 65536 r ∧ r.length = 2 * l.length ∧ w r = val l) ?_ fun r ⟨h1, h2, h3⟩ => ?_
  · refine Tot.loop (fun st => ∃ i : Nat, st.2 = (i : Int) ∧ i ≤ l.length ∧ Db 65536 st.1 ∧ st.1.length = 2 * i ∧ w st.1 = val (l.take i)) (fun st => l.length - st.2.toNat)
      ⟨0, rfl, by omega, Db.nil, rfl, by simp [w, vb, val]⟩ fun st ⟨i, e, hi, g1, g2, g3⟩ => ?_
    obtain ⟨out, z⟩ := st
    simp only at e g1 g2 g3
    subst e
    refine Tot.ite (fun h => ?_) (fun h => ?_)
    · have h : i < l.length := by have : ((i : Nat) : Int) < (l.length : Int) := of_decide_eq_true h; omega
      have hx := hd.get h
      have ht := val_take_succ h
      refine Tot.bind0 (idx_nat h) (Tot.bind0 (idx_nat h) (Tot.bind0 (app_ok (by simp; omega)) (Tot.ret ?_)))
      have hw : IntKind.i64.wrap ((i : Int) + 1) = ((i + 1 : Nat) : Int) := by rw [i64_small (by omega) (by omega)]; omega
      have e1 : IntKind.i64.wrap (l[i].tmod 65536) = l[i] % 65536 := by rw [Int.tmod_eq_emod_of_nonneg hx.1, i64_small (by omega) (by omega)]
      have e2 : IntKind.i64.wrap (IntKind.u32.wrap (l[i].tdiv 65536)) = l[i] / 65536 := by rw [Int.tdiv_eq_ediv_of_nonneg hx.1, u32_small (by omega) (by omega), i64_small (by omega) (by omega)]
      simp only [hw, e1, e2]
      refine ⟨⟨i + 1, rfl, by omega, g1.append (fun y hy => ?_), by simp [g2]; omega, ?_⟩, by show l.length - (((i + 1 : Nat) : Int)).toNat < l.length - ((i : Nat) : Int).toNat; omega⟩
      · rcases List.mem_cons.1 hy with h | h
        · subst h; omega
        · simp at h; subst h; omega
      · rw [w, vb_append, g2, ht, ← g3]
        simp only [vb]
        rw [show (65536 : Int) ^ (2 * i) = 4294967296 ^ i by rw [Int.pow_mul]; rfl]
        have e3 : l[i] % 65536 + 65536 * (l[i] / 65536 + 65536 * 0) = l[i] := by omega
        rw [e3]
    · have h : i = l.length := by have : ¬ ((i : Nat) : Int) < (l.length : Int) := of_decide_eq_false h; omega
      subst h
      rw [List.take_length] at g3
      exact Tot.ret ⟨g1, g2, g3⟩
  · refine Tot.bindq (rtrim_tot (by omega)) fun t ht => Tot.ret ⟨⟨ht.db h1, ht.nz, ?_⟩, by rw [w, ht.vb]; exact h3, ?_⟩
    · have := ht.len; omega
    · have := ht.len; omega

theorem Limbs_tot {a : List Int} (ha : Ok3 a) : Tot (fun fuel => ref3_Limbs fuel a) (fun r => Dg r ∧ Nz r ∧ val r = w a ∧ r.length = (a.length + 1) / 2) := by
  obtain ⟨hd, hn, hl⟩ := ha
  unfold ref3_Limbs
  refine Tot.bindq (P := fun r => Dg r ∧ r.length = (a.length + 1) / 2 ∧ val r = w a) ?_ fun r ⟨h1, h2, h3⟩ => Tot.ret ⟨h1, ?_, h3, h2⟩
  · refine Tot.loop (fun st => ∃ i : Nat, st.2 = ((2 * i : Nat) : Int) ∧ 2 * i ≤ a.length + 1 ∧ Dg st.1 ∧ st.1.length = i ∧ val st.1 = w (a.take (2 * i))) (fun st => a.length + 1 - st.2.toNat)
      ⟨0, rfl, by omega, fun x hx => by simp at hx, rfl, by simp [w, vb, val]⟩ fun st ⟨i, e, hi, g1, g2, g3⟩ => ?_
    obtain ⟨out, z⟩ := st
    simp only at e g1 g2 g3
    subst e
    refine Tot.ite (fun h => ?_) (fun h => ?_)
    · have h : 2 * i < a.length := by have : ((2 * i : Nat) : Int) < (a.length : Int) := of_decide_eq_true h; omega
      have hx := hd.get h
      have ht := vb_take_succ (b := 65536) h
      have hw : IntKind.i64.wrap (((2 * i : Nat) : Int) + 1) = ((2 * i + 1 : Nat) : Int) := by rw [i64_small (by omega) (by omega)]; omega
      have hw2 : IntKind.i64.wrap (((2 * i : Nat) : Int) + 2) = ((2 * (i + 1) : Nat) : Int) := by rw [i64_small (by omega) (by omega)]; omega
      have ex : IntKind.u32.wrap a[2 * i] = a[2 * i] := u32_small hx.1 (by omega)
      simp only [hw]
      refine Tot.bind0 (idx_nat h) ?_
      refine Tot.bindq (P := fun j => 0 ≤ j ∧ j < 4294967296 ∧ val out + 4294967296 ^ i * j = w (a.take (2 * (i + 1)))) ?_ fun j ⟨k1, k2, k3⟩ => ?_
      · have hp : (65536 : Int) ^ (2 * i) = 4294967296 ^ i := by rw [Int.pow_mul]; rfl
        have hp1 : (65536 : Int) ^ (2 * i + 1) = 4294967296 ^ i * 65536 := by rw [Int.pow_succ, hp]
        refine Tot.ite (fun hh => ?_) (fun hh => ?_)
        · have hh : 2 * i + 1 < a.length := by have : ((2 * i + 1 : Nat) : Int) < (a.length : Int) := of_decide_eq_true hh; omega
          have hy := hd.get hh
          have ht2 := vb_take_succ (b := 65536) hh
          refine Tot.bind0 (idx_nat hh) (Tot.some_bind (Tot.ret ?_))
          have ey : IntKind.u32.wrap a[2 * i + 1] = a[2 * i + 1] := u32_small hy.1 (by omega)
          rw [ex, ey, u32_small (x := a[2 * i + 1] * 65536) (by omega) (by omega), u32_small (by omega) (by omega)]
          refine ⟨by omega, by omega, ?_⟩
          rw [show 2 * (i + 1) = 2 * i + 1 + 1 by omega, w, ht2, ht, g3, hp1, hp]
          show w (a.take (2 * i)) + _ = w (a.take (2 * i)) + _ + _
          grind
        · have hh : a.length ≤ 2 * i + 1 := by have : ¬ ((2 * i + 1 : Nat) : Int) < (a.length : Int) := of_decide_eq_false hh; omega
          refine Tot.ret ?_
          rw [ex]
          refine ⟨hx.1, by omega, ?_⟩
          have e1 : w (a.take (2 * (i + 1))) = w (a.take (2 * i + 1)) := by rw [w, vb_take_all (by omega), w, vb_take_all (by omega)]
          rw [e1, w, ht, g3, hp]
      · refine Tot.bind0 (app_ok (by simp; omega)) (Tot.ret ?_)
        simp only [hw2]
        refine ⟨⟨i + 1, rfl, by omega, g1.append (Dg.one ⟨k1, k2⟩), by simp [g2], ?_⟩, by show a.length + 1 - (((2 * (i + 1) : Nat) : Int)).toNat < a.length + 1 - ((2 * i : Nat) : Int).toNat; omega⟩
        rw [val_snoc, g2]
        exact k3
    · have h : a.length ≤ 2 * i := by have : ¬ ((2 * i : Nat) : Int) < (a.length : Int) := of_decide_eq_false h; omega
      refine Tot.ret ⟨g1, by show out.length = _; omega, ?_⟩
      rw [g3, w, vb_take_all h]
  · -- no leading zero: the value is too great for fewer limbs
    by_cases h0 : r = []
    · exact .inl h0
    · refine .inr fun hz => ?_
      have hrp : 0 < r.length := by
        cases r with
        | nil => exact absurd rfl h0
        | cons => simp
      have ha0 : a ≠ [] := fun e => by subst e; rw [h2] at hrp; exact absurd hrp (by decide)
      obtain ⟨q, x, rfl⟩ : ∃ q x, r = q ++ [x] := ⟨r.dropLast, r.getLast h0, (List.dropLast_concat_getLast h0).symm⟩
      have hx0 : x = 0 := by simpa using hz
      subst hx0
      rw [val_snoc, Int.mul_zero, Int.add_zero] at h3
      have b1 := (val_bound h1.left).2
      have b2 := vb_big h16 hd hn ha0
      have hq : q.length + 1 = (a.length + 1) / 2 := by simpa using h2
      have b3 : (4294967296 : Int) ^ q.length ≤ 65536 ^ (a.length - 1) := by
        rw [show (4294967296 : Int) = 65536 ^ 2 by decide, ← Int.pow_mul]
        exact vb_mono h16 (by omega)
      have : w a = vb 65536 a := rfl
      omega
end Go.Gv.RI
namespace Go.Gv.RI
open Go Go.Gv Go.Gv.D

/-! ### comparing -/
/-! ### sums -/
end Go.Gv.RI
namespace Go.Gv.RI
open Go Go.Gv Go.Gv.D

/-! ### binary digits -/
def b2 (b : Bool) : Int := if b then 1 else 0
def vbits (l : List Bool) : Int := vb 2 (l.map b2)
theorem b2_db (l : List Bool) : Db 2 (l.map b2) := fun x hx => by
  obtain ⟨b, _, rfl⟩ := List.mem_map.1 hx
  cases b <;> simp [b2]
theorem vbits_bound (l : List Bool) : 0 ≤ vbits l ∧ vbits l < 2 ^ l.length := by
  have := vb_bound (by decide) (b2_db l)
  simpa [vbits] using this
theorem vbits_append (l m : List Bool) : vbits (l ++ m) = vbits l + 2 ^ l.length * vbits m := by
  unfold vbits
  rw [List.map_append, vb_append, List.length_map]
theorem vbits_snoc (l : List Bool) (b : Bool) : vbits (l ++ [b]) = vbits l + 2 ^ l.length * b2 b := by
  rw [vbits_append]; simp [vbits, vb]
/-- trimmed: the last digit is set -/
def TrimB (l r : List Bool) : Prop := (∃ k, l = r ++ List.replicate k false) ∧ (r = [] ∨ r.getLast? = some true)
theorem vbits_zeros (k : Nat) : vbits (List.replicate k false) = 0 := by
  unfold vbits
  rw [List.map_replicate]
  exact vb_zeros k
theorem TrimB.val {l r : List Bool} (h : TrimB l r) : vbits r = vbits l := by
  obtain ⟨⟨k, e⟩, _⟩ := h
  rw [e, vbits_append, vbits_zeros]
  omega
theorem TrimB.len {l r : List Bool} (h : TrimB l r) : r.length ≤ l.length := by
  obtain ⟨⟨k, e⟩, _⟩ := h
  rw [e]; simp
/-- the number of digits of a trimmed list -/
theorem TrimB.Len {l r : List Bool} (h : TrimB l r) : Len (vbits l) r.length := by
  rw [← h.val]
  refine ⟨by omega, by have := (vbits_bound r).2; simpa using this, fun hp => ?_⟩
  rcases h.2 with h0 | h0
  · subst h0; simp at hp
  · have hr : r ≠ [] := fun e => by subst e; simp at h0
    have e := List.dropLast_concat_getLast hr
    have e2 : r.getLast hr = true := by
      have := List.getLast?_eq_some_getLast hr
      rw [h0] at this
      exact (Option.some.inj this).symm
    rw [e2] at e
    have hv := vbits_snoc r.dropLast true
    rw [e] at hv
    rw [hv]
    have := (vbits_bound r.dropLast).1
    have hl : r.dropLast.length = r.length - 1 := List.length_dropLast
    rw [hl]
    simp [b2]
    omega

end Go.Gv.RI
namespace Go.Gv.RI
open Go Go.Gv Go.Gv.D

/-! ### integers of the reference -/
def iv3 (a : Bool × List Int) : Int := if a.1 then - w a.2 else w a.2
theorem w_nonneg {l : List Int} (h : Ok3 l) : 0 ≤ w l := (vb_bound h16 h.1).1
theorem w_zero {l : List Int} (h : Ok3 l) (hv : w l = 0) : l = [] := vb_nil h16 h.1 h.2.1 hv
theorem Ok3.nil : Ok3 [] := ⟨Db.nil, .inl rfl, by decide⟩
theorem pos_of {l : List Int} (h : Ok3 l) : (0 < l.length) ↔ 0 < w l := by
  have h1 := w_nonneg h
  constructor
  · intro hp
    rcases Int.lt_or_eq_of_le h1 with h2 | h2
    · exact h2
    · have := w_zero h h2.symm
      subst this; simp at hp
  · intro hp
    cases l with
    | nil => simp [w, vb] at hp
    | cons => simp
theorem SameLimbs_tot (a : List Int) (ha : a.length ≤ 1000) : Tot (fun fuel => ref3_SameLimbs fuel a a) (· = true) := by
  unfold ref3_SameLimbs
  refine Tot.if_ (by simp) ?_
  refine Tot.bindq (P := fun x => x = .inl ()) ?_ fun x hx => by subst hx; exact Tot.contl (Tot.ret rfl)
  refine Tot.loop (fun st : Int => ∃ i : Nat, st = (i : Int) ∧ i ≤ a.length) (fun st : Int => a.length - st.toNat) ⟨0, rfl, by omega⟩ fun st ⟨i, e, hi⟩ => ?_
  subst e
  refine Tot.ite (fun h => ?_) (fun h => Tot.ret rfl)
  have h : i < a.length := by have : ((i : Nat) : Int) < (a.length : Int) := of_decide_eq_true h; omega
  refine Tot.bind0 (idx_nat h) (Tot.bind0 (idx_nat h) (Tot.if_ (by simp) (Tot.ret ?_)))
  have hw : IntKind.i64.wrap ((i : Int) + 1) = ((i + 1 : Nat) : Int) := by rw [i64_small (by omega) (by omega)]; omega
  rw [hw]
  exact ⟨⟨i + 1, rfl, by omega⟩, by omega⟩

theorem SameInt_tot {a b : Bool × List Int} (ha : OkI a) (hb : Ok3 b.2) (hv : ival a = iv3 b) : Tot (fun fuel => ref3_SameInt fuel a b) (· = true) := by
  obtain ⟨x, l⟩ := a
  obtain ⟨y, m⟩ := b
  have hb : Ok3 m := hb
  have hl : OkL l := ha.1
  have pb := pos_of hb
  have nb := w_nonneg hb
  have nl := val_lt_big hl
  have hx0 : x = true → 0 < val l := fun e => by
    rcases Int.lt_or_eq_of_le nl.1 with h | h
    · exact h
    · have := ha.2 (val_zero hl.1 hl.2.1 h.symm)
      rw [show x = false from this] at e; cases e
  have hvv : val l = w m := by
    cases x <;> cases y <;> simp only [ival, iv3, if_true, Bool.false_eq_true, if_false] at hv
    · exact hv
    · omega
    · have := hx0 rfl; omega
    · omega
  have hsame : Tot (fun fuel => (ref3_Limbs fuel m).bind fun r => (ref3_SameLimbs fuel l r).bind fun q => some q) (fun j => j = true) := by
    refine Tot.bindq (Limbs_tot hb) fun r ⟨r1, r2, r3, r4⟩ => ?_
    have e : r = l := norm_inj r1 hl.1 r2 hl.2.1 (by rw [r3, hvv])
    subst e
    exact Tot.bindq (SameLimbs_tot r hl.l10) fun q hq => Tot.ret hq
  have hd : decide (((m.length : Nat) : Int) > 0) = decide (0 < w m) := by
    congr 1
    apply propext
    rw [← pb]; omega
  unfold ref3_SameInt
  refine Tot.bindq (P := fun j => j = true) ?_ fun j hj => Tot.ret hj
  simp only [hd]
  refine Tot.ite (fun hy => Tot.it ?_ hsame) (fun hy => Tot.it ?_ hsame)
  · have hy : y = true := hy
    subst hy
    cases x with
    | true => have := hx0 rfl; rw [decide_eq_true (by omega)]; rfl
    | false =>
      simp only [ival, iv3, if_true, Bool.false_eq_true, if_false] at hv
      rw [decide_eq_false (by omega)]; rfl
  · have hy : y = false := hy
    subst hy
    cases x with
    | true =>
      have := hx0 rfl
      simp only [ival, iv3, if_true, Bool.false_eq_true, if_false] at hv
      omega
    | false => rfl

end Go.Gv.RI

