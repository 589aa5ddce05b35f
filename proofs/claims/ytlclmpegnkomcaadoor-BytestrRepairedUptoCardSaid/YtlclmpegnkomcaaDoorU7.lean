import Derived.Test.YtlclmpegnkomcaaDoorU6
set_option linter.all false
namespace Go.Gv.R
open Go Go.Gv Go.Gv.D Go.Lib

/-! ### units of a coding -/
def b16 (l : List UInt8) (i : Nat) : Nat := (l.getD i 0).toNat * 256 + (l.getD (i + 1) 0).toNat
def V (c : Int) (l : List UInt8) : Int × Nat :=
  if c = 0 then (if bad (decodeL l) then (-1, 1) else (((decodeL l).1 : Int), (decodeL l).2))
  else if c = 1 then (((l.getD 0 0).toNat : Int), 1)
  else if l.length < 2 then (-1, 1)
  else if b16 l 0 < 55296 ∨ 57343 < b16 l 0 then ((b16 l 0 : Int), 2)
  else if b16 l 0 < 56320 ∧ 4 ≤ l.length ∧ 56320 ≤ b16 l 2 ∧ b16 l 2 ≤ 57343 then (((65536 + (b16 l 0 - 55296) * 1024 + (b16 l 2 - 56320) : Nat) : Int), 4)
  else (-1, 2)
theorem b16_lt (l : List UInt8) (i : Nat) : b16 l i < 65536 := by
  have := byte_lt (l.getD i 0)
  have := byte_lt (l.getD (i + 1) 0)
  unfold b16; omega
theorem V_width (c : Int) {l : List UInt8} (h : l ≠ []) : 1 ≤ (V c l).2 ∧ (V c l).2 ≤ l.length := by
  have h0 := List.length_pos_iff.2 h
  have h1 := decodeL_width l
  have h2 := decodeL_le l h
  unfold V
  repeat' split
  all_goals dsimp only
  all_goals omega
theorem V_pt (c : Int) {l : List UInt8} (h : l ≠ []) : (V c l).1 = -1 ∨ ∃ n, Scal n ∧ (V c l).1 = (n : Int) := by
  have hb := b16_lt l 0
  have h0 := byte_lt (l.getD 0 0)
  unfold V
  split
  · split
    · exact .inl rfl
    · rename_i hb
      exact .inr ⟨_, decode_scal h hb, rfl⟩
  split
  · exact .inr ⟨_, by unfold Scal; omega, rfl⟩
  split
  · exact .inl rfl
  split
  · exact .inr ⟨_, by unfold Scal; omega, rfl⟩
  split
  · exact .inr ⟨_, by unfold Scal; omega, rfl⟩
  · exact .inl rfl
theorem mul256 (b : Nat) (h : b < 256) : IntKind.i32.wrap ((IntKind.i32.wrap (b : Int)) * 2 ^ 8) = ((2 ^ 8 * b : Nat) : Int) := sh32 b 8 (by omega)
theorem w16 (l : List UInt8) (i : Nat) : bwOr .i32 (IntKind.i32.wrap ((IntKind.i32.wrap ((l.getD i 0).toNat : Int)) * 2 ^ 8)) (IntKind.i32.wrap ((l.getD (i + 1) 0).toNat : Int)) = (b16 l i : Int) := by
  have h0 := byte_lt (l.getD i 0)
  have h1 := byte_lt (l.getD (i + 1) 0)
  rw [mul256 _ h0, i32_small (by omega) (by omega), or32 _ _ 8 (by omega) (by omega)]
  unfold b16
  omega
theorem low_sur {b : Nat} (h : b < 256) : (bwAnd .u8 (b : Int) 252 == 220) = decide (220 ≤ b ∧ b ≤ 223) := by
  have k : ((List.range 256).all fun b => (bwAnd .u8 ((b : Nat) : Int) 252 == 220) == decide (220 ≤ b ∧ b ≤ 223)) = true := by kernel_rfl
  exact eq_of_beq (List.all_eq_true.1 k b (List.mem_range.2 h))
theorem sur_pair (x y : Nat) (h : 55296 ≤ x) (h' : x < 56320) (g : 56320 ≤ y) (g' : y ≤ 57343) : IntKind.i32.wrap ((IntKind.i32.wrap ((IntKind.i32.wrap (65536 + (IntKind.i32.wrap ((IntKind.i32.wrap ((x : Int) - 55296)) * 2 ^ 10)))) + (y : Int))) - 56320) = ((65536 + (x - 55296) * 1024 + (y - 56320) : Nat) : Int) := by
  obtain ⟨a, rfl⟩ : ∃ a, x = 55296 + a := ⟨x - 55296, by omega⟩
  obtain ⟨b, rfl⟩ : ∃ b, y = 56320 + b := ⟨y - 56320, by omega⟩
  have ha : a < 1024 := by omega
  have hb : b < 1024 := by omega
  clear h h' g g'
  rw [i32_small (x := ((55296 + a : Nat) : Int) - 55296) (by omega) (by omega), i32_small (x := (((55296 + a : Nat) : Int) - 55296) * 2 ^ 10) (by omega) (by omega), i32_small (x := 65536 + (((55296 + a : Nat) : Int) - 55296) * 2 ^ 10) (by omega) (by omega), i32_small (x := 65536 + (((55296 + a : Nat) : Int) - 55296) * 2 ^ 10 + ((56320 + b : Nat) : Int)) (by omega) (by omega), i32_small (by omega) (by omega)]
  omega
theorem unitC_tot {c : Int} (hc : 0 ≤ c ∧ c ≤ 2) {l : List UInt8} (hne : l ≠ []) : Tot (fun fuel => bytestr_unit fuel l c) (fun r => r.2.1 = ((V c l).2 : Int) ∧ r.2.2 = decide (0 ≤ (V c l).1) ∧ (0 ≤ (V c l).1 → r.1 = (V c l).1)) := by
  have hl := List.length_pos_iff.2 hne
  unfold bytestr_unit
  refine Tot.ite (fun c1 => ?_) (fun c1 => ?_)
  · have c1 : c = 1 := eq_of_beq c1
    have hV : V c l = (((l.getD 0 0).toNat : Int), 1) := by unfold V; rw [if_neg (by omega), if_pos c1]
    have h0 := byte_lt (l.getD 0 0)
    refine Tot.bind0 (getD_idx (i := 0) hl) (Tot.ret ?_)
    rw [hV, i32_small (by omega) (by omega)]
    exact ⟨rfl, (decide_eq_true (by dsimp only; omega)).symm, fun _ => rfl⟩
  have c1 : c ≠ 1 := fun e => by subst e; cases c1
  refine Tot.ite (fun c0 => ?_) (fun c0 => ?_)
  · have c0 : c = 0 := eq_of_beq c0
    refine Tot.bindq (DecodeRune_tot hl) fun r hr => Tot.ret ?_
    subst hr
    dsimp only
    by_cases hb : bad (decodeL l)
    · have hV : V c l = (-1, 1) := by unfold V; rw [if_pos c0, if_pos hb]
      obtain ⟨h1, h2⟩ := hb
      rw [hV, h1, h2]
      exact ⟨rfl, rfl, fun h => absurd h (by decide)⟩
    · have hV : V c l = (((decodeL l).1 : Int), (decodeL l).2) := by unfold V; rw [if_pos c0, if_neg hb]
      rw [hV]
      refine ⟨rfl, ?_, fun _ => rfl⟩
      have hw := decodeL_width l
      rw [decide_eq_true (by dsimp only; omega : (0 : Int) ≤ ((((decodeL l).1 : Nat) : Int), (decodeL l).2).1)]
      by_cases h1 : (decodeL l).1 = 65533
      · have h2 : (decodeL l).2 ≠ 1 := fun h => hb ⟨h1, h⟩
        rw [decide_eq_true (by omega : (((decodeL l).2 : Nat) : Int) > 1), Bool.or_true]
      · rw [bne_iff_ne.2 (by omega : (((decodeL l).1 : Nat) : Int) ≠ 65533), Bool.true_or]
  have c0 : c ≠ 0 := fun e => by subst e; cases c0
  have hV : V c l = if l.length < 2 then (-1, 1)
      else if b16 l 0 < 55296 ∨ 57343 < b16 l 0 then ((b16 l 0 : Int), 2)
      else if b16 l 0 < 56320 ∧ 4 ≤ l.length ∧ 56320 ≤ b16 l 2 ∧ b16 l 2 ≤ 57343 then (((65536 + (b16 l 0 - 55296) * 1024 + (b16 l 2 - 56320) : Nat) : Int), 4)
      else (-1, 2) := by unfold V; rw [if_neg c0, if_neg c1]
  refine Tot.ite (fun h => ?_) (fun h => ?_)
  · have h : (l.length : Int) < 2 := of_decide_eq_true h
    have e : V c l = (-1, 1) := by rw [hV, if_pos (by omega)]
    rw [e]
    exact Tot.ret ⟨rfl, rfl, fun h => absurd h (by decide)⟩
  have h : ¬ (l.length : Int) < 2 := of_decide_eq_false h
  have hb := b16_lt l 0
  refine Tot.bind0 (getD_idx (i := 0) hl) (Tot.bind0 (getD_idx (i := 1) (by omega)) (Tot.some_bind ?_))
  rw [w16 l 0]
  refine Tot.ite (fun q => ?_) (fun q => ?_)
  · have q : b16 l 0 < 55296 ∨ 57343 < b16 l 0 := by
      rcases Bool.or_eq_true_iff.1 q with x | x
      · have : ((b16 l 0 : Nat) : Int) < 55296 := of_decide_eq_true x; omega
      · have : ((b16 l 0 : Nat) : Int) > 57343 := of_decide_eq_true x; omega
    have e : V c l = ((b16 l 0 : Int), 2) := by rw [hV, if_neg (by omega), if_pos q]
    rw [e]
    exact Tot.ret ⟨rfl, (decide_eq_true (Int.natCast_nonneg _)).symm, fun _ => rfl⟩
  have q : ¬ (b16 l 0 < 55296 ∨ 57343 < b16 l 0) := by
    obtain ⟨x, y⟩ := Bool.or_eq_false_iff.1 q
    have x : ¬ ((b16 l 0 : Nat) : Int) < 55296 := of_decide_eq_false x
    have y : ¬ ((b16 l 0 : Nat) : Int) > 57343 := of_decide_eq_false y
    omega
  have hx2 := byte_lt (l.getD 2 0)
  have hx3 := byte_lt (l.getD 3 0)
  have hb2 : b16 l 2 = (l.getD 2 0).toNat * 256 + (l.getD 3 0).toNat := rfl
  have h16 : (220 ≤ (l.getD 2 0).toNat ∧ (l.getD 2 0).toNat ≤ 223) ↔ (56320 ≤ b16 l 2 ∧ b16 l 2 ≤ 57343) := by rw [hb2]; constructor <;> intro h <;> omega
  refine Tot.bindq (P := fun r => r = decide (b16 l 0 < 56320 ∧ 4 ≤ l.length ∧ 56320 ≤ b16 l 2 ∧ b16 l 2 ≤ 57343)) ?_ fun r hr => ?_
  · refine Tot.ite (fun w => ?_) (fun w => ?_)
    · have w : ((b16 l 0 : Nat) : Int) < 56320 := of_decide_eq_true w
      refine Tot.ite (fun w2 => ?_) (fun w2 => ?_)
      · have w2 : (l.length : Int) ≥ 4 := of_decide_eq_true w2
        refine Tot.bind0 (getD_idx (i := 2) (by omega)) (Tot.ret ?_)
        rw [low_sur hx2]
        exact decide_eq_decide.2 ⟨fun h => ⟨by omega, by omega, h16.1 h⟩, fun h => h16.2 h.2.2⟩
      · have w2 : ¬ (l.length : Int) ≥ 4 := of_decide_eq_false w2
        exact Tot.ret (decide_eq_false (fun h => by have := h.2.1; omega)).symm
    · have w : ¬ ((b16 l 0 : Nat) : Int) < 56320 := of_decide_eq_false w
      exact Tot.ret (decide_eq_false (fun h => by have := h.1; omega)).symm
  subst hr
  refine Tot.ite (fun w => ?_) (fun w => ?_)
  · have w := of_decide_eq_true w
    have e : V c l = (((65536 + (b16 l 0 - 55296) * 1024 + (b16 l 2 - 56320) : Nat) : Int), 4) := by rw [hV, if_neg (by omega), if_neg q, if_pos w]
    rw [e]
    refine Tot.bind0 (getD_idx (i := 2) (by omega)) (Tot.bind0 (getD_idx (i := 3) (by omega)) (Tot.some_bind (Tot.some_bind (Tot.ret ?_))))
    rw [w16 l 2, sur_pair _ _ (by omega) w.1 w.2.2.1 w.2.2.2]
    exact ⟨rfl, (decide_eq_true (Int.natCast_nonneg _)).symm, fun _ => rfl⟩
  · have w := of_decide_eq_false w
    have e : V c l = (-1, 2) := by rw [hV, if_neg (by omega), if_neg q, if_neg w]
    rw [e]
    exact Tot.ret ⟨rfl, rfl, fun h => absurd h (by decide)⟩

/-! ### walking over the units -/
def At (c : Int) (L : List UInt8) : Nat → Nat
  | 0 => 0
  | k + 1 => At c L k + (V c (L.drop (At c L k))).2
def pt (c : Int) (L : List UInt8) (k : Nat) : Int := (V c (L.drop (At c L k))).1
def put (mode : Int) (x : Int) : List UInt8 := if 0 ≤ x then encR x.toNat else if mode = 1 then encR 65533 else []
def outs (c mode : Int) (L : List UInt8) (k : Nat) : List UInt8 := (List.range k).flatMap fun j => put mode (pt c L j)
theorem outs_succ (c mode : Int) (L : List UInt8) (k : Nat) : outs c mode L (k + 1) = outs c mode L k ++ put mode (pt c L k) := by
  unfold outs
  rw [List.range_succ, List.flatMap_append]
  simp
theorem put_len (mode x : Int) : (put mode x).length ≤ 4 := by
  unfold put
  have := encR_pos x.toNat
  have := encR_pos 65533
  repeat' split
  all_goals first | omega | simp
theorem outs_len (c mode : Int) (L : List UInt8) (k : Nat) : (outs c mode L k).length ≤ 4 * k := by
  induction k with
  | zero => simp [outs]
  | succ k ih =>
    have := put_len mode (pt c L k)
    rw [outs_succ, List.length_append]; omega
theorem drop_ne {L : List UInt8} {a : Nat} (h : a < L.length) : L.drop a ≠ [] := fun e => by
  have := congrArg List.length e
  rw [List.length_drop, List.length_nil] at this; omega
theorem At_step {c : Int} {L : List UInt8} {k : Nat} (h : At c L k < L.length) : At c L k < At c L (k + 1) ∧ At c L (k + 1) ≤ L.length := by
  have := V_width c (drop_ne h)
  rw [List.length_drop] at this
  show At c L k < At c L k + _ ∧ At c L k + _ ≤ _
  omega
theorem At_ge {c : Int} {L : List UInt8} {k : Nat} (h : ∀ j, j < k → At c L j < L.length) : k ≤ At c L k ∧ At c L k ≤ L.length := by
  induction k with
  | zero => exact ⟨Nat.le_refl _, Nat.zero_le _⟩
  | succ k ih =>
    have h1 := At_step (h k (by omega))
    have h2 := ih fun j hj => h j (by omega)
    omega
/-- k is the number of all units -/
def Ends (c : Int) (L : List UInt8) (k : Nat) : Prop := (∀ j, j < k → At c L j < L.length) ∧ At c L k = L.length
theorem Ends_eq {c : Int} {L : List UInt8} {k k' : Nat} (h : Ends c L k) (h' : Ends c L k') : k = k' := by
  rcases Nat.lt_trichotomy k k' with g | g | g
  · have := h'.1 k g; have := h.2; omega
  · exact g
  · have := h.1 k' g; have := h'.2; omega
theorem ends_from {c : Int} {L : List UInt8} : ∀ (m k : Nat), L.length - At c L k = m → (∀ j, j < k → At c L j < L.length) → ∃ n, k ≤ n ∧ Ends c L n := by
  intro m
  induction m using Nat.strongRecOn with
  | _ m ih =>
    intro k hm h
    by_cases hk : At c L k < L.length
    · have hs := At_step hk
      obtain ⟨n, hn, he⟩ := ih (L.length - At c L (k + 1)) (by omega) (k + 1) rfl fun j hj => by
        rcases (by omega : j < k ∨ j = k) with h' | h'
        · exact h j h'
        · subst h'; exact hk
      exact ⟨n, by omega, he⟩
    · have := At_ge h
      exact ⟨k, Nat.le_refl _, h, by omega⟩
/-- what Decode answers -/
def DecR (c mode : Int) (L : List UInt8) (r : ByteArray × Int × Int) : Prop :=
  ∃ n, Ends c L n ∧ ((mode = 0 ∧ ∃ k, k < n ∧ pt c L k < 0 ∧ (∀ j, j < k → 0 ≤ pt c L j) ∧ r = (strOf [], (16, (At c L k : Int)))) ∨
    ((mode = 0 → ∀ k, k < n → 0 ≤ pt c L k) ∧ r = if 4000 < (outs c mode L n).length then (strOf [], (3, -1)) else (strOf (outs c mode L n), (0, 0))))
theorem check_tot (b : List UInt8) (hb : b.length ≤ 1048576) : Tot (fun fuel => bytestr_check fuel [b]) (fun r => r = if 4000 < b.length then (3, -1) else (0, 0)) := by
  unfold bytestr_check
  refine Tot.bindq (P := fun r => if 4000 < b.length then r = .inr (3, -1) else r = .inl (0, 0)) ?_ fun r hr => ?_
  · refine Tot.loop (fun st => st = (0, (0, 0)) ∨ (st = (1, (0, 0)) ∧ b.length ≤ 4000)) (fun st => 1 - st.1.toNat) (.inl rfl) fun st hst => ?_
    rcases hst with e | ⟨e, h⟩
    · subst e
      refine Tot.it rfl (Tot.bind0 (a := b) rfl (Tot.ite (fun h => ?_) (fun h => ?_)))
      · have h : (b.length : Int) > 4000 := of_decide_eq_true h
        refine Tot.bindq (bytestr_at_tot 3 _) fun r hr => Tot.ret ?_
        subst hr
        show if _ then _ else _
        rw [if_pos (by omega)]; rfl
      · have h : ¬ (b.length : Int) > 4000 := of_decide_eq_false h
        exact Tot.ret ⟨.inr ⟨rfl, by omega⟩, by decide⟩
    · subst e
      refine Tot.if_ rfl (Tot.ret ?_)
      show if _ then _ else _
      rw [if_neg (by omega)]
  · by_cases h : 4000 < b.length
    · rw [if_pos h] at hr
      subst hr
      exact Tot.contr (by rw [if_pos h])
    · rw [if_neg h] at hr
      subst hr
      exact Tot.contl (Tot.ret (by rw [if_neg h]))
theorem Decode_tot {b_0 : List UInt8} {coding_1 mode_2 : Int} (hb : b_0.length ≤ 1048576) : Tot (fun fuel => bytestr_Decode fuel b_0 coding_1 mode_2) (fun r => if 4000 < b_0.length then r = (strOf [], (3, -1)) else if ¬ (0 ≤ coding_1 ∧ coding_1 ≤ 2) then r = (strOf [], (5, -2)) else if ¬ (0 ≤ mode_2 ∧ mode_2 ≤ 2) then r = (strOf [], (5, -3)) else DecR coding_1 mode_2 b_0 r) := by
  unfold bytestr_Decode
  refine Tot.bindq (check_tot b_0 hb) fun r hr => ?_
  by_cases h4 : 4000 < b_0.length
  · rw [if_pos h4] at hr
    subst hr
    exact Tot.it rfl (Tot.ret (by rw [if_pos h4]))
  rw [if_neg h4] at hr
  subst hr
  refine Tot.if_ rfl (Tot.ite (fun q => ?_) (fun q => ?_))
  · have q : ¬ (0 ≤ coding_1 ∧ coding_1 ≤ 2) := by
      rcases Bool.or_eq_true_iff.1 q with x | x
      · have := of_decide_eq_true x; omega
      · have := of_decide_eq_true x; omega
    refine Tot.bindq (bytestr_at_tot 5 (-2)) fun r hr => Tot.ret ?_
    subst hr
    rw [if_neg h4, if_pos q]
  have q : 0 ≤ coding_1 ∧ coding_1 ≤ 2 := by
    obtain ⟨x, y⟩ := Bool.or_eq_false_iff.1 q
    have := of_decide_eq_false x
    have := of_decide_eq_false y
    omega
  refine Tot.ite (fun w => ?_) (fun w => ?_)
  · have w : ¬ (0 ≤ mode_2 ∧ mode_2 ≤ 2) := by
      rcases Bool.or_eq_true_iff.1 w with x | x
      · have := of_decide_eq_true x; omega
      · have := of_decide_eq_true x; omega
    refine Tot.bindq (bytestr_at_tot 5 (-3)) fun r hr => Tot.ret ?_
    subst hr
    rw [if_neg h4, if_neg (fun h => h q), if_pos w]
  have w : 0 ≤ mode_2 ∧ mode_2 ≤ 2 := by
    obtain ⟨x, y⟩ := Bool.or_eq_false_iff.1 w
    have := of_decide_eq_false x
    have := of_decide_eq_false y
    omega
  refine Tot.mono (Q := fun r => DecR coding_1 mode_2 b_0 r) ?_ fun r hr => by rw [if_neg h4, if_neg (fun h => h q), if_neg (fun h => h w)]; exact hr
  generalize hL : b_0 = L at *
  refine Tot.bindq (P := fun r => (mode_2 = 0 ∧ ∃ k, At coding_1 L k < L.length ∧ (∀ j, j < k → At coding_1 L j < L.length) ∧ pt coding_1 L k < 0 ∧ (∀ j, j < k → 0 ≤ pt coding_1 L j) ∧ r = .inr (strOf [], (16, (At coding_1 L k : Int)))) ∨ ∃ n, Ends coding_1 L n ∧ (mode_2 = 0 → ∀ k, k < n → 0 ≤ pt coding_1 L k) ∧ r = .inl (outs coding_1 mode_2 L n, (0, 0))) ?_ fun r hr => ?_
  · refine Tot.loop (fun st => ∃ k, st.2.1 = (At coding_1 L k : Int) ∧ st.1 = outs coding_1 mode_2 L k ∧ st.2.2 = (0, 0) ∧ (∀ j, j < k → At coding_1 L j < L.length) ∧ (mode_2 = 0 → ∀ j, j < k → 0 ≤ pt coding_1 L j)) (fun st => L.length - st.2.1.toNat) ⟨0, rfl, rfl, rfl, fun j h => absurd h (by omega), fun _ j h => absurd h (by omega)⟩ fun st ⟨k, g1, g2, g3, g4, g5⟩ => ?_
    obtain ⟨out, a, f⟩ := st
    simp only at g1 g2 g3
    subst g1 g2 g3
    dsimp only
    have hge := At_ge g4
    refine Tot.ite (fun h => ?_) (fun h => ?_)
    · have h : At coding_1 L k < L.length := by have : ((At coding_1 L k : Nat) : Int) < (L.length : Int) := of_decide_eq_true h; omega
      have hne := drop_ne h
      have hst := At_step h
      refine Tot.bind0 (sub_ok (by omega) (by omega) (by omega)) ?_
      have htk : (L.take ((L.length : Nat) : Int).toNat).drop ((At coding_1 L k : Nat) : Int).toNat = L.drop (At coding_1 L k) := by
        rw [Int.toNat_natCast, Int.toNat_natCast, List.take_length]
      rw [htk]
      refine Tot.bindq (unitC_tot q hne) fun u ⟨u1, u2, u3⟩ => ?_
      have hlen := outs_len coding_1 mode_2 L k
      have hpt := V_pt coding_1 hne
      have hat : IntKind.i64.wrap ((At coding_1 L k : Int) + u.2.1) = ((At coding_1 L (k + 1) : Nat) : Int) := by
        rw [u1]
        exact iw (by show _ = ((At coding_1 L k + (V coding_1 (L.drop (At coding_1 L k))).2 : Nat) : Int); omega) (by omega)
      rw [hat]
      refine Tot.bindq (P := fun x => (mode_2 = 0 ∧ pt coding_1 L k < 0 ∧ x = .inr (.inr (.inr (strOf [], (16, (At coding_1 L k : Int)))))) ∨ ((mode_2 = 0 → 0 ≤ pt coding_1 L k) ∧ x = .inl (outs coding_1 mode_2 L (k + 1), (0, 0)))) ?_ fun x hx => ?_
      · have hput : put mode_2 (pt coding_1 L k) = if 0 ≤ pt coding_1 L k then encR (pt coding_1 L k).toNat else if mode_2 = 1 then encR 65533 else [] := rfl
        rw [u2]
        refine Tot.ite (fun o => ?_) (fun o => ?_)
        · have o : 0 ≤ pt coding_1 L k := of_decide_eq_true o
          have hs : (V coding_1 (L.drop (At coding_1 L k))).1 ≤ 1114111 := by
            rcases hpt with e | ⟨n, hn, e⟩
            · omega
            · unfold Scal at hn; omega
          rw [u3 o]
          refine Tot.bindq (AppendRune_tot (by omega) o (by omega)) fun x hx => Tot.ret (.inr ⟨fun _ => o, ?_⟩)
          subst hx
          rw [outs_succ, hput, if_pos o]
          have : ((pt coding_1 L k).toNat : Int) = pt coding_1 L k := by omega
          rw [encR, this]; rfl
        have o : ¬ 0 ≤ pt coding_1 L k := of_decide_eq_false o
        refine Tot.ite (fun m0 => ?_) (fun m0 => ?_)
        · have m0 : mode_2 = 0 := eq_of_beq m0
          refine Tot.bindq (bytestr_at_tot 16 _) fun x hx => Tot.ret (.inl ⟨m0, by omega, ?_⟩)
          subst hx; rfl
        have m0 : mode_2 ≠ 0 := fun e => by subst e; cases m0
        refine Tot.ite (fun m1 => ?_) (fun m1 => ?_)
        · have m1 : mode_2 = 1 := eq_of_beq m1
          refine Tot.bindq (AppendRune_tot (by omega) (by decide) (by decide)) fun x hx => Tot.ret (.inr ⟨fun h => absurd h m0, ?_⟩)
          subst hx
          rw [outs_succ, hput, if_neg o, if_pos m1]; rfl
        · have m1 : mode_2 ≠ 1 := fun e => by subst e; cases m1
          refine Tot.ret (.inr ⟨fun h => absurd h m0, ?_⟩)
          rw [outs_succ, hput, if_neg o, if_neg m1, List.append_nil]
      · rcases hx with ⟨h1, h2, e⟩ | ⟨h1, e⟩
        · subst e
          exact Tot.contr (.inl ⟨h1, k, h, g4, h2, g5 h1, rfl⟩)
        · subst e
          refine Tot.contl (Tot.ret ⟨⟨k + 1, rfl, rfl, rfl, fun j hj => ?_, fun hm j hj => ?_⟩, ?_⟩)
          · rcases (by omega : j < k ∨ j = k) with h' | h'
            · exact g4 j h'
            · subst h'; exact h
          · rcases (by omega : j < k ∨ j = k) with h' | h'
            · exact g5 hm j h'
            · subst h'; exact h1 hm
          · show L.length - ((At coding_1 L (k + 1) : Nat) : Int).toNat < L.length - ((At coding_1 L k : Nat) : Int).toNat
            omega
    · have h : At coding_1 L k = L.length := by have : ¬ ((At coding_1 L k : Nat) : Int) < (L.length : Int) := of_decide_eq_false h; omega
      exact Tot.ret (.inr ⟨k, ⟨g4, h⟩, g5, rfl⟩)
  · rcases hr with ⟨h1, k, hk, h2, h3, h4, e⟩ | ⟨n, hn, h2, e⟩
    · subst e
      obtain ⟨n, hkn, he⟩ := ends_from (c := coding_1) (L := L) _ k rfl h2
      have hk' : k < n := by
        rcases (by omega : k < n ∨ k = n) with h | h
        · exact h
        · subst h; have := he.2; omega
      exact Tot.contr ⟨n, he, .inl ⟨h1, k, hk', h3, h4, rfl⟩⟩
    · subst e
      refine Tot.contl (Tot.ite (fun w => ?_) (fun w => ?_))
      · have w : ((outs coding_1 mode_2 L n).length : Int) > 4000 := of_decide_eq_true w
        refine Tot.bindq (bytestr_at_tot 3 (-1)) fun r hr => Tot.ret ⟨n, hn, .inr ⟨h2, ?_⟩⟩
        subst hr
        rw [if_pos (by omega)]
      · have w : ¬ ((outs coding_1 mode_2 L n).length : Int) > 4000 := of_decide_eq_false w
        exact Tot.ret ⟨n, hn, .inr ⟨h2, by rw [if_neg (by omega)]⟩⟩
end Go.Gv.R
