import Derived.Test.YtkmcegicngjhbaaDoorU2
set_option linter.all false
namespace Go.Gv.R
open Go Go.Gv Go.Gv.D Go.Lib

theorem u32_small {x : Int} (h : 0 ≤ x) (h' : x < 4294967296) : IntKind.u32.wrap x = x := by rw [u32_wrap]; omega
theorem u8_int {n : Int} (h : 0 ≤ n) (h' : n < 256) : u8 n = some (n.toNat.toUInt8) := by unfold u8; rw [if_pos ⟨h, h'⟩]
theorem or_lead {a : Nat} : (a < 32 → bwOr .u8 192 (a : Int) = 192 + (a : Int)) ∧ (a < 64 → bwOr .u8 128 (a : Int) = 128 + (a : Int)) ∧ (a < 16 → bwOr .u8 224 (a : Int) = 224 + (a : Int)) ∧ (a < 8 → bwOr .u8 240 (a : Int) = 240 + (a : Int)) := by
  have k : ((List.range 64).all fun a => ((!(decide (a < 32)) || decide (bwOr .u8 192 ((a : Nat) : Int) = 192 + (a : Int))) && decide (bwOr .u8 128 ((a : Nat) : Int) = 128 + (a : Int))) && ((!(decide (a < 16)) || decide (bwOr .u8 224 ((a : Nat) : Int) = 224 + (a : Int))) && (!(decide (a < 8)) || decide (bwOr .u8 240 ((a : Nat) : Int) = 240 + (a : Int))))) = true := by kernel_rfl
  have h : ∀ a < 64, _ := fun a ha => List.all_eq_true.1 k a (List.mem_range.2 ha)
  simp only [Bool.and_eq_true, Bool.or_eq_true, Bool.not_eq_true', decide_eq_true_eq, decide_eq_false_iff_not] at h
  refine ⟨fun ha => ?_, fun ha => (h a ha).1.2, fun ha => ?_, fun ha => ?_⟩
  · rcases (h a (by omega)).1.1 with x | x
    · exact absurd ha x
    · exact x
  · rcases (h a (by omega)).2.1 with x | x
    · exact absurd ha x
    · exact x
  · rcases (h a (by omega)).2.2 with x | x
    · exact absurd ha x
    · exact x
theorem low6 {r : Int} (h : 0 ≤ r) : bwOr .u8 128 (bwAnd .u8 (IntKind.u8.wrap r) 63) = 128 + r % 64 := by
  have h1 : 0 ≤ r % 256 ∧ r % 256 < 256 := by omega
  rw [u8_wrap, show r % 256 = (((r % 256).toNat : Nat) : Int) by omega, (and_u8 (by omega)).2.2.2, or_lead.2.1 (Nat.mod_lt _ (by decide))]
  omega
theorem fdiv_pow {r : Int} (h : 0 ≤ r) (k : Nat) : r.fdiv (2 ^ k) = r / 2 ^ k := Int.fdiv_eq_ediv_of_nonneg _ (Int.le_of_lt (Int.pow_pos (by decide)))
theorem lead_at {x : Int} {q : Int} (hq : 0 ≤ q) (m : Nat) (h2 : q < (m : Int)) (f : ∀ a : Nat, a < m → bwOr .u8 x (a : Int) = x + (a : Int)) (hm : m ≤ 256) : bwOr .u8 x (IntKind.u8.wrap q) = x + q := by
  rw [u8_small hq (by omega), show q = ((q.toNat : Nat) : Int) by omega, f _ (by omega)]
theorem AppendRune_tot {l : List UInt8} {r : Int} (hl : l.length ≤ 4294967290) (h0 : 0 ≤ r) (h1 : r ≤ 2147483647) : Tot (fun fuel => utf8_AppendRune fuel l r) (fun x => x = l ++ encodeRune r) := by
  unfold utf8_AppendRune
  rw [u32_small (by omega) (by omega)]
  refine Tot.ite (fun h => ?_) (fun h => ?_)
  · have h : r ≤ 127 := of_decide_eq_true h
    rw [u8_small (by omega) (by omega)]
    refine Tot.bind0 (u8_int (by omega) (by omega)) (Tot.bind0 (app_ok (by simp only [List.length_cons, List.length_nil]; omega)) (Tot.ret ?_))
    unfold encodeRune
    rw [encodeRuneZ_one h0 h]; rfl
  have h : ¬ r ≤ 127 := of_decide_eq_false h
  refine Tot.bindq (P := fun x => x = l ++ encodeRune r) ?_ fun x hx => Tot.ret hx
  unfold utf8_appendRuneNonASCII
  rw [u32_small (by omega) (by omega)]
  refine Tot.some_bind (Tot.ite (fun q => ?_) (fun q => ?_))
  · have q : r ≤ 2047 := of_decide_eq_true q
    rw [fdiv_pow h0, lead_at (q := r / 2 ^ 6) (by omega) 32 (by omega) (fun a => or_lead.1) (by omega), low6 h0]
    refine Tot.bind0 (u8_int (by omega) (by omega)) (Tot.bind0 (u8_int (by omega) (by omega)) (Tot.bind0 (app_ok (by simp only [List.length_cons, List.length_nil]; omega)) (Tot.ret ?_)))
    unfold encodeRune
    rw [encodeRuneZ_two (by omega) q]; rfl
  have q : ¬ r ≤ 2047 := of_decide_eq_false q
  refine Tot.some_bind (Tot.bindq (P := fun x => x = decide (r < 55296 ∨ (57343 < r ∧ r ≤ 65535))) ?_ fun x hx => ?_)
  · refine Tot.ite (fun g => ?_) (fun g => ?_)
    · have g := of_decide_eq_true g
      exact Tot.ret (by rw [decide_eq_true g, decide_eq_true (.inl g)])
    · have g := of_decide_eq_false g
      refine Tot.ret ?_
      rw [← Bool.decide_and]
      exact decide_eq_decide.2 ⟨fun h => .inr h, fun h => by (rcases h with h | h); (exact absurd h g); exact h⟩
  subst hx
  refine Tot.ite (fun g => ?_) (fun g => ?_)
  · have g := of_decide_eq_true g
    rw [fdiv_pow h0, fdiv_pow h0, lead_at (q := r / 2 ^ 12) (by omega) 16 (by omega) (fun a => or_lead.2.2.1) (by omega), low6 (r := r / 2 ^ 6) (by omega), low6 h0]
    refine Tot.bind0 (u8_int (by omega) (by omega)) (Tot.bind0 (u8_int (by omega) (by omega)) (Tot.bind0 (u8_int (by omega) (by omega)) (Tot.bind0 (app_ok (by simp only [List.length_cons, List.length_nil]; omega)) (Tot.ret ?_))))
    unfold encodeRune
    rw [encodeRuneZ_three (by omega)]; rfl
  have g := of_decide_eq_false g
  refine Tot.ite (fun w => ?_) (fun w => ?_)
  · obtain ⟨w1, w2⟩ := Bool.and_eq_true_iff.1 w
    have w1 : r > 65535 := of_decide_eq_true w1
    have w2 : r ≤ 1114111 := of_decide_eq_true w2
    rw [fdiv_pow h0, fdiv_pow h0, fdiv_pow h0, lead_at (q := r / 2 ^ 18) (by omega) 8 (by omega) (fun a => or_lead.2.2.2) (by omega), low6 (r := r / 2 ^ 12) (by omega), low6 (r := r / 2 ^ 6) (by omega), low6 h0]
    refine Tot.bind0 (u8_int (by omega) (by omega)) (Tot.bind0 (u8_int (by omega) (by omega)) (Tot.bind0 (u8_int (by omega) (by omega)) (Tot.bind0 (u8_int (by omega) (by omega)) (Tot.bind0 (app_ok (by simp only [List.length_cons, List.length_nil]; omega)) (Tot.ret ?_)))))
    unfold encodeRune
    rw [encodeRuneZ_four (by omega) w2]; rfl
  · have w : ¬ (r > 65535 ∧ r ≤ 1114111) := fun ⟨h, h'⟩ => by rw [decide_eq_true h, decide_eq_true h'] at w; cases w
    refine Tot.bind0 (app_ok (by simp only [List.length_cons, List.length_nil]; omega)) (Tot.ret ?_)
    unfold encodeRune
    rw [encodeRuneZ_bad (by omega)]; rfl

/-! ### scalars, and texts of them -/
def Scal (r : Nat) : Prop := r < 55296 ∨ (57343 < r ∧ r ≤ 1114111)
def encR (r : Nat) : List UInt8 := encodeRune (r : Int)
def enc (l : List Nat) : List UInt8 := l.flatMap encR
theorem encR_pos (r : Nat) : 1 ≤ (encR r).length ∧ (encR r).length ≤ 4 := by
  have := encodeRuneZ_length (r : Int)
  unfold encR encodeRune
  rw [List.length_map]; exact this
theorem byte_nat {n : Nat} (h : n < 256) : ((n : Int).toNat.toUInt8).toNat = n := by
  rw [Int.toNat_natCast]
  show (UInt8.ofNat n).toNat = n
  rw [UInt8.toNat_ofNat', Nat.mod_eq_of_lt (by omega)]
/-- ENCODED AND DECODED. -/
theorem decode_enc (r : Nat) (h : Scal r) (t : List UInt8) : decodeL (encR r ++ t) = (r, (encR r).length) := by
  rw [decodeL_N]
  unfold encR encodeRune
  have hb : ∀ z : Int, 0 ≤ z → z < 256 → (z.toNat.toUInt8).toNat = z.toNat := fun z h1 h2 => by
    show (UInt8.ofNat z.toNat).toNat = _
    rw [UInt8.toNat_ofNat', Nat.mod_eq_of_lt (by omega)]
  unfold Scal at h
  rcases (by omega : r ≤ 127 ∨ (128 ≤ r ∧ r ≤ 2047) ∨ (2048 ≤ r ∧ r ≤ 65535) ∨ 65536 ≤ r) with c | c | c | c
  · rw [encodeRuneZ_one (by omega) (by omega)]
    simp only [List.map_cons, List.map_nil, List.cons_append, List.nil_append, List.getD_cons_zero, List.getD_cons_succ, List.length_cons, List.length_nil]
    rw [hb _ (by omega) (by omega)]
    unfold decodeN
    rw [if_pos (by omega)]; simp
  · rw [encodeRuneZ_two (by omega) (by omega)]
    simp only [List.map_cons, List.map_nil, List.cons_append, List.nil_append, List.getD_cons_zero, List.getD_cons_succ, List.length_cons, List.length_nil]
    rw [hb _ (by omega) (by omega), hb _ (by omega) (by omega)]
    unfold decodeN
    rw [if_neg (by omega), if_pos ⟨by omega, by omega, by omega⟩, if_pos (by omega)]
    congr 1; omega
  · rw [encodeRuneZ_three (by omega)]
    simp only [List.map_cons, List.map_nil, List.cons_append, List.nil_append, List.getD_cons_zero, List.getD_cons_succ, List.length_cons, List.length_nil]
    rw [hb _ (by omega) (by omega), hb _ (by omega) (by omega), hb _ (by omega) (by omega)]
    unfold decodeN
    rw [if_neg (by omega), if_neg (by omega), if_pos ⟨by omega, ⟨by omega, by omega⟩, by omega, by omega⟩, if_pos ⟨by omega, by omega⟩]
    congr 1; omega
  · rw [encodeRuneZ_four (by omega) (by omega)]
    simp only [List.map_cons, List.map_nil, List.cons_append, List.nil_append, List.getD_cons_zero, List.getD_cons_succ, List.length_cons, List.length_nil]
    rw [hb _ (by omega) (by omega), hb _ (by omega) (by omega), hb _ (by omega) (by omega), hb _ (by omega) (by omega)]
    unfold decodeN
    rw [if_neg (by omega), if_neg (by omega), if_neg (by omega), if_pos ⟨by omega, ⟨by omega, by omega⟩, ⟨by omega, by omega⟩, by omega, by omega⟩, if_pos ⟨by omega, by omega⟩]
    congr 1; omega
theorem enc_cons (r : Nat) (l : List Nat) : enc (r :: l) = encR r ++ enc l := by simp [enc]
theorem enc_app (l m : List Nat) : enc (l ++ m) = enc l ++ enc m := by simp [enc]
theorem enc_ne {r : Nat} {l : List Nat} : enc (r :: l) ≠ [] := by
  have := encR_pos r
  rw [enc_cons]
  intro e
  have := congrArg List.length e
  rw [List.length_append, List.length_nil] at this
  omega
theorem not_bad {r : Nat} (h : Scal r) : ¬ (r = 65533 ∧ (encR r).length = 1) := fun ⟨e, h2⟩ => by
  subst e
  have : (encR 65533).length = 3 := by kernel_rfl
  omega
theorem valid_enc : ∀ (l : List Nat), (∀ r ∈ l, Scal r) → validD (enc l) = true
  | [], _ => rfl
  | r :: l, h => by
    have hr := h r (by simp)
    rw [validD_step _ enc_ne, enc_cons, decode_enc r hr, if_neg (not_bad hr)]
    rw [List.drop_left]
    exact valid_enc l fun x hx => h x (by simp [hx])
theorem decode_scal {l : List UInt8} (hne : l ≠ []) (hv : ¬ ((decodeL l).1 = 65533 ∧ (decodeL l).2 = 1)) : Scal (decodeL l).1 := by
  rw [decodeL_N] at *
  have k0 := byte_lt (l.getD 0 0)
  have k1 := byte_lt (l.getD 1 0)
  unfold Scal
  rcases decodeN_shape l.length (l.getD 0 0).toNat (l.getD 1 0).toNat (l.getD 2 0).toNat (l.getD 3 0).toNat with ⟨c, e⟩ | ⟨c1, c2, c3, cv, e⟩ | ⟨c1, c2, c3, c4, cv, cs, e⟩ | ⟨c1, c2, c3, c4, c5, cv, cw, e⟩ | e
  · rw [e]; dsimp only; omega
  · rw [e]; dsimp only; omega
  · rw [e]; dsimp only; omega
  · rw [e]; dsimp only; omega
  · rw [e] at hv; exact absurd ⟨rfl, rfl⟩ hv
theorem enc_of_valid : ∀ (n : Nat) (l : List UInt8), l.length ≤ n → validD l = true → ∃ p, (∀ r ∈ p, Scal r) ∧ l = enc p
  | _, [], _, _ => ⟨[], by simp, rfl⟩
  | 0, _ :: _, h, _ => by simp at h
  | n + 1, x :: t, h, hv => by
    have hne : x :: t ≠ [] := by simp
    rw [validD_step _ hne] at hv
    split at hv
    · cases hv
    · rename_i hb
      have hw := decodeL_width (x :: t)
      obtain ⟨p, hp, e⟩ := enc_of_valid n ((x :: t).drop (decodeL (x :: t)).2) (by rw [List.length_drop]; simp only [List.length_cons] at h ⊢; omega) hv
      refine ⟨(decodeL (x :: t)).1 :: p, ?_, ?_⟩
      · intro r hr
        rcases List.mem_cons.1 hr with h' | h'
        · rw [h']; exact decode_scal hne hb
        · exact hp r h'
      · rw [enc_cons, ← e, encR, encode_decode _ hne hb, List.take_append_drop]
theorem valid_iff {l : List UInt8} (h : validD l = true) : ∃ p, (∀ r ∈ p, Scal r) ∧ l = enc p := enc_of_valid _ l (Nat.le_refl _) h
end Go.Gv.R
