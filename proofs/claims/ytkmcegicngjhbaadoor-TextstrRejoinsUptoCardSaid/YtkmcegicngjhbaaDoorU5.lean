import Derived.Test.YtkmcegicngjhbaaDoorU4
set_option linter.all false
namespace Go.Gv.R
open Go Go.Gv Go.Gv.D Go.Lib

theorem U_enc {r : Nat} (h : Scal r) (t : List UInt8) : U (encR r ++ t) = ((r : Int), ((encR r).length : Int)) := by
  unfold U
  rw [decode_enc r h, if_neg (show ¬ bad (r, (encR r).length) from not_bad h)]
theorem enc_inj : ∀ {p q : List Nat}, (∀ r ∈ p, Scal r) → (∀ r ∈ q, Scal r) → enc p = enc q → p = q
  | [], [], _, _, _ => rfl
  | [], r :: q, _, _, e => absurd e.symm enc_ne
  | r :: p, [], _, _, e => absurd e enc_ne
  | r :: p, r' :: q, hp, hq, e => by
    have h1 := decode_enc r (hp r (by simp)) (enc p)
    have h2 := decode_enc r' (hq r' (by simp)) (enc q)
    rw [← enc_cons] at h1 h2
    rw [e, h2] at h1
    have e1 := (Prod.mk.inj h1).1
    subst e1
    rw [enc_cons, enc_cons] at e
    rw [enc_inj (fun x hx => hp x (by simp [hx])) (fun x hx => hq x (by simp [hx])) (List.append_cancel_left e)]
theorem enc_len_ge (p : List Nat) : p.length ≤ (enc p).length := by
  induction p with
  | nil => simp
  | cons r p ih =>
    have := encR_pos r
    rw [enc_cons, List.length_append, List.length_cons]; omega
theorem Points_tot {s_0 : ByteArray} (hs : s_0.size ≤ 1048576) : Tot (fun fuel => ref4_Points fuel s_0) (fun r => (validD (bytesOf s_0) = false ∧ r = ([], false)) ∨ ∃ p, (∀ r ∈ p, Scal r) ∧ bytesOf s_0 = enc p ∧ r = (ints p, true)) := by
  unfold ref4_Points
  have hsz := size_bytes s_0
  rw [hsz] at hs ⊢
  generalize bytesOf s_0 = L at hs ⊢
  refine Tot.bindq (P := fun r => (validD L = false ∧ r = .inr ([], false)) ∨ ∃ p, (∀ r ∈ p, Scal r) ∧ L = enc p ∧ r = .inl (ints p)) ?_ fun r hr => ?_
  · refine Tot.loop (fun st => ∃ p t, (∀ r ∈ p, Scal r) ∧ L = enc p ++ t ∧ validD t = validD L ∧ st.2 = ((enc p).length : Int) ∧ st.1 = ints p) (fun st => L.length - st.2.toNat) ⟨[], L, by simp, rfl, rfl, rfl, rfl⟩ fun st ⟨p, t, hp, hL, hv, e, g⟩ => ?_
    obtain ⟨out, a⟩ := st
    simp only at e g
    subst e g
    dsimp only
    have hlen : L.length = (enc p).length + t.length := by rw [hL, List.length_append]
    refine Tot.ite (fun h => ?_) (fun h => ?_)
    · have h : 0 < t.length := by have : (((enc p).length : Nat) : Int) < (L.length : Int) := of_decide_eq_true h; omega
      have hne : t ≠ [] := List.length_pos_iff.1 h
      refine Tot.bindq (unit_tot (by omega) (by omega)) fun r hr => ?_
      have hd : L.drop (enc p).length = t := by rw [hL, List.drop_left]
      rw [hd] at hr
      have hw := decodeL_width t
      have hle := decodeL_le t hne
      have hvt := validD_step t hne
      by_cases hb : bad (decodeL t)
      · have hu : r = (0, 0) := by rw [hr]; unfold U; rw [if_pos hb]
        subst hu
        rw [if_pos (show (decodeL t).1 = 65533 ∧ (decodeL t).2 = 1 from hb)] at hvt
        exact Tot.it rfl (Tot.ret (.inl ⟨by rw [← hv, hvt], rfl⟩))
      · have hu : r = (((decodeL t).1 : Int), ((decodeL t).2 : Int)) := by rw [hr]; unfold U; rw [if_neg hb]
        subst hu
        rw [if_neg (show ¬ ((decodeL t).1 = 65533 ∧ (decodeL t).2 = 1) from hb)] at hvt
        refine Tot.if_ (beq_eq_false_iff_ne.2 (by dsimp only; omega)) ?_
        have hpl := enc_len_ge p
        refine Tot.bind0 (app_ok (by rw [ints_len]; simp only [List.length_cons, List.length_nil]; omega)) (Tot.ret ?_)
        have hsc := decode_scal hne hb
        have htake : encR (decodeL t).1 = t.take (decodeL t).2 := encode_decode t hne hb
        have hw2 : IntKind.i64.wrap (((enc p).length : Int) + ((decodeL t).2 : Int)) = (((enc (p ++ [(decodeL t).1])).length : Nat) : Int) := by
          rw [i64_small (by omega) (by omega), enc_app, List.length_append, show enc [(decodeL t).1] = encR (decodeL t).1 by simp [enc], htake, List.length_take]
          omega
        refine ⟨⟨p ++ [(decodeL t).1], t.drop (decodeL t).2, ?_, ?_, by rw [← hvt, hv], hw2, ?_⟩, ?_⟩
        · intro x hx
          rcases List.mem_append.1 hx with h' | h'
          · exact hp x h'
          · rw [List.mem_singleton.1 h']; exact hsc
        · rw [enc_app, show enc [(decodeL t).1] = encR (decodeL t).1 by simp [enc], htake, List.append_assoc, List.take_append_drop, hL]
        · exact (ints_app _ [_]).symm
        · show L.length - (IntKind.i64.wrap (((enc p).length : Int) + ((decodeL t).2 : Int))).toNat < L.length - (((enc p).length : Nat) : Int).toNat
          rw [i64_small (by omega) (by omega)]; omega
    · have h : t = [] := List.length_eq_zero_iff.1 (by have : ¬ (((enc p).length : Nat) : Int) < (L.length : Int) := of_decide_eq_false h; omega)
      subst h
      exact Tot.ret (.inr ⟨p, hp, by rw [hL, List.append_nil], rfl⟩)
  · rcases hr with ⟨h, e⟩ | ⟨p, hp, h, e⟩
    · subst e; exact Tot.contr (.inl ⟨h, rfl⟩)
    · subst e; exact Tot.contl (Tot.ret (.inr ⟨p, hp, h, rfl⟩))
theorem TextOk_tot {s : ByteArray} (hs : s.size ≤ 1048576) : Tot (fun fuel => ref4_TextOk fuel s) (fun r => r = (validD (bytesOf s) && decide (s.size ≤ 4000))) := by
  unfold ref4_TextOk
  refine Tot.bindq (Points_tot hs) fun r hr => Tot.ret ?_
  have hd : decide ((s.size : Int) ≤ 4000) = decide (s.size ≤ 4000) := decide_eq_decide.2 ⟨fun h => by omega, fun h => by omega⟩
  rw [hd]
  rcases hr with ⟨h, e⟩ | ⟨p, hp, h, e⟩
  · rw [e, h]
  · rw [e, h, valid_enc p hp]
theorem TextFaults_tot {s : ByteArray} (hs : s.size ≤ 1048576) : Tot (fun fuel => ref4_TextFaults fuel [s]) (fun r => r = if (validD (bytesOf s) && decide (s.size ≤ 4000)) = true then (0, 0) else (6, -1)) := by
  unfold ref4_TextFaults
  refine Tot.bindq (P := fun r => if (validD (bytesOf s) && decide (s.size ≤ 4000)) = true then r = .inl (0, 0) else r = .inr (6, -1)) ?_ fun r hr => ?_
  · refine Tot.loop (fun st => (st = (0, (0, 0))) ∨ (st = (1, (0, 0)) ∧ (validD (bytesOf s) && decide (s.size ≤ 4000)) = true)) (fun st => 1 - st.1.toNat) (.inl rfl) fun st hst => ?_
    rcases hst with e | ⟨e, h⟩
    · subst e
      refine Tot.it rfl (Tot.bind0 (a := s) rfl (Tot.bindq (TextOk_tot hs) fun r hr => ?_))
      subst hr
      refine Tot.ite (fun h => ?_) (fun h => ?_)
      · have h : (validD (bytesOf s) && decide (s.size ≤ 4000)) = false := by cases hh : (validD (bytesOf s) && decide (s.size ≤ 4000)) <;> rw [hh] at h <;> first | rfl | cases h
        refine Tot.bindq (P := fun r => r = (6, -1)) (by unfold ref4_At; exact Tot.ret rfl) fun r hr => Tot.ret ?_
        subst hr
        rw [h]; rfl
      · have h : (validD (bytesOf s) && decide (s.size ≤ 4000)) = true := by cases hh : (validD (bytesOf s) && decide (s.size ≤ 4000)) <;> rw [hh] at h <;> first | rfl | cases h
        exact Tot.ret ⟨.inr ⟨rfl, h⟩, by decide⟩
    · subst e
      refine Tot.if_ rfl (Tot.ret ?_)
      show if _ then _ else _
      rw [if_pos h]
  · by_cases h : (validD (bytesOf s) && decide (s.size ≤ 4000)) = true
    · rw [if_pos h] at hr
      subst hr
      rw [h]
      exact Tot.contl (Tot.ret rfl)
    · rw [if_neg h] at hr
      subst hr
      exact Tot.contr (by rw [if_neg h])

/-! ### a text's runes, as the range statement takes them -/
theorem decode_drop (s : ByteArray) (i : Nat) : Utf8.decode s i = decodeL ((bytesOf s).drop i) := by
  rw [decode_at, decodeL_N, drop_getD, drop_getD, drop_getD, drop_getD, List.length_drop, get_getD, get_getD, get_getD, get_getD, size_bytes]
  simp only [Nat.add_zero]
theorem rune_at {s : ByteArray} {p t : List Nat} {r : Nat} (hr : Scal r) (h : bytesOf s = enc (p ++ r :: t)) : runeI s (enc p).length = (r : Int) ∧ runeN s (enc p).length = (encR r).length := by
  unfold runeI runeN
  rw [decode_drop, h, enc_app, List.drop_left, enc_cons, decode_enc r hr]
  exact ⟨rfl, rfl⟩

/-! ### codings -/
def codeR (c : Int) (r : Nat) : List UInt8 :=
  if c = 0 then encR r else if c = 1 then [UInt8.ofNat r] else if r < 65536 then [UInt8.ofNat (r / 256), UInt8.ofNat (r % 256)]
  else [UInt8.ofNat (216 + (r - 65536) / 1024 / 256), UInt8.ofNat ((r - 65536) / 1024 % 256), UInt8.ofNat (220 + (r - 65536) % 1024 / 256), UInt8.ofNat ((r - 65536) % 1024 % 256)]
def codeL (c : Int) (p : List Nat) : List UInt8 := p.flatMap (codeR c)
theorem codeL_snoc (c : Int) (p : List Nat) (r : Nat) : codeL c (p ++ [r]) = codeL c p ++ codeR c r := by simp [codeL]
theorem codeR_len (c : Int) (r : Nat) : (codeR c r).length ≤ 4 := by
  unfold codeR
  have := encR_pos r
  repeat' split
  all_goals first | omega | (simp only [List.length_cons, List.length_nil]; omega)
theorem codeL_len (c : Int) (p : List Nat) : (codeL c p).length ≤ 4 * p.length := by
  induction p with
  | nil => simp [codeL]
  | cons r p ih =>
    have := codeR_len c r
    unfold codeL at *
    rw [List.flatMap_cons, List.length_append, List.length_cons]; omega
theorem codeL_zero (p : List Nat) : codeL 0 p = enc p := by
  have : codeR 0 = encR := by funext r; unfold codeR; rw [if_pos rfl]
  unfold codeL enc
  rw [this]
theorem u8_mod (z : Int) : u8 (IntKind.u8.wrap z) = some (UInt8.ofNat (z % 256).toNat) := by
  rw [u8_wrap]
  unfold u8
  rw [if_pos (by omega)]
theorem u8_of {z : Int} {n : Nat} (h : z = (n : Int)) : u8 (IntKind.u8.wrap z) = some (UInt8.ofNat n) := by
  rw [u8_mod]
  congr 1
  apply UInt8.toNat.inj
  rw [UInt8.toNat_ofNat', UInt8.toNat_ofNat']
  omega
theorem and1023 (n : Nat) (h : n < 2147483648) : bwAnd .i32 (n : Int) 1023 = ((n % 1024 : Nat) : Int) := by
  unfold bwAnd
  rw [show IntKind.i32.bits = 32 from rfl, show (1023 : Int) = ((2 ^ 10 - 1 : Nat) : Int) from rfl, ofInt_nat, ofInt_nat, BitVec.toNat_and, BitVec.toNat_ofNat, BitVec.toNat_ofNat, Nat.mod_eq_of_lt (by omega), Nat.mod_eq_of_lt (by decide), Nat.and_two_pow_sub_one_eq_mod]
  exact i32_small (by omega) (by omega)
def CodeQ (c : Int) (p : List Nat) (r : List UInt8 × Int × Int) : Prop :=
  (c = 1 ∧ ∃ k, ∃ h : k < p.length, 255 < p[k] ∧ (∀ j (hj : j < k), p[j] ≤ 255) ∧ r = ([], (4, (k : Int)))) ∨
  ((c = 1 → ∀ x ∈ p, x ≤ 255) ∧ r = if 4000 < (codeL c p).length then ([], (3, -1)) else (codeL c p, (0, 0)))
theorem hi16 (q : Nat) (h : q < 1024) : ((55296 + q : Nat) : Int) / 2 ^ 8 = ((216 + q / 256 : Nat) : Int) := by omega
theorem lo16 (q : Nat) (h : q < 1024) : (((55296 + q : Nat) : Int) % 256).toNat = q % 256 := by omega
theorem hj16 (q : Nat) (h : q < 1024) : ((56320 + q : Nat) : Int) / 2 ^ 8 = ((220 + q / 256 : Nat) : Int) := by omega
theorem lj16 (q : Nat) (h : q < 1024) : (((56320 + q : Nat) : Int) % 256).toNat = q % 256 := by omega
theorem sur_hi (z : Nat) (h : z < 1048576) : IntKind.i32.wrap (55296 + ((z : Nat) : Int) / 2 ^ 10) = ((55296 + z / 1024 : Nat) : Int) := by rw [i32_small (by omega) (by omega)]; omega
theorem sur_lo (z : Nat) : IntKind.i32.wrap (56320 + ((z % 1024 : Nat) : Int)) = ((56320 + z % 1024 : Nat) : Int) := by rw [i32_small (by omega) (by omega)]; omega
theorem sur_q (z : Nat) (h : z < 1048576) : z / 1024 < 1024 := by omega
end Go.Gv.R
