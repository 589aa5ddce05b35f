import Derived.Test.YtlclmpegnkomcaaDoorL6
set_option linter.all false
namespace Go.Gv.R
open Go Go.Gv Go.Gv.D

def bits6 (n : Nat) : List Nat := [n / 32 % 2, n / 16 % 2, n / 8 % 2, n / 4 % 2, n / 2 % 2, n / 1 % 2]
theorem bits6_eq (n : Nat) : bits6 n = (List.range 6).map fun k => n / 2 ^ (5 - k) % 2 := rfl
def let6 (x : UInt8) : List Nat := (List.range 64).flatMap fun k => if (lt k).toNat == x.toNat then bits6 k else []
theorem let6_lt {n : Nat} (h : n < 64) : let6 (lt n) = bits6 n := by
  have : ((List.range 64).all fun n => let6 (lt n) == bits6 n) = true := by kernel_rfl
  exact eq_of_beq (List.all_eq_true.1 this n (List.mem_range.2 h))
theorem let6_eq : let6 61 = [] := by kernel_rfl
theorem let6_le (x : UInt8) : (let6 x).length ≤ 6 := by
  have h : ((List.range 256).all fun n => decide ((let6 (UInt8.ofNat n)).length ≤ 6)) = true := by kernel_rfl
  have := byte_all (p := fun n => decide ((let6 (UInt8.ofNat n)).length ≤ 6)) h x
  simpa only [UInt8.ofNat_toNat, decide_eq_true_eq] using this
theorem flat6_len (l : List UInt8) : (l.flatMap let6).length ≤ 6 * l.length := by
  induction l with
  | nil => simp
  | cons x l ih =>
    have := let6_le x
    rw [List.flatMap_cons, List.length_append, List.length_cons]; omega
theorem letters6_back : ∀ (p : List Nat), p.length % 6 = 0 → (∀ n ∈ p, n ≤ 1) → (letters6 p).flatMap let6 = p
  | [], _, _ => rfl
  | [_], h, _ | [_, _], h, _ | [_, _, _], h, _ | [_, _, _, _], h, _ | [_, _, _, _, _], h, _ => by simp at h
  | a :: b :: c :: d :: e :: f :: l, h, hb => by
    have h' : l.length % 6 = 0 := by simp only [List.length_cons] at h; omega
    have ha := hb a (by simp)
    have hb' := hb b (by simp)
    have hc := hb c (by simp)
    have hd := hb d (by simp)
    have he := hb e (by simp)
    have hf := hb f (by simp)
    have ih := letters6_back l h' fun n hn => hb n (by simp [hn])
    show (lt _ :: letters6 l).flatMap let6 = _
    rw [List.flatMap_cons, ih, let6_lt (by omega)]
    have h1 : bits6 (32 * a + 16 * b + 8 * c + 4 * d + 2 * e + f) = [a, b, c, d, e, f] := by
      simp only [bits6, List.cons.injEq, and_true]
      omega
    rw [h1]
    rfl
theorem flat_pad (l : List UInt8) : (pad4 l).flatMap let6 = l.flatMap let6 := by
  unfold pad4
  rw [List.flatMap_append]
  have : ∀ n, (List.replicate n (61 : UInt8)).flatMap let6 = [] := fun n => by
    induction n with
    | zero => rfl
    | succ n ih => rw [List.replicate_succ, List.flatMap_cons, ih, let6_eq]; rfl
  rw [this, List.append_nil]
theorem b64_bits (x : List UInt8) : (b64L x).flatMap let6 = pad6 (bitsN x) := by
  rw [← sixty_eq]
  unfold sixty
  rw [flat_pad, letters6_back _ (pad6_len _).1 (pad6_bit bit_le)]
/-- octet m of the bits of x -/
theorem bits_at : ∀ (x : List UInt8) (m k : Nat) (hm : m < x.length) (hk : k < 8) (h : 8 * m + k < (bitsN x).length), (bitsN x)[8 * m + k] = x[m].toNat / 2 ^ (7 - k) % 2
  | [], m, k, hm, _, _ => absurd hm (Nat.not_lt_zero _)
  | y :: l, 0, k, _, hk, h => by
    simp only [Nat.mul_zero, Nat.zero_add, bitsN, List.flatMap_cons, List.getElem_cons_zero]
    rw [List.getElem_append_left (by rw [bits8_len]; exact hk)]
    simp only [bits8_eq, List.getElem_map, List.getElem_range]
  | y :: l, m + 1, k, hm, hk, h => by
    have hm' : m < l.length := by simp only [List.length_cons] at hm; omega
    have := bits_at l m k hm' hk (by rw [bitsN_len]; omega)
    simp only [List.getElem_cons_succ]
    rw [← this]
    simp only [bitsN, List.flatMap_cons]
    rw [List.getElem_append_right (by rw [bits8_len]; omega)]
    congr 1
    rw [bits8_len]; omega
theorem Bytes64_tot {s_0 : ByteArray} (hs : s_0.size ≤ 4000) : Tot (fun fuel => ref4_Bytes64 fuel s_0) (fun r => (r.2 = true ∧ bytesOf s_0 = b64L r.1) ∨ (r.2 = false ∧ ∀ x, bytesOf s_0 ≠ b64L x)) := by
  unfold ref4_Bytes64
  have hsz := size_bytes s_0
  rw [hsz] at hs ⊢
  have hstr := str_bytes s_0
  generalize hL : bytesOf s_0 = L at hs hstr ⊢
  refine Tot.bindq (P := fun r => r = ints (L.flatMap let6)) ?_ fun r hr => ?_
  · refine Tot.loop (fun st => ∃ i : Nat, st.2 = (i : Int) ∧ i ≤ L.length ∧ st.1 = ints ((L.take i).flatMap let6)) (fun st => L.length - st.2.toNat) ⟨0, rfl, by omega, rfl⟩ fun st ⟨i, e, hi, g⟩ => ?_
    obtain ⟨out, q⟩ := st
    simp only at e g
    subst e g
    dsimp only
    refine Tot.ite (fun h => ?_) (fun h => ?_)
    · have hq : i < L.length := by have : ((i : Nat) : Int) < (L.length : Int) := of_decide_eq_true h; omega
      have hlen := flat6_len (L.take i)
      rw [List.length_take] at hlen
      have h6 := let6_le L[i]
      refine Tot.bindq (P := fun r => r = ints ((L.take (i + 1)).flatMap let6)) ?_ fun r hr => ?_
      · have hsub : ∀ k, k ≤ 64 → ((List.range k).flatMap fun k => if (lt k).toNat == L[i].toNat then bits6 k else []).length ≤ 6 * k := fun k _ => by
          induction k with
          | zero => simp
          | succ k ih =>
            rw [List.range_succ, List.flatMap_append, List.length_append]
            simp only [List.flatMap_cons, List.flatMap_nil, List.append_nil]
            have : (if (lt k).toNat == L[i].toNat then bits6 k else []).length ≤ 6 := by split <;> simp [bits6]
            have := ih (by omega)
            omega
        refine Tot.loop (fun st => ∃ k : Nat, st.2 = (k : Int) ∧ k ≤ 64 ∧ st.1 = ints ((L.take i).flatMap let6 ++ (List.range k).flatMap fun k => if (lt k).toNat == L[i].toNat then bits6 k else [])) (fun st => 64 - st.2.toNat) ⟨0, rfl, by omega, by simp⟩ fun st ⟨k, e, hk, g⟩ => ?_
        obtain ⟨out, q⟩ := st
        simp only at e g
        subst e g
        dsimp only
        refine Tot.ite (fun h2 => ?_) (fun h2 => ?_)
        · have h2 : k < 64 := by have : ((k : Nat) : Int) < 64 := of_decide_eq_true h2; omega
          refine Tot.bind0 (sidx_let h2) (Tot.bind0 (a := (L[i].toNat : Int)) (by rw [sidx_nat (by rw [hL]; exact hq)]; simp only [hL]) ?_)
          have hlk := hsub k (by omega)
          have hstep : ((List.range (k + 1)).flatMap fun k => if (lt k).toNat == L[i].toNat then bits6 k else []) = ((List.range k).flatMap fun k => if (lt k).toNat == L[i].toNat then bits6 k else []) ++ (if (lt k).toNat == L[i].toNat then bits6 k else []) := by
            rw [List.range_succ, List.flatMap_append]
            simp only [List.flatMap_cons, List.flatMap_nil, List.append_nil]
          refine Tot.bindq (P := fun r => r = ints ((L.take i).flatMap let6 ++ (List.range (k + 1)).flatMap fun k => if (lt k).toNat == L[i].toNat then bits6 k else [])) ?_ fun r hr => ?_
          · rw [hstep, ← List.append_assoc]
            generalize (List.range k).flatMap (fun k => if (lt k).toNat == L[i].toNat then bits6 k else []) = A at hlk
            refine Tot.ite (fun h3 => ?_) (fun h3 => ?_)
            · have h3 : (lt k).toNat = L[i].toNat := by have := eq_of_beq h3; omega
              rw [if_pos (beq_iff_eq.2 h3)]
              refine Tot.bindq (P := fun r => r = ints ((L.take i).flatMap let6 ++ A ++ bits6 k)) ?_ fun r hr => Tot.ret hr
              refine Tot.loop (fun st => ∃ j : Nat, j ≤ 6 ∧ st.2 = 5 - (j : Int) ∧ st.1 = ints ((L.take i).flatMap let6 ++ A ++ (List.range j).map fun j => k / 2 ^ (5 - j) % 2)) (fun st => (st.2 + 1).toNat) ⟨0, by omega, rfl, by simp⟩ fun st ⟨j, hj, e, g⟩ => ?_
              obtain ⟨out, q⟩ := st
              simp only at e g
              subst e g
              dsimp only
              refine Tot.ite (fun h4 => ?_) (fun h4 => ?_)
              · have h4 : j < 6 := by have : 5 - (j : Int) ≥ 0 := of_decide_eq_true h4; omega
                refine Tot.bind0 (a := ()) (by unfold nn; rw [if_pos (by omega)]) ?_
                rw [show 5 - (j : Int) = ((5 - j : Nat) : Int) by omega, bit_at _ _ (by omega) (by omega)]
                refine Tot.bind0 (app_ok (by simp only [ints_len, List.length_append, List.length_map, List.length_range, List.length_cons, List.length_nil]; omega)) (Tot.ret ?_)
                refine ⟨⟨j + 1, by omega, ?_, ?_⟩, ?_⟩
                · show IntKind.i64.wrap (((5 - j : Nat) : Int) - 1) = _
                  rw [i64_small (by omega) (by omega)]; omega
                · rw [List.range_succ, List.map_append, ← List.append_assoc]; exact (ints_app _ [_]).symm
                · show (IntKind.i64.wrap (((5 - j : Nat) : Int) - 1) + 1).toNat < (((5 - j : Nat) : Int) + 1).toNat
                  rw [i64_small (by omega) (by omega)]; omega
              · have h4 : j = 6 := by have : ¬ 5 - (j : Int) ≥ 0 := of_decide_eq_false h4; omega
                subst h4
                exact Tot.ret (by rw [bits6_eq])
            · have h3 : ¬ (lt k).toNat = L[i].toNat := fun e => by
                have : (((lt k).toNat : Int) == (L[i].toNat : Int)) = true := beq_iff_eq.2 (by omega)
                rw [this] at h3; cases h3
              rw [if_neg (by simpa using h3), List.append_nil]
              exact Tot.ret rfl
          · subst hr
            refine Tot.ret ⟨⟨k + 1, ?_, h2, rfl⟩, ?_⟩
            · show IntKind.i64.wrap ((k : Int) + 1) = ((k + 1 : Nat) : Int)
              rw [i64_small (by omega) (by omega)]; omega
            · show 64 - (IntKind.i64.wrap ((k : Int) + 1)).toNat < 64 - ((k : Nat) : Int).toNat
              rw [i64_small (by omega) (by omega)]; omega
        · have h2 : k = 64 := by have : ¬ ((k : Nat) : Int) < 64 := of_decide_eq_false h2; omega
          subst h2
          refine Tot.ret ?_
          rw [take_snoc hq, List.flatMap_append]
          simp only [List.flatMap_cons, List.flatMap_nil, List.append_nil]
          rfl
      · subst hr
        refine Tot.ret ⟨⟨i + 1, ?_, hq, rfl⟩, ?_⟩
        · show IntKind.i64.wrap ((i : Int) + 1) = ((i + 1 : Nat) : Int)
          rw [i64_small (by omega) (by omega)]; omega
        · show L.length - (IntKind.i64.wrap ((i : Int) + 1)).toNat < L.length - ((i : Nat) : Int).toNat
          rw [i64_small (by omega) (by omega)]; omega
    · have h : i = L.length := by have : ¬ ((i : Nat) : Int) < (L.length : Int) := of_decide_eq_false h; omega
      subst h
      exact Tot.ret (by rw [List.take_length])
  subst hr
  have hbl := flat6_len L
  have hbx : ∀ x, L = b64L x → L.flatMap let6 = pad6 (bitsN x) := fun x e => by rw [e, b64_bits]
  generalize L.flatMap let6 = B at hbl hbx
  refine Tot.bindq (P := fun r => r.length ≤ 3000 ∧ ∀ x, L = b64L x → r = x) ?_ fun out ⟨ho, hx⟩ => ?_
  · refine Tot.loop (fun st => ∃ m : Nat, st.2 = ((8 * m : Nat) : Int) ∧ 8 * m ≤ B.length ∧ st.1.length = m ∧ ∀ x, L = b64L x → st.1 = x.take m) (fun st => B.length - st.2.toNat) ⟨0, rfl, by omega, rfl, fun x _ => rfl⟩ fun st ⟨m, e, hm, hlen, hx⟩ => ?_
    obtain ⟨out, q⟩ := st
    simp only at e hlen hx
    subst e
    dsimp only
    rw [ints_len, show IntKind.i64.wrap (((8 * m : Nat) : Int) + 8) = ((8 * (m + 1) : Nat) : Int) by rw [i64_small (by omega) (by omega)]; omega]
    refine Tot.ite (fun h => ?_) (fun h => ?_)
    · have h : 8 * m + 8 ≤ B.length := by have : ((8 * (m + 1) : Nat) : Int) ≤ (B.length : Int) := of_decide_eq_true h; omega
      have hmx : ∀ x, L = b64L x → m < x.length := fun x e => by
        have h1 := hbx x e
        have h2 := pad6_len (bitsN x)
        have h3 := bitsN_len x
        rw [← h1] at h2
        omega
      have hbit : ∀ x, (e : L = b64L x) → ∀ k (hk : k < 8), B[8 * m + k] = (x[m]'(hmx x e)).toNat / 2 ^ (7 - k) % 2 := fun x e k hk => by
        have h1 := hbx x e
        have h3 := bitsN_len x
        have h4 := hmx x e
        rw [← bits_at x m k h4 hk (by omega)]
        subst h1
        unfold pad6
        rw [List.getElem_append_left]
      refine Tot.bindq (P := fun r => ∀ x, (e : L = b64L x) → r = ((x[m]'(hmx x e)).toNat : Int)) ?_ fun r hr => ?_
      · refine Tot.loop (fun st => ∃ k : Nat, st.2 = (k : Int) ∧ k ≤ 8 ∧ ∀ x, (e : L = b64L x) → st.1 = (((x[m]'(hmx x e)).toNat / 2 ^ (8 - k) : Nat) : Int)) (fun st => 8 - st.2.toNat) ⟨0, rfl, by omega, fun x e => by have := byte_lt (x[m]'(hmx x e)); rw [Nat.div_eq_of_lt (by omega)]; rfl⟩ fun st ⟨k, e, hk, g⟩ => ?_
        obtain ⟨v, q⟩ := st
        simp only at e g
        subst e
        dsimp only
        refine Tot.ite (fun h2 => ?_) (fun h2 => ?_)
        · have h2 : k < 8 := by have : ((k : Nat) : Int) < 8 := of_decide_eq_true h2; omega
          rw [show IntKind.i64.wrap (((8 * m : Nat) : Int) + (k : Int)) = ((8 * m + k : Nat) : Int) by rw [i64_small (by omega) (by omega)]; omega]
          refine Tot.bind0 (ints_get (by omega)) (Tot.some_bind (Tot.ret ⟨⟨k + 1, ?_, h2, fun x e => ?_⟩, ?_⟩))
          · show IntKind.i64.wrap ((k : Int) + 1) = ((k + 1 : Nat) : Int)
            rw [i64_small (by omega) (by omega)]; omega
          · have hz := byte_lt (x[m]'(hmx x e))
            show IntKind.i64.wrap (IntKind.i64.wrap (2 * v) + ((B[8 * m + k] : Nat) : Int)) = _
            rw [hbit x e k h2, g x e]
            generalize (x[m]'(hmx x e)).toNat = z at hz
            have hk' : z / 2 ^ (8 - (k + 1)) = 2 * (z / 2 ^ (8 - k)) + z / 2 ^ (7 - k) % 2 := by
              rcases (by omega : k = 0 ∨ k = 1 ∨ k = 2 ∨ k = 3 ∨ k = 4 ∨ k = 5 ∨ k = 6 ∨ k = 7) with e | e | e | e | e | e | e | e <;> subst e <;> omega
            have hle : z / 2 ^ (8 - k) ≤ z := Nat.div_le_self ..
            rw [hk']
            generalize z / 2 ^ (8 - k) = q at hle
            have hr : z / 2 ^ (7 - k) % 2 < 2 := Nat.mod_lt _ (by omega)
            generalize z / 2 ^ (7 - k) % 2 = r at hr
            rw [i64_small (x := 2 * ((q : Nat) : Int)) (by omega) (by omega), i64_small (by omega) (by omega)]
            omega
          · show 8 - (IntKind.i64.wrap ((k : Int) + 1)).toNat < 8 - ((k : Nat) : Int).toNat
            rw [i64_small (by omega) (by omega)]; omega
        · have h2 : k = 8 := by have : ¬ ((k : Nat) : Int) < 8 := of_decide_eq_false h2; omega
          subst h2
          exact Tot.ret fun x e => by rw [g x e]; simp
      · have hu : ∀ z : Int, u8 (IntKind.u8.wrap z) = some (UInt8.ofNat (IntKind.u8.wrap z).toNat) := fun z => by
          unfold u8
          rw [if_pos (by rw [u8_wrap]; omega)]
        refine Tot.bind0 (hu _) (Tot.bind0 (app_ok (by simp only [List.length_cons, List.length_nil]; omega)) (Tot.ret ⟨⟨m + 1, rfl, by omega, by simp [hlen], fun x e => ?_⟩, ?_⟩))
        · show out ++ _ = _
          have h4 := hmx x e
          rw [hx x e, hr x e, take_snoc h4, u8_small (by omega) (by have := byte_lt (x[m]'h4); omega), Int.toNat_natCast, UInt8.ofNat_toNat]
        · show B.length - ((8 * (m + 1) : Nat) : Int).toNat < B.length - ((8 * m : Nat) : Int).toNat
          omega
    · have h : ¬ 8 * m + 8 ≤ B.length := by have : ¬ ((8 * (m + 1) : Nat) : Int) ≤ (B.length : Int) := of_decide_eq_false h; omega
      refine Tot.ret ⟨by omega, fun x e => ?_⟩
      have h1 := hbx x e
      have h2 := pad6_len (bitsN x)
      have h3 := bitsN_len x
      rw [← h1] at h2
      rw [hx x e, List.take_of_length_le (by omega)]
  · refine Tot.bindq (Sixties_tot (b := out) (by omega)) fun r hr => Tot.ret ?_
    subst hr
    dsimp only
    rw [str_eq]
    by_cases h : strOf (b64L out) = s_0
    · refine .inl ⟨decide_eq_true h, ?_⟩
      rw [← hL, ← h, bytes_str]
    · refine .inr ⟨decide_eq_false h, fun x e => h ?_⟩
      rw [hx x e, ← e, hstr]
end Go.Gv.R
