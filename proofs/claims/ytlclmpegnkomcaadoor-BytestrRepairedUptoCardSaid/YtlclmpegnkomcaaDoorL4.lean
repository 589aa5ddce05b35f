import Derived.Test.YtlclmpegnkomcaaDoorL3
set_option linter.all false
namespace Go.Gv.R
open Go Go.Gv Go.Gv.D

theorem ints_len (l : List Nat) : (ints l).length = l.length := by simp [ints]
theorem ints_app (l m : List Nat) : ints (l ++ m) = ints l ++ ints m := by simp [ints]
theorem ints_get {l : List Nat} {i : Nat} (h : i < l.length) : idx (ints l) (i : Int) = some ((l[i] : Nat) : Int) := by
  rw [idx_nat (by rw [ints_len]; exact h)]
  simp [ints]
theorem bit_at (m k : Nat) (hm : m < 256) (hk : k ≤ 8) : bwAnd .i64 (shrI .i64 (m : Int) (k : Int)) 1 = ((m / 2 ^ k % 2 : Nat) : Int) := by
  have hd : m / 2 ^ k ≤ m := Nat.div_le_self ..
  rw [shr_div _ _ (by omega), show (1 : Int) = ((2 ^ 1 - 1 : Nat) : Int) from rfl, and_mod _ 1 (by omega) (by decide)]
theorem bits8_eq (x : UInt8) : bits8 x = (List.range 8).map fun k => x.toNat / 2 ^ (7 - k) % 2 := rfl
theorem take6 {l : List Nat} {i : Nat} (h : 6 * i + 6 ≤ l.length) : letters6 (l.take (6 * (i + 1))) = letters6 (l.take (6 * i)) ++ [lt (32 * l[6 * i] + 16 * l[6 * i + 1] + 8 * l[6 * i + 2] + 4 * l[6 * i + 3] + 2 * l[6 * i + 4] + l[6 * i + 5])] := by
  have e : l.take (6 * (i + 1)) = l.take (6 * i) ++ [l[6 * i], l[6 * i + 1], l[6 * i + 2], l[6 * i + 3], l[6 * i + 4], l[6 * i + 5]] := by
    rw [show 6 * (i + 1) = 6 * i + 1 + 1 + 1 + 1 + 1 + 1 by omega, take_snoc (by omega), take_snoc (by omega), take_snoc (by omega), take_snoc (by omega), take_snoc (by omega), take_snoc (by omega)]
    simp only [List.append_assoc, List.cons_append, List.nil_append]
  rw [e, letters6_app _ (by simp; omega)]
  rfl
theorem pad6_len (l : List Nat) : (pad6 l).length % 6 = 0 ∧ l.length ≤ (pad6 l).length ∧ (pad6 l).length < l.length + 6 := by
  simp [pad6]; omega
theorem pad6_bit {l : List Nat} (h : ∀ n ∈ l, n ≤ 1) : ∀ n ∈ pad6 l, n ≤ 1 := fun n hn => by
  rcases List.mem_append.1 hn with h' | h'
  · exact h n h'
  · have := (List.mem_replicate.1 h').2; omega

theorem Sixties_tot {b : List UInt8} (hb : b.length ≤ 100000) : Tot (fun fuel => ref4_Sixties fuel b) (fun r => r = strOf (b64L b)) := by
  unfold ref4_Sixties
  refine Tot.bindq (P := fun r => r = ints (bitsN b)) ?_ fun r hr => ?_
  · refine Tot.loop (fun st => ∃ i : Nat, st.2 = (i : Int) ∧ i ≤ b.length ∧ st.1 = ints (bitsN (b.take i))) (fun st => b.length - st.2.toNat) ⟨0, rfl, by omega, rfl⟩ fun st ⟨i, e, hi, g⟩ => ?_
    obtain ⟨out, k⟩ := st
    simp only at e g
    subst e g
    refine Tot.ite (fun h => ?_) (fun h => ?_)
    · have h : i < b.length := by have : ((i : Nat) : Int) < (b.length : Int) := of_decide_eq_true h; omega
      have hbits : bitsN (b.take (i + 1)) = bitsN (b.take i) ++ bits8 b[i] := by rw [take_snoc h]; unfold bitsN; rw [List.flatMap_append]; simp only [List.flatMap_cons, List.flatMap_nil, List.append_nil]
      have hlen := bitsN_len (b.take i)
      rw [List.length_take] at hlen
      refine Tot.bindq (P := fun j => j = ints (bitsN (b.take (i + 1)))) ?_ fun j hj => ?_
      · refine Tot.loop (fun st => ∃ k : Nat, k ≤ 8 ∧ st.2 = 7 - (k : Int) ∧ st.1 = ints (bitsN (b.take i) ++ (List.range k).map fun k => b[i].toNat / 2 ^ (7 - k) % 2)) (fun st => (st.2 + 1).toNat) ⟨0, by omega, rfl, by simp⟩ fun st ⟨k, hk, e, g⟩ => ?_
        obtain ⟨out, q⟩ := st
        simp only at e g
        subst e g
        have hx := byte_lt b[i]
        refine Tot.ite (fun h2 => ?_) (fun h2 => ?_)
        · have h2 : k < 8 := by have : 7 - (k : Int) ≥ 0 := of_decide_eq_true h2; omega
          refine Tot.bind0 (idx_nat h) (Tot.bind0 (a := ()) (by unfold nn; rw [if_pos (by omega)]) ?_)
          rw [i64_small (x := (b[i].toNat : Int)) (by omega) (by omega), show 7 - (k : Int) = ((7 - k : Nat) : Int) by omega, bit_at _ _ hx (by omega)]
          refine Tot.bind0 (app_ok (by simp [ints_len]; omega)) (Tot.ret ?_)
          refine ⟨⟨k + 1, by omega, ?_, ?_⟩, ?_⟩
          · rw [i64_small (by omega) (by omega)]; omega
          · rw [List.range_succ, List.map_append, ← List.append_assoc]; exact (ints_app _ [_]).symm
          · show (IntKind.i64.wrap (((7 - k : Nat) : Int) - 1) + 1).toNat < (((7 - k : Nat) : Int) + 1).toNat
            rw [i64_small (by omega) (by omega)]; omega
        · have h2 : k = 8 := by have : ¬ 7 - (k : Int) ≥ 0 := of_decide_eq_false h2; omega
          subst h2
          exact Tot.ret (by rw [hbits, bits8_eq])
      · subst hj
        refine Tot.ret ⟨⟨i + 1, ?_, by omega, rfl⟩, ?_⟩
        · rw [i64_small (by omega) (by omega)]; omega
        · show b.length - (IntKind.i64.wrap ((i : Int) + 1)).toNat < b.length - ((i : Nat) : Int).toNat
          rw [i64_small (by omega) (by omega)]; omega
    · have h : i = b.length := by have : ¬ ((i : Nat) : Int) < (b.length : Int) := of_decide_eq_false h; omega
      subst h
      exact Tot.ret (by rw [List.take_length])
  subst hr
  have hbl := bitsN_len b
  refine Tot.bindq (P := fun r => r = ints (pad6 (bitsN b))) ?_ fun r hr => ?_
  · refine Tot.loopI (fun m st => ∃ c : Nat, m + c = (6 - (bitsN b).length % 6) % 6 ∧ st = ints (bitsN b ++ List.replicate c 0)) (m0 := (6 - (bitsN b).length % 6) % 6) ⟨0, rfl, by simp⟩ fun m st ⟨c, hc, g⟩ => ?_
    subst g
    have hl : (ints (bitsN b ++ List.replicate c 0)).length = (bitsN b).length + c := by simp [ints_len]
    rw [hl]
    refine Tot.ite (fun h => ?_) (fun h => ?_)
    · have h : ((((bitsN b).length + c : Nat) : Int)).tmod 6 ≠ 0 := by simpa using h
      rw [Int.tmod_eq_emod_of_nonneg (by omega)] at h
      refine Tot.bind0 (app_ok (by rw [hl]; simp; omega)) (Tot.ret ⟨m - 1, by omega, c + 1, by omega, ?_⟩)
      rw [List.replicate_succ', ← List.append_assoc, ints_app (bitsN b ++ List.replicate c 0) [0]]
      rfl
    · have h : ((((bitsN b).length + c : Nat) : Int)).tmod 6 = 0 := by simpa using h
      rw [Int.tmod_eq_emod_of_nonneg (by omega)] at h
      refine Tot.ret ?_
      unfold pad6
      rw [show (6 - (bitsN b).length % 6) % 6 = c by omega]
  subst hr
  obtain ⟨p1, p2, p3⟩ := pad6_len (bitsN b)
  have pb := pad6_bit (l := bitsN b) bit_le
  have hsix : b64L b = pad4 (letters6 (pad6 (bitsN b))) := (sixty_eq b).symm
  rw [hsix]
  generalize pad6 (bitsN b) = L at p1 p2 p3 pb
  refine Tot.bindq (P := fun r => r = strOf (letters6 L)) ?_ fun r hr => ?_
  · refine Tot.loop (fun st => ∃ i : Nat, st.2 = ((6 * i : Nat) : Int) ∧ 6 * i ≤ L.length ∧ st.1 = strOf (letters6 (L.take (6 * i)))) (fun st => L.length - st.2.toNat) ⟨0, rfl, by omega, rfl⟩ fun st ⟨i, e, hi, g⟩ => ?_
    obtain ⟨out, k⟩ := st
    simp only at e g
    subst e g
    rw [ints_len]
    refine Tot.ite (fun h => ?_) (fun h => ?_)
    · have h : 6 * i < L.length := by have : ((6 * i : Nat) : Int) < (L.length : Int) := of_decide_eq_true h; omega
      have h6 : 6 * i + 6 ≤ L.length := by omega
      have hbit : ∀ j (hj : j < L.length), L[j] ≤ 1 := fun j hj => pb _ (List.getElem_mem hj)
      refine Tot.bindq (P := fun j => j = ((32 * L[6 * i] + 16 * L[6 * i + 1] + 8 * L[6 * i + 2] + 4 * L[6 * i + 3] + 2 * L[6 * i + 4] + L[6 * i + 5] : Nat) : Int)) ?_ fun j hj => ?_
      · have b0 := hbit (6 * i) (by omega)
        have b1 := hbit (6 * i + 1) (by omega)
        have b2 := hbit (6 * i + 2) (by omega)
        have b3 := hbit (6 * i + 3) (by omega)
        have b4 := hbit (6 * i + 4) (by omega)
        have b5 := hbit (6 * i + 5) (by omega)
        refine Tot.loop (fun st => ∃ k : Nat, st.2 = (k : Int) ∧ k ≤ 6 ∧ st.1 = (((32 * L[6 * i] + 16 * L[6 * i + 1] + 8 * L[6 * i + 2] + 4 * L[6 * i + 3] + 2 * L[6 * i + 4] + L[6 * i + 5]) / 2 ^ (6 - k) : Nat) : Int)) (fun st => 6 - st.2.toNat) ⟨0, rfl, by omega, ?_⟩ fun st ⟨k, e, hk, g⟩ => ?_
        · rw [Nat.div_eq_of_lt (by omega)]; rfl
        obtain ⟨v, q⟩ := st
        simp only at e g
        subst e g
        dsimp only
        refine Tot.ite (fun h2 => ?_) (fun h2 => ?_)
        · have h2 : k < 6 := by have : ((k : Nat) : Int) < 6 := of_decide_eq_true h2; omega
          have hik : IntKind.i64.wrap (((6 * i : Nat) : Int) + (k : Int)) = ((6 * i + k : Nat) : Int) := by
            have hi' : 6 * i < 900000 := by omega
            generalize 6 * i = w at hi'
            rw [i64_small (by omega) (by omega)]
            omega
          rw [hik]
          refine Tot.bind0 (ints_get (by omega)) (Tot.some_bind (Tot.ret ⟨⟨k + 1, ?_, by omega, ?_⟩, ?_⟩))
          · show IntKind.i64.wrap ((k : Int) + 1) = ((k + 1 : Nat) : Int)
            rw [i64_small (by omega) (by omega)]; omega
          · have hk' : (32 * L[6 * i] + 16 * L[6 * i + 1] + 8 * L[6 * i + 2] + 4 * L[6 * i + 3] + 2 * L[6 * i + 4] + L[6 * i + 5]) / 2 ^ (6 - (k + 1)) = 2 * ((32 * L[6 * i] + 16 * L[6 * i + 1] + 8 * L[6 * i + 2] + 4 * L[6 * i + 3] + 2 * L[6 * i + 4] + L[6 * i + 5]) / 2 ^ (6 - k)) + L[6 * i + k] := by
              rcases (by omega : k = 0 ∨ k = 1 ∨ k = 2 ∨ k = 3 ∨ k = 4 ∨ k = 5) with e | e | e | e | e | e <;> subst e <;> (try simp only [Nat.add_zero]) <;> omega
            have hle : (32 * L[6 * i] + 16 * L[6 * i + 1] + 8 * L[6 * i + 2] + 4 * L[6 * i + 3] + 2 * L[6 * i + 4] + L[6 * i + 5]) / 2 ^ (6 - k) ≤ 63 := Nat.le_trans (Nat.div_le_self ..) (by omega)
            have bk := hbit (6 * i + k) (by omega)
            rw [hk']
            generalize (32 * L[6 * i] + 16 * L[6 * i + 1] + 8 * L[6 * i + 2] + 4 * L[6 * i + 3] + 2 * L[6 * i + 4] + L[6 * i + 5]) / 2 ^ (6 - k) = q at hle
            generalize L[6 * i + k] = z at bk
            rw [i64_small (x := 2 * ((q : Nat) : Int)) (by omega) (by omega), i64_small (by omega) (by omega)]
            omega
          · show 6 - (IntKind.i64.wrap ((k : Int) + 1)).toNat < 6 - ((k : Nat) : Int).toNat
            rw [i64_small (by omega) (by omega)]; omega
        · have h2 : k = 6 := by have : ¬ ((k : Nat) : Int) < 6 := of_decide_eq_false h2; omega
          subst h2
          exact Tot.ret (by simp)
      · subst hj
        have b0 := hbit (6 * i) (by omega)
        have b1 := hbit (6 * i + 1) (by omega)
        have b2 := hbit (6 * i + 2) (by omega)
        have b3 := hbit (6 * i + 3) (by omega)
        have b4 := hbit (6 * i + 4) (by omega)
        have b5 := hbit (6 * i + 5) (by omega)
        have ht := take6 h6
        generalize hv : 32 * L[6 * i] + 16 * L[6 * i + 1] + 8 * L[6 * i + 2] + 4 * L[6 * i + 3] + 2 * L[6 * i + 4] + L[6 * i + 5] = v at ht
        have hv64 : v < 64 := by omega
        rw [show IntKind.i64.wrap ((v : Int) + 1) = ((v + 1 : Nat) : Int) by rw [i64_small (by omega) (by omega)]; omega]
        have hsub := ssub_str (l := letT) (i := v) (j := v + 1) (by omega) (by show v + 1 ≤ 64; omega)
        have hone : (letT.take (v + 1)).drop v = [lt v] := by
          rw [take_snoc (show v < letT.length by show v < 64; omega)]
          rw [List.drop_append_of_le_length (by rw [List.length_take]; show v ≤ min v 64; omega)]
          rw [List.drop_of_length_le (by simp; omega)]
          have : lt v = letT[v]'(by show v < 64; omega) := by unfold lt; simp [show v < letT.length from by show v < 64; omega]
          rw [this]; rfl
        rw [hone] at hsub
        refine Tot.bind0 hsub (Tot.bind0 (cat_str (by rw [letters6_len]; simp; omega)) (Tot.ret ⟨⟨i + 1, ?_, by omega, ?_⟩, ?_⟩))
        · rw [i64_small (by omega) (by omega)]; omega
        · rw [ht]
        · show L.length - (IntKind.i64.wrap (((6 * i : Nat) : Int) + 6)).toNat < L.length - ((6 * i : Nat) : Int).toNat
          rw [i64_small (by omega) (by omega)]; omega
    · have h : 6 * i = L.length := by have : ¬ ((6 * i : Nat) : Int) < (L.length : Int) := of_decide_eq_false h; omega
      exact Tot.ret (by rw [h, List.take_length])
  subst hr
  have hll := letters6_len L
  refine Tot.bindq (P := fun r => r = strOf (pad4 (letters6 L))) ?_ fun r hr => Tot.ret hr
  refine Tot.loopI (fun m st => ∃ c : Nat, m + c = (4 - (letters6 L).length % 4) % 4 ∧ st = strOf (letters6 L ++ List.replicate c 61)) (m0 := (4 - (letters6 L).length % 4) % 4) ⟨0, rfl, by simp⟩ fun m st ⟨c, hc, g⟩ => ?_
  subst g
  have hl : (strOf (letters6 L ++ List.replicate c 61)).size = (letters6 L).length + c := by rw [size_str]; simp
  rw [hl]
  refine Tot.ite (fun h => ?_) (fun h => ?_)
  · have h : ((((letters6 L).length + c : Nat) : Int)).tmod 4 ≠ 0 := by simpa using h
    rw [Int.tmod_eq_emod_of_nonneg (by omega)] at h
    refine Tot.bind0 (cat_str (by simp; omega)) (Tot.ret ⟨m - 1, by omega, c + 1, by omega, ?_⟩)
    rw [List.replicate_succ', ← List.append_assoc]
  · have h : ((((letters6 L).length + c : Nat) : Int)).tmod 4 = 0 := by simpa using h
    rw [Int.tmod_eq_emod_of_nonneg (by omega)] at h
    refine Tot.ret ?_
    unfold pad4
    rw [show (4 - (letters6 L).length % 4) % 4 = c by omega]
end Go.Gv.R
