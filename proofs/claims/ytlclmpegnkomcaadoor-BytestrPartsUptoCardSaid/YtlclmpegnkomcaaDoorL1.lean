import Derived.Test.YtlclmpegnkomcaaDoorGt
import Derived.Test.YtlclmpegnkomcaaDoorD
import Derived.Test.YtlclmpegnkomcaaDoorGo
set_option linter.all false
namespace Go.Gv.R
open Go Go.Gv Go.Gv.D

theorem i64_small {x : Int} (h : -4611686018427387904 ≤ x) (h' : x ≤ 4611686018427387904) : IntKind.i64.wrap x = x := i64_wrap (by omega) (by omega)
theorem idx_nat {α : Type} {xs : List α} {i : Nat} (h : i < xs.length) : idx xs (i : Int) = some xs[i] := idx_ok (by omega) (by omega)
theorem sidx_nat {s : ByteArray} {i : Nat} (h : i < (bytesOf s).length) : sidx s (i : Int) = some ((bytesOf s)[i].toNat : Int) := by
  unfold sidx
  rw [if_pos (by omega)]
  rw [show (s.data.toList)[((i : Nat) : Int).toNat]? = (bytesOf s)[i]? by rw [Int.toNat_natCast]; rfl, List.getElem?_eq_getElem h]
  rfl
theorem size_bytes (s : ByteArray) : s.size = (bytesOf s).length := by simp [bytesOf]
theorem bytes_str (l : List UInt8) : bytesOf (strOf l) = l := by simp [bytesOf, strOf]
theorem str_bytes (s : ByteArray) : strOf (bytesOf s) = s := by cases s; simp [bytesOf, strOf]
theorem toList_bytes (s : ByteArray) : s.toList = bytesOf s := by
  have h : ∀ (n i : Nat) (acc : List UInt8), s.size - i = n → i ≤ s.size → ByteArray.toList.loop s i acc = acc.reverse ++ (bytesOf s).drop i := by
    intro n
    induction n with
    | zero =>
      intro i acc h1 h2
      unfold ByteArray.toList.loop
      rw [if_neg (by omega), List.drop_of_length_le (by rw [← size_bytes]; omega), List.append_nil]
    | succ n ih =>
      intro i acc h1 h2
      unfold ByteArray.toList.loop
      rw [if_pos (by omega), ih (i + 1) _ (by omega) (by omega)]
      have hl : i < (bytesOf s).length := by rw [← size_bytes]; omega
      rw [List.drop_eq_getElem_cons hl]
      have : s.get! i = (bytesOf s)[i] := by
        have hi : i < s.data.size := by rw [size_bytes] at h2; simpa [bytesOf] using hl
        show s.data[i]! = _
        rw [getElem!_pos s.data i hi]
        simp [bytesOf]
      rw [this]
      simp
  have := h s.size 0 [] (by omega) (by omega)
  simpa [ByteArray.toList] using this
theorem str_eq (a b : ByteArray) : (a.toList == b.toList) = decide (a = b) := by
  rw [toList_bytes, toList_bytes]
  by_cases h : a = b
  · subst h; simp
  · rw [decide_eq_false h]
    exact beq_eq_false_iff_ne.2 fun e => h (by rw [← str_bytes a, e, str_bytes])
theorem byte_lt (x : UInt8) : x.toNat < 256 := x.toNat_lt
theorem u8_ok {n : Nat} (h : n < 256) : u8 (n : Int) = some (UInt8.ofNat n) := by
  unfold u8
  rw [if_pos (by omega), Int.toNat_natCast]
theorem u8_byte (x : UInt8) : u8 (x.toNat : Int) = some x := by rw [u8_ok (byte_lt x), UInt8.ofNat_toNat]
/-! ### digits -/
def hexT : List UInt8 := [48, 49, 50, 51, 52, 53, 54, 55, 56, 57, 97, 98, 99, 100, 101, 102]
def hx (n : Nat) : UInt8 := hexT.getD n 0
theorem take_snoc {α : Type} {l : List α} {i : Nat} (h : i < l.length) : l.take (i + 1) = l.take i ++ [l[i]] := by
  rw [List.take_add_one, List.getElem?_eq_getElem h]; rfl

end Go.Gv.R
namespace Go.Gv.R
open Go Go.Gv Go.Gv.D

theorem ofInt_nat (n m : Nat) : BitVec.ofInt n (m : Int) = BitVec.ofNat n m := by simp
theorem and_mod (m k : Nat) (h : m < 4611686018427387904) (hk : k ≤ 32) : bwAnd .i64 (m : Int) ((2 ^ k - 1 : Nat) : Int) = ((m % 2 ^ k : Nat) : Int) := by
  unfold bwAnd
  rw [show IntKind.i64.bits = 64 from rfl, ofInt_nat, ofInt_nat, BitVec.toNat_and, BitVec.toNat_ofNat, BitVec.toNat_ofNat]
  have hk2 : 2 ^ k ≤ 2 ^ 32 := Nat.pow_le_pow_right (by decide) hk
  rw [Nat.mod_eq_of_lt (a := m) (by omega), Nat.mod_eq_of_lt (a := 2 ^ k - 1) (by omega), Nat.and_two_pow_sub_one_eq_mod]
  have : m % 2 ^ k ≤ m := Nat.mod_le ..
  exact i64_small (by omega) (by omega)
theorem or_add (a b k : Nat) (hb : b < 2 ^ k) (h : 2 ^ k * a + b < 4611686018427387904) : bwOr .i64 ((2 ^ k * a : Nat) : Int) (b : Int) = ((2 ^ k * a + b : Nat) : Int) := by
  unfold bwOr
  rw [show IntKind.i64.bits = 64 from rfl, ofInt_nat, ofInt_nat, BitVec.toNat_or, BitVec.toNat_ofNat, BitVec.toNat_ofNat]
  rw [Nat.mod_eq_of_lt (by omega), Nat.mod_eq_of_lt (by omega), ← Nat.two_pow_add_eq_or_of_lt hb]
  exact i64_small (by omega) (by omega)
theorem shr_div (m k : Nat) (h : k ≤ 64) : shrI .i64 (m : Int) (k : Int) = ((m / 2 ^ k : Nat) : Int) := by
  unfold shrI
  rw [Int.toNat_natCast, show min k IntKind.i64.bits = k by show min k 64 = k; omega, Int.fdiv_eq_ediv_of_nonneg _ (Int.le_of_lt (Int.pow_pos (by decide)))]
  simp

/-! ### four letters for three bytes -/
def letT : List UInt8 := [65, 66, 67, 68, 69, 70, 71, 72, 73, 74, 75, 76, 77, 78, 79, 80, 81, 82, 83, 84, 85, 86, 87, 88, 89, 90, 97, 98, 99, 100, 101, 102, 103, 104, 105, 106, 107, 108, 109, 110, 111, 112, 113, 114, 115, 116, 117, 118, 119, 120, 121, 122, 48, 49, 50, 51, 52, 53, 54, 55, 56, 57, 43, 47]
def lt (n : Nat) : UInt8 := letT.getD n 0
def num3 (y : List UInt8) : Nat := (y.getD 0 0).toNat * 65536 + (y.getD 1 0).toNat * 256 + (y.getD 2 0).toNat
def quad (y : List UInt8) : List UInt8 := (List.range 4).map fun k => if k ≤ y.length then lt (num3 y / 2 ^ (18 - 6 * k) % 64) else 61
theorem num3_lt (y : List UInt8) : num3 y < 16777216 := by
  have a := byte_lt (y.getD 0 0)
  have b := byte_lt (y.getD 1 0)
  have c := byte_lt (y.getD 2 0)
  unfold num3
  omega
theorem sidx_let {i : Nat} (h : i < 64) : sidx (strOf [65, 66, 67, 68, 69, 70, 71, 72, 73, 74, 75, 76, 77, 78, 79, 80, 81, 82, 83, 84, 85, 86, 87, 88, 89, 90, 97, 98, 99, 100, 101, 102, 103, 104, 105, 106, 107, 108, 109, 110, 111, 112, 113, 114, 115, 116, 117, 118, 119, 120, 121, 122, 48, 49, 50, 51, 52, 53, 54, 55, 56, 57, 43, 47]) (i : Int) = some ((lt i).toNat : Int) := by
  have h' : i < (bytesOf (strOf letT)).length := by rw [bytes_str]; exact h
  have := sidx_nat (s := strOf letT) (i := i) h'
  show sidx (strOf letT) (i : Int) = _
  rw [this]
  have hl : i < letT.length := h
  have e : lt i = letT[i] := by unfold lt; simp [hl]
  rw [e]
  simp only [bytes_str]

def b64L (b : List UInt8) : List UInt8 := (chunks b).flatMap quad

theorem Base64_tot {b : List UInt8} (hb : b.length ≤ 1048576) : Tot (fun fuel => bytestr_Base64 fuel b) (fun r => r = if 3000 < b.length then (strOf [], (3, -1)) else (strOf (b64L b), (0, 0))) := by
  unfold bytestr_Base64
  have hw : IntKind.i64.wrap ((IntKind.i64.wrap ((IntKind.i64.wrap (((b.length : Nat) : Int) + 2)).tdiv 3)) * 4) = (((b.length + 2) / 3 * 4 : Nat) : Int) := by
    rw [i64_small (x := ((b.length : Nat) : Int) + 2) (by omega) (by omega), Int.tdiv_eq_ediv_of_nonneg (by omega), i64_small (x := (((b.length : Nat) : Int) + 2) / 3) (by omega) (by omega), i64_small (by omega) (by omega)]
    omega
  rw [hw]
  refine Tot.ite (fun h => ?_) (fun h => ?_)
  · have h : (((b.length + 2) / 3 * 4 : Nat) : Int) > 4000 := of_decide_eq_true h
    exact Tot.ret (by rw [if_pos (by omega)])
  · have h : ¬ (((b.length + 2) / 3 * 4 : Nat) : Int) > 4000 := of_decide_eq_false h
    have hlen : (chunks b).length ≤ 1000 := by simp [chunks]; omega
    refine Tot.bind0 (a := ()) (by unfold lenOk; rw [if_pos (by omega)]) ?_
    refine Tot.bindq (P := fun r => r = b64L b) ?_ fun r hr => Tot.ret (by subst hr; rw [if_neg (by omega)])
    refine (Tot.foldC (fun m st => st = m.flatMap quad) rfl fun m st y hm hst hy hml => ?_)
    subst hst
    have hy3 : y.length ≤ 3 := by
      obtain ⟨k, _, e⟩ := List.mem_map.1 hy
      rw [← e, chunk_len]
      omega
    have hsl : (m.flatMap quad).length = 4 * m.length := by
      clear hm hml
      induction m with
      | nil => rfl
      | cons x m ih => simp [quad] at ih ⊢; omega
    refine Tot.bindq (P := fun n => n = (num3 y : Int)) ?_ fun n hn => ?_
    · refine Tot.loop (fun st => ∃ k : Nat, st.2 = (k : Int) ∧ k ≤ 3 ∧ st.1 = ((num3 y / 2 ^ (24 - 8 * k) : Nat) : Int)) (fun st => 3 - st.2.toNat) ⟨0, rfl, by omega, ?_⟩ fun st ⟨k, e, hk, g⟩ => ?_
      · have := num3_lt y
        rw [Nat.div_eq_of_lt (by omega)]; rfl
      obtain ⟨v, q⟩ := st
      simp only at e g
      subst e g
      have hn := num3_lt y
      have y0 := byte_lt (y.getD 0 0)
      have y1 := byte_lt (y.getD 1 0)
      have y2 := byte_lt (y.getD 2 0)
      refine Tot.ite (fun h => ?_) (fun h => ?_)
      · have h : k < 3 := by have : ((k : Nat) : Int) < 3 := of_decide_eq_true h; omega
        have hv : num3 y / 2 ^ (24 - 8 * (k + 1)) = 2 ^ 8 * (num3 y / 2 ^ (24 - 8 * k)) + (y.getD k 0).toNat := by
          rcases (by omega : k = 0 ∨ k = 1 ∨ k = 2) with e | e | e <;> subst e <;> simp only [num3] <;> omega
        have hlt : num3 y / 2 ^ (24 - 8 * (k + 1)) < 16777216 := Nat.lt_of_le_of_lt (Nat.div_le_self ..) hn
        have hmul : IntKind.i64.wrap (((num3 y / 2 ^ (24 - 8 * k) : Nat) : Int) * 2 ^ 8) = ((2 ^ 8 * (num3 y / 2 ^ (24 - 8 * k)) : Nat) : Int) := by
          rw [i64_small (by omega) (by omega)]
          omega
        refine Tot.bindq (P := fun j => j = ((num3 y / 2 ^ (24 - 8 * (k + 1)) : Nat) : Int)) ?_ fun j hj => ?_
        · refine Tot.ite (fun hh => ?_) (fun hh => ?_)
          · have hh : k < y.length := by have : ((k : Nat) : Int) < (y.length : Int) := of_decide_eq_true hh; omega
            refine Tot.bind0 (idx_nat hh) (Tot.some_bind (Tot.ret ?_))
            have hg : y.getD k 0 = y[k] := by simp [hh]
            have hb2 := byte_lt y[k]
            rw [hmul, i64_small (x := (y[k].toNat : Int)) (by omega) (by omega), or_add _ _ 8 (by omega) (by rw [hg] at hv; omega), hv, hg]
          · have hh : ¬ k < y.length := by have : ¬ ((k : Nat) : Int) < (y.length : Int) := of_decide_eq_false hh; omega
            refine Tot.ret ?_
            have hg : y.getD k 0 = 0 := by simp [hh]
            rw [hmul, hv, hg]
            simp
        · subst hj
          refine Tot.ret ⟨⟨k + 1, ?_, by omega, rfl⟩, ?_⟩
          · rw [i64_small (by omega) (by omega)]; omega
          · show 3 - (IntKind.i64.wrap ((k : Int) + 1)).toNat < 3 - ((k : Nat) : Int).toNat
            rw [i64_small (by omega) (by omega)]; omega
      · have h : k = 3 := by have : ¬ ((k : Nat) : Int) < 3 := of_decide_eq_false h; omega
        subst h
        exact Tot.ret (by simp)
    subst hn
    refine Tot.bindq (P := fun j => j = (m ++ [y]).flatMap quad) ?_ fun j hj => Tot.ret hj
    refine Tot.loop (fun st => ∃ k : Nat, st.1 = (k : Int) ∧ k ≤ 4 ∧ st.2 = m.flatMap quad ++ (List.range k).map fun k => if k ≤ y.length then lt (num3 y / 2 ^ (18 - 6 * k) % 64) else 61) (fun st => 4 - st.1.toNat) ⟨0, rfl, by omega, by simp⟩ fun st ⟨k, e, hk, g⟩ => ?_
    obtain ⟨q, out⟩ := st
    simp only at e g
    subst e g
    refine Tot.ite (fun h => ?_) (fun h => ?_)
    · have h : k < 4 := by have : ((k : Nat) : Int) < 4 := of_decide_eq_true h; omega
      refine Tot.bindq (P := fun j => j = m.flatMap quad ++ (List.range (k + 1)).map fun k => if k ≤ y.length then lt (num3 y / 2 ^ (18 - 6 * k) % 64) else 61) ?_ fun j hj => ?_
      · have hk18 : IntKind.i64.wrap (18 - IntKind.i64.wrap (6 * (k : Int))) = ((18 - 6 * k : Nat) : Int) := by
          rw [i64_small (x := 6 * (k : Int)) (by omega) (by omega), i64_small (by omega) (by omega)]
          omega
        rw [hk18]
        refine Tot.ite (fun hh => ?_) (fun hh => ?_)
        · have hh : k ≤ y.length := by have : ((k : Nat) : Int) ≤ (y.length : Int) := of_decide_eq_true hh; omega
          have hn := num3_lt y
          have h64 : num3 y / 2 ^ (18 - 6 * k) % 64 < 64 := Nat.mod_lt _ (by decide)
          have hdl : num3 y / 2 ^ (18 - 6 * k) ≤ num3 y := Nat.div_le_self ..
          refine Tot.bind0 (a := ()) (by unfold nn; rw [if_pos (by omega)]) ?_
          rw [shr_div _ _ (by omega), show (63 : Int) = ((2 ^ 6 - 1 : Nat) : Int) from rfl, and_mod _ 6 (by omega) (by decide)]
          refine Tot.bind0 (sidx_let h64) (Tot.bind0 (u8_byte _) (Tot.bind0 (app_ok (by simp [hsl]; omega)) (Tot.ret ?_)))
          rw [List.range_succ, List.map_append, ← List.append_assoc]
          simp [hh]
        · have hh : ¬ k ≤ y.length := by have : ¬ ((k : Nat) : Int) ≤ (y.length : Int) := of_decide_eq_false hh; omega
          refine Tot.bind0 (app_ok (by simp [hsl]; omega)) (Tot.ret ?_)
          rw [List.range_succ, List.map_append, ← List.append_assoc]
          simp [hh]
      · subst hj
        refine Tot.ret ⟨⟨k + 1, ?_, by omega, rfl⟩, ?_⟩
        · rw [i64_small (by omega) (by omega)]; omega
        · show 4 - (IntKind.i64.wrap ((k : Int) + 1)).toNat < 4 - ((k : Nat) : Int).toNat
          rw [i64_small (by omega) (by omega)]; omega
    · have h : k = 4 := by have : ¬ ((k : Nat) : Int) < 4 := of_decide_eq_false h; omega
      subst h
      exact Tot.ret (by simp [quad])
end Go.Gv.R
namespace Go.Gv.R
open Go Go.Gv Go.Gv.D

/-! ### the reference's letters -/
def ints (l : List Nat) : List Int := l.map fun (n : Nat) => (n : Int)
end Go.Gv.R
namespace Go.Gv.R
open Go Go.Gv Go.Gv.D

theorem ints_len (l : List Nat) : (ints l).length = l.length := by simp [ints]
theorem ints_app (l m : List Nat) : ints (l ++ m) = ints l ++ ints m := by simp [ints]
theorem ints_get {l : List Nat} {i : Nat} (h : i < l.length) : idx (ints l) (i : Int) = some ((l[i] : Nat) : Int) := by
  rw [idx_nat (by rw [ints_len]; exact h)]
  simp [ints]
end Go.Gv.R
namespace Go.Gv.R
open Go Go.Gv Go.Gv.D

/-! ### digits are read -/
def hv (x : UInt8) : Int := nIdxB [48, 49, 50, 51, 52, 53, 54, 55, 56, 57, 97, 98, 99, 100, 101, 102] (x.toNat : Int)
def hn (x : UInt8) : Nat := (hv x).toNat
theorem bytestr_at_tot (a b : Int) : Tot (fun fuel => bytestr_at fuel a b) (fun r => r = (a, b)) := by
  unfold bytestr_at
  exact Tot.ret rfl
/-! ### the law's own way -/
end Go.Gv.R
namespace Go.Gv.R
open Go Go.Gv Go.Gv.D

/-! ### letters are read -/
end Go.Gv.R
namespace Go.Gv.R
open Go Go.Gv Go.Gv.D

end Go.Gv.R
namespace Go.Gv.R
open Go Go.Gv Go.Gv.D

theorem decode_abc : Tot (fun fuel => bytestr_Decode fuel ([(97 : UInt8), (255 : UInt8), (98 : UInt8)] : List UInt8) 0 2) (fun r => r = (strOf [97, 98], (0, 0))) := Tot.of_all 20 (fun k => by kernel_rfl) rfl
theorem translate_abc : Tot (fun fuel => bytestr_Translate fuel ([(98 : UInt8), (97 : UInt8), (110 : UInt8), (97 : UInt8), (110 : UInt8), (97 : UInt8)] : List UInt8) ([(97 : UInt8), (110 : UInt8)] : List UInt8) ([(120 : UInt8), (121 : UInt8)] : List UInt8) ([(98 : UInt8)] : List UInt8)) (fun r => r = ([120, 121, 120, 121, 120], (0, 0))) := Tot.of_all 20 (fun k => by kernel_rfl) rfl
theorem bytesOf_tot : Tot (fun fuel => law4_bytesOf fuel) (fun r => r = true) := by
  unfold law4_bytesOf
  refine Tot.bindq (Base64_tot (b := [255]) (by decide)) fun r hr => ?_
  have h64 : b64L [255] = [47, 119, 61, 61] := by kernel_rfl
  rw [if_neg (by decide), h64] at hr
  subst hr
  refine Tot.bindq decode_abc fun r hr => ?_
  subst hr
  refine Tot.bindq translate_abc fun r hr => ?_
  subst hr
  refine Tot.bindq (P := fun r => r = true) ?_ fun r hr => Tot.ret hr
  refine Tot.it rfl (Tot.it rfl (Tot.it rfl (Tot.it ?_ (Tot.it ?_ (Tot.some_bind (Tot.ret ?_)))))) <;> (rw [str_eq]; exact decide_eq_true rfl)

end Go.Gv.R
namespace Go.Gv.R
open Go Go.Gv Go.Gv.D
theorem sumL_one {α : Type} (l : List α) : sumL (fun _ => 1) l ≥ l.length := by
  unfold sumL
  induction l with
  | nil => simp
  | cons x l ih => simp only [List.map_cons, List.sum_cons, List.length_cons]; omega
end Go.Gv.R

