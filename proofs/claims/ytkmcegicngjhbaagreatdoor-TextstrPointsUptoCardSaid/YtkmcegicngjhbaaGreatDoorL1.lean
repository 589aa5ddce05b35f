import Derived.Test.YtkmcegicngjhbaaGreatDoorGt
import Derived.Test.YtkmcegicngjhbaaGreatDoorD
set_option linter.all false
namespace Go.Gv.R
open Go Go.Gv Go.Gv.D

theorem i64_small {x : Int} (h : -4611686018427387904 ≤ x) (h' : x ≤ 4611686018427387904) : IntKind.i64.wrap x = x := i64_wrap (by omega) (by omega)
theorem u8_small {x : Int} (h : 0 ≤ x) (h' : x < 256) : IntKind.u8.wrap x = x := by rw [u8_wrap]; omega
theorem idx_nat {α : Type} {xs : List α} {i : Nat} (h : i < xs.length) : idx xs (i : Int) = some xs[i] := idx_ok (by omega) (by omega)
theorem sidx_nat {s : ByteArray} {i : Nat} (h : i < (bytesOf s).length) : sidx s (i : Int) = some ((bytesOf s)[i].toNat : Int) := by
  unfold sidx
  rw [if_pos (by omega)]
  rw [show (s.data.toList)[((i : Nat) : Int).toNat]? = (bytesOf s)[i]? by rw [Int.toNat_natCast]; rfl, List.getElem?_eq_getElem h]
  rfl
theorem size_bytes (s : ByteArray) : s.size = (bytesOf s).length := by simp [bytesOf]
theorem bytes_str (l : List UInt8) : bytesOf (strOf l) = l := by simp [bytesOf, strOf]
theorem str_bytes (s : ByteArray) : strOf (bytesOf s) = s := by cases s; simp [bytesOf, strOf]
theorem toList_bytes (s : ByteArray) : s.toList = bytesOf s := by
  have h : ∀ (n i : Nat) (acc : List UInt8), s.size - i = n → i ≤ s.size → ByteArray.toList.loop s i acc = acc.reverse ++ (bytesOf s).drop i := by
    intro n
    induction n with
    | zero =>
      intro i acc h1 h2
      unfold ByteArray.toList.loop
      rw [if_neg (by omega), List.drop_of_length_le (by rw [← size_bytes]; omega), List.append_nil]
    | succ n ih =>
      intro i acc h1 h2
      unfold ByteArray.toList.loop
      rw [if_pos (by omega), ih (i + 1) _ (by omega) (by omega)]
      have hl : i < (bytesOf s).length := by rw [← size_bytes]; omega
      rw [List.drop_eq_getElem_cons hl]
      have : s.get! i = (bytesOf s)[i] := by
        have hi : i < s.data.size := by rw [size_bytes] at h2; simpa [bytesOf] using hl
        show s.data[i]! = _
        rw [getElem!_pos s.data i hi]
        simp [bytesOf]
      rw [this]
      simp
  have := h s.size 0 [] (by omega) (by omega)
  simpa [ByteArray.toList] using this
theorem str_eq (a b : ByteArray) : (a.toList == b.toList) = decide (a = b) := by
  rw [toList_bytes, toList_bytes]
  by_cases h : a = b
  · subst h; simp
  · rw [decide_eq_false h]
    exact beq_eq_false_iff_ne.2 fun e => h (by rw [← str_bytes a, e, str_bytes])
theorem byte_lt (x : UInt8) : x.toNat < 256 := x.toNat_lt
theorem cat_ok {s t : ByteArray} (h : s.size + t.size ≤ 9223372036854775807) : cat s t = some (s ++ t) := by unfold cat; rw [if_pos h]
theorem size_str (l : List UInt8) : (strOf l).size = l.length := by rw [size_bytes, bytes_str]
theorem cat_str {l m : List UInt8} (h : l.length + m.length ≤ 9223372036854775807) : cat (strOf l) (strOf m) = some (strOf (l ++ m)) := by
  rw [cat_ok (by rw [size_str, size_str]; exact h)]
  congr 1
/-! ### digits -/
def hexT : List UInt8 := [48, 49, 50, 51, 52, 53, 54, 55, 56, 57, 97, 98, 99, 100, 101, 102]
def hx (n : Nat) : UInt8 := hexT.getD n 0
theorem take_snoc {α : Type} {l : List α} {i : Nat} (h : i < l.length) : l.take (i + 1) = l.take i ++ [l[i]] := by
  rw [List.take_add_one, List.getElem?_eq_getElem h]; rfl

end Go.Gv.R
namespace Go.Gv.R
open Go Go.Gv Go.Gv.D

theorem ofInt_nat (n m : Nat) : BitVec.ofInt n (m : Int) = BitVec.ofNat n m := by simp
/-! ### four letters for three bytes -/
end Go.Gv.R
namespace Go.Gv.R
open Go Go.Gv Go.Gv.D

/-! ### the reference's letters -/
def ints (l : List Nat) : List Int := l.map fun (n : Nat) => (n : Int)
end Go.Gv.R
namespace Go.Gv.R
open Go Go.Gv Go.Gv.D

theorem ints_len (l : List Nat) : (ints l).length = l.length := by simp [ints]
theorem ints_app (l m : List Nat) : ints (l ++ m) = ints l ++ ints m := by simp [ints]
theorem ints_get {l : List Nat} {i : Nat} (h : i < l.length) : idx (ints l) (i : Int) = some ((l[i] : Nat) : Int) := by
  rw [idx_nat (by rw [ints_len]; exact h)]
  simp [ints]
end Go.Gv.R
namespace Go.Gv.R
open Go Go.Gv Go.Gv.D

/-! ### digits are read -/
def hv (x : UInt8) : Int := nIdxB [48, 49, 50, 51, 52, 53, 54, 55, 56, 57, 97, 98, 99, 100, 101, 102] (x.toNat : Int)
def hn (x : UInt8) : Nat := (hv x).toNat
theorem get_mid {α : Type} (p : List α) (x : α) (q : List α) {m : Nat} (h : m = p.length) : idx (p ++ x :: q) (m : Int) = some x := by
  subst h
  rw [idx_nat (by simp)]
  simp
/-! ### the law's own way -/
end Go.Gv.R
namespace Go.Gv.R
open Go Go.Gv Go.Gv.D

/-! ### letters are read -/
end Go.Gv.R
namespace Go.Gv.R
open Go Go.Gv Go.Gv.D

end Go.Gv.R
namespace Go.Gv.R
open Go Go.Gv Go.Gv.D

theorem text_tot {s : ByteArray} {f : Int × Int} {want : ByteArray} {w : Int × Int} (h : (f, s) = if w.1 = 0 ∧ 4000 < want.size then ((3, -1), strOf []) else if w.1 ≠ 0 then (w, strOf []) else (w, want)) : Tot (fun fuel => law4_text fuel s f want w) (fun r => r = true) := by
  unfold law4_text
  obtain ⟨w1, w2⟩ := w
  dsimp only at h ⊢
  by_cases h1 : w1 = 0
  · subst h1
    refine Tot.bindq (P := fun r => r = decide ((want.size : Int) > 4000)) (Tot.it rfl (Tot.ret rfl)) fun r hr => ?_
    subst hr
    by_cases h2 : 4000 < want.size
    · rw [if_pos ⟨rfl, h2⟩] at h
      obtain ⟨e1, e2⟩ := Prod.mk.inj h
      subst e1 e2
      refine Tot.bindq (P := fun r => r = (3, -1)) (Tot.it (decide_eq_true (by omega)) (Tot.bindq (P := fun r => r = (3, -1)) (by unfold ref4_At; exact Tot.ret rfl) fun r hr => Tot.ret (by subst hr; rfl))) fun r hr => ?_
      subst hr
      exact Tot.it rfl (Tot.bindq (P := fun r => r = true) (Tot.it rfl (Tot.ret (by rw [str_eq]; exact decide_eq_true rfl))) fun r hr => Tot.ret hr)
    · rw [if_neg (fun h => h2 h.2), if_neg (fun h => h rfl)] at h
      obtain ⟨e1, e2⟩ := Prod.mk.inj h
      subst e1 e2
      refine Tot.bindq (P := fun r => r = (0, w2)) (Tot.if_ (decide_eq_false (by omega)) (Tot.ret rfl)) fun r hr => ?_
      subst hr
      exact Tot.if_ rfl (Tot.bindq (P := fun r => r = true) (Tot.it (by simp) (Tot.ret (by rw [str_eq]; exact decide_eq_true rfl))) fun r hr => Tot.ret hr)
  · rw [if_neg (fun h => h1 h.1), if_pos h1] at h
    obtain ⟨e1, e2⟩ := Prod.mk.inj h
    subst e1 e2
    refine Tot.bindq (P := fun r => r = false) (Tot.if_ (beq_eq_false_iff_ne.2 h1) (Tot.ret rfl)) fun r hr => ?_
    subst hr
    refine Tot.bindq (P := fun r => r = (w1, w2)) (Tot.if_ rfl (Tot.ret rfl)) fun r hr => ?_
    subst hr
    exact Tot.it (bne_iff_ne.2 h1) (Tot.bindq (P := fun r => r = true) (Tot.it (by simp) (Tot.ret (by rw [str_eq]; exact decide_eq_true rfl))) fun r hr => Tot.ret hr)
end Go.Gv.R

