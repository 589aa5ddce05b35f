import Derived.Test.YtlclmpegnkomcaaDoorProg
import Derived.Shelf.Bytes.SlJoin
import Derived.Test.YtlclmpegnkomcaaDoorGs
set_option linter.all false
namespace Go.Proofs.YtlclmpegnkomcaaDoor
open Go.Gv Go.Gv.D Go.Shelf Go.RowKit
set_option maxRecDepth 1000000
def renJ : Ren := ⟨fun n => if n = 14 then 40 else if n = 15 then 59 else n, fun n => if n = 26 then 23 else n, fun n => n⟩
theorem laysJ : SlLaysJ.n14 Tryd.prog renJ := by
  constructor <;> first | kernel_rfl | (intro w; kernel_rfl)
theorem Rd.holds {w : World} {X : Nat → Prop} {a : Option Addr} {cap : Nat} {l : List UInt8} (h : Rd bE w X a cap l) : ∀ (i : Nat) x, l[i]? = some x → ∃ A, a = some A ∧ w.cell? (A.add i) = some (.int .u8 (x.toNat : Int)) := fun i x hx => by
  obtain ⟨b, off, c, rfl, _, hc, hat⟩ := h.2 i x hx
  have hc : c = [.int .u8 (x.toNat : Int)] := hc
  subst hc
  have := hat 0 _ rfl
  refine ⟨_, rfl, ?_⟩
  rw [add_lit] at this ⊢
  rw [show off + i * bE.n + 0 = off + i by show off + i * 1 + 0 = off + i; omega] at this
  exact this
theorem Rd.holdsB {w : World} {X : Nat → Prop} {a : Option Addr} {cap : Nat} {l : List UInt8} (h : Rd bE w X a cap l) : Lib.HoldsBytes w (.slice a l.length cap) l := by
  refine ⟨a, cap, rfl, fun e => ?_, fun A e i x hx => ?_⟩
  · cases l with
    | nil => rfl
    | cons x l =>
      obtain ⟨A, e', _⟩ := Rd.holds h 0 x rfl
      rw [e] at e'; cases e'
  · obtain ⟨A', e', hc⟩ := Rd.holds h i x hx
    rw [e] at e'
    cases e'
    exact hc
theorem fresh_rd {B : Nat} {w : World} {v : Value} {l : List UInt8} (h : Lib.FreshBytes B w v l) : ∃ a c X, v = .slice a l.length c ∧ Rd bE w X a c l ∧ ∀ k, X k → k < w.heap.size ∧ B ≤ k := by
  obtain ⟨g, cap, zs, rfl, hB, hle, _, hz, hr, hb, hc, _⟩ := h
  have hbl : ∀ i x, l[i]? = some x → w.cell? ⟨g, i, none⟩ = some (.int .u8 (x.toNat : Int)) := fun i x hx => by
    have hi : i < l.length := (List.getElem?_eq_some_iff.1 hx).1
    rw [hc i (by omega)]
    have hzi : zs[i]? = some (zs.getD i 0) := by
      have : i < zs.length := by omega
      simp [this]
    have h2 : (Lib.bytesOf (zs.take l.length))[i]? = some x := by rw [hb]; exact hx
    have hm : zs.getD i 0 ∈ zs := by
      have : i < zs.length := by omega
      simp [this]
    have hrr := hr _ hm
    have h3 : (Lib.bytesOf (zs.take l.length))[i]? = some ((zs.getD i 0).toNat.toUInt8) := by
      simp only [Lib.bytesOf, List.getElem?_map, List.getElem?_take, hi, if_true, hzi, Option.map_some]
    rw [h3] at h2
    have h2 := Option.some.inj h2
    rw [← h2]
    congr 2
    show zs.getD i 0 = ((UInt8.ofNat (zs.getD i 0).toNat).toNat : Int)
    rw [UInt8.toNat_ofNat', Nat.mod_eq_of_lt (by omega)]
    omega
  refine ⟨_, cap, fun k => k = g ∧ k < w.heap.size, rfl, ⟨hle, fun i x hx => ⟨g, 0, [.int .u8 (x.toNat : Int)], rfl, ⟨rfl, ?_⟩, rfl, fun j v hj => ?_⟩⟩, fun k ⟨e, h⟩ => ⟨h, by omega⟩⟩
  · refine Nat.lt_of_not_le fun hn => ?_
    have := hbl i x hx
    unfold World.cell? at this
    rw [Array.getElem?_eq_none hn] at this
    cases this
  · have hj0 : j = 0 := by
      have := (List.getElem?_eq_some_iff.1 hj).1
      simp at this; exact this
    subst hj0
    have hv : v = .int .u8 (x.toNat : Int) := by simpa using hj.symm
    subst hv
    rw [add_lit, show 0 + i * bE.n + 0 = i by show 0 + i * 1 + 0 = i; omega]
    exact hbl i x hx
theorem bytes_Join_ok (fuel : Nat) (pa0_0 : Option Addr) (pc0_0 : Nat) (s_0 : List (List UInt8)) (pa1_0 : Option Addr) (pc1_0 : Nat) (sep_1 : List UInt8) (w0 : World) (X0 : Nat → Prop) (hX0 : ∀ k, X0 k → k < w0.heap.size) (hpa0_0 : Rd (slE bE) w0 X0 pa0_0 pc0_0 s_0) (hpa1_0 : Rd bE w0 X0 pa1_0 pc1_0 sep_1) (r0 : List UInt8) (h0 : bytes_Join fuel s_0 sep_1 = some r0) :
    Calls Tryd.prog 40 ([(.slice pa0_0 (List.length s_0) pc0_0), (.slice pa1_0 (List.length sep_1) pc1_0)] : List Value).toArray w0 (Ret fun v w' => w0.grownBy w' none ∧ ∃ (a0_0r : Option Addr) (c0_0r : Nat), ∃ (X0_0r : Nat → Prop), v = tup [(.slice a0_0r (List.length r0) c0_0r)] ∧ Rd bE w' X0_0r a0_0r c0_0r r0 ∧ (∀ k, X0_0r k → k < w'.heap.size ∧ (X0 k ∨ w0.heap.size ≤ k))) := by
  unfold bytes_Join at h0
  split at h0
  · rename_i hb
    obtain ⟨hn47, hlen⟩ := hb
    cases h0
    have fin : ∀ {e : Ending} {w' : World} {l : List UInt8}, (∃ v', e = .returned v' ∧ Lib.FreshBytes w0.heap.size w' v' l ∧ Below w0.heap.size w0 w') → Ret (fun v w' => w0.grownBy w' none ∧ ∃ (a0_0r : Option Addr) (c0_0r : Nat), ∃ (X0_0r : Nat → Prop), v = tup [(.slice a0_0r (List.length l) c0_0r)] ∧ Rd bE w' X0_0r a0_0r c0_0r l ∧ (∀ k, X0_0r k → k < w'.heap.size ∧ (X0 k ∨ w0.heap.size ≤ k))) e w' := fun ⟨v', he, hf, hbl⟩ => by
      subst he
      obtain ⟨a, c, X, hv, hr, hx⟩ := fresh_rd hf
      exact ⟨grown_of_below hbl, a, c, X, hv, hr, fun k hk => ⟨(hx k hk).1, .inr (hx k hk).2⟩⟩
    have hS := Rd.holdsB hpa1_0
    match hs : s_0, hpa0_0 with
    | [], _ =>
      refine (Any.bytes_Join_none laysJ pa0_0 pc0_0 _ w0).mono fun e w' ⟨he, hw⟩ => ?_
      subst he hw
      exact ⟨grown_alloc _ _, _, 0, fun _ => False, rfl, ⟨Nat.le_refl _, fun i x hx => by simp [Lib.join] at hx⟩, fun k h => h.elim⟩
    | [l], h =>
      obtain ⟨b, off, c, rfl, _, ⟨a', cap', hc, hr⟩, hat⟩ := h.2 0 l rfl
      subst hc
      have hcell := hat 0 _ rfl
      rw [add_lit, show off + 0 * (slE bE).n + 0 = off by omega] at hcell
      rw [Lib.join_one]
      by_cases h0 : l = []
      · subst h0
        refine (Any.bytes_Join_one_empty laysJ b off pc0_0 a' cap' _ w0 hcell).mono fun e w' ⟨he, hw⟩ => ?_
        subst he hw
        exact ⟨World.grownBy.refl _ _, none, 0, fun _ => False, rfl, Rd.nil _ _ _ _ _, fun k h => h.elim⟩
      · have hl : 0 < l.length := List.length_pos_iff.2 h0
        obtain ⟨x, hx⟩ : ∃ x, l[0]? = some x := ⟨l[0], by simp [hl]⟩
        obtain ⟨A, hA, _⟩ := Rd.holds hr 0 x hx
        subst hA
        refine (Any.bytes_Join_one laysJ b off pc0_0 A cap' l _ w0 hcell (fun i x hx => ?_) hl (by simp [Lib.lens] at hlen; omega)).mono fun e w' h => fin h
        obtain ⟨A', e', hc⟩ := Rd.holds hr i x hx
        cases e'
        exact hc
    | l :: l' :: t, h =>
      obtain ⟨b, off, _, rfl, _, _, _⟩ := h.2 0 l rfl
      have hp : ∃ vs, Lib.PartsAt w0 ⟨b, off, none⟩ vs (l :: l' :: t) := by
        have hall : ∀ i (hi : i < (l :: l' :: t).length), ∃ v, w0.cell? ((⟨b, off, none⟩ : Addr).add i) = some v ∧ Lib.HoldsBytes w0 v (l :: l' :: t)[i] := fun i hi => by
          obtain ⟨b', off', c, e, _, ⟨a', cap', hc, hr⟩, hat⟩ := h.2 i _ (List.getElem?_eq_getElem hi)
          cases e
          subst hc
          have := hat 0 _ rfl
          rw [add_lit, show off + i * (slE bE).n + 0 = off + i by show off + i * 1 + 0 = off + i; omega] at this
          exact ⟨_, by rw [add_lit]; exact this, Rd.holdsB hr⟩
        have hv : ∃ f : Nat → Value, ∀ i (hi : i < (l :: l' :: t).length), w0.cell? ((⟨b, off, none⟩ : Addr).add i) = some (f i) ∧ Lib.HoldsBytes w0 (f i) (l :: l' :: t)[i] := by
          refine ⟨fun i => if hi : i < (l :: l' :: t).length then (hall i hi).choose else .bool false, fun i hi => ?_⟩
          simp only [hi, dif_pos]
          exact (hall i hi).choose_spec
        obtain ⟨f, hf⟩ := hv
        refine ⟨(List.range (l :: l' :: t).length).map f, by simp, fun i v hv => ?_, fun i v y hv hy => ?_⟩
        · have hi : i < (l :: l' :: t).length := by have := (List.getElem?_eq_some_iff.1 hv).1; simpa using this
          have : v = f i := by
            rw [List.getElem?_map, List.getElem?_range hi] at hv
            exact (Option.some.inj hv).symm
          rw [this]; exact (hf i hi).1
        · have hi : i < (l :: l' :: t).length := by have := (List.getElem?_eq_some_iff.1 hv).1; simpa using this
          have e1 : v = f i := by
            rw [List.getElem?_map, List.getElem?_range hi] at hv
            exact (Option.some.inj hv).symm
          rw [List.getElem?_eq_getElem hi] at hy
          have e2 := Option.some.inj hy
          subst e1 e2
          exact (hf i hi).2
      obtain ⟨vs, hvs⟩ := hp
      exact (Any.bytes_Join_many laysJ b off _ pc0_0 vs _ _ sep_1 w0 rfl (by simp) hvs h.1 hS hn47 hlen).mono fun e w' h => fin h
  · cases h0
end Go.Proofs.YtlclmpegnkomcaaDoor
