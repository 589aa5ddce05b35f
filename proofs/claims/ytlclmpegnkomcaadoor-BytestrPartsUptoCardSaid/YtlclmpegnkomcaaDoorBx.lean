import Derived.Test.YtlclmpegnkomcaaDoorProg
import Derived.Shelf.LaysM
import Derived.Shelf.Bytes.SlIndexWhole
import Derived.Shelf.Bytes.SlSplit
import Derived.Shelf.Bytes.SlSplitNil
import Derived.Test.YtlclmpegnkomcaaDoorJn
set_option linter.all false
namespace Go.Proofs.YtlclmpegnkomcaaDoor
open Go.Gv Go.Gv.D Go.Shelf Go.RowKit
set_option maxRecDepth 1000000
def renX : Ren := ⟨fun n => if n = 185 then 53 else if n = 187 then 39 else if n = 115 then 73 else if n = 253 then 74 else if n = 224 then 75 else if n = 254 then 76 else if n = 255 then 58 else if n = 291 then 86 else n,
  fun n => if n = 37 then 22 else if n = 46 then 71 else if n = 146 then 118 else if n = 51 then 97 else n, fun n => if n = 1 then 2 else n⟩
def renP : Ren := ⟨fun n => if n = 8 then 55 else if n = 11 then 79 else if n = 14 then 88 else if n = 15 then 89 else if n = 16 then 53 else if n = 19 then 94 else if n = 20 then 95 else if n = 21 then 39 else if n = 22 then 73 else if n = 23 then 74 else if n = 24 then 75 else if n = 25 then 76 else if n = 30 then 58 else if n = 31 then 86 else n,
  fun n => if n = 38 then 97 else if n = 45 then 71 else if n = 58 then 118 else n, fun n => n⟩
theorem laysX : Lays.n185 Tryd.prog renX := by constructor <;> first | kernel_rfl | (intro w; kernel_rfl)
theorem laysP : SlLaysP.n8 Tryd.prog renP := by constructor <;> first | kernel_rfl | (intro w; kernel_rfl)
set_option maxHeartbeats 2000000 in
theorem ibNil (c : Nat) (cv : Int) (w : World) : Calls Tryd.prog 39 #[.slice none 0 c, .int .u8 cv] w fun e w' => e = .returned (.int .i64 (-1)) ∧ w' = w := by
  go_enter Tryd.func39, Tryd.ntmps39
  go_wp2
  rw [run_callFunc_extern Tryd.func58 (by kernel_rfl) (by kernel_rfl) (by kernel_rfl) (e := Extern.BytealgIndexByte.indexByte) (by kernel_rfl), Lib.run_indexByteNil w 0 c cv]
  simp only [Result.andThen]
  rw [Oper.upon_value]
  go_wp2
  go_ret
  exact ⟨rfl, rfl⟩
set_option maxHeartbeats 2000000 in
theorem ixNil1 (c b2 o2 d : Nat) (cv : Int) (w : World) (hc2 : w.cell? ⟨b2, o2, none⟩ = some (.int .u8 cv)) :
    Calls Tryd.prog 53 #[.slice none 0 c, .slice (some ⟨b2, o2, none⟩) 1 d] w fun e w' => e = .returned (.int .i64 (-1)) ∧ w' = w := by
  go_enter Tryd.func53, Tryd.ntmps53
  go_wp2_with (go_at_call 39; refine (ibNil c cv _).mono ?_; rintro e w' ⟨rfl, rfl⟩)
  go_ret
  exact ⟨rfl, rfl⟩
set_option maxHeartbeats 2000000 in
theorem gsNil (c : Nat) (p2 : Option Addr) (k c2 : Nat) (w : World) (h1 : 1 ≤ k) (hk : k ≤ 9223372036854775807) (lim : Int) (hl : 1 ≤ lim) (h63 : lim ≤ 9223372036854775807) :
    Calls Tryd.prog 79 #[.slice none 0 c, .slice p2 k c2, .int .i64 0, .int .i64 lim] w fun e w' => e = .returned (.slice (some ⟨w.heap.size, 0, none⟩) 1 1) ∧ w' = w.alloc (.cells #[.slice none 0 c] 22) := by
  have hne : (lim == 0) = false := beq_eq_false_iff_ne.2 (by omega)
  have k0 : ((k : Int) == 0) = false := beq_eq_false_iff_ne.2 (by omega)
  have hneg : ¬ lim < 0 := by omega
  have hmc : madeCells #[Value.slice none 0 0] 1 = #[.slice none 0 0] := by
    rw [← Lib.cellsOfV_nil]
    rfl
  have hmk : ∀ w, (Instr.makeSlice 23 (.int .i64 1) (.int .i64 1)).run Tryd.prog w = .ok (.slice (some ⟨w.heap.size, 0, none⟩) 1 1) (w.alloc (.cells #[.slice none 0 0] 22)) := fun w => by
    have := run_make_row' (P := Tryd.prog) 23 22 (.slice none 0 0) 24 Tryd.underlying23 (by kernel_rfl) rfl .i64 .i64 1 (by omega) (by omega) w
    rw [hmc] at this
    exact this
  clear hmc
  have eN : min lim ((0 : Int) + 1) = 1 := by omega
  have eN' : min lim (1 : Int) = 1 := by omega
  go_enter Tryd.func79, Tryd.ntmps79
  go_wp2
  refine wp_loop_rounds 1 ?_
  rw [rounds_succ]
  go_wp2
  go_ret
  exact ⟨rfl, rfl⟩
set_option maxHeartbeats 2000000 in
theorem snNil (c : Nat) (p2 : Option Addr) (k c2 : Nat) (w : World) (h1 : 1 ≤ k) (hk : k ≤ 9223372036854775807) (lim : Int) (hl : 1 ≤ lim) (h63 : lim ≤ 9223372036854775807) :
    Calls Tryd.prog 55 #[.slice none 0 c, .slice p2 k c2, .int .i64 lim] w fun e w' => e = .returned (.slice (some ⟨w.heap.size, 0, none⟩) 1 1) ∧ w' = w.alloc (.cells #[.slice none 0 c] 22) := by
  go_enter Tryd.func55, Tryd.ntmps55
  go_wp2_with (go_at_call 79; refine (gsNil c p2 k c2 _ h1 hk lim hl h63).mono ?_; rintro e w' ⟨rfl, rfl⟩)
  go_ret
  exact ⟨rfl, rfl⟩
def intsOf (l : List UInt8) : List Int := l.map fun x => (x.toNat : Int)
theorem intsOf_len (l : List UInt8) : (intsOf l).length = l.length := by simp [intsOf]
theorem intsOf_bytes (l : List UInt8) : Lib.bytesOf (intsOf l) = l := by
  unfold Lib.bytesOf intsOf
  rw [List.map_map]
  conv => rhs; rw [← List.map_id l]
  apply List.map_congr_left
  intro x _
  show UInt8.ofNat ((x.toNat : Int)).toNat = x
  rw [Int.toNat_natCast, UInt8.ofNat_toNat]
theorem intsOf_rng (l : List UInt8) : ∀ x ∈ intsOf l, 0 ≤ x ∧ x < 256 := fun x hx => by
  unfold intsOf at hx
  obtain ⟨y, _, rfl⟩ := List.mem_map.1 hx
  have := y.toNat_lt
  omega
theorem Rd.ints {w : World} {X : Nat → Prop} {A : Addr} {cap : Nat} {l : List UInt8} (h : Rd bE w X (some A) cap l) : ∀ i, i < l.length → w.cell? (A.add i) = some (.int .u8 ((intsOf l).getD i 0)) := fun i hi => by
  obtain ⟨A', e, hc⟩ := Rd.holds h i l[i] (List.getElem?_eq_getElem hi)
  cases e
  rw [hc]
  simp [intsOf, List.getD, hi]
theorem grown_drewN (w : World) (q : Nat) : w.grownBy (w.drewN q) none := ⟨rfl, rfl, rfl, Nat.le_refl _, fun _ _ _ => rfl⟩
theorem max_cell2 {gmx : Int} {w : World} {X : Nat → Prop} (h : Rd (iE .i64) w X (some ⟨2, 0, none⟩) 1 [gmx]) : w.cell? ⟨2, 0, none⟩ = some (.int .i64 gmx) := by
  obtain ⟨b, off, c, e, _, hc, hat⟩ := h.2 0 gmx rfl
  cases e
  have hc : c = [.int .i64 gmx] := hc
  subst hc
  have := hat 0 _ rfl
  rwa [add_lit] at this
theorem splitK_le (sep : List UInt8) (save : Nat) : ∀ (k : Nat) (s : List UInt8), (Lib.splitK sep save k s).length ≤ k + 1
  | 0, s => by simp [Lib.splitK]
  | k + 1, s => by
    unfold Lib.splitK
    split
    · simp
    · rw [List.length_cons]
      have := splitK_le sep save k (s.drop ((Lib.index s sep).toNat + sep.length))
      omega
theorem cell_alloc (w : World) (cs : Array Value) (t : TypeId) (i : Nat) (v : Value) (h : cs[i]? = some v) : (w.alloc (.cells cs t)).cell? ⟨w.heap.size, i, none⟩ = some v := by
  unfold World.cell?
  rw [show (w.alloc (.cells cs t)).heap = w.heap.push (.cells cs t) from rfl, Array.getElem?_push_size]
  exact h
theorem size_alloc (w : World) (o : Obj) : (w.alloc o).heap.size = w.heap.size + 1 := Array.size_push _
set_option maxHeartbeats 2000000 in
theorem bytes_Index_ok (fuel : Nat) (pa0_0 : Option Addr) (pc0_0 : Nat) (s_0 : List UInt8) (pa1_0 : Option Addr) (pc1_0 : Nat) (sep_1 : List UInt8) (w0 : World) (X0 : Nat → Prop) (hX0 : ∀ k, X0 k → k < w0.heap.size) (hpa0_0 : Rd bE w0 X0 pa0_0 pc0_0 s_0) (hpa1_0 : Rd bE w0 X0 pa1_0 pc1_0 sep_1) {gmx : Int} (hG2 : Rd (iE .i64) w0 X0 (some ⟨2, 0, none⟩) 1 [gmx]) (r0 : Int) (h0 : bytes_Index fuel s_0 sep_1 = some r0) :
    Calls Tryd.prog 53 ([(.slice pa0_0 (List.length s_0) pc0_0), (.slice pa1_0 (List.length sep_1) pc1_0)] : List Value).toArray w0 (Ret fun v w' => w0.grownBy w' none ∧ v = tup [(.int .i64 r0)]) := by
  unfold bytes_Index at h0
  split at h0
  · rename_i hb
    cases h0
    have same : ∀ {n : Int}, n = Lib.index s_0 sep_1 → ∀ {e : Ending} {w' : World}, e = .returned (.int .i64 n) ∧ w' = w0 → Ret (fun v w' => w0.grownBy w' none ∧ v = tup [(.int .i64 (Lib.index s_0 sep_1))]) e w' := by
      intro n hn e w' h
      obtain ⟨rfl, rfl⟩ := h
      subst hn
      exact ⟨World.grownBy.refl _ _, rfl⟩
    by_cases k0 : sep_1 = []
    · subst k0
      exact (Any.bytes_Index_none laysX pa0_0 pa1_0 s_0.length pc0_0 pc1_0 w0).mono fun e w' => same (Lib.index_empty _).symm
    · have hk : 1 ≤ sep_1.length := List.length_pos_iff.2 k0
      obtain ⟨A2, rfl, hA2⟩ := Rd.holds hpa1_0 0 sep_1[0] (List.getElem?_eq_getElem hk)
      by_cases hs : s_0 = []
      · subst hs
        have hix : Lib.index [] sep_1 = -1 := by
          have h1 := Lib.index_ge [] sep_1
          have h2 := Lib.index_room [] sep_1
          simp at h2
          omega
        by_cases k1 : sep_1.length = 1
        · have hc : w0.cell? A2 = some (.int .u8 (sep_1[0].toNat : Int)) := by simpa [Addr.add] using hA2
          have e2 : A2 = ⟨A2.block, A2.off, none⟩ := Lib.plain_of_cell hc
          rw [e2] at hc ⊢
          cases pa0_0 with
          | none =>
            rw [k1]
            exact (ixNil1 pc0_0 _ _ pc1_0 _ w0 hc).mono fun e w' => same hix.symm
          | some A1 =>
            refine (Any.bytes_Index_at laysX A1 ⟨A2.block, A2.off, none⟩ 0 pc0_0 sep_1.length pc1_0 [] (intsOf sep_1) gmx w0 rfl (intsOf_len _) (fun x hx => by cases hx) (intsOf_rng _) (fun i hi => by omega) (fun i hi => ?_) (Nat.zero_le _) (by omega) (by omega) (max_cell2 hG2)).mono ?_
            · rw [← e2]; exact Rd.ints hpa1_0 i hi
            · rintro e w' ⟨rfl, q, rfl⟩
              rw [intsOf_bytes]
              exact ⟨grown_drewN _ _, rfl⟩
        · exact (Any.bytes_Index_longer laysX pa0_0 (some A2) 0 pc0_0 sep_1.length pc1_0 w0 (by omega) (by omega) (by omega)).mono fun e w' => same hix.symm
      · have hs1 : 0 < s_0.length := List.length_pos_iff.2 hs
        obtain ⟨A1, rfl, hA1⟩ := Rd.holds hpa0_0 0 s_0[0] (List.getElem?_eq_getElem hs1)
        refine (Any.bytes_Index_at laysX A1 A2 s_0.length pc0_0 sep_1.length pc1_0 (intsOf s_0) (intsOf sep_1) gmx w0 (intsOf_len _) (intsOf_len _) (intsOf_rng _) (intsOf_rng _) (Rd.ints hpa0_0) (Rd.ints hpa1_0) hpa0_0.1 (by omega) (by omega) (max_cell2 hG2)).mono ?_
        rintro e w' ⟨rfl, q, rfl⟩
        rw [intsOf_bytes, intsOf_bytes]
        exact ⟨grown_drewN _ _, rfl⟩
  · cases h0
set_option maxHeartbeats 2000000 in
theorem bytes_SplitN_ok (fuel : Nat) (pa0_0 : Option Addr) (pc0_0 : Nat) (s_0 : List UInt8) (pa1_0 : Option Addr) (pc1_0 : Nat) (sep_1 : List UInt8) (n_2 : Int) (w0 : World) (X0 : Nat → Prop) (hX0 : ∀ k, X0 k → k < w0.heap.size) (hpa0_0 : Rd bE w0 X0 pa0_0 pc0_0 s_0) (hpa1_0 : Rd bE w0 X0 pa1_0 pc1_0 sep_1) {gmx : Int} (hG2 : Rd (iE .i64) w0 X0 (some ⟨2, 0, none⟩) 1 [gmx]) (hcp0 : pc0_0 ≤ 9223372036854775807) (r0 : List (List UInt8)) (h0 : bytes_SplitN fuel s_0 sep_1 n_2 = some r0) :
    Calls Tryd.prog 55 ([(.slice pa0_0 (List.length s_0) pc0_0), (.slice pa1_0 (List.length sep_1) pc1_0), (.int .i64 n_2)] : List Value).toArray w0 (Ret fun v w' => w0.grownBy w' none ∧ ∃ (a0_0r : Option Addr) (c0_0r : Nat), ∃ (X0_0r : Nat → Prop), v = tup [(.slice a0_0r (List.length r0) c0_0r)] ∧ Rd (slE bE) w' X0_0r a0_0r c0_0r r0 ∧ (∀ k, X0_0r k → k < w'.heap.size ∧ (X0 k ∨ w0.heap.size ≤ k))) := by
  unfold bytes_SplitN at h0
  split at h0
  · rename_i hb
    obtain ⟨hs, hk1, hk, hn1, hn⟩ := hb
    cases h0
    obtain ⟨n, rfl⟩ : ∃ n : Nat, n_2 = n := ⟨n_2.toNat, by omega⟩
    rw [Int.toNat_natCast]
    obtain ⟨A2, rfl, hA2⟩ := Rd.holds hpa1_0 0 sep_1[0] (List.getElem?_eq_getElem hk1)
    cases pa0_0 with
    | none =>
      have hs0 : s_0 = [] := by
        cases s_0 with
        | nil => rfl
        | cons x l => obtain ⟨A, e, _⟩ := Rd.holds hpa0_0 0 x rfl; cases e
      subst hs0
      have e1 : min n (([] : List UInt8).length + 1) - 1 = 0 := by
        show min n (0 + 1) - 1 = 0
        omega
      rw [e1]
      refine (snNil pc0_0 (some A2) sep_1.length pc1_0 w0 hk1 hk n hn1 hn).mono ?_
      rintro e w' ⟨rfl, rfl⟩
      refine ⟨grown_alloc _ _, some ⟨w0.heap.size, 0, none⟩, 1, fun k => k = w0.heap.size, rfl, ⟨Nat.le_refl _, fun i x hx => ?_⟩, fun k hk => ?_⟩
      · have hi : i < 1 := (List.getElem?_eq_some_iff.1 hx).1
        obtain rfl : i = 0 := by omega
        have hx : [] = x := Option.some.inj hx
        subst hx
        refine ⟨w0.heap.size, 0, [.slice none 0 pc0_0], rfl, rfl, ⟨none, pc0_0, rfl, Rd.nil _ _ _ _ _⟩, fun j v hj => ?_⟩
        have hj0 : j = 0 := by
          have := (List.getElem?_eq_some_iff.1 hj).1
          simp at this; exact this
        subst hj0
        have hv : v = .slice none 0 pc0_0 := by simpa using hj.symm
        subst hv
        rw [add_lit]
        exact cell_alloc _ _ _ _ _ rfl
      · subst hk
        exact ⟨by rw [size_alloc]; omega, .inr (Nat.le_refl _)⟩
    | some A1 =>
      refine (Any.bytes_SplitN laysP A1 A2 s_0.length pc0_0 sep_1.length pc1_0 (intsOf s_0) (intsOf sep_1) gmx w0 (intsOf_len _) (intsOf_len _) (intsOf_rng _) (intsOf_rng _) (Rd.ints hpa0_0) (Rd.ints hpa1_0) hpa0_0.1 (by omega) (by omega) hcp0 hk1 (max_cell2 hG2) n (by omega) (by omega)).mono ?_
      rw [intsOf_bytes, intsOf_bytes]
      rintro e w' ⟨rfl, q, rfl⟩
      have hle : (Lib.splitV sep_1 0 (min n (s_0.length + 1) - 1) A1 pc0_0 s_0).length ≤ min n (s_0.length + 1) := by
        rw [Lib.splitV_length]
        have := splitK_le sep_1 0 (min n (s_0.length + 1) - 1) s_0
        omega
      have hlen : (Lib.splitV sep_1 0 (min n (s_0.length + 1) - 1) A1 pc0_0 s_0).length = (Lib.splitK sep_1 0 (min n (s_0.length + 1) - 1) s_0).length := Lib.splitV_length _ _ _ _ _ _
      refine ⟨grown_trans (grown_alloc _ _) (grown_drewN _ _), some ⟨w0.heap.size, 0, none⟩, min n (s_0.length + 1), fun k => X0 k ∨ k = w0.heap.size, by rw [hlen]; rfl, ⟨by omega, fun i x hx => ?_⟩, fun k hk => ?_⟩
      · have hi : i < (Lib.splitV sep_1 0 (min n (s_0.length + 1) - 1) A1 pc0_0 s_0).length := by rw [hlen]; exact (List.getElem?_eq_some_iff.1 hx).1
        obtain ⟨a', off, len, cp, hv, h1, h2, h3, h4⟩ := Lib.splitV_spec sep_1 0 (List.length_pos_iff.1 hk1) (Nat.zero_le _) _ A1 pc0_0 s_0 hpa0_0.1 i _ (List.getElem?_eq_getElem hi)
        rw [hx] at h3
        have h3 := Option.some.inj h3
        subst h3
        have hll : ((s_0.drop off).take len).length = len := by simp; omega
        refine ⟨w0.heap.size, 0, [.slice (some a') len cp], rfl, .inr rfl, ⟨some a', cp, by rw [hll], ⟨by omega, fun j y hy => ?_⟩⟩, fun j v hj => ?_⟩
        · have hj : j < len := by have := (List.getElem?_eq_some_iff.1 hy).1; omega
          have hy' : s_0[off + j]? = some y := by
            rw [List.getElem?_take, if_pos hj, List.getElem?_drop] at hy
            exact hy
          obtain ⟨b, o, c, e, hX, hc, hat⟩ := hpa0_0.2 (off + j) y hy'
          cases e
          have ha : a' = ⟨b, o + off, none⟩ := by
            have := h4 0 (by omega)
            rw [add_zero'] at this
            rw [this, add_lit]; rfl
          subst ha
          refine ⟨b, o + off, c, rfl, .inl hX, hc, fun t v ht => ?_⟩
          have := hat t v ht
          rw [show o + off + j * bE.n = o + (off + j) * bE.n by show o + off + j * 1 = o + (off + j) * 1; omega]
          rw [World.cell?_drewN]
          exact Lib.cell?_alloc_marked _ this
        · have hj0 : j = 0 := by
            have := (List.getElem?_eq_some_iff.1 hj).1
            simp at this; exact this
          subst hj0
          have hv' : v = .slice (some a') len cp := by simpa using hj.symm
          subst hv'
          rw [add_lit, World.cell?_drewN]
          rw [show 0 + i * (slE bE).n + 0 = i by show 0 + i * 1 + 0 = i; omega]
          have hce : (Lib.cellsOfV (Lib.splitV sep_1 0 (min n (s_0.length + 1) - 1) A1 pc0_0 s_0) (min n (s_0.length + 1)))[i]? = some (.slice (some a') len cp) := by
            unfold Lib.cellsOfV
            rw [List.getElem?_toArray, List.getElem?_append_left hi, List.getElem?_eq_getElem hi, hv]
          exact cell_alloc _ _ _ _ _ hce
      · refine ⟨?_, hk.imp_right fun h => by omega⟩
        have : w0.heap.size < (w0.alloc (.cells (Lib.cellsOfV (Lib.splitV sep_1 0 (min n (s_0.length + 1) - 1) A1 pc0_0 s_0) (min n (s_0.length + 1))) 22)).heap.size := by rw [size_alloc]; omega
        rcases hk with h | h
        · exact Nat.lt_trans (hX0 k h) this
        · rw [h]; exact this
  · cases h0
end Go.Proofs.YtlclmpegnkomcaaDoor
