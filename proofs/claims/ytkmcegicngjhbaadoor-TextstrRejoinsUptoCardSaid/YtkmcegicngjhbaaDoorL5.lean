import Derived.Test.YtkmcegicngjhbaaDoorL4
set_option linter.all false
namespace Go.Gv.R
open Go Go.Gv Go.Gv.D

/-! ### digits are read -/
def hv (x : UInt8) : Int := nIdxB [48, 49, 50, 51, 52, 53, 54, 55, 56, 57, 97, 98, 99, 100, 101, 102] (x.toNat : Int)
def hvAll : Bool := (List.range 256).all fun n => decide (-1 ≤ hv (UInt8.ofNat n)) && decide (hv (UInt8.ofNat n) < 16) && ((List.range 16).foldl (fun (a : Int) k => if (((hexT.getD k 0).toNat : Int)) == ((UInt8.ofNat n).toNat : Int) then (k : Int) else a) (-1) == hv (UInt8.ofNat n))
theorem hv_all : hvAll = true := by kernel_rfl
theorem hv_at (x : UInt8) : -1 ≤ hv x ∧ hv x < 16 ∧ (List.range 16).foldl (fun (a : Int) k => if (((hexT.getD k 0).toNat : Int)) == (x.toNat : Int) then (k : Int) else a) (-1) = hv x := by
  have := byte_all (p := fun n => decide (-1 ≤ hv (UInt8.ofNat n)) && decide (hv (UInt8.ofNat n) < 16) && ((List.range 16).foldl (fun (a : Int) k => if (((hexT.getD k 0).toNat : Int)) == ((UInt8.ofNat n).toNat : Int) then (k : Int) else a) (-1) == hv (UInt8.ofNat n))) hv_all x
  simp only [UInt8.ofNat_toNat, Bool.and_eq_true, decide_eq_true_eq, beq_iff_eq] at this
  exact ⟨this.1.1, this.1.2, by simpa using this.2⟩
def hn (x : UInt8) : Nat := (hv x).toNat
theorem hn_eq {x : UInt8} (h : 0 ≤ hv x) : hv x = (hn x : Int) := by unfold hn; omega
theorem hn_lt (x : UInt8) : hn x < 16 := by have := hv_at x; unfold hn; omega
def unhex : List UInt8 → List UInt8
  | x :: y :: l => UInt8.ofNat (16 * hn x + hn y) :: unhex l
  | _ => []
theorem unhex_app : ∀ {p : List UInt8}, p.length % 2 = 0 → ∀ x y, unhex (p ++ [x] ++ [y]) = unhex p ++ [UInt8.ofNat (16 * hn x + hn y)]
  | [], _, _, _ => rfl
  | [_], h, _, _ => by simp at h
  | a :: b :: l, h, x, y => by
    have h' : l.length % 2 = 0 := by simp only [List.length_cons] at h; omega
    show _ :: unhex (l ++ [x] ++ [y]) = _ :: (unhex l ++ _)
    rw [unhex_app h']
theorem unhex_len : ∀ (p : List UInt8), (unhex p).length = p.length / 2
  | [] => rfl
  | [_] => by simp [unhex]
  | a :: b :: l => by
    show (unhex l).length + 1 = (l.length + 2) / 2
    rw [unhex_len l]; omega
def HexR (l : List UInt8) (r : List UInt8 × Int × Int) : Prop :=
  (∃ i, ∃ h : i < l.length, hv l[i] < 0 ∧ (∀ k (hk : k < i), 0 ≤ hv l[k]) ∧ r = ([], (1, (i : Int)))) ∨ ((∀ x ∈ l, 0 ≤ hv x) ∧ r = (unhex l, (0, 0)))
/-- what has been written of the first i letters: the last half byte counts c -/
def Half (c : Nat) (l : List UInt8) (i : Nat) (out : List UInt8) : Prop :=
  (∃ m, i = 2 * m ∧ out = unhex (l.take (2 * m))) ∨ ∃ m, ∃ h : 2 * m < l.length, i = 2 * m + 1 ∧ out = unhex (l.take (2 * m)) ++ [UInt8.ofNat (c * hn l[2 * m])]

theorem set_mid {α : Type} (p : List α) (x y : α) (q : List α) {m : Nat} (h : m = p.length) : (p ++ x :: q).set m y = p ++ y :: q := by
  subst h
  simp
theorem get_mid {α : Type} (p : List α) (x : α) (q : List α) {m : Nat} (h : m = p.length) : idx (p ++ x :: q) (m : Int) = some x := by
  subst h
  rw [idx_nat (by simp)]
  simp
theorem upd_mid {α : Type} (p : List α) (x y : α) (q : List α) {m : Nat} (h : m = p.length) : upd (p ++ x :: q) (m : Int) y = some (p ++ y :: q) := by
  unfold upd
  rw [if_pos ⟨by omega, by simp; omega⟩, Int.toNat_natCast, set_mid p x y q h]
def orAll : Bool := (List.range 256).all fun n => bwOr .u8 0 (IntKind.u8.wrap ((n : Nat) : Int)) == ((n : Nat) : Int)
theorem or_hi (n : Nat) (h : n < 16) : bwOr .u8 (IntKind.u8.wrap (0 * 2 ^ 4)) (IntKind.u8.wrap (n : Int)) = (n : Int) := by
  have : ((List.range 16).all fun n => bwOr .u8 (IntKind.u8.wrap (0 * 2 ^ 4)) (IntKind.u8.wrap ((n : Nat) : Int)) == ((n : Nat) : Int)) = true := by kernel_rfl
  exact eq_of_beq (List.all_eq_true.1 this n (List.mem_range.2 h))
theorem or_lo (a n : Nat) (h : a < 16) (h' : n < 16) : bwOr .u8 (IntKind.u8.wrap ((a : Int) * 2 ^ 4)) (IntKind.u8.wrap (n : Int)) = ((16 * a + n : Nat) : Int) := by
  have : ((List.range 16).all fun a => (List.range 16).all fun n => bwOr .u8 (IntKind.u8.wrap (((a : Nat) : Int) * 2 ^ 4)) (IntKind.u8.wrap ((n : Nat) : Int)) == ((16 * a + n : Nat) : Int)) = true := by kernel_rfl
  exact eq_of_beq (List.all_eq_true.1 (List.all_eq_true.1 this a (List.mem_range.2 h)) n (List.mem_range.2 h'))

/-! ### the law's own way -/
theorem hexfold (x : UInt8) : ∀ k, k ≤ 16 → (List.range (k + 1)).foldl (fun (a : Int) k => if (((hexT.getD k 0).toNat : Int)) == (x.toNat : Int) then (k : Int) else a) (-1) = if (((hexT.getD k 0).toNat : Int)) == (x.toNat : Int) then (k : Int) else (List.range k).foldl (fun (a : Int) k => if (((hexT.getD k 0).toNat : Int)) == (x.toNat : Int) then (k : Int) else a) (-1) := fun k _ => by
  rw [List.range_succ, List.foldl_append]
  rfl
theorem sidx_hex {k : Nat} (h : k < 16) : sidx (strOf [48, 49, 50, 51, 52, 53, 54, 55, 56, 57, 97, 98, 99, 100, 101, 102]) (k : Int) = some ((hexT.getD k 0).toNat : Int) := by
  have : ((List.range 16).all fun k => sidx (strOf hexT) ((k : Nat) : Int) == some ((hexT.getD k 0).toNat : Int)) = true := by kernel_rfl
  exact eq_of_beq (List.all_eq_true.1 this k (List.mem_range.2 h))
theorem ref_hex {s_1 : ByteArray} (hs : s_1.size ≤ 4000) (he : s_1.size % 2 = 0) : Tot (fun fuel => (loopN (fun (s378 : ((List UInt8) × Int × (Int × Int))) => (Option.bind (if (decide (s378.2.1 < ((ByteArray.size s_1 : Nat) : Int))) then (some ((s378.2.2.1 == 0))) else (some (false))) fun (j401 : Bool) => (if j401 then (Option.bind (loopN (fun (s416 : (Int × Int)) => (if (decide (s416.2 < 16)) then (Option.bind (sidx (strOf [48, 49, 50, 51, 52, 53, 54, 55, 56, 57, 97, 98, 99, 100, 101, 102]) s416.2) fun x429 => (Option.bind (sidx s_1 s378.2.1) fun x431 => (Option.bind (if (x429 == x431) then (some (s416.2)) else (some (s416.1))) fun (j433 : Int) => (some (.inl (j433, (IntKind.i64.wrap (s416.2 + 1)))))))) else (some (.inr (s416.1))))) fuel ((-1), 0)) fun (j414 : Int) => (Option.bind (if (decide (j414 < 0)) then (Option.bind (ref4_At fuel 1 s378.2.1) fun r473 => (some ((s378.1, (r473.1, r473.2))))) else (if (((s378.2.1).tmod 2) == 0) then (Option.bind (u8 (IntKind.u8.wrap ((IntKind.i64.wrap (16 * j414))))) fun b499 => (Option.bind (app s378.1 ([b499] : List UInt8)) fun l513 => (some ((l513, (s378.2.2.1, s378.2.2.2)))))) else (Option.bind (idx s378.1 (IntKind.i64.wrap ((s378.2.1).tdiv 2))) fun x550 => (Option.bind (idx s378.1 (IntKind.i64.wrap ((s378.2.1).tdiv 2))) fun x552 => (Option.bind (u8 (IntKind.u8.wrap (((x550).toNat : Int) + (IntKind.u8.wrap (j414))))) fun b554 => (Option.bind (upd s378.1 (IntKind.i64.wrap ((s378.2.1).tdiv 2)) b554) fun l557 => (some ((l557, (s378.2.2.1, s378.2.2.2)))))))))) fun (j470 : ((List UInt8) × (Int × Int))) => (some (.inl (j470.1, (IntKind.i64.wrap (s378.2.1 + 1)), (j470.2.1, j470.2.2)))))) else (some (.inr ((s378.1, (s378.2.2.1, s378.2.2.2)))))))) fuel (([] : List UInt8), 0, ((0 : Int), (0 : Int))))) (fun r => (r.2 = (0, 0) ∧ HexR (bytesOf s_1) r) ∨ (r.2.1 = 1 ∧ HexR (bytesOf s_1) ([], r.2))) := by
  have hsz := size_bytes s_1
  rw [hsz] at hs he ⊢
  generalize hL : bytesOf s_1 = L at hs he ⊢
  refine Tot.loop (fun st => ∃ i : Nat, st.2.1 = (i : Int) ∧ i ≤ L.length ∧ ((st.2.2 = (0, 0) ∧ (∀ k (hk : k < L.length), k < i → 0 ≤ hv L[k]) ∧ Half 16 L i st.1) ∨ (st.2.2.1 = 1 ∧ HexR L ([], st.2.2)))) (fun st => L.length - st.2.1.toNat) ⟨0, rfl, by omega, .inl ⟨rfl, fun k _ h => absurd h (by omega), .inl ⟨0, rfl, rfl⟩⟩⟩ fun st ⟨i, e, hi, hst⟩ => ?_
  obtain ⟨out, k, f⟩ := st
  simp only at e
  subst e
  dsimp only
  rcases hst with ⟨ef, hall, hh⟩ | ⟨ef, hx⟩
  · simp only at ef
    subst ef
    dsimp only
    refine Tot.bindq (P := fun r => r = decide (i < L.length)) ?_ fun r hr => ?_
    · refine Tot.ite (fun h => ?_) (fun h => ?_)
      · have h : ((i : Nat) : Int) < (L.length : Int) := of_decide_eq_true h
        exact Tot.ret (by rw [decide_eq_true (by omega : i < L.length)]; rfl)
      · have h : ¬ ((i : Nat) : Int) < (L.length : Int) := of_decide_eq_false h
        exact Tot.ret (by rw [decide_eq_false (by omega : ¬ i < L.length)])
    · subst hr
      refine Tot.ite (fun h => ?_) (fun h => ?_)
      · have hq : i < L.length := of_decide_eq_true h
        refine Tot.bindq (P := fun r => r = hv L[i]) ?_ fun r hr => ?_
        · refine Tot.loop (fun st => ∃ k : Nat, st.2 = (k : Int) ∧ k ≤ 16 ∧ st.1 = (List.range k).foldl (fun (a : Int) k => if (((hexT.getD k 0).toNat : Int)) == (L[i].toNat : Int) then (k : Int) else a) (-1)) (fun st => 16 - st.2.toNat) ⟨0, rfl, by omega, rfl⟩ fun st ⟨k, e, hk, g⟩ => ?_
          obtain ⟨a, q⟩ := st
          simp only at e g
          subst e g
          dsimp only
          refine Tot.ite (fun h2 => ?_) (fun h2 => ?_)
          · have h2 : k < 16 := by have : ((k : Nat) : Int) < 16 := of_decide_eq_true h2; omega
            refine Tot.bind0 (sidx_hex h2) (Tot.bind0 (a := (L[i].toNat : Int)) (by rw [sidx_nat (by rw [hL]; exact hq)]; simp only [hL]) ?_)
            refine Tot.bindq (P := fun j => j = (List.range (k + 1)).foldl (fun (a : Int) k => if (((hexT.getD k 0).toNat : Int)) == (L[i].toNat : Int) then (k : Int) else a) (-1)) ?_ fun j hj => ?_
            · rw [hexfold _ k (by omega)]
              refine Tot.ite (fun h3 => Tot.ret (by rw [if_pos h3])) (fun h3 => Tot.ret (by rw [if_neg (by rw [h3]; simp)]))
            · subst hj
              have hw : IntKind.i64.wrap ((k : Int) + 1) = ((k + 1 : Nat) : Int) := by rw [i64_small (by omega) (by omega)]; omega
              rw [hw]
              refine Tot.ret ⟨⟨k + 1, rfl, h2, rfl⟩, ?_⟩
              show 16 - ((k + 1 : Nat) : Int).toNat < 16 - ((k : Nat) : Int).toNat
              omega
          · have h2 : k = 16 := by have : ¬ ((k : Nat) : Int) < 16 := of_decide_eq_false h2; omega
            subst h2
            exact Tot.ret (hv_at L[i]).2.2
        · subst hr
          have hw : IntKind.i64.wrap ((i : Int) + 1) = ((i + 1 : Nat) : Int) := by rw [i64_small (by omega) (by omega)]; omega
          rw [hw]
          have hd : IntKind.i64.wrap ((i : Int).tdiv 2) = ((i / 2 : Nat) : Int) := by
            rw [Int.tdiv_eq_ediv_of_nonneg (by omega), i64_small (by omega) (by omega)]; omega
          rw [hd]
          have hμ : L.length - ((i + 1 : Nat) : Int).toNat < L.length - ((i : Nat) : Int).toNat := by omega
          refine Tot.bindq (P := fun j => (j.2 = (0, 0) ∧ 0 ≤ hv L[i] ∧ Half 16 L (i + 1) j.1) ∨ (j.2.1 = 1 ∧ HexR L ([], j.2))) ?_ fun j hj => ?_
          · refine Tot.ite (fun h4 => ?_) (fun h4 => ?_)
            · have h4 : hv L[i] < 0 := of_decide_eq_true h4
              refine Tot.bindq (P := fun r => r = (1, (i : Int))) (by unfold ref4_At; exact Tot.ret rfl) fun r hr => Tot.ret ?_
              subst hr
              exact .inr ⟨rfl, .inl ⟨i, hq, h4, fun k hk => hall k (by omega) hk, rfl⟩⟩
            · have h4 : ¬ hv L[i] < 0 := of_decide_eq_false h4
              have hl := hn_lt L[i]
              rw [hn_eq (x := L[i]) (by omega)]
              rcases hh with ⟨m, em, eo⟩ | ⟨m, hm, em, eo⟩
              · subst em eo
                have hul := unhex_len (L.take (2 * m))
                rw [List.length_take, Nat.min_eq_left hi] at hul
                refine Tot.it ?_ ?_
                · rw [Int.tmod_eq_emod_of_nonneg (by omega)]
                  exact beq_iff_eq.2 (by omega)
                refine Tot.bind0 (a := UInt8.ofNat (16 * hn L[2 * m])) ?_ (Tot.bind0 (app_ok (by simp only [List.length_cons, List.length_nil]; omega)) (Tot.ret (.inl ⟨rfl, by omega, .inr ⟨m, hq, rfl, rfl⟩⟩)))
                rw [i64_small (by omega) (by omega), u8_small (by omega) (by omega), show 16 * (hn L[2 * m] : Int) = ((16 * hn L[2 * m] : Nat) : Int) by omega, u8_ok (by omega)]
              · subst em eo
                have hul := unhex_len (L.take (2 * m))
                rw [List.length_take, Nat.min_eq_left (by omega)] at hul
                have hl2 := hn_lt L[2 * m]
                refine Tot.if_ ?_ ?_
                · rw [Int.tmod_eq_emod_of_nonneg (by omega)]
                  exact beq_eq_false_iff_ne.2 (by omega)
                refine Tot.bind0 (get_mid _ _ _ (by omega)) (Tot.bind0 (get_mid _ _ _ (by omega)) (Tot.bind0 (a := UInt8.ofNat (16 * hn L[2 * m] + hn L[2 * m + 1])) ?_ (Tot.bind0 (upd_mid _ _ _ _ (by omega)) (Tot.ret (.inl ⟨rfl, by omega, .inl ⟨m + 1, by omega, ?_⟩⟩)))))
                · rw [UInt8.toNat_ofNat', Nat.mod_eq_of_lt (by omega), u8_small (x := (hn L[2 * m + 1] : Int)) (by omega) (by omega), u8_small (by omega) (by omega), show ((16 * hn L[2 * m] : Nat) : Int) + (hn L[2 * m + 1] : Int) = ((16 * hn L[2 * m] + hn L[2 * m + 1] : Nat) : Int) by omega, u8_ok (by omega)]
                · show unhex (L.take (2 * m)) ++ [UInt8.ofNat (16 * hn L[2 * m] + hn L[2 * m + 1])] = unhex (L.take (2 * (m + 1)))
                  rw [show 2 * (m + 1) = 2 * m + 1 + 1 by omega, take_snoc hq, take_snoc hm]
                  exact (unhex_app (by rw [List.length_take]; omega) _ _).symm
          · rcases hj with ⟨e, h5, h6⟩ | ⟨e, h5⟩
            · refine Tot.ret ⟨⟨i + 1, rfl, hq, .inl ⟨e, fun k hk h => ?_, h6⟩⟩, hμ⟩
              rcases (by omega : k < i ∨ k = i) with h' | h'
              · exact hall k hk h'
              · subst h'; exact h5
            · exact Tot.ret ⟨⟨i + 1, rfl, hq, .inr ⟨e, h5⟩⟩, hμ⟩
      · have h3 : i = L.length := by have : ¬ i < L.length := of_decide_eq_false h; omega
        subst h3
        refine Tot.ret (.inl ⟨rfl, .inr ⟨fun x hx => ?_, ?_⟩⟩)
        · obtain ⟨k, hk, e⟩ := List.mem_iff_getElem.1 hx
          subst e
          exact hall k hk hk
        · rcases hh with ⟨m, em, eo⟩ | ⟨m, hm, em, eo⟩
          · simp only at eo
            subst eo
            rw [← em, List.take_length]
          · omega
  · simp only at ef hx
    refine Tot.bindq (P := fun r => r = false) ?_ fun r hr => ?_
    · refine Tot.ite (fun h => ?_) (fun h => Tot.ret rfl)
      exact Tot.ret (by rw [ef]; rfl)
    · subst hr
      exact Tot.if_ rfl (Tot.ret (.inr ⟨ef, hx⟩))
end Go.Gv.R
