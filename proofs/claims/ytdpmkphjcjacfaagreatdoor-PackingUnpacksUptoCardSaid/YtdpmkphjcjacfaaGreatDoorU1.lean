import Derived.Test.YtdpmkphjcjacfaaGreatDoorRF
set_option linter.all false
namespace Go.Gv.RI
open Go Go.Gv Go.Gv.D
set_option maxRecDepth 100000

/-! ### products of the reference's numbers -/
theorem vb_set {b : Int} : ∀ {l : List Int} {i : Nat} (h : i < l.length) (x : Int), vb b (l.set i x) = vb b l + b ^ i * (x - l[i])
  | y :: l, 0, _, x => by
    simp [vb]
    omega
  | y :: l, i + 1, h, x => by
    have h' : i < l.length := by simp at h; omega
    have := vb_set (b := b) h' x
    simp only [List.set_cons_succ, vb, List.getElem_cons_succ, this, Int.pow_succ]
    rw [Int.mul_add, ← Int.mul_assoc, Int.mul_comm b (b ^ i), Int.add_assoc]
theorem vb_high {l : List Int} (hd : Db 65536 l) {k : Nat} (hv : vb 65536 l < 65536 ^ k) {j : Nat} (hj : j < l.length) (hk : k ≤ j) : l[j] = 0 := by
  have hc := vb_cut (b := 65536) hj
  have h1 := (vb_bound h16 (hd.take j)).1
  have h2 := (vb_bound h16 (hd.drop (j + 1))).1
  have hg := hd.get hj
  rcases (by omega : l[j] = 0 ∨ 1 ≤ l[j]) with h | h
  · exact h
  · have h3 := vb_mono h16 hk
    have h4 : (65536 : Int) ^ j * 1 ≤ 65536 ^ j * (l[j] + 65536 * vb 65536 (l.drop (j + 1))) := Int.mul_le_mul_of_nonneg_left (by omega) (Int.le_of_lt (pow_pos' h16 j))
    omega
end Go.Gv.RI
namespace Go.Gv.RI
open Go Go.Gv Go.Gv.D
set_option maxRecDepth 100000
theorem vb_take1 {b : List Int} {k : Nat} (h : k < b.length) : vb 65536 (b.take (k + 1)) = vb 65536 (b.take k) + 65536 ^ k * b[k] := vb_take_succ h
theorem inner_tot {a b out0 : List Int} {i : Nat} (hda : Db 65536 a) (hdb : Db 65536 b) (ho : Db 65536 out0) (hi : i < a.length) (hlen : i + b.length < out0.length) (hol : out0.length ≤ 100000) (hz : ∀ j (h : j < out0.length), i + b.length ≤ j → out0[j] = 0) :
    Tot (fun fuel => (loopN (fun (s24 : ((List Int) × Int × Int)) => (if ((decide (s24.2.2 < ((List.length b : Nat) : Int))) || (decide (s24.2.1 > 0))) then (Option.bind (idx s24.1 (IntKind.i64.wrap ((i : Int) + s24.2.2))) fun x35 => (Option.bind (if (decide (s24.2.2 < ((List.length b : Nat) : Int))) then (Option.bind (idx a (i : Int)) fun x42 => (Option.bind (idx b s24.2.2) fun x45 => (Option.bind (some (IntKind.i64.wrap ((IntKind.i64.wrap (x35 + s24.2.1)) + (IntKind.i64.wrap (x42 * x45))))) fun n48 => (some (n48))))) else (some ((IntKind.i64.wrap (x35 + s24.2.1))))) fun (j37 : Int) => (Option.bind (idx s24.1 (IntKind.i64.wrap ((i : Int) + s24.2.2))) fun x56 => (Option.bind (upd s24.1 (IntKind.i64.wrap ((i : Int) + s24.2.2)) ((j37).tmod 65536)) fun l58 => (some (.inl (l58, (IntKind.i64.wrap ((j37).tdiv 65536)), (IntKind.i64.wrap (s24.2.2 + 1))))))))) else (some (.inr (s24.1))))) fuel (out0, 0, 0))) (fun r => Db 65536 r ∧ r.length = out0.length ∧ vb 65536 r = vb 65536 out0 + 65536 ^ i * (a[i] * vb 65536 b)) := by
  have hai := hda.get hi
  refine Tot.loop (fun (st : List Int × Int × Int) => ∃ k : Nat, st.2.2 = (k : Int) ∧ k ≤ b.length + 1 ∧ st.1.length = out0.length ∧ Db 65536 st.1 ∧ 0 ≤ st.2.1 ∧ st.2.1 < 65536 ∧ (b.length < k → st.2.1 = 0) ∧ (∀ j, i + k ≤ j → st.1[j]? = out0[j]?) ∧ vb 65536 st.1 + 65536 ^ (i + k) * st.2.1 = vb 65536 out0 + 65536 ^ i * (a[i] * vb 65536 (b.take k))) (fun st => b.length + 1 - st.2.2.toNat)
    ⟨0, rfl, Nat.zero_le _, rfl, ho, Int.le_refl _, by show (0 : Int) < 65536; decide, fun _ => rfl, fun _ _ => rfl, by simp [vb]⟩ fun st ⟨k, e, hk, h1, h2, h3, h4, h5, h6, h7⟩ => ?_
  obtain ⟨out, c, kk⟩ := st
  simp only at e h1 h2 h3 h4 h5 h6 h7
  subst e
  have hw : IntKind.i64.wrap ((i : Int) + (k : Int)) = ((i + k : Nat) : Int) := by rw [i64_small (by omega) (by omega)]; omega
  refine Tot.ite (fun g => ?_) (fun g => Tot.ret ?_)
  · have hkb : k ≤ b.length := by
      rcases Nat.lt_or_ge b.length k with hlt | hge
      · have := h5 hlt
        rw [Bool.or_eq_true] at g
        rcases g with g | g
        · have : ((k : Nat) : Int) < (b.length : Int) := of_decide_eq_true g; omega
        · have : c > 0 := of_decide_eq_true g; omega
      · exact hge
    have hp : i + k < out.length := by omega
    have hx := h2.get hp
    have hxo : out[i + k] = out0[i + k]'(by omega) := by
      have := h6 (i + k) (Nat.le_refl _)
      rw [List.getElem?_eq_getElem hp, List.getElem?_eq_getElem (by omega)] at this
      exact Option.some.inj this
    simp only [hw]
    refine Tot.bind0 (idx_nat hp) ?_
    refine Tot.bindq (P := fun j => 0 ≤ j ∧ j < 4294967296 ∧ (k = b.length → j < 65536) ∧ 65536 ^ i * (a[i] * vb 65536 (b.take (k + 1))) + 65536 ^ (i + k) * (out[i + k] + c) = 65536 ^ i * (a[i] * vb 65536 (b.take k)) + 65536 ^ (i + k) * j) (Tot.ite (fun g2 => ?_) (fun g2 => Tot.ret ?_)) fun j ⟨j1, j2, j3, j4⟩ => ?_
    · have g2 : ((k : Nat) : Int) < (b.length : Int) := of_decide_eq_true g2
      have hkl : k < b.length := by omega
      have hbk := hdb.get hkl
      have hm0 : 0 ≤ a[i] * b[k] := Int.mul_nonneg hai.1 hbk.1
      have hm1 : a[i] * b[k] ≤ 65535 * 65535 := Int.mul_le_mul (by omega) (by omega) hbk.1 (by decide)
      refine Tot.bind0 (idx_nat hi) (Tot.bind0 (idx_nat hkl) (Tot.some_bind (Tot.ret ?_)))
      rw [i64_small (x := out[i + k] + c) (by omega) (by omega), i64_small (x := a[i] * b[k]) (by omega) (by omega), i64_small (by omega) (by omega)]
      refine ⟨by omega, by omega, fun h => by omega, ?_⟩
      rw [vb_take1 hkl, Int.pow_add]
      generalize (65536 : Int) ^ i = X
      generalize (65536 : Int) ^ k = Y
      grind
    · have g2 : ¬ ((k : Nat) : Int) < (b.length : Int) := of_decide_eq_false g2
      have hkl : k = b.length := by omega
      have hz0 : out[i + k] = 0 := by rw [hxo]; exact hz _ _ (by omega)
      show 0 ≤ IntKind.i64.wrap (out[i + k] + c) ∧ _
      rw [i64_small (by omega) (by omega)]
      refine ⟨by omega, by omega, fun _ => by omega, ?_⟩
      rw [List.take_of_length_le (by omega), List.take_of_length_le (by omega)]
    · refine Tot.bind0 (idx_nat hp) ?_
      have hu : upd out ((i + k : Nat) : Int) (j.tmod 65536) = some (out.set (i + k) (j.tmod 65536)) := by
        unfold upd
        rw [if_pos ⟨by omega, by omega⟩, Int.toNat_natCast]
      refine Tot.bind0 hu (Tot.ret ?_)
      have hm : j.tmod 65536 = j % 65536 := Int.tmod_eq_emod_of_nonneg j1
      have hd : j.tdiv 65536 = j / 65536 := Int.tdiv_eq_ediv_of_nonneg j1
      rw [hm, hd, i64_small (x := j / 65536) (by omega) (by omega), i64_small (x := (k : Int) + 1) (by omega) (by omega)]
      refine ⟨⟨k + 1, by simp, by omega, by simp [h1], ?_, by show 0 ≤ j / 65536; omega, by show j / 65536 < 65536; omega, fun h => by show j / 65536 = 0; have := j3 (by omega); omega, fun x hx3 => ?_, ?_⟩, by show b.length + 1 - ((k : Int) + 1).toNat < b.length + 1 - ((k : Int)).toNat; omega⟩
      · intro x hx
        rcases List.mem_or_eq_of_mem_set hx with h | h
        · exact h2 x h
        · subst h; omega
      · show (out.set (i + k) (j % 65536))[x]? = _
        rw [List.getElem?_set_ne (by omega)]
        exact h6 x (by omega)
      · show vb 65536 (out.set (i + k) (j % 65536)) + 65536 ^ (i + (k + 1)) * (j / 65536) = _
        rw [vb_set hp, show i + (k + 1) = (i + k) + 1 by omega, Int.pow_succ]
        have he := Int.emod_add_mul_ediv j 65536
        generalize (65536 : Int) ^ (i + k) = Z at *
        grind
  · rw [Bool.or_eq_false_iff] at g
    have g1 : ¬ ((k : Nat) : Int) < (b.length : Int) := of_decide_eq_false g.1
    have g2 : ¬ c > 0 := of_decide_eq_false g.2
    have hc : c = 0 := by omega
    refine ⟨h2, h1, ?_⟩
    rw [hc, List.take_of_length_le (by omega)] at h7
    show vb 65536 out = _
    omega
end Go.Gv.RI
namespace Go.Gv.RI
open Go Go.Gv Go.Gv.D
set_option maxRecDepth 100000
theorem Times_tot {a b : List Int} (ha : Ok3 a) (hb : Ok3 b) (la : a.length ≤ 20000) (lb : b.length ≤ 20000) : Tot (fun fuel => ref3_Times fuel a b) (fun r => Ok3 r ∧ w r = w a * w b) := by
  obtain ⟨da, na, _⟩ := ha
  obtain ⟨db, nb, _⟩ := hb
  unfold ref3_Times
  have e1 : IntKind.i64.wrap ((a.length : Int) + (b.length : Int)) = ((a.length + b.length : Nat) : Int) := by rw [i64_small (by omega) (by omega)]; omega
  have e2 : IntKind.i64.wrap (((a.length + b.length : Nat) : Int) + 1) = ((a.length + b.length + 1 : Nat) : Int) := by rw [i64_small (by omega) (by omega)]; omega
  rw [e1, e2]
  refine Tot.bind0 (a := List.replicate (a.length + b.length + 1) 0) (by unfold mkC; rw [if_pos ⟨by omega, by omega, by omega⟩, Int.toNat_natCast]) ?_
  refine Tot.bindq (P := fun r => Db 65536 r ∧ r.length = a.length + b.length + 1 ∧ vb 65536 r = vb 65536 a * vb 65536 b) ?_ fun r ⟨h1, h2, h3⟩ => ?_
  · refine Tot.loop (fun (st : List Int × Int) => ∃ i : Nat, st.2 = (i : Int) ∧ i ≤ a.length ∧ Db 65536 st.1 ∧ st.1.length = a.length + b.length + 1 ∧ vb 65536 st.1 = vb 65536 (a.take i) * vb 65536 b) (fun st => a.length - st.2.toNat)
      ⟨0, rfl, Nat.zero_le _, fun x hx => by have := List.eq_of_mem_replicate hx; subst this; exact ⟨Int.le_refl _, by decide⟩, by simp, by rw [vb_zeros]; simp [vb]⟩ fun st ⟨i, e, hi, h1, h2, h3⟩ => ?_
    obtain ⟨out, k⟩ := st
    simp only at e h1 h2 h3
    subst e
    refine Tot.ite (fun g => ?_) (fun g => Tot.ret ?_)
    · have g : ((i : Nat) : Int) < (a.length : Int) := of_decide_eq_true g
      have hil : i < a.length := by omega
      have b1 := vb_bound h16 (da.take i)
      have b2 := vb_bound h16 db
      have hlt : vb 65536 out < 65536 ^ (i + b.length) := by
        rw [h3, Int.pow_add]
        rw [List.length_take, Nat.min_eq_left (by omega)] at b1
        have p1 := pow_pos' h16 i
        have p2 := pow_pos' h16 b.length
        exact Int.lt_of_le_of_lt (Int.mul_le_mul_of_nonneg_right (Int.le_of_lt b1.2) b2.1) (Int.mul_lt_mul_of_pos_left b2.2 p1)
      refine Tot.bindq (inner_tot da db h1 hil (by omega) (by omega) fun j hj hk => vb_high h1 hlt hj hk) fun r ⟨r1, r2, r3⟩ => Tot.ret ?_
      have hw : IntKind.i64.wrap ((i : Int) + 1) = ((i + 1 : Nat) : Int) := by rw [i64_small (by omega) (by omega)]; omega
      rw [hw]
      refine ⟨⟨i + 1, rfl, hil, r1, by show r.length = _; omega, ?_⟩, by show a.length - (((i + 1 : Nat) : Int)).toNat < a.length - ((i : Int)).toNat; omega⟩
      show vb 65536 r = _
      rw [r3, h3, vb_take_succ hil, Int.add_mul, Int.mul_assoc]
    · have g : ¬ ((i : Nat) : Int) < (a.length : Int) := of_decide_eq_false g
      rw [List.take_of_length_le (by omega)] at h3
      exact ⟨h1, h2, h3⟩
  · refine Tot.bindq (rtrim_tot (by omega)) fun t ht => Tot.ret ⟨⟨ht.db h1, ht.nz, ?_⟩, ?_⟩
    · have := ht.len; omega
    · show vb 65536 t = _
      rw [ht.vb, h3]
end Go.Gv.RI
namespace Go.Gv.RI
open Go Go.Gv Go.Gv.D
set_option maxRecDepth 100000
theorem ITimes_tot {a b : Bool × List Int} (ha : Ok3 a.2) (hb : Ok3 b.2) (la : a.2.length ≤ 20000) (lb : b.2.length ≤ 20000) : Tot (fun fuel => ref3_Int_Times fuel a b) (fun r => Ok3 r.2 ∧ iv3 r = iv3 a * iv3 b) := by
  unfold ref3_Int_Times
  refine Tot.bindq (Times_tot ha hb la lb) fun r ⟨h1, h2⟩ => ?_
  have hp := pos_of h1
  have hw := w_nonneg h1
  refine Tot.bindq (P := fun j => j = ((!(a.1 == b.1)) && decide (0 < w r), r)) (Tot.ite (fun g => Tot.ret ?_) (fun g => Tot.ret ?_)) fun j hj => Tot.ret ?_
  · rw [g]
    show (decide (((r.length : Nat) : Int) > 0), r) = (true && decide (0 < w r), r)
    rw [Bool.true_and]
    congr 1
    rw [decide_eq_decide, ← hp]
    omega
  · rw [g]; rfl
  · subst hj
    refine ⟨h1, ?_⟩
    show (if ((!(a.1 == b.1)) && decide (0 < w r)) = true then - w r else w r) = _
    have hz : ¬ 0 < w r → w r = 0 := fun h => by omega
    unfold iv3
    cases ha1 : a.1 <;> cases hb1 : b.1 <;> by_cases hg : 0 < w r <;> simp [hg] <;> grind
end Go.Gv.RI
namespace Go.Gv.RI
open Go Go.Gv Go.Gv.D
set_option maxRecDepth 100000
theorem Halve_tot {a : List Int} (ha : Ok3 a) (la : a.length ≤ 20000) : Tot (fun fuel => ref3_Halve fuel a 2) (fun r => Ok3 r.1 ∧ w r.1 = w a / 2 ∧ r.2 = w a % 2) := by
  obtain ⟨da, na, _⟩ := ha
  unfold ref3_Halve
  refine Tot.bind0 (a := List.replicate a.length 0) (by unfold mkC; rw [if_pos ⟨by omega, by omega, by omega⟩, Int.toNat_natCast]) ?_
  rw [i64_small (by omega) (by omega)]
  refine Tot.some_bind ?_
  refine Tot.bindq (P := fun r => Db 65536 r.1 ∧ r.1.length = a.length ∧ 2 * vb 65536 r.1 + r.2 = vb 65536 a ∧ 0 ≤ r.2 ∧ r.2 < 2) ?_ fun r ⟨h1, h2, h3, h4, h5⟩ => ?_
  · refine Tot.loop (fun (st : List Int × Int × Int) => ∃ i : Nat, st.2.2 = (i : Int) - 1 ∧ i ≤ a.length ∧ Db 65536 st.1 ∧ st.1.length = a.length ∧ 0 ≤ st.2.1 ∧ st.2.1 < 2 ∧ (∀ j, j < i → st.1[j]? = some 0) ∧ 2 * vb 65536 st.1 + 65536 ^ i * st.2.1 + vb 65536 (a.take i) = vb 65536 a) (fun st => (st.2.2 + 1).toNat)
      ⟨a.length, rfl, Nat.le_refl _, fun x hx => by have := List.eq_of_mem_replicate hx; subst this; exact ⟨Int.le_refl _, by decide⟩, by simp, Int.le_refl _, by show (0 : Int) < 2; decide, fun j hj => by rw [List.getElem?_replicate]; simp; omega, by rw [vb_zeros, List.take_length]; simp⟩ fun st ⟨i, e, hi, h1, h2, h3, h4, h5, h6⟩ => ?_
    obtain ⟨out, r, k⟩ := st
    simp only at e h1 h2 h3 h4 h5 h6
    subst e
    refine Tot.ite (fun g => ?_) (fun g => Tot.ret ?_)
    · have g : ((i : Nat) : Int) - 1 ≥ 0 := of_decide_eq_true g
      obtain ⟨m, rfl⟩ : ∃ m, i = m + 1 := ⟨i - 1, by omega⟩
      have hk : (((m + 1 : Nat) : Int) - 1) = (m : Int) := by omega
      have hma : m < a.length := by omega
      have hmo : m < out.length := by omega
      have hx := da.get hma
      have ho : out[m] = 0 := by
        have := h5 m (by omega)
        rw [List.getElem?_eq_getElem hmo] at this
        exact Option.some.inj this
      simp only [hk]
      refine Tot.bind0 (idx_nat hma) ?_
      rw [i64_small (x := r * 65536) (by omega) (by omega), i64_small (x := r * 65536 + a[m]) (by omega) (by omega)]
      have hm : (r * 65536 + a[m]).tmod 2 = (r * 65536 + a[m]) % 2 := Int.tmod_eq_emod_of_nonneg (by omega)
      have hd : (r * 65536 + a[m]).tdiv 2 = (r * 65536 + a[m]) / 2 := Int.tdiv_eq_ediv_of_nonneg (by omega)
      refine Tot.some_bind (Tot.bind0 (a := ()) rfl (Tot.bind0 (idx_nat hmo) ?_))
      rw [hd, hm, i64_small (x := (r * 65536 + a[m]) / 2) (by omega) (by omega)]
      have hu : upd out (m : Int) ((r * 65536 + a[m]) / 2) = some (out.set m ((r * 65536 + a[m]) / 2)) := by
        unfold upd
        rw [if_pos ⟨by omega, by omega⟩, Int.toNat_natCast]
      refine Tot.bind0 hu (Tot.bind0 (a := ()) rfl (Tot.ret ?_))
      rw [i64_small (x := (m : Int) - 1) (by omega) (by omega)]
      refine ⟨⟨m, rfl, by omega, ?_, by simp [h2], by show 0 ≤ (r * 65536 + a[m]) % 2; omega, by show (r * 65536 + a[m]) % 2 < 2; omega, fun j hj => ?_, ?_⟩, by show ((m : Int) - 1 + 1).toNat < ((m : Int) + 1).toNat; omega⟩
      · intro x hx2
        rcases List.mem_or_eq_of_mem_set hx2 with h | h
        · exact h1 x h
        · subst h; omega
      · show (out.set m _)[j]? = _
        rw [List.getElem?_set_ne (by omega)]
        exact h5 j (by omega)
      · show 2 * vb 65536 (out.set m ((r * 65536 + a[m]) / 2)) + 65536 ^ m * ((r * 65536 + a[m]) % 2) + vb 65536 (a.take m) = _
        rw [vb_set hmo, ho, ← h6, vb_take_succ hma, Int.pow_succ]
        have he := Int.emod_add_mul_ediv (r * 65536 + a[m]) 2
        generalize (65536 : Int) ^ m = Z at *
        grind
    · have g : ¬ ((i : Nat) : Int) - 1 ≥ 0 := of_decide_eq_false g
      have : i = 0 := by omega
      subst this
      refine ⟨h1, h2, ?_, h3, h4⟩
      simpa [vb] using h6
  · refine Tot.bindq (rtrim_tot (by omega)) fun t ht => Tot.ret ⟨⟨ht.db h1, ht.nz, ?_⟩, ?_, ?_⟩
    · have := ht.len; show t.length ≤ 100000; omega
    · show vb 65536 t = vb 65536 a / 2
      rw [ht.vb]; omega
    · show r.2 = vb 65536 a % 2
      omega
end Go.Gv.RI

