import Derived.Test.YtdpmkphjcjacfaaGreatDoorV1
set_option linter.all false
namespace Go.Gv.P
open Go Go.Gv Go.Gv.D Go.Gv.R
set_option maxRecDepth 100000
def nF (x : Fld) : Nat := if x.1.toNat = 115 ∨ x.1.toNat = 120 then x.2.1.toNat else if x.1.toNat = 63 ∨ x.1.toNat = 118 ∨ x.1.toNat = 112 then 1 else (wid x.1.toNat).toNat
theorem nF_le {x : Fld} {b : Bool} (hg : good b x) (ho : okF x) : nF x ≤ 100 := by
  obtain ⟨h1, h2, h3, hk⟩ := kindsF hg ho
  have := wid_cases x.1.toNat
  unfold nF
  split
  · omega
  · split
    · omega
    · omega
theorem rdF_short {x : Fld} {b : Bool} (hg : good b x) (ho : okF x) {d : List UInt8} (h : d.length < nF x) : rdF x d = (15, zv, 0) := by
  obtain ⟨h1, h2, h3, hk⟩ := kindsF hg ho
  unfold nF at h
  rcases hk with ⟨k1, _⟩ | ⟨k1, (⟨e, _⟩ | ⟨e, _⟩ | ⟨e, _⟩ | ⟨e, _, _⟩)⟩
  · rw [if_neg (by omega), if_neg (by omega)] at h
    rw [rdF_wid k1, if_pos h]
  · rw [if_neg (by omega), if_pos (by omega)] at h
    have : d = [] := List.length_eq_zero_iff.1 (by omega)
    subst this
    rw [rdF_118 k1 e]
    rfl
  · rw [if_neg (by omega), if_pos (by omega)] at h
    have : d = [] := List.length_eq_zero_iff.1 (by omega)
    subst this
    rw [rdF_112 k1 e]
  · rw [if_neg (by omega), if_pos (by omega)] at h
    have : d = [] := List.length_eq_zero_iff.1 (by omega)
    subst this
    rw [rdF_63 k1 e]
  · rw [if_pos e] at h
    rw [rdF_sx k1 e, if_pos h]
theorem nF_a {x : Fld} {b : Bool} (hg : good b x) (ho : okF x) : Tot (fun _ => if (x.1 == 115) = true then (some ((x.1 == 115))) else (some ((x.1 == 120)))) (· = decide (x.1.toNat = 115 ∨ x.1.toNat = 120)) := by
  obtain ⟨h1, h2, h3, hk⟩ := kindsF hg ho
  refine Tot.ite (fun g => Tot.ret ?_) (fun g => Tot.ret ?_)
  · have g : x.1 = 115 := beq_iff_eq.1 g
    rw [decide_eq_true (by omega)]
    exact beq_iff_eq.2 g
  · have g : ¬ x.1 = 115 := beq_eq_false_iff_ne.1 g
    rw [Bool.eq_iff_iff, beq_iff_eq, decide_eq_true_iff]; omega
theorem nF_b {x : Fld} {b : Bool} (hg : good b x) (ho : okF x) : Tot (fun _ => if decide (x.1.toNat = 115 ∨ x.1.toNat = 120) = true then (some (x.2.1)) else (Option.bind (if (x.1 == 63) then (some ((x.1 == 63))) else (if (x.1 == 118) then (some ((x.1 == 118))) else (some ((x.1 == 112))))) fun (j120 : Bool) => (if j120 then (some (1)) else (some (wid x.1.toNat))))) (· = ((nF x : Nat) : Int)) := by
  obtain ⟨h1, h2, h3, hk⟩ := kindsF hg ho
  unfold nF
  have hw := wid_cases x.1.toNat
  refine Tot.ite (fun g => Tot.ret ?_) (fun g => ?_)
  · have g := of_decide_eq_true g
    rw [if_pos g]
    omega
  have g := of_decide_eq_false g
  rw [if_neg g]
  refine Tot.bindq (P := (· = decide (x.1.toNat = 63 ∨ x.1.toNat = 118 ∨ x.1.toNat = 112))) (Tot.ite (fun g => Tot.ret ?_) (fun g1 => Tot.ite (fun g => Tot.ret ?_) (fun g => Tot.ret ?_))) fun j hj => ?_
  · have g : x.1 = 63 := beq_iff_eq.1 g
    rw [decide_eq_true (by omega)]
    exact beq_iff_eq.2 g
  · have g : x.1 = 118 := beq_iff_eq.1 g
    rw [decide_eq_true (by omega)]
    exact beq_iff_eq.2 g
  · have g1 : ¬ x.1 = 63 := beq_eq_false_iff_ne.1 g1
    have g : ¬ x.1 = 118 := beq_eq_false_iff_ne.1 g
    rw [Bool.eq_iff_iff, beq_iff_eq, decide_eq_true_iff]; omega
  subst hj
  refine Tot.ite (fun g => Tot.ret ?_) (fun g => Tot.ret ?_)
  · rw [if_pos (of_decide_eq_true g)]; rfl
  · rw [if_neg (of_decide_eq_false g)]; omega
/-- the reference's word -/
theorem refword {b : List UInt8} {n : Nat} {big : Bool} (hb : b.length = n) (hn : n ≤ 8) :
    Tot (fun fuel => loopN (fun (s1065 : (Int × (Bool × (List Int)))) => (if (decide (s1065.1 < (n : Int))) then (Option.bind (idx b (IntKind.i64.wrap ((IntKind.i64.wrap ((n : Int) - 1)) - s1065.1))) fun x1096 => (Option.bind (if big then (Option.bind (idx b s1065.1) fun x1101 => (some (((x1101).toNat : Int)))) else (some (((x1096).toNat : Int)))) fun (j1098 : Int) => (Option.bind (ref3_Number fuel 256) fun r1115 => (Option.bind (ref3_Int_Times fuel (s1065.2.1, s1065.2.2) (r1115.1, r1115.2)) fun r1129 => (Option.bind (ref3_Number fuel (IntKind.i64.wrap (j1098))) fun r1146 => (Option.bind (ref3_Int_Plus fuel (r1129.1, r1129.2) (r1146.1, r1146.2)) fun r1159 => (some (.inl ((IntKind.i64.wrap (s1065.1 + 1)), (r1159.1, r1159.2)))))))))) else (some (.inr ((s1065.2.1, s1065.2.2)))))) fuel (0, (false, ([] : List Int)))) (fun r => Rep (r.1, r.2) ((word big b : Nat) : Int)) := by
  unfold word
  generalize hL : (if big = true then b.reverse else b) = L
  have hLl : L.length = n := by rw [← hL]; split <;> simp [hb]
  refine Tot.loop (fun st => ∃ k : Nat, k ≤ n ∧ st.1 = (k : Int) ∧ Rep (st.2.1, st.2.2) ((wLE (L.drop (n - k)) : Nat) : Int)) (fun st => n - st.1.toNat) ⟨0, by omega, rfl, ?_⟩ fun st ⟨k, hk, e, hR⟩ => ?_
  · rw [List.drop_of_length_le (by omega)]
    exact ⟨RI.Ok3.nil, rfl⟩
  obtain ⟨j, a⟩ := st
  simp only at e hR
  subst e
  refine Tot.ite (fun g => ?_) (fun g => Tot.ret ?_)
  · have g : (k : Int) < (n : Int) := of_decide_eq_true g
    have e1 : IntKind.i64.wrap ((IntKind.i64.wrap ((n : Int) - 1)) - (k : Int)) = ((n - 1 - k : Nat) : Int) := by
      rw [i64_small (x := (n : Int) - 1) (by omega) (by omega), i64_small (by omega) (by omega)]; omega
    have hq : n - 1 - k < b.length := by omega
    have hkb : k < b.length := by omega
    have hqL : n - 1 - k < L.length := by omega
    rw [e1]
    refine Tot.bind0 (idx_nat hq) ?_
    refine Tot.bindq (P := (· = ((L[n - 1 - k]).toNat : Int))) (Tot.ite (fun g2 => Tot.bind0 (idx_nat hkb) (Tot.ret ?_)) (fun g2 => Tot.ret ?_)) fun j hj => ?_
    · subst g2
      have : L = b.reverse := by rw [← hL]; rfl
      subst this
      rw [List.getElem_reverse]
      congr 2
      simp only [show b.length - 1 - (n - 1 - k) = k by omega]
    · subst g2
      have : L = b := by rw [← hL]; rfl
      subst this
      rfl
    subst hj
    have hb8 := byte_lt L[n - 1 - k]
    have hlt := wLE_lt8 (l := L.drop (n - k)) (n := k) (by rw [List.length_drop]; omega) (by omega)
    have hcons : L.drop (n - (k + 1)) = L[n - 1 - k] :: L.drop (n - k) := by
      have := drop_cons hqL
      rw [show n - (k + 1) = n - 1 - k by omega, this, show n - 1 - k + 1 = n - k by omega]
    refine Tot.bindq (rNumber (by decide) (by decide)) fun r256 h256 => ?_
    refine Tot.bindq (rTimes hR h256 (by rw [Int.natAbs_natCast]; omega) (by decide)) fun r hr => ?_
    refine Tot.bindq (rNumber (n := IntKind.i64.wrap ((L[n - 1 - k]).toNat : Int)) (by rw [R.i64_small (x := ((L[n - 1 - k]).toNat : Int)) (by omega) (by omega)]; omega) (by rw [R.i64_small (x := ((L[n - 1 - k]).toNat : Int)) (by omega) (by omega)]; omega)) fun r2 hr2 => ?_
    rw [i64_small (x := ((L[n - 1 - k]).toNat : Int)) (by omega) (by omega)] at hr2
    refine Tot.bindq (rPlus hr hr2 (by omega) (by omega)) fun r3 hr3 => Tot.ret ?_
    have e2 : IntKind.i64.wrap ((k : Int) + 1) = ((k + 1 : Nat) : Int) := by rw [i64_small (by omega) (by omega)]; omega
    rw [e2]
    refine ⟨⟨k + 1, by omega, rfl, ?_⟩, by show n - (((k + 1 : Nat) : Int)).toNat < n - ((k : Int)).toNat; omega⟩
    rw [hcons]
    show Rep (r3.1, r3.2) (((L[n - 1 - k]).toNat + 256 * wLE (L.drop (n - k)) : Nat) : Int)
    have : ((wLE (L.drop (n - k)) : Nat) : Int) * 256 + ((L[n - 1 - k]).toNat : Int) = (((L[n - 1 - k]).toNat + 256 * wLE (L.drop (n - k)) : Nat) : Int) := by omega
    rw [← this]
    exact hr3
  · have g : ¬ (k : Int) < (n : Int) := of_decide_eq_false g
    have : n - k = 0 := by omega
    rw [this, List.drop_zero] at hR
    exact hR
theorem bounds_tot {x : Fld} (h2 : x.1.toNat < 256) (h1 : x.1 = ((x.1.toNat : Nat) : Int)) {n : Nat} (hn : n = 1 ∨ n = 2 ∨ n = 4 ∨ n = 8) (hw : wid x.1.toNat = (n : Int) ∧ x.1.toNat ≠ 118) :
    Tot (fun fuel => ref4_bounds fuel x.1) (fun r => Rep (r.1.1, r.1.2) (if x.1.toNat < 97 then 0 else - 2 ^ (8 * n - 1)) ∧ Rep (r.2.1, r.2.2) (if x.1.toNat < 97 then 2 ^ (8 * n) - 1 else 2 ^ (8 * n - 1) - 1)) := by
  unfold ref4_bounds
  have hwo : Tot (fun fuel => ref4_widthOf fuel x.1) (· = (n : Int)) := by
    have := widthOf_tot h2
    rwa [← h1, hw.1] at this
  refine Tot.bindq hwo fun r hr => ?_
  subst hr
  have e8 : IntKind.i64.wrap (8 * (n : Int)) = ((8 * n : Nat) : Int) := by rw [i64_small (by omega) (by omega)]; omega
  refine Tot.bindq (P := (· = ((8 * n : Nat) : Int))) (Tot.if_ (beq_eq_false_iff_ne.2 (by omega)) (Tot.ret e8)) fun j hj => ?_
  subst hj
  have e9 : IntKind.i64.wrap (((8 * n : Nat) : Int) - 1) = ((8 * n - 1 : Nat) : Int) := by rw [i64_small (by omega) (by omega)]; omega
  have hb1 : ((((2 : Int) ^ (8 * n)).natAbs : Nat) : Int) < 1000000000000000000000000000000000000000000000000000000000000 := by rcases hn with e | e | e | e <;> subst e <;> decide +kernel
  have hb2 : ((((2 : Int) ^ (8 * n - 1)).natAbs : Nat) : Int) < 1000000000000000000000000000000000000000000000000000000000000 := by rcases hn with e | e | e | e <;> subst e <;> decide +kernel
  refine Tot.bindq (rNumber (by decide) (by decide)) fun r1 hr1 => Tot.ite (fun g => ?_) (fun g => ?_)
  · have g : x.1 < 97 := of_decide_eq_true g
    rw [if_pos (by omega), if_pos (by omega)]
    refine Tot.bindq (rMoved1 hr1 (by omega)) fun r2 hr2 => Tot.bindq (rNumber (by decide) (by decide)) fun r3 hr3 => Tot.bindq (rPlus hr2 hr3 hb1 (by decide)) fun r4 hr4 => Tot.ret ⟨⟨RI.Ok3.nil, rfl⟩, hr4⟩
  · have g : ¬ x.1 < 97 := of_decide_eq_false g
    rw [if_neg (by omega), if_neg (by omega), e9]
    refine Tot.bindq (rMoved1 hr1 (by omega)) fun r2 hr2 => Tot.bindq (rMinus hr2) fun r5 hr5 => Tot.bindq (rNumber (by decide) (by decide)) fun r3 hr3 => Tot.bindq (rPlus hr2 hr3 hb2 (by decide)) fun r4 hr4 => Tot.ret ⟨hr5, hr4⟩
end Go.Gv.P
namespace Go.Gv.P
open Go Go.Gv Go.Gv.D Go.Gv.R
set_option maxRecDepth 100000
set_option maxHeartbeats 4000000
theorem beq_f {a b : Int} (h : ¬ a = b) : (a == b) = false := beq_eq_false_iff_ne.2 h
theorem beq_t {a b : Int} (h : a = b) : (a == b) = true := beq_iff_eq.2 h
/-- what a field leaves: the values so far and the place behind it, or the fault -/
def Left {σ τ : Type} (z : (List Val × Int × Int × Int) ⊕ (σ ⊕ (τ ⊕ (List Val × (Int × Int))))) (x : Fld) (a : Int × Val × Nat) (out : List Val) (p i : Nat) : Prop :=
  (a.1 = 0 → ∃ q, z = .inl (if x.1 ≠ 120 then out ++ [a.2.1] else out, ((p + a.2.2 : Nat) : Int), q)) ∧ (a.1 ≠ 0 → z = .inr (.inr (.inr ([], (a.1, (i : Int))))))
theorem iv_word {s : Bool} {n u : Nat} (hn : n = 1 ∨ n = 2 ∨ n = 4 ∨ n = 8) (hu : u < 2 ^ (8 * n)) : ((sgn s n u).natAbs : Int) < 18446744073709551616 := by
  have := sgn_rng (s := s) hn hu
  omega
theorem Unpacked_gen {l : List Fld} {data : List UInt8} (hl : l.length ≤ 1048576) (ho : ∀ x ∈ l, okF x) (hd : data.length ≤ 1048576) :
    Tot (fun fuel => ref4_Unpacked fuel l data) (· = if (check l).1 ≠ 0 then ([], check l) else unp l 0 data []) := by
  unfold ref4_Unpacked
  refine Tot.bindq (Fault_tot hl ho) fun r hr => ?_
  subst hr
  refine Tot.ite (fun h => Tot.ret ?_) (fun h => ?_)
  · have h : (check l).1 ≠ 0 := by simpa using h
    rw [if_pos h]
  have h : (check l).1 = 0 := by simpa using h
  rw [if_neg (by omega)]
  have hgood := (check_zero h).2
  generalize hU : unp l 0 data [] = U
  refine Tot.bindq (P := fun x => x = .inr U ∨ ∃ p : Nat, ∃ out : List Val, p ≤ data.length ∧ (∃ q, x = .inl (out, (p : Int), q)) ∧ U = if data.drop p ≠ [] then ([], (3, -2)) else (out, (0, 0))) ?_ fun x hx => ?_
  · refine Tot.loop (fun st => ∃ i p : Nat, p ≤ data.length ∧ i ≤ l.length ∧ st.1.length ≤ i ∧ st.2.2.1 = (i : Int) ∧ st.2.1 = (p : Int) ∧ U = unp (l.drop i) i (data.drop p) st.1) (fun st => l.length - st.2.2.1.toNat) ⟨0, 0, by omega, by omega, Nat.le_refl 0, rfl, rfl, by rw [List.drop_zero, List.drop_zero]; exact hU.symm⟩ fun st ⟨i, p, hp, hi, hol, e1, e2, hu⟩ => ?_
    obtain ⟨out, pp, j, ⟨f1, f2⟩⟩ := st
    simp only at e1 e2 hu hol
    subst e1 e2
    refine Tot.ite (fun g => ?_) (fun g => Tot.ret ?_)
    · have g : (i : Int) < (l.length : Int) := of_decide_eq_true g
      have hil : i < l.length := by omega
      have hx := hgood _ (List.getElem_mem hil)
      have hxo := ho _ (List.getElem_mem hil)
      rw [drop_cons hil, unp_cons] at hu
      refine Tot.bind0 (idx_nat hil) ?_
      have hlen : (rdF l[i] (data.drop p)).1 = 0 → (rdF l[i] (data.drop p)).2.2 ≤ data.length - p := fun e => by have := rdF_len hx hxo e; rwa [List.length_drop] at this
      generalize l[i] = x at *
      obtain ⟨h1, h2, h3, hk⟩ := kindsF hx hxo
      have hwo : Tot (fun fuel => ref4_widthOf fuel x.1) (· = wid x.1.toNat) := by
        have := widthOf_tot h2
        rwa [← h1] at this
      refine Tot.bindq hwo fun r hr => ?_
      subst hr
      refine Tot.bindq (nF_a hx hxo) fun j hj => ?_
      subst hj
      refine Tot.bindq (nF_b hx hxo) fun j hj => ?_
      subst hj
      have hn100 := nF_le hx hxo
      have e1 : IntKind.i64.wrap ((p : Int) + ((nF x : Nat) : Int)) = ((p + nF x : Nat) : Int) := by rw [i64_small (by omega) (by omega)]; omega
      rw [e1]
      refine Tot.ite (fun g2 => ?_) (fun g2 => ?_)
      · have g2 : ((p + nF x : Nat) : Int) > (data.length : Int) := of_decide_eq_true g2
        have hs := rdF_short hx hxo (d := data.drop p) (by rw [List.length_drop]; omega)
        unfold ref4_At
        refine Tot.some_bind (Tot.ret (.inl ?_))
        rw [hs, if_pos (by show ¬ (15 : Int) = 0; decide)] at hu
        rw [hu]
      have g2 : ¬ ((p + nF x : Nat) : Int) > (data.length : Int) := of_decide_eq_false g2
      have hsub : sub data (p : Int) ((p + nF x : Nat) : Int) = some ((data.drop p).take (nF x)) := by
        rw [sub_ok (by omega) (by omega) (by omega), Int.toNat_natCast, Int.toNat_natCast, List.drop_take, show p + nF x - p = nF x by omega]
      refine Tot.bind0 hsub ?_
      have hpl : ((data.drop p).take (nF x)).length = nF x := by rw [List.length_take, List.length_drop]; omega
      have hdl : (data.drop p).length = data.length - p := List.length_drop
      refine Tot.bindq (P := fun z => Left z x (rdF x (data.drop p)) out p i) ?_ fun z hz => ?_
      · have h115 : x.1 = 115 ↔ x.1.toNat = 115 := by omega
        have h120 : x.1 = 120 ↔ x.1.toNat = 120 := by omega
        have h63 : x.1 = 63 ↔ x.1.toNat = 63 := by omega
        have h112 : x.1 = 112 ↔ x.1.toNat = 112 := by omega
        have h118 : x.1 = 118 ↔ x.1.toNat = 118 := by omega
        rcases hk with ⟨k1, k2, k3, k4, k5, k6, k7⟩ | ⟨k1, (⟨e, ek⟩ | ⟨e, ek⟩ | ⟨e, ek⟩ | ⟨e, ek0, ek1⟩)⟩
        · have hw := wid_cases x.1.toNat
          have hnF : nF x = (wid x.1.toNat).toNat := by unfold nF; rw [if_neg (by omega), if_neg (by omega)]
          have hn : nF x = 1 ∨ nF x = 2 ∨ nF x = 4 ∨ nF x = 8 := by omega
          have hwn : wid x.1.toNat = ((nF x : Nat) : Int) := by omega
          have hR : rdF x (data.drop p) = (0, valOf (sgn (decide (97 ≤ x.1.toNat)) (nF x) (word x.2.2 ((data.drop p).take (nF x)))), nF x) := by
            rw [rdF_wid k1, ← hnF, if_neg (by omega)]
          rw [hR]
          have hu : word x.2.2 ((data.drop p).take (nF x)) < 2 ^ (8 * nF x) := by
            unfold word
            refine (wLE_lt8 (n := nF x) ?_ (by omega)).1
            split
            · rw [List.length_reverse]; omega
            · omega
          refine Tot.if_ (beq_f (by omega)) (Tot.if_ (beq_f (by omega)) (Tot.if_ (beq_f (by omega)) (Tot.if_ (beq_f (by omega)) (Tot.if_ (beq_f (by omega)) ?_))))
          refine Tot.bindq (refword (big := x.2.2) hpl (by omega)) fun r hr => ?_
          generalize word x.2.2 ((data.drop p).take (nF x)) = u at *
          refine Tot.bindq (bounds_tot h2 h1 hn ⟨hwn, k2⟩) fun rb ⟨hb1, hb2⟩ => ?_
          refine Tot.bindq (rOrder hr hb2) fun ro ⟨ho1, ho2⟩ => ?_
          have hup : (u : Int) < 2 ^ (8 * nF x) := by
            have : ((u : Nat) : Int) < ((2 ^ (8 * nF x) : Nat) : Int) := by exact_mod_cast hu
            rwa [Int.natCast_pow] at this
          have hb60 : ((((2 : Int) ^ (8 * nF x)).natAbs : Nat) : Int) < 1000000000000000000000000000000000000000000000000000000000000 := by rcases hn with e | e | e | e <;> rw [e] <;> decide +kernel
          have hu60 : (((u : Nat) : Int).natAbs : Int) < 1000000000000000000000000000000000000000000000000000000000000 := by
            have := (wLE_lt8 (l := []) (n := nF x) (by simp) (by omega)).2
            rw [Int.natAbs_natCast]
            omega
          have hgt : ro > 0 ↔ (97 ≤ x.1.toNat ∧ 2 ^ (8 * nF x - 1) ≤ u) := by
            have hp1 : (((2 ^ (8 * nF x - 1) : Nat)) : Int) = (2 : Int) ^ (8 * nF x - 1) := Int.natCast_pow 2 _
            split at ho1 <;> split at ho2 <;> constructor
            all_goals intro hh
            all_goals omega
          have e8 : IntKind.i64.wrap (8 * ((nF x : Nat) : Int)) = ((8 * nF x : Nat) : Int) := by rw [i64_small (by omega) (by omega)]; omega
          refine Tot.bindq (P := fun j => Rep (j.1, j.2) (sgn (decide (97 ≤ x.1.toNat)) (nF x) u)) (Tot.ite (fun g3 => ?_) (fun g3 => Tot.ret ?_)) fun j hj => ?_
          · have g3 : ro > 0 := of_decide_eq_true g3
            refine Tot.bindq (rNumber (by decide) (by decide)) fun r1 hr1 => ?_
            rw [e8]
            refine Tot.bindq (rMoved1 hr1 (by omega)) fun r2 hr2 => Tot.bindq (rMinus hr2) fun r3 hr3 => Tot.bindq (rPlus hr hr3 hu60 (by rw [Int.natAbs_neg]; exact hb60)) fun r4 hr4 => Tot.ret ?_
            unfold sgn
            rw [if_pos ⟨decide_eq_true (hgt.1 g3).1, (hgt.1 g3).2⟩]
            exact hr4
          · have g3 : ¬ ro > 0 := of_decide_eq_false g3
            unfold sgn
            rw [if_neg (fun e => g3 (hgt.2 ⟨of_decide_eq_true e.1, e.2⟩))]
            exact hr
          refine Tot.bindq (rIntegerOf hj (iv_word hn hu)) fun r hr => ?_
          subst hr
          refine Tot.bind0 (app_ok (by simp; omega)) (Tot.ret ⟨fun _ => ⟨(f1, f2), ?_⟩, fun e => absurd rfl e⟩)
          rw [if_pos (by omega)]
        · have hnF : nF x = 1 := by unfold nF; rw [if_neg (by omega), if_pos (by omega)]
          have e438 : IntKind.i64.wrap (((p + nF x : Nat) : Int) - 1) = (p : Int) := by rw [i64_small (by omega) (by omega)]; omega
          rw [e438]
          have hRc : (rdF x (data.drop p)).1 = (vrd 0 (data.drop p)).1 := by rw [rdF_118 k1 e]; split <;> first | rfl | (rename_i h; exact h.symm)
          have hR0 : (vrd 0 (data.drop p)).1 = 0 → rdF x (data.drop p) = (0, valOf (unzig (vrd 0 (data.drop p)).2.1), (vrd 0 (data.drop p)).2.2) := fun h => by rw [rdF_118 k1 e, if_pos h]
          have hu64 : (vrd 0 (data.drop p)).1 = 0 → (vrd 0 (data.drop p)).2.1 < 18446744073709551616 := fun h => (vrd_vint _ 0 (by decide) h).2.1
          refine Tot.if_ (beq_f (by omega)) (Tot.if_ (beq_f (by omega)) (Tot.if_ (beq_f (by omega)) (Tot.if_ (beq_f (by omega)) (Tot.it (beq_t (by omega)) ?_))))
          refine Tot.bindq (rNumber (by decide) (by decide)) fun r1 hr1 => Tot.some_bind ?_
          generalize hD : vrd 0 (data.drop p) = D at *
          refine Tot.bindq (P := fun z => (D.1 = 0 → ∃ q m, z = .inl (((p + D.2.2 : Nat) : Int), q, m) ∧ Rep (m.1, m.2) ((D.2.1 : Nat) : Int)) ∧ (D.1 ≠ 0 → z = .inr (.inr (.inr (.inr ([], (D.1, (i : Int)))))))) ?_ fun z hz => ?_
          · refine Tot.loop (fun st => ∃ k a : Nat, k ≤ 9 ∧ p + k ≤ data.length ∧ a < 2 ^ (7 * k) ∧ st.1 = ((p + k : Nat) : Int) ∧ st.2.1 = (k : Int) ∧ Rep (st.2.2.2.1.1, st.2.2.2.1.2) (a : Int) ∧ Rep (st.2.2.2.2.1, st.2.2.2.2.2) ((2 ^ (7 * k) : Nat) : Int) ∧ D.1 = (vrd k (data.drop (p + k))).1 ∧ (D.1 = 0 → D.2.1 = a + 2 ^ (7 * k) * (vrd k (data.drop (p + k))).2.1 ∧ D.2.2 = k + (vrd k (data.drop (p + k))).2.2)) (fun st => 10 - st.2.1.toNat)
              ⟨0, 0, by omega, by omega, by decide, rfl, rfl, ⟨RI.Ok3.nil, rfl⟩, hr1, by rw [← hD]; rfl, fun _ => by rw [← hD]; constructor <;> simp⟩ fun st ⟨k, a, hk, hpk, ha, e0, e1, hm, hs, hc, hv⟩ => ?_
            obtain ⟨ap, ik, ⟨q1, q2⟩, ⟨m1, m2⟩, ⟨s1, s2⟩⟩ := st
            simp only at e0 e1 hm hs
            subst e0 e1
            refine Tot.ite (fun g3 => ?_) (fun g3 => ?_)
            · have g3 : ((p + k : Nat) : Int) ≥ (data.length : Int) := of_decide_eq_true g3
              have hnil : data.drop (p + k) = [] := List.drop_of_length_le (by omega)
              rw [hnil] at hc
              have hc : D.1 = 15 := hc
              unfold ref4_At
              refine Tot.some_bind (Tot.ret ⟨fun h => by omega, fun _ => ?_⟩)
              rw [hc]
            · have g3 : ¬ ((p + k : Nat) : Int) ≥ (data.length : Int) := of_decide_eq_false g3
              have hlt : p + k < data.length := by omega
              refine Tot.bind0 (idx_nat hlt) ?_
              rw [drop_cons hlt] at hc hv
              generalize data[p + k] = c at *
              have hb := byte_lt c
              rw [vrd_cons] at hc hv
              have ec : IntKind.i64.wrap ((c.toNat : Nat) : Int) = ((c.toNat : Nat) : Int) := i64_small (by omega) (by omega)
              rw [ec]
              refine Tot.some_bind ?_
              have hcond : (if (decide (((k : Nat) : Int) > 0)) = true then ((((c.toNat : Nat) : Int) == 0) || ((((k : Nat) : Int) == 9) && (decide (((c.toNat : Nat) : Int) > 1)))) else ((((k : Nat) : Int) == 9) && (decide (((c.toNat : Nat) : Int) > 1)))) = decide ((k = 9 ∧ 1 < c.toNat) ∨ (0 < k ∧ c.toNat = 0)) := by
                by_cases hk0 : 0 < k
                · rw [if_pos (decide_eq_true (by omega)), Bool.eq_iff_iff, Bool.or_eq_true, Bool.and_eq_true, beq_iff_eq, beq_iff_eq, decide_eq_true_iff, decide_eq_true_iff]; omega
                · rw [if_neg (by rw [decide_eq_true_iff]; omega), Bool.eq_iff_iff, Bool.and_eq_true, beq_iff_eq, decide_eq_true_iff, decide_eq_true_iff]; omega
              refine Tot.ite (fun g4 => ?_) (fun g4 => ?_)
              · have g4 := of_decide_eq_true (hcond.symm.trans g4)
                rw [if_pos g4] at hc
                have hc : D.1 = 16 := hc
                unfold ref4_At
                refine Tot.some_bind (Tot.ret ⟨fun h => by omega, fun _ => ?_⟩)
                rw [hc]
              · have g4 := of_decide_eq_false (hcond.symm.trans g4)
                rw [if_neg g4] at hc hv
                have hmod : (((c.toNat : Nat) : Int)).tmod 128 = ((c.toNat % 128 : Nat) : Int) := by rw [Int.tmod_eq_emod_of_nonneg (by omega)]; omega
                have hpk2 : 2 ^ (7 * k) ≤ 2 ^ 63 := Nat.pow_le_pow_right (by decide) (by omega)
                have hprod : 2 ^ (7 * k) * (c.toNat % 128) ≤ 2 ^ 63 * 128 := Nat.mul_le_mul hpk2 (by omega)
                rw [hmod]
                refine Tot.bindq (rNumber (by omega) (by omega)) fun r2 hr2 => ?_
                refine Tot.bindq (rTimes hs hr2 (by rw [Int.natAbs_natCast]; omega) (by rw [Int.natAbs_natCast]; omega)) fun r3 hr3 => ?_
                rw [← Int.natCast_mul] at hr3
                refine Tot.bindq (rPlus hm hr3 (by rw [Int.natAbs_natCast]; omega) (by rw [Int.natAbs_natCast]; omega)) fun r4 hr4 => ?_
                rw [← Int.natCast_add] at hr4
                refine Tot.bindq (rNumber (by decide) (by decide)) fun r5 hr5 => ?_
                refine Tot.bindq (rTimes hs hr5 (by rw [Int.natAbs_natCast]; omega) (by decide)) fun r6 hr6 => ?_
                have e2 : IntKind.i64.wrap (((p + k : Nat) : Int) + 1) = ((p + k + 1 : Nat) : Int) := by rw [i64_small (by omega) (by omega)]; omega
                have e3 : IntKind.i64.wrap ((k : Int) + 1) = ((k + 1 : Nat) : Int) := by rw [i64_small (by omega) (by omega)]; omega
                rw [e2]
                refine Tot.ite (fun g5 => Tot.ret ?_) (fun g5 => Tot.ret ?_)
                · have g5 : ((c.toNat : Nat) : Int) < 128 := of_decide_eq_true g5
                  rw [if_pos (by omega)] at hc hv
                  obtain ⟨w1, w2⟩ := hv hc
                  refine ⟨fun _ => ⟨(q1, q2), (r4.1, r4.2), ?_, ?_⟩, fun h => absurd hc h⟩
                  · rw [w2]; rfl
                  · rw [w1]
                    show Rep (r4.1, r4.2) ((a + 2 ^ (7 * k) * c.toNat : Nat) : Int)
                    rw [Nat.mod_eq_of_lt (by omega)] at hr4
                    exact hr4
                · have g5 : ¬ ((c.toNat : Nat) : Int) < 128 := of_decide_eq_false g5
                  rw [if_neg (by omega)] at hc hv
                  have hk9 : k ≠ 9 := fun e => g4 (.inl ⟨e, by omega⟩)
                  rw [e3]
                  refine ⟨⟨k + 1, a + 2 ^ (7 * k) * (c.toNat % 128), by omega, by omega, ?_, rfl, rfl, hr4, ?_, ?_, fun h0 => ?_⟩, by show 10 - (((k + 1 : Nat) : Int)).toNat < 10 - ((k : Int)).toNat; omega⟩
                  · rw [show 7 * (k + 1) = 7 * k + 7 by omega, Nat.pow_add]
                    have : 2 ^ (7 * k) * (c.toNat % 128 + 1) ≤ 2 ^ (7 * k) * 2 ^ 7 := Nat.mul_le_mul_left _ (by omega)
                    rw [Nat.mul_add, Nat.mul_one] at this
                    omega
                  · rw [show 7 * (k + 1) = 7 * k + 7 by omega, Nat.pow_add, Int.natCast_mul]
                    exact hr6
                  · show D.1 = (vrd (k + 1) (List.drop (p + k + 1) data)).1
                    by_cases h3 : (vrd (k + 1) (List.drop (p + k + 1) data)).1 = 0
                    · rw [if_pos h3] at hc; rw [hc, h3]
                    · rw [if_neg h3] at hc; rw [hc]
                  · obtain ⟨w1, w2⟩ := hv h0
                    by_cases h3 : (vrd (k + 1) (List.drop (p + k + 1) data)).1 = 0
                    · rw [if_pos h3] at w1 w2
                      refine ⟨?_, ?_⟩
                      · rw [w1]
                        show a + 2 ^ (7 * k) * (c.toNat % 128 + 128 * (vrd (k + 1) (List.drop (p + k + 1) data)).2.1) = _
                        rw [show 7 * (k + 1) = 7 * k + 7 by omega, Nat.pow_add, Nat.mul_add, Nat.mul_assoc]
                        show _ = _ + 2 ^ (7 * k) * (128 * (vrd (k + 1) (List.drop (p + k + 1) data)).2.1)
                        omega
                      · rw [w2]
                        show k + ((vrd (k + 1) (List.drop (p + k + 1) data)).2.2 + 1) = k + 1 + (vrd (k + 1) (List.drop (p + (k + 1)) data)).2.2
                        rw [show p + (k + 1) = p + k + 1 by omega]
                        omega
                    · rw [if_neg h3] at hc
                      rw [hc] at h0
                      exact absurd h0 h3
          · by_cases hD0 : D.1 = 0
            · obtain ⟨q, m, hz, hm⟩ := hz.1 hD0
              subst hz
              have hu64 := hu64 hD0
              rw [hR0 hD0]
              refine Tot.contl ?_
              have hw : RI.w m.2 = ((D.2.1 : Nat) : Int) := by have := hm.abs; rwa [Int.natAbs_natCast] at this
              refine Tot.bindq (RI.Halve_tot hm.1 (hm.len (by rw [Int.natAbs_natCast]; omega))) fun rh ⟨t1, t2, t3⟩ => ?_
              have hh : Rep (false, rh.1) (((D.2.1 / 2 : Nat)) : Int) := ⟨t1, by show RI.w rh.1 = _; rw [t2]; show RI.w m.2 / 2 = _; omega⟩
              have h3 : rh.2 = ((D.2.1 % 2 : Nat) : Int) := by rw [t3]; show RI.w m.2 % 2 = _; omega
              refine Tot.bindq (P := fun j => Rep (j.1, j.2) (unzig D.2.1)) (Tot.ite (fun g3 => ?_) (fun g3 => Tot.ret ?_)) fun j hj => ?_
              · have g3 : rh.2 = 1 := beq_iff_eq.1 g3
                refine Tot.bindq (rNumber (by decide) (by decide)) fun r2 hr2 => Tot.bindq (rPlus hh hr2 (by rw [Int.natAbs_natCast]; omega) (by decide)) fun r3 hr3 => Tot.bindq (rMinus hr3) fun r4 hr4 => Tot.ret ?_
                have : unzig D.2.1 = -(((D.2.1 / 2 : Nat) : Int) + 1) := by unfold unzig; rw [if_pos (by omega)]; omega
                rw [this]
                exact hr4
              · have g3 : ¬ rh.2 = 1 := beq_eq_false_iff_ne.1 g3
                have : unzig D.2.1 = ((D.2.1 / 2 : Nat) : Int) := by unfold unzig; rw [if_neg (by omega)]
                rw [this]
                exact hh
              have hzr := unzig_rng hu64
              refine Tot.bindq (rIntegerOf hj (by omega)) fun r hr => ?_
              subst hr
              refine Tot.bind0 (app_ok (by simp; omega)) (Tot.ret ⟨fun _ => ⟨(q.1, q.2), ?_⟩, fun e => absurd rfl e⟩)
              rw [if_pos (by omega)]
            · rw [hz.2 hD0]
              refine Tot.contr ⟨fun h => absurd (hRc.symm.trans h) hD0, fun _ => by rw [hRc]⟩
        · have hnF : nF x = 1 := by unfold nF; rw [if_neg (by omega), if_pos (by omega)]
          rw [rdF_112 k1 e]
          have hlt : p < data.length := by omega
          rw [hnF, drop_cons hlt]
          have ht : List.take 1 (data[p] :: List.drop (p + 1) data) = [data[p]] := rfl
          rw [ht]
          generalize data[p] = c at *
          have hb := byte_lt c
          refine Tot.if_ (beq_f (by omega)) (Tot.if_ (beq_f (by omega)) (Tot.if_ (beq_f (by omega)) (Tot.it (beq_t (by omega)) ?_)))
          have ec : IntKind.i64.wrap ((c.toNat : Nat) : Int) = ((c.toNat : Nat) : Int) := i64_small (by omega) (by omega)
          have e2 : IntKind.i64.wrap (((p + 1 : Nat) : Int) + ((c.toNat : Nat) : Int)) = ((p + 1 + c.toNat : Nat) : Int) := by rw [i64_small (by omega) (by omega)]; omega
          refine Tot.bind0 (a := c) rfl ?_
          rw [ec]
          refine Tot.some_bind ?_
          rw [e2]
          have hdl2 : (data.drop (p + 1)).length = data.length - (p + 1) := List.length_drop
          refine Tot.ite (fun g3 => ?_) (fun g3 => ?_)
          · have g3 : ((p + 1 + c.toNat : Nat) : Int) > (data.length : Int) := of_decide_eq_true g3
            unfold ref4_At
            simp only
            rw [if_pos (show (data.drop (p + 1)).length < c.toNat by omega)]
            refine Tot.some_bind (Tot.ret ⟨fun h => absurd h (by show ¬ (15 : Int) = 0; decide), fun _ => rfl⟩)
          · have g3 : ¬ ((p + 1 + c.toNat : Nat) : Int) > (data.length : Int) := of_decide_eq_false g3
            simp only
            rw [if_neg (show ¬ (data.drop (p + 1)).length < c.toNat by omega)]
            have hsub2 : sub data ((p + 1 : Nat) : Int) ((p + 1 + c.toNat : Nat) : Int) = some ((data.drop (p + 1)).take c.toNat) := by
              rw [sub_ok (by omega) (by omega) (by omega), Int.toNat_natCast, Int.toNat_natCast, List.drop_take, show p + 1 + c.toNat - (p + 1) = c.toNat by omega]
            refine Tot.bind0 hsub2 (Tot.bind0 (app_ok (by simp; omega)) (Tot.some_bind (Tot.ret ⟨fun _ => ⟨(f1, f2), ?_⟩, fun h => absurd rfl h⟩)))
            rw [if_pos (by omega), show p + (c.toNat + 1) = p + 1 + c.toNat by omega]
        · have hnF : nF x = 1 := by unfold nF; rw [if_neg (by omega), if_pos (by omega)]
          rw [rdF_63 k1 e]
          have hlt : p < data.length := by omega
          rw [hnF, drop_cons hlt]
          have ht : List.take 1 (data[p] :: List.drop (p + 1) data) = [data[p]] := rfl
          rw [ht]
          generalize data[p] = c at *
          have hb := byte_lt c
          refine Tot.if_ (beq_f (by omega)) (Tot.if_ (beq_f (by omega)) (Tot.it (beq_t (by omega)) ?_))
          have ec : IntKind.i64.wrap ((c.toNat : Nat) : Int) = ((c.toNat : Nat) : Int) := i64_small (by omega) (by omega)
          refine Tot.bind0 (a := c) rfl (Tot.ite (fun g3 => ?_) (fun g3 => ?_))
          · have g3 : ((c.toNat : Nat) : Int) > 1 := of_decide_eq_true g3
            unfold ref4_At
            simp only
            rw [if_pos (show 1 < c.toNat by omega)]
            refine Tot.some_bind (Tot.ret ⟨fun h => absurd h (by show ¬ (16 : Int) = 0; decide), fun _ => rfl⟩)
          · have g3 : ¬ ((c.toNat : Nat) : Int) > 1 := of_decide_eq_false g3
            simp only
            rw [if_neg (show ¬ 1 < c.toNat by omega)]
            refine Tot.bind0 (a := c) rfl ?_
            rw [ec]
            refine Tot.bind0 (app_ok (by simp; omega)) (Tot.ret ⟨fun _ => ⟨(f1, f2), ?_⟩, fun h => absurd rfl h⟩)
            rw [if_pos (by omega)]
        · have hnF : nF x = x.2.1.toNat := by unfold nF; rw [if_pos e]
          rw [rdF_sx k1 e, if_neg (show ¬ (data.drop p).length < x.2.1.toNat by omega), ← hnF]
          have hpl100 : ((data.drop p).take (nF x)).length = nF x := hpl
          generalize (data.drop p).take (nF x) = part at *
          rcases e with e | e
          · rw [if_neg (fun h => by omega)]
            refine Tot.it (beq_t (by omega)) (Tot.bind0 (app_ok (by simp; omega)) (Tot.ret ⟨fun _ => ⟨(f1, f2), ?_⟩, fun h => absurd rfl h⟩))
            rw [if_pos (by omega)]
          · refine Tot.if_ (beq_f (by omega)) (Tot.it (beq_t (by omega)) ?_)
            refine Tot.bindq (P := fun z => ((∃ b ∈ part, b.toNat ≠ 0) ∧ z = .inr (.inr (.inr (.inr ([], ((16 : Int), (i : Int))))))) ∨ ((¬ ∃ b ∈ part, b.toNat ≠ 0) ∧ ∃ q, z = .inl q)) ?_ fun z hz => ?_
            · refine Tot.loop (fun st => ∃ k : Nat, k ≤ nF x ∧ st.1 = (k : Int) ∧ ∀ j (h : j < part.length), j < k → (part[j]).toNat = 0) (fun st => nF x - st.1.toNat) ⟨0, by omega, rfl, fun j _ h => by omega⟩ fun st ⟨k, hk, e0, hz⟩ => ?_
              obtain ⟨kk, q1, q2⟩ := st
              simp only at e0
              subst e0
              refine Tot.ite (fun g3 => ?_) (fun g3 => Tot.ret ?_)
              · have g3 : (k : Int) < ((nF x : Nat) : Int) := of_decide_eq_true g3
                have hkl : k < part.length := by omega
                refine Tot.bind0 (idx_nat hkl) (Tot.ite (fun g4 => ?_) (fun g4 => Tot.ret ?_))
                · have g4 : ((part[k]).toNat : Int) ≠ 0 := by simpa using g4
                  unfold ref4_At
                  exact Tot.some_bind (Tot.ret (.inl ⟨⟨part[k], List.getElem_mem hkl, by omega⟩, rfl⟩))
                · have g4 : ((part[k]).toNat : Int) = 0 := by simpa using g4
                  have e2 : IntKind.i64.wrap ((k : Int) + 1) = ((k + 1 : Nat) : Int) := by rw [i64_small (by omega) (by omega)]; omega
                  rw [e2]
                  refine ⟨⟨k + 1, by omega, rfl, fun j hj hjk => ?_⟩, by show nF x - (((k + 1 : Nat) : Int)).toNat < nF x - ((k : Int)).toNat; omega⟩
                  rcases Nat.lt_or_ge j k with h | h
                  · exact hz j hj h
                  · have : j = k := by omega
                    subst this
                    omega
              · have g3 : ¬ (k : Int) < ((nF x : Nat) : Int) := of_decide_eq_false g3
                refine .inr ⟨fun ⟨b, hb, h0⟩ => ?_, _, rfl⟩
                obtain ⟨j, hj, rfl⟩ := List.getElem_of_mem hb
                exact h0 (hz j hj (by omega))
            · rcases hz with ⟨h1', hz⟩ | ⟨h1', q, hz⟩
              · subst hz
                rw [if_pos ⟨e, h1'⟩]
                exact Tot.contr ⟨fun h => absurd h (by show ¬ (16 : Int) = 0; decide), fun _ => rfl⟩
              · subst hz
                rw [if_neg (fun h => h1' h.2)]
                refine Tot.contl (Tot.ret ⟨fun _ => ⟨(q.1, q.2), ?_⟩, fun h => absurd rfl h⟩)
                rw [if_neg (by omega)]
      · have hrn := hz
        by_cases ha : (rdF x (data.drop p)).1 = 0
        · obtain ⟨q, hz⟩ := hz.1 ha
          subst hz
          have hlen := hlen ha
          rw [if_neg (by omega)] at hu
          have e2 : IntKind.i64.wrap ((i : Int) + 1) = ((i + 1 : Nat) : Int) := by rw [i64_small (by omega) (by omega)]; omega
          refine Tot.contl (Tot.ret ?_)
          rw [e2]
          refine ⟨⟨i + 1, p + (rdF x (data.drop p)).2.2, by omega, by omega, ?_, rfl, rfl, ?_⟩, by show l.length - (((i + 1 : Nat) : Int)).toNat < l.length - ((i : Int)).toNat; omega⟩
          · show (if x.1 ≠ 120 then out ++ [(rdF x (data.drop p)).2.1] else out).length ≤ i + 1
            split
            · simp; omega
            · omega
          · rw [hu, List.drop_drop]
        · rw [hz.2 ha]
          rw [if_pos ha] at hu
          exact Tot.contr (.inl (by rw [hu]))
    · have g : ¬ (i : Int) < (l.length : Int) := of_decide_eq_false g
      rw [List.drop_of_length_le (by omega), unp_nil] at hu
      exact .inr ⟨p, out, hp, ⟨_, rfl⟩, hu⟩
  · rcases hx with hx | ⟨p, out, hp, ⟨q, hx⟩, hu⟩
    · subst hx; exact Tot.contr rfl
    · subst hx
      refine Tot.contl (Tot.ite (fun g => ?_) (fun g => Tot.ret ?_))
      · have g : (p : Int) < (data.length : Int) := of_decide_eq_true g
        unfold ref4_At
        refine Tot.some_bind (Tot.ret ?_)
        rw [hu, if_pos (by intro e; have := congrArg List.length e; rw [List.length_drop] at this; simp at this; omega)]
      · have g : ¬ (p : Int) < (data.length : Int) := of_decide_eq_false g
        rw [hu, List.drop_of_length_le (by omega), if_neg (by simp)]
end Go.Gv.P

