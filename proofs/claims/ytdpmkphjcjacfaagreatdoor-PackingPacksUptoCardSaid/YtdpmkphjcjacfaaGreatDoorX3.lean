import Derived.Test.YtdpmkphjcjacfaaGreatDoorX1
set_option linter.all false
namespace Go.Gv.P
open Go Go.Gv Go.Gv.D Go.Gv.R
set_option maxRecDepth 100000
/-! packing by parts: pure lists -/
def parts : List Fld → List Val → Option (List (List UInt8))
  | [], _ => some []
  | x :: t, vs => if x.1 = 120 then (parts t vs).map (List.replicate x.2.1.toNat 0 :: ·) else match vs with
    | [] => none
    | v :: vs => if vldV v = true ∧ (pkF x v).2 = 0 then (parts t vs).map ((pkF x v).1 :: ·) else none
theorem parts_cons (x : Fld) (t : List Fld) (vs : List Val) : parts (x :: t) vs = if x.1 = 120 then (parts t vs).map (List.replicate x.2.1.toNat 0 :: ·) else match vs with
    | [] => none
    | v :: vs => if vldV v = true ∧ (pkF x v).2 = 0 then (parts t vs).map ((pkF x v).1 :: ·) else none := by cases vs <;> rw [parts]
theorem pks_ok : ∀ (l : List Fld) (vs : List Val) (j : Nat) (out : List UInt8), vs.length = nv l → (pks l vs j out).2.1 = 0 → ∃ ps, parts l vs = some ps ∧ pks l vs j out = (out ++ ps.flatten, (0, 0))
  | [], vs, j, out, _, _ => ⟨[], rfl, by simp [pks]⟩
  | x :: t, vs, j, out, hn, h => by
    have hnv : nv (x :: t) = (if x.1 ≠ 120 then 1 else 0) + nv t := rfl
    rw [hnv] at hn
    rw [pks_cons] at h ⊢
    rw [parts_cons]
    by_cases d : x.1 = 120
    · rw [if_pos d] at h ⊢
      rw [if_neg (fun h => h d), Nat.zero_add] at hn
      rw [if_pos d]
      obtain ⟨ps, e1, e2⟩ := pks_ok t vs j _ hn h
      exact ⟨_, by rw [e1]; rfl, by rw [e2]; simp⟩
    · rw [if_neg d] at h ⊢
      rw [if_pos d] at hn
      rw [if_neg d]
      match vs, hn, h with
      | [], hn, _ => rw [List.length_nil] at hn; omega
      | v :: vs, hn, h =>
        simp only [List.length_cons] at hn h ⊢
        by_cases q : vldV v = false
        · rw [if_pos q] at h; cases h
        rw [if_neg q] at h ⊢
        by_cases z : (pkF x v).2 ≠ 0
        · rw [if_pos z] at h; exact absurd h z
        rw [if_neg z] at h ⊢
        obtain ⟨ps, e1, e2⟩ := pks_ok t vs (j + 1) _ (by omega) h
        refine ⟨_, by rw [if_pos ⟨by simpa using q, Classical.not_not.1 z⟩, e1]; rfl, by rw [e2]; simp⟩
theorem parts_len : ∀ {l : List Fld} {vs : List Val} {ps : List (List UInt8)}, parts l vs = some ps → ps.length = l.length
  | [], vs, ps, h => by
    have : ps = [] := by simpa [parts] using h.symm
    subst this; rfl
  | x :: t, vs, ps, h => by
    rw [parts_cons] at h
    by_cases d : x.1 = 120
    · rw [if_pos d] at h
      obtain ⟨qs, e1, rfl⟩ := Option.map_eq_some_iff.1 h
      simp [parts_len e1]
    · rw [if_neg d] at h
      match vs, h with
      | v :: vs, h =>
        simp only at h
        by_cases z : vldV v = true ∧ (pkF x v).2 = 0
        · rw [if_pos z] at h
          obtain ⟨qs, e1, rfl⟩ := Option.map_eq_some_iff.1 h
          simp [parts_len e1]
        · rw [if_neg z] at h; cases h
theorem wid_not {c : Nat} (h : 0 < wid c) : c ≠ 115 ∧ c ≠ 112 ∧ c ≠ 63 ∧ c ≠ 118 ∧ c ≠ 120 := by
  unfold wid at h
  refine ⟨?_, ?_, ?_, ?_, ?_⟩ <;> (intro e; subst e; revert h; decide)
theorem packS_ok {l : List Fld} {vs : List Val} (h : (packS l vs).2.1 = 0) : check l = (0, 0) ∧ (∀ x ∈ l, good (fbig l) x) ∧ vs.length = nv l ∧ ∃ ps, parts l vs = some ps ∧ packS l vs = (ps.flatten, (0, 0)) := by
  unfold packS at h ⊢
  split at h
  · rename_i g; exact absurd h g
  rename_i g
  have g : (check l).1 = 0 := Classical.not_not.1 g
  obtain ⟨c1, c2⟩ := check_zero g
  split at h
  · cases h
  rename_i g2
  have g2 : vs.length = nv l := Classical.not_not.1 g2
  obtain ⟨ps, e1, e2⟩ := pks_ok l vs 0 [] g2 h
  refine ⟨c1, c2, g2, ps, e1, ?_⟩
  rw [if_neg (fun h => h g), if_neg (fun h => h g2), e2]
  simp
theorem pks_err : ∀ (l : List Fld) (vs : List Val) (j : Nat) (out : List UInt8), (pks l vs j out).2.1 ≠ 0 → (pks l vs j out).1 = []
  | [], vs, j, out, h => absurd rfl h
  | x :: t, vs, j, out, h => by
    rw [pks_cons] at h ⊢
    by_cases d : x.1 = 120
    · rw [if_pos d] at h ⊢; exact pks_err t vs j _ h
    · rw [if_neg d] at h ⊢
      match vs, h with
      | [], h => exact absurd rfl h
      | v :: vs, h =>
        simp only at h ⊢
        by_cases q : vldV v = false
        · rw [if_pos q]
        rw [if_neg q] at h ⊢
        by_cases z : (pkF x v).2 ≠ 0
        · rw [if_pos z]
        rw [if_neg z] at h ⊢
        exact pks_err t vs (j + 1) _ h
theorem packS_err {l : List Fld} {vs : List Val} (h : (packS l vs).2.1 ≠ 0) : (packS l vs).1 = [] := by
  unfold packS at h ⊢
  split
  · rfl
  rename_i g
  rw [if_neg g] at h
  split
  · rfl
  rename_i g2
  rw [if_neg g2] at h
  exact pks_err _ _ _ _ h
theorem part_len {b : Bool} : ∀ {l : List Fld} {vs : List Val} {ps : List (List UInt8)}, (∀ x ∈ l, good b x) → (∀ x ∈ l, okF x) → parts l vs = some ps → ∀ p ∈ ps, p.length ≤ 256
  | [], vs, ps, _, _, h, p, hp => by
    have : ps = [] := by simpa [parts] using h.symm
    subst this; cases hp
  | x :: t, vs, ps, hg, ho, h, p, hp => by
    rw [parts_cons] at h
    have hg' := fun y hy => hg y (List.mem_cons_of_mem x hy)
    have ho' := fun y hy => ho y (List.mem_cons_of_mem x hy)
    by_cases d : x.1 = 120
    · rw [if_pos d] at h
      obtain ⟨qs, e1, rfl⟩ := Option.map_eq_some_iff.1 h
      rcases List.mem_cons.1 hp with e | e
      · have := cnt_rng (hg x (List.mem_cons_self ..)) (ho x (List.mem_cons_self ..)) d
        subst e; rw [List.length_replicate]; omega
      · exact part_len hg' ho' e1 p e
    · rw [if_neg d] at h
      match vs, h with
      | v :: vs, h =>
        simp only at h
        by_cases z : vldV v = true ∧ (pkF x v).2 = 0
        · rw [if_pos z] at h
          obtain ⟨qs, e1, rfl⟩ := Option.map_eq_some_iff.1 h
          rcases List.mem_cons.1 hp with e | e
          · subst e; exact pkF_len (hg x (List.mem_cons_self ..)) (ho x (List.mem_cons_self ..)) v
          · exact part_len hg' ho' e1 p e
        · rw [if_neg z] at h; cases h
theorem flat_len {k : Nat} : ∀ {ps : List (List UInt8)}, (∀ p ∈ ps, p.length ≤ k) → ps.flatten.length ≤ k * ps.length
  | [], _ => by simp
  | p :: ps, h => by
    have h1 := h p (List.mem_cons_self ..)
    have h2 := flat_len fun q hq => h q (List.mem_cons_of_mem p hq)
    rw [List.flatten_cons, List.length_append, List.length_cons, Nat.mul_succ]
    omega
end Go.Gv.P
namespace Go.Gv.RI
open Go Go.Gv Go.Gv.D
set_option maxRecDepth 100000
theorem Halve128_tot {a : List Int} (ha : Ok3 a) (la : a.length ≤ 20000) : Tot (fun fuel => ref3_Halve fuel a 128) (fun r => Ok3 r.1 ∧ w r.1 = w a / 128 ∧ r.2 = w a % 128) := by
  obtain ⟨da, na, _⟩ := ha
  unfold ref3_Halve
  refine Tot.bind0 (a := List.replicate a.length 0) (by unfold mkC; rw [if_pos ⟨by omega, by omega, by omega⟩, Int.toNat_natCast]) ?_
  rw [i64_small (by omega) (by omega)]
  refine Tot.some_bind ?_
  refine Tot.bindq (P := fun r => Db 65536 r.1 ∧ r.1.length = a.length ∧ 128 * vb 65536 r.1 + r.2 = vb 65536 a ∧ 0 ≤ r.2 ∧ r.2 < 128) ?_ fun r ⟨h1, h2, h3, h4, h5⟩ => ?_
  · refine Tot.loop (fun (st : List Int × Int × Int) => ∃ i : Nat, st.2.2 = (i : Int) - 1 ∧ i ≤ a.length ∧ Db 65536 st.1 ∧ st.1.length = a.length ∧ 0 ≤ st.2.1 ∧ st.2.1 < 128 ∧ (∀ j, j < i → st.1[j]? = some 0) ∧ 128 * vb 65536 st.1 + 65536 ^ i * st.2.1 + vb 65536 (a.take i) = vb 65536 a) (fun st => (st.2.2 + 1).toNat)
      ⟨a.length, rfl, Nat.le_refl _, fun x hx => by have := List.eq_of_mem_replicate hx; subst this; exact ⟨Int.le_refl _, by decide⟩, by simp, Int.le_refl _, by show (0 : Int) < 128; decide, fun j hj => by rw [List.getElem?_replicate]; simp; omega, by rw [vb_zeros, List.take_length]; simp⟩ fun st ⟨i, e, hi, h1, h2, h3, h4, h5, h6⟩ => ?_
    obtain ⟨out, r, k⟩ := st
    simp only at e h1 h2 h3 h4 h5 h6
    subst e
    refine Tot.ite (fun g => ?_) (fun g => Tot.ret ?_)
    · have g : ((i : Nat) : Int) - 1 ≥ 0 := of_decide_eq_true g
      obtain ⟨m, rfl⟩ : ∃ m, i = m + 1 := ⟨i - 1, by omega⟩
      have hk : (((m + 1 : Nat) : Int) - 1) = (m : Int) := by omega
      have hma : m < a.length := by omega
      have hmo : m < out.length := by omega
      have hx := da.get hma
      have ho : out[m] = 0 := by
        have := h5 m (by omega)
        rw [List.getElem?_eq_getElem hmo] at this
        exact Option.some.inj this
      simp only [hk]
      refine Tot.bind0 (idx_nat hma) ?_
      rw [i64_small (x := r * 65536) (by omega) (by omega), i64_small (x := r * 65536 + a[m]) (by omega) (by omega)]
      have hm : (r * 65536 + a[m]).tmod 128 = (r * 65536 + a[m]) % 128 := Int.tmod_eq_emod_of_nonneg (by omega)
      have hd : (r * 65536 + a[m]).tdiv 128 = (r * 65536 + a[m]) / 128 := Int.tdiv_eq_ediv_of_nonneg (by omega)
      refine Tot.some_bind (Tot.bind0 (a := ()) rfl (Tot.bind0 (idx_nat hmo) ?_))
      rw [hd, hm, i64_small (x := (r * 65536 + a[m]) / 128) (by omega) (by omega)]
      have hu : upd out (m : Int) ((r * 65536 + a[m]) / 128) = some (out.set m ((r * 65536 + a[m]) / 128)) := by
        unfold upd
        rw [if_pos ⟨by omega, by omega⟩, Int.toNat_natCast]
      refine Tot.bind0 hu (Tot.bind0 (a := ()) rfl (Tot.ret ?_))
      rw [i64_small (x := (m : Int) - 1) (by omega) (by omega)]
      refine ⟨⟨m, rfl, by omega, ?_, by simp [h2], by show 0 ≤ (r * 65536 + a[m]) % 128; omega, by show (r * 65536 + a[m]) % 128 < 128; omega, fun j hj => ?_, ?_⟩, by show ((m : Int) - 1 + 1).toNat < ((m : Int) + 1).toNat; omega⟩
      · intro x hx2
        rcases List.mem_or_eq_of_mem_set hx2 with h | h
        · exact h1 x h
        · subst h; omega
      · show (out.set m _)[j]? = _
        rw [List.getElem?_set_ne (by omega)]
        exact h5 j (by omega)
      · show 128 * vb 65536 (out.set m ((r * 65536 + a[m]) / 128)) + 65536 ^ m * ((r * 65536 + a[m]) % 128) + vb 65536 (a.take m) = _
        rw [vb_set hmo, ho, ← h6, vb_take_succ hma, Int.pow_succ]
        have he := Int.emod_add_mul_ediv (r * 65536 + a[m]) 128
        generalize (65536 : Int) ^ m = Z at *
        grind
    · have g : ¬ ((i : Nat) : Int) - 1 ≥ 0 := of_decide_eq_false g
      have : i = 0 := by omega
      subst this
      refine ⟨h1, h2, ?_, h3, h4⟩
      simpa [vb] using h6
  · refine Tot.bindq (rtrim_tot (by omega)) fun t ht => Tot.ret ⟨⟨ht.db h1, ht.nz, ?_⟩, ?_, ?_⟩
    · have := ht.len; show t.length ≤ 100000; omega
    · show vb 65536 t = vb 65536 a / 128
      rw [ht.vb]; omega
    · show r.2 = vb 65536 a % 128
      omega
end Go.Gv.RI
namespace Go.Gv.P
open Go Go.Gv Go.Gv.D Go.Gv.R Go.Gv.RI
set_option maxRecDepth 100000
/-! the reference's packing of one value -/
theorem IntOk_tot (a : Bool × List Int) : Tot (fun n => ref3_IntOk n a) (· = vld a) := IValid_tot a
theorem vld_OkI {a : Bool × List Int} (ho : P.okI a) (hv : vld a = true) : RI.OkI a := by
  unfold vld at hv
  simp only [Bool.and_eq_true, Bool.not_eq_true'] at hv
  obtain ⟨h0, h1, h2⟩ := hv
  refine ⟨⟨ho, ?_, of_decide_eq_true h0⟩, fun e => ?_⟩
  · by_cases e : a.2 = []
    · exact .inl e
    · right
      unfold lastZ at h2
      intro h
      rw [h] at h2
      cases h2
  · rw [e] at h1
    simpa using h1
theorem iv2_ival {a : Bool × List Int} (hl : a.2.length ≤ 2) : iv2 a = ival a := by
  obtain ⟨b, l⟩ := a
  match l, hl with
  | [], _ => cases b <;> rfl
  | [x], _ => cases b <;> simp [iv2, ival, val]
  | [x, y], _ => cases b <;> simp [iv2, ival, val]
theorem ival_far {a : Bool × List Int} (h : RI.OkI a) (hl : ¬ a.2.length ≤ 2) : 18446744073709551616 ≤ ival a ∨ ival a ≤ -18446744073709551616 := by
  have hne : a.2 ≠ [] := fun e => by rw [e] at hl; exact hl (by decide)
  have h1 := val_big h.1.1 h.1.2.1 hne
  have h2 := pow_mono (show 2 ≤ a.2.length - 1 by omega)
  have h3 : (4294967296 : Int) ^ 2 = 18446744073709551616 := by decide
  rw [h3] at h2
  unfold ival
  cases a.1
  · left; rw [if_neg (by decide)]; omega
  · right; rw [if_pos rfl]; omega
theorem rIntOf {a : Bool × List Int} (h : RI.OkI a) : Tot (fun fuel => ref3_IntOf fuel a) (fun r => r.1 = a.1 ∧ Rep (r.1, r.2) (ival a)) :=
  (IntOf_tot h).mono fun r ⟨h1, h2, h3, _⟩ => ⟨h1, h2, iv3_of h1 h3⟩
theorem rHalve128 {l : List Int} {m : Nat} (h : Ok3 l) (hw : w l = (m : Int)) (hl : l.length ≤ 20000) : Tot (fun fuel => ref3_Halve fuel l 128) (fun r => Ok3 r.1 ∧ w r.1 = ((m / 128 : Nat) : Int) ∧ r.2 = ((m % 128 : Nat) : Int)) :=
  (Halve128_tot h hl).mono fun r ⟨h1, h2, h3⟩ => ⟨h1, by rw [h2, hw]; omega, by rw [h3, hw]; omega⟩
/-- the bounds of all kinds -/
def loB (c : Nat) : Int := if c < 97 then 0 else if c = 118 then -9223372036854775808 else - 2 ^ (8 * (wid c).toNat - 1)
def hiB (c : Nat) : Int := if c = 118 then 9223372036854775807 else if c < 97 then 2 ^ (8 * (wid c).toNat) - 1 else 2 ^ (8 * (wid c).toNat - 1) - 1
theorem bounds_any {x : Fld} (h2 : x.1.toNat < 256) (h1 : x.1 = ((x.1.toNat : Nat) : Int)) (hw : 0 < wid x.1.toNat ∨ x.1.toNat = 118) :
    Tot (fun fuel => ref4_bounds fuel x.1) (fun r => Rep (r.1.1, r.1.2) (loB x.1.toNat) ∧ Rep (r.2.1, r.2.2) (hiB x.1.toNat)) := by
  by_cases e : x.1.toNat = 118
  · have e1 : x.1 = 118 := by omega
    rw [e1]
    unfold ref4_bounds loB hiB
    have hwo : Tot (fun fuel => ref4_widthOf fuel 118) (· = 0) := widthOf_tot (c := 118) (by decide)
    refine Tot.bindq hwo fun r hr => Tot.bindq (P := (· = 64)) (Tot.it rfl (Tot.ret rfl)) fun j hj => ?_
    subst hj
    refine Tot.bindq (rNumber (by decide) (by decide)) fun r1 hr1 => Tot.if_ rfl ?_
    refine Tot.bindq (rMoved1 (n := 63) hr1 (by omega)) fun r2 hr2 => Tot.bindq (rMinus hr2) fun r5 hr5 => Tot.bindq (rNumber (by decide) (by decide)) fun r3 hr3 => Tot.bindq (rPlus hr2 hr3 (by decide +kernel) (by decide)) fun r4 hr4 => Tot.ret ⟨hr5, hr4⟩
  · have hw := hw.resolve_right e
    have hn : (wid x.1.toNat).toNat = 1 ∨ (wid x.1.toNat).toNat = 2 ∨ (wid x.1.toNat).toNat = 4 ∨ (wid x.1.toNat).toNat = 8 := by have := wid_cases x.1.toNat; omega
    refine (bounds_tot h2 h1 (n := (wid x.1.toNat).toNat) hn ⟨by omega, e⟩).mono fun r ⟨r1, r2⟩ => ?_
    unfold loB hiB
    rw [if_neg e, if_neg e]
    exact ⟨r1, r2⟩
theorem rng_iff {c : Nat} {n : Nat} (hn : (wid c).toNat = n) (hn2 : n = 1 ∨ n = 2 ∨ n = 4 ∨ n = 8) (hc : c ≠ 118) (v : Int) : inRange (decide (97 ≤ c)) n v ↔ ¬ (v < loB c ∨ hiB c < v) := by
  unfold inRange loB hiB
  rw [hn, if_neg hc, if_neg hc]
  by_cases h : 97 ≤ c
  · rw [if_pos (decide_eq_true h), if_neg (by omega), if_neg (by omega)]; omega
  · rw [if_neg (by rw [decide_eq_false h]; decide), if_pos (by omega), if_pos (by omega)]; omega
theorem rng_118 (v : Int) : inRange true 8 v ↔ ¬ (v < loB 118 ∨ hiB 118 < v) := by
  unfold inRange loB hiB
  rw [if_pos rfl, if_neg (by decide), if_pos rfl, if_pos rfl]
  simp only [Nat.reduceMul, Nat.reduceSub, Int.reducePow, Int.reduceNeg]
  omega
theorem bnd_small (c : Nat) : -18446744073709551616 < loB c ∧ hiB c < 18446744073709551616 := by
  unfold loB hiB
  have := wid_cases c
  rcases this with e | e | e | e | e <;> rw [e] <;> constructor <;> (repeat' split) <;> simp
theorem far_out {a : Bool × List Int} {c : Nat} (h : RI.OkI a) (hl : ¬ a.2.length ≤ 2) : ival a < loB c ∨ hiB c < ival a := by
  have := bnd_small c
  rcases ival_far h hl with e | e <;> omega
/-- the groups of seven bits -/
theorem vloop_tot {m : Nat} (hm : m < 18446744073709551616) {j : Bool × List Int} (hj : Ok3 j.2) (hw : w j.2 = (m : Int)) (hl : j.2.length ≤ 20000) :
    Tot (fun fuel => loopN (fun (s440 : ((List UInt8) × (Bool × (List Int)))) => (Option.bind (ref3_Halve fuel s440.2.2 128) fun r458 => (if (((List.length r458.1 : Nat) : Int) == 0) then (Option.bind (u8 (IntKind.u8.wrap (r458.2))) fun b471 => (Option.bind (app s440.1 ([b471] : List UInt8)) fun l486 => (some (Sum.inr (Sum.inr (l486, (0 : Int)) : Unit ⊕ ((List UInt8) × Int)))))) else (Option.bind (u8 (IntKind.u8.wrap ((IntKind.i64.wrap (r458.2 + 128))))) fun b512 => (Option.bind (app s440.1 ([b512] : List UInt8)) fun l527 => (some (.inl (l527, (s440.2.1, r458.1))))))))) fuel (([] : List UInt8), (j.1, j.2)))
      (· = (.inr (vint 9 m, 0) : Unit ⊕ ((List UInt8) × Int))) := by
  refine Tot.loop (fun st => ∃ i u : Nat, i ≤ 9 ∧ u < 2 ^ (64 - 7 * i) ∧ Ok3 st.2.2 ∧ w st.2.2 = (u : Int) ∧ vint 9 m = st.1 ++ vint (9 - i) u ∧ st.1.length = i ∧ st.2.2.length ≤ 20000) (fun st => 9 - st.1.length) ⟨0, m, by omega, hm, hj, hw, rfl, rfl, hl⟩ fun st ⟨i, u, hi, hu, ho, he, hv, hlen, hl⟩ => ?_
  obtain ⟨out, bb, l⟩ := st
  simp only at ho he hv hlen hl
  have hu64 : u < 18446744073709551616 := Nat.lt_of_lt_of_le hu (Nat.pow_le_pow_right (n := 2) (by decide) (show 64 - 7 * i ≤ 64 by omega))
  refine Tot.bindq (rHalve128 ho he hl) fun r ⟨r1, r2, r3⟩ => ?_
  have hl2 : r.1.length ≤ 20000 := by
    apply Classical.byContradiction
    intro hc
    have h1 := vb_big h16 r1.1 r1.2.1 (by intro e; rw [e] at hc; exact hc (by decide))
    have h2 := vb_mono h16 (show 10 ≤ r.1.length - 1 by omega)
    have h3 : w r.1 < 18446744073709551616 := by rw [r2]; omega
    have h4 : (65536 : Int) ^ 10 > 18446744073709551616 := by decide
    have h5 : w r.1 = vb 65536 r.1 := rfl
    omega
  rw [r3]
  refine Tot.ite (fun g => ?_) (fun g => ?_)
  · have g : ((r.1.length : Nat) : Int) = 0 := by simpa using g
    have hz : u / 128 = 0 := by
      have : r.1 = [] := List.length_eq_zero_iff.1 (by omega)
      rw [this] at r2
      have : (0 : Int) = ((u / 128 : Nat) : Int) := r2
      omega
    refine Tot.bind0 (a := u.toUInt8) (by rw [show u % 128 = u by omega, u8_small (by omega) (by omega), u8_ok (by omega)]) (Tot.bind0 (app_ok (by simp; omega)) (Tot.ret ?_))
    rw [hv]
    have : vint (9 - i) u = [u.toUInt8] := by
      cases 9 - i with
      | zero => rfl
      | succ k =>
        show (if 128 ≤ u then _ else _) = _
        rw [if_neg (by omega)]
    rw [this]
  · have g : ¬ ((r.1.length : Nat) : Int) = 0 := by simpa using g
    have hz : 128 ≤ u := by
      apply Classical.byContradiction
      intro hc
      have h0 : w r.1 = 0 := by rw [r2]; omega
      have := w_zero r1 h0
      rw [this] at g
      exact g rfl
    have hi8 : i ≤ 8 := by
      rcases Nat.lt_or_ge i 9 with q | q
      · omega
      · have : i = 9 := by omega
        subst this
        have : u < 2 := by simpa using hu
        omega
    rw [R.i64_small (by omega) (by omega)]
    have hb : u8 (IntKind.u8.wrap (((u % 128 : Nat) : Int) + 128)) = some (u % 128 + 128).toUInt8 := by
      rw [show (((u % 128 : Nat) : Int) + 128) = ((u % 128 + 128 : Nat) : Int) by omega, u8_small (by omega) (by omega), u8_ok (by omega)]
    refine Tot.bind0 hb (Tot.bind0 (app_ok (by simp; omega)) (Tot.ret ?_))
    have hstep : vint (9 - i) u = (u % 128 + 128).toUInt8 :: vint (9 - (i + 1)) (u / 128) := by
      rw [show 9 - i = (9 - (i + 1)) + 1 by omega]
      show (if 128 ≤ u then _ else _) = _
      rw [if_pos hz]
    refine ⟨⟨i + 1, u / 128, by omega, ?_, r1, r2, by rw [hv, hstep]; simp, by show (out ++ [_]).length = _; simp [hlen], hl2⟩, by show 9 - (out ++ [_]).length < 9 - out.length; rw [List.length_append]; simp; omega⟩
    refine Nat.div_lt_of_lt_mul ?_
    rw [show 64 - 7 * i = 7 + (64 - 7 * (i + 1)) by omega, Nat.pow_add] at hu
    exact hu
end Go.Gv.P
namespace Go.Gv.P
open Go Go.Gv Go.Gv.D Go.Gv.R Go.Gv.RI
set_option maxRecDepth 100000
/-! bytes of a number by its bits -/
theorem vbits_cons (b : Bool) (l : List Bool) : vbits (b :: l) = b2 b + 2 * vbits l := rfl
theorem vbits_nonneg (l : List Bool) : 0 ≤ vbits l := (vbits_bound l).1
theorem bit_at : ∀ (l : List Bool) (q : Nat), (l[q]?).getD false = decide ((vbits l).toNat / 2 ^ q % 2 = 1)
  | [], q => by
    have : (vbits []).toNat = 0 := rfl
    rw [this]; simp
  | b :: l, 0 => by
    have := vbits_nonneg l
    rw [vbits_cons]
    cases b
    · have : (b2 false + 2 * vbits l).toNat % 2 = 0 := by show (0 + 2 * vbits l).toNat % 2 = 0; omega
      simp [this]
    · have : (b2 true + 2 * vbits l).toNat % 2 = 1 := by show (1 + 2 * vbits l).toNat % 2 = 1; omega
      simp [this]
  | b :: l, q + 1 => by
    have h0 := vbits_nonneg l
    rw [vbits_cons, List.getElem?_cons_succ, bit_at l q]
    have : (b2 b + 2 * vbits l).toNat / 2 ^ (q + 1) = (vbits l).toNat / 2 ^ q := by
      rw [Nat.pow_succ, Nat.mul_comm, ← Nat.div_div_eq_div_mul]
      congr 1
      cases b
      · show (0 + 2 * vbits l).toNat / 2 = _; omega
      · show (1 + 2 * vbits l).toNat / 2 = _; omega
    rw [this]
theorem leB_snoc : ∀ (n m : Nat), leB (n + 1) m = leB n m ++ [(m / 256 ^ n % 256).toUInt8]
  | 0, m => by simp [leB]
  | n + 1, m => by
    show (m % 256).toUInt8 :: leB (n + 1) (m / 256) = (m % 256).toUInt8 :: leB n (m / 256) ++ _
    rw [leB_snoc n, Nat.pow_succ, Nat.mul_comm, ← Nat.div_div_eq_div_mul]; rfl
theorem leB_mod : ∀ (n u : Nat), leB n (u % 256 ^ n) = leB n u
  | 0, _ => rfl
  | n + 1, u => by
    show (u % 256 ^ (n + 1) % 256).toUInt8 :: leB n (u % 256 ^ (n + 1) / 256) = (u % 256).toUInt8 :: leB n (u / 256)
    have h1 : u % 256 ^ (n + 1) % 256 = u % 256 := Nat.mod_mod_of_dvd _ (by rw [Nat.pow_succ]; exact Nat.dvd_mul_left _ _)
    have h2 : u % 256 ^ (n + 1) / 256 = u / 256 % 256 ^ n := by rw [Nat.pow_succ, Nat.mul_comm, Nat.mod_mul_right_div_self]
    rw [h1, h2, leB_mod n]
theorem base256_tot {a : Bool × List Int} {m n : Nat} (ha : Ok3 a.2) (hw : w a.2 = (m : Int)) (hl : a.2.length ≤ 20000) (hn : n ≤ 8) : Tot (fun fuel => ref4_base256 fuel a (n : Int)) (· = leB n m) := by
  unfold ref4_base256
  refine Tot.bindq (Ones_tot ha) fun l ⟨h1, _, h3⟩ => ?_
  have hv : (vbits l).toNat = m := by rw [h1, hw]; rfl
  have hll : l.length ≤ 320000 := by omega
  refine Tot.bindq (P := (· = leB n m)) ?_ fun r hr => Tot.ret hr
  refine Tot.loop (fun st => ∃ i : Nat, i ≤ n ∧ st = (leB i m, (i : Int))) (fun st => n - st.2.toNat) ⟨0, by omega, rfl⟩ fun st ⟨i, hi, e⟩ => ?_
  subst e
  refine Tot.ite (fun g => ?_) (fun g => Tot.ret ?_)
  · have g : (i : Int) < (n : Int) := of_decide_eq_true g
    refine Tot.bindq (P := (· = ((m / 256 ^ i % 256 : Nat) : Int))) ?_ fun r hr => ?_
    · refine Tot.loop (fun st => ∃ k : Nat, k ≤ 8 ∧ st = (((m / 2 ^ (8 * i + k) % 2 ^ (8 - k) : Nat) : Int), (k : Int) - 1)) (fun st => (st.2 + 1).toNat) ⟨8, by omega, by simp [Nat.mod_one]⟩ fun st ⟨k, hk, e⟩ => ?_
      subst e
      refine Tot.ite (fun g => ?_) (fun g => Tot.ret ?_)
      · have g : (k : Int) - 1 ≥ 0 := of_decide_eq_true g
        obtain ⟨q, rfl⟩ : ∃ q, k = q + 1 := ⟨k - 1, by omega⟩
        have hq : ((q + 1 : Nat) : Int) - 1 = (q : Int) := by omega
        simp only [hq]
        have e1 : IntKind.i64.wrap (IntKind.i64.wrap (8 * (i : Int)) + (q : Int)) = ((8 * i + q : Nat) : Int) := by rw [R.i64_small (x := 8 * (i : Int)) (by omega) (by omega), R.i64_small (by omega) (by omega)]; omega
        have hsm : m / 2 ^ (8 * i + (q + 1)) % 2 ^ (8 - (q + 1)) < 256 := Nat.lt_of_lt_of_le (Nat.mod_lt _ (Nat.pow_pos (by decide))) (Nat.pow_le_pow_right (n := 2) (by decide) (show 8 - (q + 1) ≤ 8 by omega))
        have hstep : m / 2 ^ (8 * i + q) % 2 ^ (8 - q) = 2 * (m / 2 ^ (8 * i + (q + 1)) % 2 ^ (8 - (q + 1))) + m / 2 ^ (8 * i + q) % 2 := by
          rw [show 8 - q = (8 - (q + 1)) + 1 by omega, Nat.pow_succ, Nat.mul_comm _ 2, Nat.mod_mul, show 8 * i + (q + 1) = (8 * i + q) + 1 by omega, Nat.pow_succ, ← Nat.div_div_eq_div_mul]
          omega
        refine Tot.bindq (P := (· = decide (m / 2 ^ (8 * i + q) % 2 = 1))) ?_ fun j hj => ?_
        · rw [e1, ← hv, ← bit_at]
          refine Tot.ite (fun d => ?_) (fun d => Tot.ret ?_)
          · have d : ((8 * i + q : Nat) : Int) < (l.length : Int) := of_decide_eq_true d
            refine Tot.bind0 (R.idx_nat (show 8 * i + q < l.length by omega)) (Tot.ret ?_)
            rw [List.getElem?_eq_getElem (show 8 * i + q < l.length by omega)]; rfl
          · have d : ¬ ((8 * i + q : Nat) : Int) < (l.length : Int) := of_decide_eq_false d
            rw [List.getElem?_eq_none (by omega)]; rfl
        subst hj
        generalize hM : m / 2 ^ (8 * i + (q + 1)) % 2 ^ (8 - (q + 1)) = M at hsm hstep
        have e2 : IntKind.i64.wrap ((M : Int) * 2) = ((2 * M : Nat) : Int) := by rw [R.i64_small (by omega) (by omega)]; omega
        have e4 : IntKind.i64.wrap ((q : Int) - 1) = (q : Int) - 1 := R.i64_small (by omega) (by omega)
        refine Tot.bindq (P := (· = ((m / 2 ^ (8 * i + q) % 2 ^ (8 - q) : Nat) : Int))) (Tot.ite (fun d => ?_) (fun d => Tot.ret ?_)) fun j hj => Tot.ret ?_
        · have d : m / 2 ^ (8 * i + q) % 2 = 1 := of_decide_eq_true d
          refine Tot.some_bind (Tot.ret ?_)
          rw [e2, R.i64_small (by omega) (by omega), hstep, d]; omega
        · have d : ¬ m / 2 ^ (8 * i + q) % 2 = 1 := of_decide_eq_false d
          have : m / 2 ^ (8 * i + q) % 2 = 0 := by omega
          rw [e2, hstep, this]; rfl
        · subst hj
          rw [e4]
          exact ⟨⟨q, by omega, rfl⟩, by show ((q : Int) - 1 + 1).toNat < ((q : Int) + 1).toNat; omega⟩
      · have g : ¬ (k : Int) - 1 ≥ 0 := of_decide_eq_false g
        have : k = 0 := by omega
        subst this
        show ((m / 2 ^ (8 * i + 0) % 2 ^ (8 - 0) : Nat) : Int) = _
        rw [pow256]; rfl
    · subst hr
      have hb : u8 (IntKind.u8.wrap ((m / 256 ^ i % 256 : Nat) : Int)) = some (m / 256 ^ i % 256).toUInt8 := by rw [u8_small (by omega) (by omega), u8_ok (by omega)]
      refine Tot.bind0 hb (Tot.bind0 (app_ok (by rw [leB_len]; simp; omega)) (Tot.ret ?_))
      have e3 : IntKind.i64.wrap ((i : Int) + 1) = ((i + 1 : Nat) : Int) := by rw [R.i64_small (by omega) (by omega)]; omega
      rw [e3]
      exact ⟨⟨i + 1, by omega, by rw [leB_snoc]⟩, by show n - (((i + 1 : Nat) : Int)).toNat < n - ((i : Int)).toNat; omega⟩
  · have g : ¬ (i : Int) < (n : Int) := of_decide_eq_false g
    have : i = n := by omega
    subst this
    rfl
theorem rev_tot {l : List UInt8} (hl : l.length ≤ 100) {n : Int} (hn : n = (l.length : Int)) :
    Tot (fun fuel => loopN (fun (s690 : ((List UInt8) × Int)) => (if (decide (s690.2 ≥ 0)) then (Option.bind (idx l s690.2) fun x703 => (Option.bind (app s690.1 ([x703] : List UInt8)) fun l716 => (some (.inl (l716, (IntKind.i64.wrap (s690.2 - 1))))))) else (some (.inr (s690.1))))) fuel (([] : List UInt8), (IntKind.i64.wrap (n - 1)))) (· = l.reverse) := by
  subst hn
  rw [R.i64_small (by omega) (by omega)]
  refine Tot.loop (fun st => ∃ i : Nat, i ≤ l.length ∧ st = ((l.drop i).reverse, (i : Int) - 1)) (fun st => (st.2 + 1).toNat) ⟨l.length, by omega, by simp⟩ fun st ⟨i, hi, e⟩ => ?_
  subst e
  refine Tot.ite (fun g => ?_) (fun g => Tot.ret ?_)
  · have g : (i : Int) - 1 ≥ 0 := of_decide_eq_true g
    obtain ⟨q, rfl⟩ : ∃ q, i = q + 1 := ⟨i - 1, by omega⟩
    have hq : ((q + 1 : Nat) : Int) - 1 = (q : Int) := by omega
    simp only [hq]
    have hql : q < l.length := by omega
    refine Tot.bind0 (R.idx_nat hql) (Tot.bind0 (app_ok (by rw [List.length_reverse, List.length_drop]; simp; omega)) (Tot.ret ?_))
    rw [R.i64_small (x := (q : Int) - 1) (by omega) (by omega)]
    refine ⟨⟨q, by omega, ?_⟩, by show ((q : Int) - 1 + 1).toNat < ((q : Int) + 1).toNat; omega⟩
    rw [List.drop_eq_getElem_cons hql, List.reverse_cons]
  · have g : ¬ (i : Int) - 1 ≥ 0 := of_decide_eq_false g
    have : i = 0 := by omega
    subst this; simp
end Go.Gv.P

