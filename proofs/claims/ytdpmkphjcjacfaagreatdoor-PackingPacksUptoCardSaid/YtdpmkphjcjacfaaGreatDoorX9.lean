import Derived.Test.YtdpmkphjcjacfaaGreatDoorX7
import Derived.Test.YtdpmkphjcjacfaaGreatDoorX3
import Derived.Test.YtdpmkphjcjacfaaGreatDoorV1
import Derived.Test.YtdpmkphjcjacfaaGreatDoorGo
set_option linter.all false
namespace Go.Gv.P
open Go Go.Gv Go.Gv.D Go.Gv.R Go.Gv.RI
set_option maxRecDepth 100000
/-! what is packed is unpacked -/
theorem vrd_back : ∀ (m k u : Nat) (rest : List UInt8), k + m = 9 → u < 2 ^ (64 - 7 * k) → (0 < k → 0 < u) → vrd k (vint m u ++ rest) = (0, u, (vint m u).length)
  | 0, k, u, rest, hk, hu, h0 => by
    have hk9 : k = 9 := by omega
    subst hk9
    have hu : u < 2 := by simpa using hu
    show vrd 9 (u.toUInt8 :: rest) = _
    rw [vrd_cons, toU8 (by omega), if_neg (by omega), if_pos (by omega)]; rfl
  | m + 1, k, u, rest, hk, hu, h0 => by
    by_cases h : 128 ≤ u
    · have hv : vint (m + 1) u = (u % 128 + 128).toUInt8 :: vint m (u / 128) := by
        show (if 128 ≤ u then _ else _) = _
        rw [if_pos h]
      rw [hv, List.cons_append, vrd_cons, toU8 (by omega)]
      have hu2 : u / 128 < 2 ^ (64 - 7 * (k + 1)) := by
        refine Nat.div_lt_of_lt_mul ?_
        rw [show 64 - 7 * k = 7 + (64 - 7 * (k + 1)) by omega, Nat.pow_add] at hu
        exact hu
      have ih := vrd_back m (k + 1) (u / 128) rest (by omega) hu2 (fun _ => by omega)
      rw [ih, if_neg (by omega), if_neg (by omega), if_pos rfl, List.length_cons]
      congr 2
      simp only
      omega
    · have hv : vint (m + 1) u = [u.toUInt8] := by
        show (if 128 ≤ u then _ else _) = _
        rw [if_neg h]
      rw [hv, List.singleton_append, vrd_cons, toU8 (by omega), if_neg (by omega), if_pos (by omega)]; rfl
theorem unzig_zig (n : Int) : unzig (zig n) = n := by
  unfold unzig zig
  split <;> split <;> omega
theorem sgn_fwd {s : Bool} {n : Nat} {v : Int} (hn : n = 1 ∨ n = 2 ∨ n = 4 ∨ n = 8) (h : inRange s n v) : sgn s n ((v % 18446744073709551616).toNat % 256 ^ n) = v := by
  unfold inRange at h
  unfold sgn
  cases s with
  | false =>
    rw [if_neg (by decide)] at h
    rw [if_neg (fun e => by cases e.1)]
    rcases hn with e | e | e | e <;> subst e <;> simp only [Nat.reduceMul, Nat.reduceSub, Int.reducePow, Nat.reducePow] at h ⊢ <;> omega
  | true =>
    rw [if_pos rfl] at h
    rcases hn with e | e | e | e <;> subst e <;> simp only [Nat.reduceMul, Nat.reduceSub, Int.reducePow, Nat.reducePow, Int.reduceNeg, true_and] at h ⊢ <;> split <;> omega
/-- a value as it is read again -/
def nrm (v : Val) : Val := if v.1 = 5 then txt (bytesOf v.2.2.2.1) else if v.1 = 1 then (1, (false, []), (false, []), strOf [], v.2.2.2.2) else valOf (iv2 v.2.1)
theorem rd_pk {x : Fld} {b : Bool} (hg : good b x) (ho : okF x) {v : Val} (hv : vldV v = true) (h120 : x.1.toNat ≠ 120) (hz : (pkF x v).2 = 0) (rest : List UInt8) :
    rdF x ((pkF x v).1 ++ rest) = (0, nrm v, (pkF x v).1.length) := by
  obtain ⟨h1, h2, h3, hk⟩ := kindsF hg ho
  have hc : v.1 = kindF x.1.toNat := by
    apply Classical.byContradiction
    intro h
    have : pkF x v = ([], 13) := by unfold pkF; rw [if_pos h]
    rw [this] at hz; cases hz
  have gn : ¬ v.1 ≠ kindF x.1.toNat := fun h => h hc
  by_cases d : x.1.toNat = 115
  · have hk5 : v.1 = 5 := by rw [hc]; unfold kindF; rw [if_pos (.inl d)]
    have hpk : pkF x v = if ((v.2.2.2.1.size : Nat) : Int) ≠ x.2.1 then ([], 9) else (bytesOf v.2.2.2.1, 0) := by unfold pkF; rw [if_neg gn, if_pos d]
    rw [hpk] at hz ⊢
    split at hz
    · cases hz
    rename_i q
    rw [if_neg q]
    have q : ((v.2.2.2.1.size : Nat) : Int) = x.2.1 := Classical.not_not.1 q
    have hwn : ¬ 0 < wid x.1.toNat := by rw [d]; decide
    have hlen : (bytesOf v.2.2.2.1).length = x.2.1.toNat := by show v.2.2.2.1.size = _; omega
    show rdF x (bytesOf v.2.2.2.1 ++ rest) = (0, nrm v, (bytesOf v.2.2.2.1).length)
    rw [rdF_sx hwn (.inl d)]
    rw [if_neg (by rw [List.length_append]; omega), if_neg (fun h => by omega), ← hlen, List.take_left]
    unfold nrm
    rw [if_pos hk5]
  by_cases d2 : x.1.toNat = 112
  · have hk5 : v.1 = 5 := by rw [hc]; unfold kindF; rw [if_pos (.inr d2)]
    have hpk : pkF x v = if 255 < v.2.2.2.1.size then ([], 9) else (v.2.2.2.1.size.toUInt8 :: bytesOf v.2.2.2.1, 0) := by unfold pkF; rw [if_neg gn, if_neg d, if_pos d2]
    rw [hpk] at hz ⊢
    split at hz
    · cases hz
    rename_i q
    rw [if_neg q]
    have hwn : ¬ 0 < wid x.1.toNat := by rw [d2]; decide
    have hlen : (bytesOf v.2.2.2.1).length = v.2.2.2.1.size := rfl
    rw [rdF_112 hwn d2]
    show (if (bytesOf v.2.2.2.1 ++ rest).length < (v.2.2.2.1.size.toUInt8).toNat then _ else _) = _
    have ht : (bytesOf v.2.2.2.1 ++ rest).take v.2.2.2.1.size = bytesOf v.2.2.2.1 := List.take_left' hlen
    rw [toU8 (by omega), if_neg (by rw [List.length_append]; omega)]
    show ((0 : Int), txt ((bytesOf v.2.2.2.1 ++ rest).take v.2.2.2.1.size), v.2.2.2.1.size + 1) = _
    rw [ht]
    unfold nrm
    rw [if_pos hk5]; rfl
  by_cases d3 : x.1.toNat = 63
  · have hk1 : v.1 = 1 := by rw [hc]; unfold kindF; rw [if_neg (by omega), if_pos d3]
    have hr : v.2.2.2.2 = 0 ∨ v.2.2.2.2 = 1 := by
      unfold vldV at hv
      rw [if_neg (by omega), if_pos hk1] at hv
      simpa using hv
    have hpk : pkF x v = ([(v.2.2.2.2.toNat).toUInt8], 0) := by unfold pkF; rw [if_neg gn, if_neg d, if_neg d2, if_pos d3]
    rw [hpk]
    have hwn : ¬ 0 < wid x.1.toNat := by rw [d3]; decide
    rw [rdF_63 hwn d3]
    show (if 1 < ((v.2.2.2.2.toNat).toUInt8).toNat then _ else _) = _
    rw [toU8 (by omega), if_neg (by omega)]
    unfold nrm
    rw [if_neg (by omega), if_pos hk1, Int.toNat_of_nonneg (by omega)]; rfl
  have hk2 : v.1 = 2 := by rw [hc]; unfold kindF; rw [if_neg (by omega), if_neg d3]
  have hnr : nrm v = valOf (iv2 v.2.1) := by unfold nrm; rw [if_neg (by omega), if_neg (by omega)]
  rw [hnr]
  by_cases d4 : x.1.toNat = 118
  · have hpk : pkF x v = if v.2.1.2.length ≤ 2 ∧ inRange true 8 (iv2 v.2.1) then (vint 9 (zig (iv2 v.2.1)), 0) else ([], 4) := by unfold pkF; rw [if_neg gn, if_neg d, if_neg d2, if_neg d3, if_pos d4]
    rw [hpk] at hz ⊢
    split at hz
    · rename_i q
      rw [if_pos q]
      have hb := q.2
      unfold inRange at hb
      rw [if_pos rfl] at hb
      simp only [Nat.reduceMul, Nat.reduceSub, Int.reducePow, Int.reduceNeg] at hb
      have hzz := zig_lt (n := iv2 v.2.1) (by omega) (by omega)
      have hwn : ¬ 0 < wid x.1.toNat := by rw [d4]; decide
      rw [rdF_118 hwn d4]
      show (if (vrd 0 (vint 9 (zig (iv2 v.2.1)) ++ rest)).1 = 0 then _ else _) = _
      rw [vrd_back 9 0 _ rest rfl hzz (fun h => by omega), if_pos rfl]
      simp only [unzig_zig]
    · cases hz
  · have hw : 0 < wid x.1.toNat := by
      rcases hk with ⟨k1, _⟩ | ⟨_, (⟨e, _⟩ | ⟨e, _⟩ | ⟨e, _⟩ | ⟨e, _, _⟩)⟩
      · exact k1
      · exact absurd e d4
      · exact absurd e d2
      · exact absurd e d3
      · rcases e with e | e
        · exact absurd e d
        · exact absurd e h120
    have hn : (wid x.1.toNat).toNat = 1 ∨ (wid x.1.toNat).toNat = 2 ∨ (wid x.1.toNat).toNat = 4 ∨ (wid x.1.toNat).toNat = 8 := by have := wid_cases x.1.toNat; omega
    have hpk : pkF x v = if v.2.1.2.length ≤ 2 ∧ inRange (decide (97 ≤ x.1.toNat)) (wid x.1.toNat).toNat (iv2 v.2.1) then (ordB x.2.2 (wid x.1.toNat).toNat (iv2 v.2.1), 0) else ([], 4) := by unfold pkF; rw [if_neg gn, if_neg d, if_neg d2, if_neg d3, if_neg d4]
    rw [hpk] at hz ⊢
    split at hz
    · rename_i q
      rw [if_pos q, rdF_wid hw]
      have hol := ordB_len x.2.2 (wid x.1.toNat).toNat (iv2 v.2.1)
      rw [if_neg (by rw [List.length_append]; show ¬ (ordB _ _ _).length + rest.length < _; omega)]
      have : ((ordB x.2.2 (wid x.1.toNat).toNat (iv2 v.2.1)) ++ rest).take (wid x.1.toNat).toNat = ordB x.2.2 (wid x.1.toNat).toNat (iv2 v.2.1) := List.take_left' hol
      show (0, valOf (sgn _ _ (word _ ((ordB x.2.2 (wid x.1.toNat).toNat (iv2 v.2.1) ++ rest).take _))), _) = (0, _, (ordB x.2.2 (wid x.1.toNat).toNat (iv2 v.2.1)).length)
      rw [this, word_ordB, sgn_fwd hn q.2, hol]
    · cases hz
def vals : List Fld → List Val → List Val
  | [], _ => []
  | x :: t, vs => if x.1 = 120 then vals t vs else match vs with
    | [] => []
    | v :: vs => nrm v :: vals t vs
theorem vals_cons (x : Fld) (t : List Fld) (vs : List Val) : vals (x :: t) vs = if x.1 = 120 then vals t vs else match vs with
    | [] => []
    | v :: vs => nrm v :: vals t vs := by cases vs <;> rw [vals]
theorem vals_map : ∀ {l : List Fld} {vs : List Val}, vs.length = nv l → vals l vs = vs.map nrm
  | [], vs, h => by
    have : vs = [] := List.length_eq_zero_iff.1 h
    subst this; rfl
  | x :: t, vs, h => by
    have hnv : nv (x :: t) = (if x.1 ≠ 120 then 1 else 0) + nv t := rfl
    rw [hnv] at h
    rw [vals_cons]
    by_cases d : x.1 = 120
    · rw [if_pos d]
      rw [if_neg (fun h => h d), Nat.zero_add] at h
      exact vals_map h
    · rw [if_neg d]
      rw [if_pos d] at h
      match vs, h with
      | [], h => rw [List.length_nil] at h; omega
      | v :: vs, h =>
        simp only [List.length_cons] at h ⊢
        rw [vals_map (by omega), List.map_cons]
theorem unp_back {b : Bool} : ∀ {l : List Fld} {vs : List Val} {ps : List (List UInt8)} (i : Nat) (out : List Val), (∀ x ∈ l, good b x) → (∀ x ∈ l, okF x) → parts l vs = some ps → unp l i ps.flatten out = (out ++ vals l vs, (0, 0))
  | [], vs, ps, i, out, _, _, h => by
    have : ps = [] := by simpa [parts] using h.symm
    subst this
    rw [unp_nil]; simp [vals]
  | x :: t, vs, ps, i, out, hg, ho, h => by
    rw [parts_cons] at h
    have hg' := fun y hy => hg y (List.mem_cons_of_mem x hy)
    have ho' := fun y hy => ho y (List.mem_cons_of_mem x hy)
    have hgx := hg x (List.mem_cons_self ..)
    have hox := ho x (List.mem_cons_self ..)
    rw [vals_cons, unp_cons]
    by_cases d : x.1 = 120
    · rw [if_pos d] at h
      rw [if_pos d]
      obtain ⟨qs, e1, rfl⟩ := Option.map_eq_some_iff.1 h
      have hr := cnt_rng hgx hox d
      have hwn : ¬ 0 < wid x.1.toNat := by rw [d]; decide
      have hrd : rdF x ((List.replicate x.2.1.toNat 0 :: qs).flatten) = (0, txt (List.replicate x.2.1.toNat 0), x.2.1.toNat) := by
        rw [rdF_sx hwn (.inr (by omega)), List.flatten_cons, List.take_left' (by simp), if_neg (by rw [List.length_append, List.length_replicate]; omega)]
        rw [if_neg]
        rintro ⟨_, c, hc, hc2⟩
        have := List.eq_of_mem_replicate hc
        rw [this] at hc2
        exact hc2 rfl
      rw [hrd, if_neg (fun h => h rfl), if_neg (fun h => h d)]
      show unp t (i + 1) ((List.replicate x.2.1.toNat 0 :: qs).flatten.drop x.2.1.toNat) out = _
      rw [List.flatten_cons, List.drop_left' (by simp)]
      exact unp_back (i + 1) out hg' ho' e1
    · rw [if_neg d] at h
      rw [if_neg d]
      match vs, h with
      | v :: vs, h =>
        simp only at h ⊢
        by_cases z : vldV v = true ∧ (pkF x v).2 = 0
        · rw [if_pos z] at h
          obtain ⟨qs, e1, rfl⟩ := Option.map_eq_some_iff.1 h
          have hrd := rd_pk hgx hox z.1 (by obtain ⟨h1, _⟩ := kindsF hgx hox; omega) z.2 qs.flatten
          rw [List.flatten_cons, hrd, if_neg (fun h => h rfl), if_pos d]
          show unp t (i + 1) (((pkF x v).1 ++ qs.flatten).drop (pkF x v).1.length) (out ++ [nrm v]) = _
          rw [List.drop_left, unp_back (i + 1) _ hg' ho' e1]
          simp
        · rw [if_neg z] at h; cases h
/-! sizes -/
theorem size_part {b : Bool} : ∀ {l : List Fld} {vs : List Val} {ps : List (List UInt8)}, (∀ x ∈ l, good b x) → (∀ x ∈ l, okF x) → parts l vs = some ps → ∀ (lo hi : Nat), lo + 256 * l.length ≤ 1000000 → hi + 256 * l.length ≤ 1000000 →
    ∃ lo' hi' : Nat, szF ((lo : Int), (hi : Int)) l = ((lo' : Int), (hi' : Int)) ∧ lo' ≤ lo + ps.flatten.length ∧ hi + ps.flatten.length ≤ hi'
  | [], vs, ps, _, _, h, lo, hi, _, _ => by
    have : ps = [] := by simpa [parts] using h.symm
    subst this
    exact ⟨lo, hi, rfl, by simp, by simp⟩
  | x :: t, vs, ps, hg, ho, h, lo, hi, hl, hh => by
    have hg' := fun y hy => hg y (List.mem_cons_of_mem x hy)
    have ho' := fun y hy => ho y (List.mem_cons_of_mem x hy)
    have hgx := hg x (List.mem_cons_self ..)
    have hox := ho x (List.mem_cons_self ..)
    rw [List.length_cons] at hl hh
    obtain ⟨p, qs, vs', rfl, e1, hp1, hp2, hp3⟩ : ∃ p qs vs', ps = p :: qs ∧ parts t vs' = some qs ∧ 0 ≤ loF x ∧ loF x ≤ (p.length : Int) ∧ (p.length : Int) ≤ hiF x ∧ hiF x ≤ 256 := by
      obtain ⟨h1, h2, h3, hk⟩ := kindsF hgx hox
      rw [parts_cons] at h
      by_cases d : x.1 = 120
      · rw [if_pos d] at h
        obtain ⟨qs, e1, rfl⟩ := Option.map_eq_some_iff.1 h
        have hr := cnt_rng hgx hox d
        have hwn : ¬ 0 < wid x.1.toNat := by rw [d]; decide
        refine ⟨_, qs, vs, rfl, e1, ?_⟩
        unfold loF hiF
        rw [if_neg hwn, if_neg hwn, if_neg (by omega), if_neg (by omega), if_neg (by omega), if_neg (by omega), List.length_replicate]
        omega
      · rw [if_neg d] at h
        match vs, h with
        | v :: vs, h =>
          simp only at h
          by_cases z : vldV v = true ∧ (pkF x v).2 = 0
          · rw [if_pos z] at h
            obtain ⟨qs, e1, rfl⟩ := Option.map_eq_some_iff.1 h
            refine ⟨_, qs, vs, rfl, e1, ?_⟩
            have hz := z.2
            unfold loF hiF
            by_cases hw : 0 < wid x.1.toNat
            · rw [if_pos hw, if_pos hw]
              obtain ⟨n1, n2, n3, n4, n5⟩ := wid_not hw
              have := wid_cases x.1.toNat
              have hlen : (pkF x v).1.length = (wid x.1.toNat).toNat := by
                unfold pkF at hz ⊢
                rw [if_neg n1, if_neg n2, if_neg n3, if_neg n4] at hz ⊢
                split at hz
                · cases hz
                rename_i g
                rw [if_neg g]
                split at hz
                · rename_i g2; rw [if_pos g2]; exact ordB_len _ _ _
                · cases hz
              omega
            · rw [if_neg hw, if_neg hw]
              by_cases e : x.1.toNat = 118
              · rw [if_pos e, if_pos e]
                have hlen : ∃ u, (pkF x v).1 = vint 9 u := by
                  have e1 : ¬ x.1.toNat = 115 := by omega
                  have e2 : ¬ x.1.toNat = 112 := by omega
                  have e3 : ¬ x.1.toNat = 63 := by omega
                  unfold pkF at hz ⊢
                  rw [if_neg e1, if_neg e2, if_neg e3, if_pos e] at hz ⊢
                  split at hz
                  · cases hz
                  rename_i g
                  rw [if_neg g]
                  split at hz
                  · rename_i g2; rw [if_pos g2]; exact ⟨_, rfl⟩
                  · cases hz
                obtain ⟨u, hu⟩ := hlen
                rw [hu]
                have := vint_len 9 u
                omega
              · rw [if_neg e, if_neg e]
                by_cases e2 : x.1.toNat = 112
                · rw [if_pos e2, if_pos e2]
                  have h256 := pkF_len hgx hox v
                  have hpos : 1 ≤ (pkF x v).1.length := by
                    have e1 : ¬ x.1.toNat = 115 := by omega
                    unfold pkF at hz ⊢
                    rw [if_neg e1, if_pos e2] at hz ⊢
                    split at hz
                    · cases hz
                    rename_i g
                    rw [if_neg g]
                    split at hz
                    · cases hz
                    rename_i g2
                    rw [if_neg g2]
                    show 1 ≤ _ + 1
                    omega
                  omega
                · rw [if_neg e2, if_neg e2]
                  have hc : x.2.1 = ((pkF x v).1.length : Int) ∧ x.2.1 ≤ 256 := by
                    unfold pkF at hz ⊢
                    split at hz
                    · cases hz
                    rename_i g
                    rw [if_neg g]
                    by_cases e3 : x.1.toNat = 115
                    · rw [if_pos e3] at hz ⊢
                      split at hz
                      · cases hz
                      rename_i g2
                      rw [if_neg g2]
                      have g2 : ((v.2.2.2.1.size : Nat) : Int) = x.2.1 := Classical.not_not.1 g2
                      refine ⟨g2.symm, ?_⟩
                      rcases hk with ⟨k1, k2, k3, k4, k5, k6, k7⟩ | ⟨k1, (⟨e', ek⟩ | ⟨e', ek⟩ | ⟨e', ek⟩ | ⟨e', ek0, ek1⟩)⟩ <;> omega
                    · have e4 : x.1.toNat = 63 ∧ x.2.1 = 1 := by
                        rcases hk with ⟨k1, _⟩ | ⟨k1, (⟨e', ek⟩ | ⟨e', ek⟩ | ⟨e', ek⟩ | ⟨e', ek0, ek1⟩)⟩
                        · exact absurd k1 hw
                        · exact absurd e' e
                        · exact absurd e' e2
                        · exact ⟨e', ek⟩
                        · omega
                      rw [if_neg e3, if_neg e2, if_pos e4.1]
                      exact ⟨e4.2, by omega⟩
                  omega
          · rw [if_neg z] at h; cases h
    obtain ⟨l1, hl1⟩ : ∃ q : Nat, loF x = (q : Int) := ⟨(loF x).toNat, by omega⟩
    obtain ⟨h1', hh1⟩ : ∃ q : Nat, hiF x = (q : Int) := ⟨(hiF x).toNat, by omega⟩
    have es : szF ((lo : Int), (hi : Int)) (x :: t) = szF (((lo + l1 : Nat) : Int), ((hi + h1' : Nat) : Int)) t := by
      show szF (IntKind.i64.wrap ((lo : Int) + loF x), IntKind.i64.wrap ((hi : Int) + hiF x)) t = _
      rw [hl1, hh1, R.i64_small (by omega) (by omega), R.i64_small (by omega) (by omega)]; rfl
    obtain ⟨lo', hi', q1, q2, q3⟩ := size_part hg' ho' e1 (lo + l1) (hi + h1') (by omega) (by omega)
    refine ⟨lo', hi', by rw [es, q1], ?_, ?_⟩
    · rw [List.flatten_cons, List.length_append]; omega
    · rw [List.flatten_cons, List.length_append]; omega
theorem SameLimbs_any (a b : List Int) (h : a.length ≤ 1048576) : Tot (fun n => ref3_SameLimbs n a b) (fun r => r = true ↔ a = b) := by
  unfold ref3_SameLimbs
  refine Tot.ite (fun g => Tot.ret ?_) (fun g => ?_)
  · have g : ((a.length : Nat) : Int) ≠ ((b.length : Nat) : Int) := by simpa using g
    exact ⟨fun h => (by cases h), fun h => by rw [h] at g; exact absurd rfl g⟩
  have g : a.length = b.length := by
    have : ((a.length : Nat) : Int) = ((b.length : Nat) : Int) := by simpa using g
    omega
  refine Tot.bindq (P := fun z => (z = .inl () ∧ a = b) ∨ (z = .inr false ∧ a ≠ b)) ?_ fun z hz => ?_
  · refine Tot.loop (fun st : Int => ∃ i : Nat, st = (i : Int) ∧ i ≤ a.length ∧ a.take i = b.take i) (fun st : Int => a.length - st.toNat) ⟨0, rfl, by omega, by simp⟩ fun st ⟨i, e, hi, ht⟩ => ?_
    subst e
    refine Tot.ite (fun d => ?_) (fun d => Tot.ret ?_)
    · have d : i < a.length := by have : ((i : Nat) : Int) < (a.length : Int) := of_decide_eq_true d; omega
      refine Tot.bind0 (R.idx_nat d) (Tot.bind0 (R.idx_nat (show i < b.length by omega)) (Tot.ite (fun q => Tot.ret ?_) (fun q => Tot.ret ?_)))
      · right
        refine ⟨rfl, fun e => ?_⟩
        have q : a[i] ≠ b[i] := by simpa using q
        exact q (by simp [e])
      · have q : a[i] = b[i] := by simpa using q
        have e1 : IntKind.i64.wrap ((i : Int) + 1) = ((i + 1 : Nat) : Int) := by rw [R.i64_small (by omega) (by omega)]; omega
        rw [e1]
        exact ⟨⟨i + 1, rfl, by omega, by rw [List.take_succ_eq_append_getElem d, List.take_succ_eq_append_getElem (show i < b.length by omega), ht, q]⟩, by omega⟩
    · have d : ¬ i < a.length := fun h => of_decide_eq_false d (by show ((i : Nat) : Int) < (a.length : Int); omega)
      left
      rw [List.take_of_length_le (by omega), List.take_of_length_le (by omega)] at ht
      exact ⟨rfl, ht⟩
  · rcases hz with ⟨hz, e⟩ | ⟨hz, e⟩
    · subst hz; exact Tot.contl (Tot.ret ⟨fun _ => e, fun _ => rfl⟩)
    · subst hz; exact Tot.contr ⟨fun h => (by cases h), fun h => absurd h e⟩
theorem SameInts_any (a b : Bool × List Int) (h : a.2.length ≤ 1048576) : Tot (fun n => ref3_SameInts n a b) (fun r => r = true ↔ a = b) := by
  unfold ref3_SameInts
  refine Tot.bindq (P := fun r => r = true ↔ a = b) (Tot.ite (fun g => ?_) (fun g => Tot.ret ?_)) fun r hr => Tot.ret hr
  · have g : a.1 = b.1 := by simpa using g
    refine Tot.bindq (SameLimbs_any a.2 b.2 h) fun r hr => Tot.ret (hr.trans ?_)
    exact ⟨fun e => Prod.ext g e, fun e => by rw [e]⟩
  · have g : ¬ a.1 = b.1 := by simpa using g
    exact ⟨fun h => (by cases h), fun e => absurd (by rw [e]) g⟩
end Go.Gv.P
namespace Go.Gv.P
open Go Go.Gv Go.Gv.D Go.Gv.R Go.Gv.RI
set_option maxRecDepth 100000
theorem parts_mem : ∀ {l : List Fld} {vs : List Val} {ps : List (List UInt8)}, parts l vs = some ps → vs.length = nv l → ∀ v ∈ vs, ∃ x ∈ l, vldV v = true ∧ (pkF x v).2 = 0
  | [], vs, ps, h, hn, v, hv => by
    have : vs = [] := List.length_eq_zero_iff.1 hn
    subst this; cases hv
  | x :: t, vs, ps, h, hn, v, hv => by
    have hnv : nv (x :: t) = (if x.1 ≠ 120 then 1 else 0) + nv t := rfl
    rw [hnv] at hn
    rw [parts_cons] at h
    by_cases d : x.1 = 120
    · rw [if_pos d] at h
      rw [if_neg (fun h => h d), Nat.zero_add] at hn
      obtain ⟨qs, e1, _⟩ := Option.map_eq_some_iff.1 h
      obtain ⟨y, hy, h2⟩ := parts_mem e1 hn v hv
      exact ⟨y, List.mem_cons_of_mem _ hy, h2⟩
    · rw [if_neg d] at h
      rw [if_pos d] at hn
      match vs, h, hn, hv with
      | u :: vs, h, hn, hv =>
        simp only [List.length_cons] at h hn
        by_cases z : vldV u = true ∧ (pkF x u).2 = 0
        · rw [if_pos z] at h
          obtain ⟨qs, e1, _⟩ := Option.map_eq_some_iff.1 h
          rcases List.mem_cons.1 hv with e | e
          · subst e; exact ⟨x, List.mem_cons_self .., z⟩
          · obtain ⟨y, hy, h2⟩ := parts_mem e1 (by omega) v e
            exact ⟨y, List.mem_cons_of_mem _ hy, h2⟩
        · rw [if_neg z] at h; cases h
theorem nrm_same {x : Fld} {v : Val} (hi : P.okI v.2.1) (hv : vldV v = true) (hz : (pkF x v).2 = 0) : (nrm v).1 = v.1 ∧ (v.1 = 2 → (nrm v).2.1 = v.2.1) ∧ (v.1 = 5 → (nrm v).2.2.2.1 = v.2.2.2.1) ∧ (v.1 = 1 → (nrm v).2.2.2.2 = v.2.2.2.2) := by
  have hc : v.1 = kindF x.1.toNat := by
    apply Classical.byContradiction
    intro h
    have : pkF x v = ([], 13) := by unfold pkF; rw [if_pos h]
    rw [this] at hz; cases hz
  have gn : ¬ v.1 ≠ kindF x.1.toNat := fun h => h hc
  unfold nrm
  by_cases h5 : v.1 = 5
  · rw [if_pos h5]
    exact ⟨h5.symm, fun h => by omega, fun _ => rfl, fun h => by omega⟩
  rw [if_neg h5]
  by_cases h1 : v.1 = 1
  · rw [if_pos h1]
    exact ⟨h1.symm, fun h => by omega, fun h => by omega, fun _ => rfl⟩
  rw [if_neg h1]
  have hk : x.1.toNat ≠ 115 ∧ x.1.toNat ≠ 112 ∧ x.1.toNat ≠ 63 := by
    unfold kindF at hc
    refine ⟨fun e => ?_, fun e => ?_, fun e => ?_⟩
    · rw [if_pos (.inl e)] at hc; exact h5 hc
    · rw [if_pos (.inr e)] at hc; exact h5 hc
    · rw [if_neg (by omega), if_pos e] at hc; exact h1 hc
  have h2 : v.1 = 2 := by rw [hc]; unfold kindF; rw [if_neg (by omega), if_neg hk.2.2]
  have hvl : vld v.2.1 = true := by unfold vldV at hv; rwa [if_pos h2] at hv
  have hl : v.2.1.2.length ≤ 2 := by
    unfold pkF at hz
    rw [if_neg gn, if_neg hk.1, if_neg hk.2.1, if_neg hk.2.2] at hz
    split at hz
    · split at hz
      · rename_i q; exact q.1
      · cases hz
    · split at hz
      · rename_i q; exact q.1
      · cases hz
  obtain ⟨e1, _⟩ := iv2_spec hi hvl hl
  exact ⟨h2.symm, fun _ => e1.symm, fun h => by omega, fun h => by omega⟩
theorem nrm_small (v : Val) : (nrm v).2.1.2.length ≤ 1048576 := by
  unfold nrm
  split
  · exact Nat.zero_le _
  split
  · exact Nat.zero_le _
  · exact Nat.le_trans (lim_len _) (by decide)
theorem PackingPacks_tot {l : List Fld} {vs : List Val} (hl : l.length ≤ 1048576) (ho : ∀ x ∈ l, okF x) (hvl : vs.length ≤ 1048576) (hv : ∀ v ∈ vs, okVal v) : Tot (fun n => law4_PackingPacks n l vs) (· = true) := by
  unfold law4_PackingPacks
  refine Tot.bindq (Pack_spec hl ho hvl hv) fun r hr => Tot.bindq (Packed_spec hl ho hvl hv) fun r2 hr2 => ?_
  subst hr hr2
  refine Tot.bindq (P := (· = false)) (Tot.bindq packs_tot fun rp hrp => ?_) fun j hj => ?_
  · subst hrp
    refine Tot.if_ rfl (Tot.if_ (by simp) (Tot.bindq (SameBytes_tot _ _) fun r5 h5 => Tot.ret ?_))
    rw [h5]; simp
  subst hj
  refine Tot.if_ rfl (Tot.ite (fun g => Tot.ret ?_) (fun g => ?_))
  · have g : (packS l vs).2.1 ≠ 0 := by simpa using g
    rw [packS_err g]; rfl
  have g : (packS l vs).2.1 = 0 := by simpa using g
  obtain ⟨c1, hg, hn, ps, hps, hpk⟩ := packS_ok g
  generalize fbig l = bg at hg
  have hl100 : l.length ≤ 100 := check_len (by rw [c1])
  rw [hpk]
  have hpl := parts_len hps
  have hfl : ps.flatten.length ≤ 25600 := by have := flat_len (part_len hg ho hps); omega
  have hc0 : (check l).1 = 0 := by rw [c1]
  refine Tot.bindq (Sizes_tot hl ho) fun rs hrs => Tot.bindq (Unpack_gen hl ho (by show ps.flatten.length ≤ _; omega)) fun ru hru => ?_
  rw [if_neg (fun h => h hc0)] at hrs hru
  obtain ⟨lo, hi, q1, q2, q3⟩ := size_part hg ho hps 0 0 (by omega) (by omega)
  have hub : unp l 0 ps.flatten [] = (vs.map nrm, (0, 0)) := by rw [unp_back 0 [] hg ho hps, vals_map hn]; simp
  have hru : ru = (vs.map nrm, (0, 0)) := by rw [hru]; exact hub
  subst hru
  have q1 : szF (0, 0) l = ((lo : Int), (hi : Int)) := q1
  rw [q1] at hrs
  subst hrs
  refine Tot.bindq (P := (· = false)) ?_ fun j hj => ?_
  · refine Tot.if_ rfl (Tot.if_ rfl (Tot.if_ (decide_eq_false (by show ¬ ((ps.flatten.length : Nat) : Int) < (lo : Int); omega)) (Tot.if_ (decide_eq_false (by show ¬ ((ps.flatten.length : Nat) : Int) > (hi : Int); omega)) (Tot.ret ?_))))
    show ((((vs.map nrm).length : Nat) : Int) != ((vs.length : Nat) : Int)) = false
    rw [List.length_map]; simp
  subst hj
  refine Tot.if_ rfl ?_
  refine Tot.bindq (P := fun z => z = .inl ()) ?_ fun z hz => by subst hz; exact Tot.contl (Tot.ret rfl)
  refine Tot.loop (fun st : Int => ∃ i : Nat, st = (i : Int) ∧ i ≤ vs.length) (fun st : Int => vs.length - st.toNat) ⟨0, rfl, by omega⟩ fun st ⟨i, e, hi⟩ => ?_
  subst e
  refine Tot.ite (fun d => ?_) (fun d => Tot.ret rfl)
  have d : i < vs.length := by have : ((i : Nat) : Int) < (vs.length : Int) := of_decide_eq_true d; omega
  have hva : idx vs (i : Int) = some vs[i] := R.idx_nat d
  have hba : idx (vs.map nrm) (i : Int) = some (nrm vs[i]) := by rw [R.idx_nat (by rw [List.length_map]; exact d), List.getElem_map]
  obtain ⟨x, hx, hx1, hx2⟩ := parts_mem hps hn _ (List.getElem_mem d)
  have hvo := hv _ (List.getElem_mem d)
  generalize vs[i] = v at *
  obtain ⟨n1, n2, n3, n4⟩ := nrm_same hvo.1 hx1 hx2
  have e1 : IntKind.i64.wrap ((i : Int) + 1) = ((i + 1 : Nat) : Int) := by rw [R.i64_small (by omega) (by omega)]; omega
  refine Tot.bindq (P := (· = false)) ?_ fun j hj => by
    subst hj
    refine Tot.if_ rfl (Tot.ret ?_)
    rw [e1]
    exact ⟨⟨i + 1, rfl, by omega⟩, by omega⟩
  have t5 : (nrm v).2.2.2.1.toList ≠ v.2.2.2.1.toList → (v.1 == 5) = false := fun h => beq_f fun e => h (by rw [n3 e])
  have r1 : (nrm v).2.2.2.2 ≠ v.2.2.2.2 → (v.1 == 1) = false := fun h => beq_f fun e => h (n4 e)
  refine Tot.bind0 hba (Tot.bind0 hva (Tot.if_ (by rw [n1]; simp) (Tot.bind0 hba (Tot.bind0 hva (Tot.bindq (SameInts_any _ _ (nrm_small v)) fun r hr => Tot.ite (fun q => ?_) (fun q => ?_))))))
  · have q : r = false := by simpa using q
    subst q
    have hk2 : (v.1 == 2) = false := beq_f fun e => by
      have := hr.2 (by
        have := n2 e
        rw [show ((nrm v).2.1.1, (nrm v).2.1.2) = (nrm v).2.1 from rfl, this])
      cases this
    refine Tot.bind0 hva (Tot.if_ hk2 (Tot.bind0 hba (Tot.bind0 hva (Tot.ite (fun q2 => ?_) (fun q2 => ?_)))))
    · have q2 : (nrm v).2.2.2.1.toList ≠ v.2.2.2.1.toList := by simpa using q2
      refine Tot.bind0 hva (Tot.if_ (t5 q2) (Tot.bind0 hba (Tot.bind0 hva (Tot.ite (fun q3 => Tot.bind0 hva (Tot.ret (r1 (by simpa using q3)))) (fun q3 => Tot.ret rfl)))))
    · exact Tot.bind0 hba (Tot.bind0 hva (Tot.ite (fun q3 => Tot.bind0 hva (Tot.ret (r1 (by simpa using q3)))) (fun q3 => Tot.ret rfl)))
  · refine Tot.bind0 hba (Tot.bind0 hva (Tot.ite (fun q2 => ?_) (fun q2 => ?_)))
    · have q2 : (nrm v).2.2.2.1.toList ≠ v.2.2.2.1.toList := by simpa using q2
      refine Tot.bind0 hva (Tot.if_ (t5 q2) (Tot.bind0 hba (Tot.bind0 hva (Tot.ite (fun q3 => Tot.bind0 hva (Tot.ret (r1 (by simpa using q3)))) (fun q3 => Tot.ret rfl)))))
    · exact Tot.bind0 hba (Tot.bind0 hva (Tot.ite (fun q3 => Tot.bind0 hva (Tot.ret (r1 (by simpa using q3)))) (fun q3 => Tot.ret rfl)))
theorem u32_okI {l : List Int} (h : ∀ x ∈ l, inK .u32 x) : ∀ x ∈ l, 0 ≤ x ∧ x < 4294967296 := fun x hx => by
  have : 0 ≤ x ∧ x ≤ 4294967295 := by simpa [inK, Lit.wf, IntKind.min, IntKind.max, IntKind.signed, IntKind.bits] using h x hx
  omega
theorem sumL_mem {α : Type} (m : α → Nat) {x : α} : ∀ {l : List α}, x ∈ l → m x + 1 ≤ sumL m l
  | y :: t, h => by
    unfold sumL
    simp only [List.map_cons, List.sum_cons]
    rcases List.mem_cons.1 h with e | e
    · subst e; omega
    · have := sumL_mem m e
      unfold sumL at this; omega
def mF (x : Int × Int × Bool) : Nat := 1 + (1 + 1) + 1
def mV (x : Val) : Nat := 1 + ((1 + sumL (fun _ => 1) x.2.1.2 + 1) + ((1 + sumL (fun _ => 1) x.2.2.1.2 + 1) + (x.2.2.2.1.size + 1 + 1))) + 1
theorem PackingPacks_said (l : List (Int × Int × Bool)) (vs : List (Int × (Bool × (List Int)) × (Bool × (List Int)) × ByteArray × Int)) (hl : (∀ x ∈ l, (fun x => (inK .u8) x.1 ∧ (fun x => (inK .i64) x.1 ∧ (fun _ => True) x.2) x.2) x) ∧ l.length ≤ maxLen)
    (hv : (∀ x ∈ vs, (fun x => (inK .i64) x.1 ∧ (fun x => (fun x => (fun _ => True) x.1 ∧ (fun xs => (∀ x ∈ xs, (inK .u32) x) ∧ xs.length ≤ maxLen) x.2) x.1 ∧ (fun x => (fun x => (fun _ => True) x.1 ∧ (fun xs => (∀ x ∈ xs, (inK .u32) x) ∧ xs.length ≤ maxLen) x.2) x.1 ∧ (fun x => (fun s => s.size ≤ maxLen) x.1 ∧ (inK .i64) x.2) x.2) x.2) x.2) x) ∧ vs.length ≤ maxLen)
    (hb : (sumL (fun x => (fun x => (fun _ => 1) x.1 + (fun x => (fun _ => 1) x.1 + (fun _ => 1) x.2) x.2) x + 1)) l + (sumL (fun x => (fun x => (fun _ => 1) x.1 + (fun x => (fun x => (fun x => (fun _ => 1) x.1 + (sumL (fun _ => 1)) x.2) x + 1) x.1 + (fun x => (fun x => (fun x => (fun _ => 1) x.1 + (sumL (fun _ => 1)) x.2) x + 1) x.1 + (fun x => (fun s => s.size + 1) x.1 + (fun _ => 1) x.2) x.2) x.2) x.2) x + 1)) vs ≤ 1048576) : Tot (fun n => law4_PackingPacks n l vs) (· = true) := by
  have hb : sumL mF l + sumL mV vs ≤ 1048576 := hb
  have h1 := sumL_len mF (fun x => by unfold mF; omega) l
  have h2 := sumL_len mV (fun x => by unfold mV; omega) vs
  refine PackingPacks_tot (by omega) (fun x hx => u8_okF (hl.1 x hx).1) (by omega) (fun v hv' => ⟨u32_okI (hv.1 v hv').2.1.2.1, ?_⟩)
  have h3 := sumL_mem mV hv'
  have h4 : v.2.2.2.1.size ≤ mV v := by unfold mV; omega
  omega
end Go.Gv.P

