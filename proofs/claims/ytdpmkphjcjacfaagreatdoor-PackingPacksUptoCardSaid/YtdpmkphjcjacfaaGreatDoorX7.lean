import Derived.Test.YtdpmkphjcjacfaaGreatDoorX3
set_option linter.all false
namespace Go.Gv.P
open Go Go.Gv Go.Gv.D Go.Gv.R Go.Gv.RI
set_option maxRecDepth 100000
theorem neg_iff {a : Bool × List Int} (h : RI.OkI a) : a.1 = decide (ival a < 0) := by
  have h1 := val_bound h.1.1
  unfold ival
  cases ha : a.1
  · rw [if_neg (by decide)]; exact (decide_eq_false (by omega)).symm
  · rw [if_pos rfl]
    have hne : a.2 ≠ [] := fun e => by have := h.2 e; rw [ha] at this; cases this
    have h2 := val_big h.1.1 h.1.2.1 hne
    have h3 : (0 : Int) < 4294967296 ^ (a.2.length - 1) := Int.pow_pos (by decide)
    exact (decide_eq_true (by omega)).symm
theorem inRange_abs {s : Bool} {n : Nat} {v : Int} (hn : n = 1 ∨ n = 2 ∨ n = 4 ∨ n = 8) (h : inRange s n v) : (v.natAbs : Int) < 18446744073709551616 := by
  unfold inRange at h
  rcases hn with e | e | e | e <;> subst e <;> split at h <;> simp only [Nat.reduceMul, Nat.reduceSub, Int.reducePow, Int.reduceNeg] at h <;> omega
theorem ordB_eq {big : Bool} {n : Nat} {v : Int} {m : Nat} (hn : n ≤ 8) (hm : (m : Int) % 256 ^ n = v % 256 ^ n) : ordB big n v = if big = true then (leB n m).reverse else leB n m := by
  have h : leB n (v % 18446744073709551616).toNat = leB n m := by
    rw [← leB_mod n m, ← leB_mod n (v % 18446744073709551616).toNat]
    congr 1
    have h1 : (18446744073709551616 : Int) = 256 ^ n * 256 ^ (8 - n) := by rw [← Int.pow_add, show n + (8 - n) = 8 by omega]; rfl
    have h2 : (v % 18446744073709551616) % 256 ^ n = v % 256 ^ n := Int.emod_emod_of_dvd _ (by rw [h1]; exact Int.dvd_mul_right _ _)
    have h3 := Int.emod_nonneg v (show (18446744073709551616 : Int) ≠ 0 by decide)
    have h4 : (((v % 18446744073709551616).toNat % 256 ^ n : Nat) : Int) = ((m % 256 ^ n : Nat) : Int) := by
      rw [Int.natCast_emod, Int.natCast_emod, Int.toNat_of_nonneg h3]
      have : ((256 ^ n : Nat) : Int) = 256 ^ n := by simp
      rw [this, h2, hm]
    exact Int.ofNat.inj h4
  unfold ordB
  rw [h]
theorem rpacked_tot {x : Fld} {b : Bool} (hg : good b x) (ho : okF x) {v : Val} (hi : P.okI v.2.1) (ht : v.2.2.2.1.size ≤ 1048576) (h120 : x.1.toNat ≠ 120) :
    Tot (fun fuel => ref4_packed fuel x v) (· = if vldV v = false then ([], 6) else pkF x v) := by
  obtain ⟨h1, h2, h3, hk⟩ := kindsF hg ho
  have e115 : (x.1 == 115) = decide (x.1.toNat = 115) := by rw [Bool.eq_iff_iff]; simp; omega
  have e112 : (x.1 == 112) = decide (x.1.toNat = 112) := by rw [Bool.eq_iff_iff]; simp; omega
  have e63 : (x.1 == 63) = decide (x.1.toNat = 63) := by rw [Bool.eq_iff_iff]; simp; omega
  have e118 : (x.1 == 118) = decide (x.1.toNat = 118) := by rw [Bool.eq_iff_iff]; simp; omega
  unfold ref4_packed
  refine Tot.bindq (P := (· = (decide (x.1.toNat = 115) || decide (x.1.toNat = 112)))) (Tot.ite (fun g => Tot.ret ?_) (fun g => Tot.ret ?_)) fun j hj => ?_
  · rw [e115] at g; rw [g]; rfl
  · rw [e115] at g; rw [g, e112]; rfl
  subst hj
  refine Tot.bindq (P := (· = if x.1.toNat = 115 ∨ x.1.toNat = 112 then (5 : Int) else 2)) (Tot.ite (fun g => Tot.ret ?_) (fun g => Tot.ret ?_)) fun j hj => ?_
  · rw [if_pos (by simpa using g)]
  · rw [if_neg (by simpa using g)]
  subst hj
  refine Tot.bindq (P := (· = kindF x.1.toNat)) (Tot.ite (fun g => Tot.ret ?_) (fun g => Tot.ret ?_)) fun j hj => ?_
  · rw [e63] at g
    have g : x.1.toNat = 63 := by simpa using g
    unfold kindF; rw [if_neg (by omega), if_pos g]
  · rw [e63] at g
    have g : ¬ x.1.toNat = 63 := by simpa using g
    unfold kindF; rw [if_neg g]
  subst hj
  refine Tot.bindq (P := (· = (decide (v.1 = 2) && !vld v.2.1))) (Tot.ite (fun g => ?_) (fun g => Tot.ret ?_)) fun j hj => ?_
  · have g : v.1 = 2 := by simpa using g
    refine Tot.bindq (IntOk_tot _) fun r hr => Tot.ret ?_
    rw [hr, decide_eq_true g]; rfl
  · have g : ¬ v.1 = 2 := by simpa using g
    rw [decide_eq_false g]; rfl
  subst hj
  refine Tot.bindq (P := (· = !vldV v)) (Tot.ite (fun g => Tot.ret ?_) (fun g => ?_)) fun j hj => ?_
  · rw [g]
    have g : v.1 = 2 ∧ vld v.2.1 = false := by simpa using g
    unfold vldV; rw [if_pos g.1, g.2]; rfl
  · refine Tot.ite (fun g1 => ?_) (fun g1 => Tot.ret ?_)
    · have g1 : v.1 = 1 := by simpa using g1
      have hE : vldV v = (v.2.2.2.2 == 0 || v.2.2.2.2 == 1) := by unfold vldV; rw [if_neg (by omega), if_pos g1]
      rw [hE]
      refine Tot.ite (fun q => Tot.ret ?_) (fun q => Tot.ret ?_)
      · have q : ¬ v.2.2.2.2 = 0 := by simpa using q
        rw [beq_f q]; rfl
      · have q : v.2.2.2.2 = 0 := by simpa using q
        rw [beq_t q]; rfl
    · have g1 : ¬ v.1 = 1 := by simpa using g1
      unfold vldV
      by_cases g2 : v.1 = 2
      · rw [if_pos g2]
        rw [decide_eq_true g2, Bool.true_and] at g
        rw [g]
      · rw [if_neg g2, if_neg g1]; rfl
  subst hj
  refine Tot.ite (fun g => Tot.ret ?_) (fun g => ?_)
  · have g : vldV v = false := by simpa using g
    rw [if_pos g]
  have g : vldV v = true := by simpa using g
  rw [show (if vldV v = false then (([], 6) : List UInt8 × Int) else pkF x v) = pkF x v from if_neg (by rw [g]; decide)]
  refine Tot.ite (fun c => Tot.ret ?_) (fun c => ?_)
  · have c : v.1 ≠ kindF x.1.toNat := by simpa using c
    unfold pkF; rw [if_pos c]
  have c : v.1 = kindF x.1.toNat := by simpa using c
  have gn : ¬ v.1 ≠ kindF x.1.toNat := fun h => h c
  refine Tot.bindq (P := (· = (decide (x.1.toNat = 115) && decide (((v.2.2.2.1.size : Nat) : Int) ≠ x.2.1)))) (Tot.ite (fun q => ?_) (fun q => Tot.ret ?_)) fun j hj => ?_
  · rw [e115] at q
    refine Tot.some_bind (Tot.ret ?_)
    rw [q, Bool.true_and, Bool.eq_iff_iff]; simp
  · rw [e115] at q; rw [q]; rfl
  subst hj
  refine Tot.bindq (P := (· = ((decide (x.1.toNat = 115) && decide (((v.2.2.2.1.size : Nat) : Int) ≠ x.2.1)) || (decide (x.1.toNat = 112) && decide (255 < v.2.2.2.1.size))))) (Tot.ite (fun q => Tot.ret ?_) (fun q => Tot.ite (fun q2 => ?_) (fun q2 => Tot.ret ?_))) fun j hj => ?_
  · rw [q]; rfl
  · rw [e112] at q2
    refine Tot.some_bind (Tot.ret ?_)
    rw [q, q2, Bool.false_or, Bool.true_and, Bool.eq_iff_iff]; simp; omega
  · rw [e112] at q2; rw [q, q2]; rfl
  subst hj
  refine Tot.ite (fun q => Tot.ret ?_) (fun q => ?_)
  · rw [Bool.or_eq_true, Bool.and_eq_true, Bool.and_eq_true] at q
    unfold pkF
    rw [if_neg gn]
    rcases q with ⟨q1, q2⟩ | ⟨q1, q2⟩
    · rw [if_pos (of_decide_eq_true q1), if_pos (of_decide_eq_true q2)]
    · have q1 := of_decide_eq_true q1
      rw [if_neg (by omega), if_pos q1, if_pos (of_decide_eq_true q2)]
  rw [Bool.or_eq_false_iff, Bool.and_eq_false_iff, Bool.and_eq_false_iff] at q
  refine Tot.ite (fun d => Tot.ret ?_) (fun d => ?_)
  · have d : x.1.toNat = 115 := by rw [e115] at d; simpa using d
    rcases q.1 with q1 | q1
    · exact absurd d (of_decide_eq_false q1)
    · unfold pkF; rw [if_neg gn, if_pos d, if_neg (of_decide_eq_false q1)]
  have d : ¬ x.1.toNat = 115 := by rw [e115] at d; simpa using d
  refine Tot.ite (fun d2 => ?_) (fun d2 => ?_)
  · have d2 : x.1.toNat = 112 := by rw [e112] at d2; simpa using d2
    rcases q.2 with q1 | q1
    · exact absurd d2 (of_decide_eq_false q1)
    · have q1 := of_decide_eq_false q1
      have hu8 : u8 (IntKind.u8.wrap ((v.2.2.2.1.size : Nat) : Int)) = some v.2.2.2.1.size.toUInt8 := by rw [u8_small (by omega) (by omega), u8_ok (by omega)]
      refine Tot.bind0 hu8 (Tot.bind0 (app_ok (by rw [show (bytesOf v.2.2.2.1).length = v.2.2.2.1.size from rfl]; simp; omega)) (Tot.ret ?_))
      unfold pkF; rw [if_neg gn, if_neg d, if_pos d2, if_neg q1]; rfl
  have d2 : ¬ x.1.toNat = 112 := by rw [e112] at d2; simpa using d2
  refine Tot.ite (fun d3 => ?_) (fun d3 => ?_)
  · have d3 : x.1.toNat = 63 := by rw [e63] at d3; simpa using d3
    have hk1 : v.1 = 1 := by rw [c]; unfold kindF; rw [if_neg (by omega), if_pos d3]
    have hr : v.2.2.2.2 = 0 ∨ v.2.2.2.2 = 1 := by
      unfold vldV at g
      rw [if_neg (by omega), if_pos hk1] at g
      simpa using g
    obtain ⟨m, hm, hm2⟩ : ∃ m : Nat, v.2.2.2.2 = (m : Int) ∧ m < 256 := ⟨v.2.2.2.2.toNat, by omega, by omega⟩
    have hu8 : u8 (IntKind.u8.wrap v.2.2.2.2) = some (v.2.2.2.2.toNat).toUInt8 := by rw [hm, u8_small (by omega) (by omega), u8_ok (by omega)]; rfl
    refine Tot.bind0 hu8 (Tot.ret ?_)
    unfold pkF; rw [if_neg gn, if_neg d, if_neg d2, if_pos d3]
  have d3 : ¬ x.1.toNat = 63 := by rw [e63] at d3; simpa using d3
  have hk2 : v.1 = 2 := by rw [c]; unfold kindF; rw [if_neg (by omega), if_neg d3]
  have hvl : vld v.2.1 = true := by unfold vldV at g; rwa [if_pos hk2] at g
  have hO : RI.OkI (v.2.1.1, v.2.1.2) := vld_OkI hi hvl
  have hneg := neg_iff hO
  generalize hV : ival (v.2.1.1, v.2.1.2) = V at hneg
  have hw : 0 < wid x.1.toNat ∨ x.1.toNat = 118 := by
    rcases hk with ⟨k1, _⟩ | ⟨_, (⟨e, _⟩ | ⟨e, _⟩ | ⟨e, _⟩ | ⟨e, _, _⟩)⟩
    · exact .inl k1
    · exact .inr e
    · exact absurd e d2
    · exact absurd e d3
    · rcases e with e | e
      · exact absurd e d
      · exact absurd e h120
  refine Tot.bindq (rIntOf hO) fun a ⟨a1, a2⟩ => Tot.bindq (bounds_any h2 h1 hw) fun r ⟨r1, r2⟩ => ?_
  rw [hV] at a2
  refine Tot.bindq (P := (· = decide (V < loB x.1.toNat ∨ hiB x.1.toNat < V))) (Tot.bindq (rOrder a2 r1) fun o1 ho1 => Tot.ite (fun q => Tot.ret ?_) (fun q => Tot.bindq (rOrder a2 r2) fun o2 ho2 => Tot.ret ?_)) fun j hj => ?_
  · exact (decide_eq_true (.inl (ho1.1.1 (of_decide_eq_true q)))).symm
  · have q : ¬ V < loB x.1.toNat := fun h => of_decide_eq_false q (ho1.1.2 h)
    rw [decide_eq_decide]
    constructor
    · intro h
      right
      have h1 : ¬ V < hiB x.1.toNat := fun e => by have := ho2.1.2 e; omega
      have h2 : ¬ V = hiB x.1.toNat := fun e => by have := ho2.2.2 e; omega
      omega
    · intro h
      have h := h.resolve_left q
      have h1 : ¬ o2 < 0 := fun e => by have := ho2.1.1 e; omega
      have h2 : ¬ o2 = 0 := fun e => by have := ho2.2.1 e; omega
      omega
  subst hj
  refine Tot.ite (fun q => Tot.ret ?_) (fun q => ?_)
  · have q := of_decide_eq_true q
    unfold pkF
    rw [if_neg gn, if_neg d, if_neg d2, if_neg d3]
    by_cases e : x.1.toNat = 118
    · rw [if_pos e, if_neg]
      rintro ⟨l2, hr⟩
      have : iv2 v.2.1 = V := by rw [← hV]; exact iv2_ival l2
      rw [this] at hr
      rw [e] at q
      exact (rng_118 V).1 hr q
    · rw [if_neg e, if_neg]
      rintro ⟨l2, hr⟩
      have hn : (wid x.1.toNat).toNat = 1 ∨ (wid x.1.toNat).toNat = 2 ∨ (wid x.1.toNat).toNat = 4 ∨ (wid x.1.toNat).toNat = 8 := by have := wid_cases x.1.toNat; omega
      have : iv2 v.2.1 = V := by rw [← hV]; exact iv2_ival l2
      rw [this] at hr
      exact (rng_iff rfl hn e V).1 hr q
  have q := of_decide_eq_false q
  have hlen : v.2.1.2.length ≤ 2 := by
    apply Classical.byContradiction
    intro hc
    exact q (by rw [← hV]; exact far_out hO hc)
  have hiv : iv2 v.2.1 = V := by rw [← hV]; exact iv2_ival hlen
  have hbs := bnd_small x.1.toNat
  refine Tot.ite (fun d4 => ?_) (fun d4 => ?_)
  · have d4 : x.1.toNat = 118 := by rw [e118] at d4; simpa using d4
    rw [d4] at q
    have hpk : pkF x v = (vint 9 (zig V), 0) := by unfold pkF; rw [if_neg gn, if_neg d, if_neg d2, if_neg d3, if_pos d4, hiv, if_pos ⟨hlen, (rng_118 V).2 q⟩]
    rw [hpk]
    have hb1 : -9223372036854775808 ≤ V ∧ V ≤ 9223372036854775807 := by
      have h3 : loB 118 = -9223372036854775808 := rfl
      have h4 : hiB 118 = 9223372036854775807 := rfl
      omega
    refine Tot.bindq (rPlus a2 a2 (by omega) (by omega)) fun m hm => ?_
    refine Tot.bindq (P := fun j => Rep (j.1, j.2) (zig V : Int)) (Tot.ite (fun q2 => ?_) (fun q2 => Tot.ret ?_)) fun j hj => ?_
    · have q2 : V < 0 := by rw [a1, hneg] at q2; exact of_decide_eq_true q2
      refine Tot.bindq (rMinus hm) fun m2 hm2 => Tot.bindq (rNumber (by decide) (by decide)) fun m3 hm3 => Tot.bindq (rPlus hm2 hm3 (by omega) (by decide)) fun m4 hm4 => Tot.ret ?_
      have : (zig V : Int) = -(V + V) + -1 := by unfold zig; rw [if_pos q2]; omega
      rw [this]; exact hm4
    · have q2 : ¬ V < 0 := by rw [a1, hneg] at q2; exact of_decide_eq_false q2
      have : (zig V : Int) = V + V := by unfold zig; rw [if_neg q2]; omega
      rw [this]; exact hm
    have hz := zig_lt hb1.1 hb1.2
    have hjw : w j.2 = (zig V : Int) := by have := hj.abs; rw [this]; omega
    refine Tot.bindq (vloop_tot hz hj.1 hjw (hj.len (by omega))) fun z hz => ?_
    subst hz
    exact Tot.contr rfl
  · have d4 : ¬ x.1.toNat = 118 := by rw [e118] at d4; simpa using d4
    have hn : (wid x.1.toNat).toNat = 1 ∨ (wid x.1.toNat).toNat = 2 ∨ (wid x.1.toNat).toNat = 4 ∨ (wid x.1.toNat).toNat = 8 := by have := wid_cases x.1.toNat; omega
    have hwn : wid x.1.toNat = (((wid x.1.toNat).toNat : Nat) : Int) := by omega
    have hin := (rng_iff rfl hn d4 V).2 q
    have hpk : pkF x v = (ordB x.2.2 (wid x.1.toNat).toNat V, 0) := by unfold pkF; rw [if_neg gn, if_neg d, if_neg d2, if_neg d3, if_neg d4, hiv, if_pos ⟨hlen, hin⟩]
    rw [hpk]
    have habs := inRange_abs hn hin
    have hinr : V < 0 → -2 ^ (8 * (wid x.1.toNat).toNat - 1) ≤ V := by
      intro hlt
      unfold inRange at hin
      split at hin
      · exact hin.1
      · omega
    have hwt : Tot (fun n => ref4_widthOf n x.1) (· = wid x.1.toNat) := by
      have := widthOf_tot h2
      rwa [← h1] at this
    generalize hnn : (wid x.1.toNat).toNat = n at *
    have hpw : (256 : Int) ^ n = 2 ^ (8 * n) := by rcases hn with e | e | e | e <;> subst e <;> decide
    have hp2 : (2 : Int) ^ (8 * n) = 2 * 2 ^ (8 * n - 1) := by rcases hn with e | e | e | e <;> subst e <;> decide
    have hp3 : (2 : Int) ^ (8 * n) ≤ 18446744073709551616 := by rcases hn with e | e | e | e <;> subst e <;> decide
    have hp4 : (0 : Int) < 2 ^ (8 * n - 1) := Int.pow_pos (by decide)
    refine Tot.bindq hwt fun r hr => ?_
    rw [hwn] at hr
    subst hr
    have e8 : IntKind.i64.wrap (8 * (n : Int)) = ((8 * n : Nat) : Int) := by rw [R.i64_small (by omega) (by omega)]; omega
    refine Tot.bindq (P := fun j => ∃ m : Nat, Rep (j.1, j.2) (m : Int) ∧ (m : Int) < 18446744073709551616 ∧ (m : Int) % 256 ^ n = V % 256 ^ n) (Tot.ite (fun q2 => ?_) (fun q2 => Tot.ret ?_)) fun j ⟨m, hm, hm2, hm3⟩ => ?_
    · have q2 : V < 0 := by rw [a1, hneg] at q2; exact of_decide_eq_true q2
      have := hinr q2
      refine Tot.bindq (rNumber (by decide) (by decide)) fun m1 hm1 => ?_
      rw [e8]
      refine Tot.bindq (rMoved1 (n := 8 * n) hm1 (by omega)) fun m2 hm2 => Tot.bindq (rPlus a2 hm2 (by omega) (by omega)) fun m4 hm4 => Tot.ret ⟨(V + 2 ^ (8 * n)).toNat, ?_, by omega, ?_⟩
      · rw [Int.toNat_of_nonneg (by omega)]; exact hm4
      · rw [Int.toNat_of_nonneg (by omega), hpw, Int.add_emod_right]
    · have q2 : ¬ V < 0 := by rw [a1, hneg] at q2; exact of_decide_eq_false q2
      exact ⟨V.toNat, by rw [Int.toNat_of_nonneg (by omega)]; exact a2, by omega, by rw [Int.toNat_of_nonneg (by omega)]⟩
    have hjw : w j.2 = (m : Int) := by have := hm.abs; rw [this]; omega
    refine Tot.bindq (base256_tot (n := n) hm.1 hjw (hm.len (by omega)) (by omega)) fun l hl => ?_
    subst hl
    rw [ordB_eq (by omega) hm3]
    refine Tot.bindq (P := (· = if x.2.2 = true then (leB n m).reverse else leB n m)) (Tot.ite (fun q2 => ?_) (fun q2 => Tot.ret ?_)) fun r hr => Tot.ret (by rw [hr])
    · rw [if_pos q2]
      exact Tot.bindq (rev_tot (l := leB n m) (by rw [leB_len]; omega) (by rw [leB_len])) fun r hr => Tot.ret hr
    · rw [if_neg (by rw [q2]; decide)]
end Go.Gv.P
namespace Go.Gv.P
open Go Go.Gv Go.Gv.D Go.Gv.R Go.Gv.RI
set_option maxRecDepth 100000
theorem rAt_tot (a b : Int) : Tot (fun n => ref4_At n a b) (· = (a, b)) := by unfold ref4_At; exact Tot.ret rfl
theorem Packed_spec {l : List Fld} {vs : List Val} (hl : l.length ≤ 1048576) (ho : ∀ x ∈ l, okF x) (hvl : vs.length ≤ 1048576) (hv : ∀ v ∈ vs, okVal v) :
    Tot (fun fuel => ref4_Packed fuel l vs) (· = packS l vs) := by
  unfold ref4_Packed packS
  refine Tot.bindq (Fault_tot hl ho) fun r hr => ?_
  subst hr
  refine Tot.ite (fun g => Tot.ret ?_) (fun g => ?_)
  · have g : (check l).1 ≠ 0 := by simpa using g
    rw [if_pos g]
  have g : (check l).1 = 0 := by simpa using g
  rw [if_neg (fun h => h g)]
  have hgood := (check_zero g).2
  have hl100 := check_len g
  refine Tot.bindq (P := (· = ((nv l : Nat) : Int))) ?_ fun r hr => ?_
  · refine Tot.loop (fun st => ∃ i n : Nat, st = ((n : Int), (i : Int)) ∧ i ≤ l.length ∧ n ≤ i ∧ n + nv (l.drop i) = nv l) (fun st => l.length - st.2.toNat) ⟨0, 0, rfl, by omega, by omega, by simp⟩ fun st ⟨i, n, e, hi, hn, hv⟩ => ?_
    subst e
    refine Tot.ite (fun g => ?_) (fun g => Tot.ret ?_)
    · have g : (i : Int) < (l.length : Int) := of_decide_eq_true g
      have hil : i < l.length := by omega
      rw [drop_cons hil] at hv
      refine Tot.bind0 (R.idx_nat hil) ?_
      generalize l[i] = x at *
      have hv : n + ((if x.1 ≠ 120 then 1 else 0) + nv (l.drop (i + 1))) = nv l := hv
      refine Tot.bindq (P := (· = ((n + (if x.1 ≠ 120 then 1 else 0) : Nat) : Int))) (Tot.ite (fun g2 => Tot.ret ?_) (fun g2 => Tot.ret ?_)) fun j hj => Tot.ret ?_
      · have g2 : x.1 ≠ 120 := by simpa using g2
        rw [if_pos g2, R.i64_small (by omega) (by omega)]; rfl
      · have g2 : x.1 = 120 := by simpa using g2
        rw [if_neg (by omega)]; rfl
      · subst hj
        have e1 : IntKind.i64.wrap ((i : Int) + 1) = ((i + 1 : Nat) : Int) := by rw [R.i64_small (by omega) (by omega)]; omega
        rw [e1]
        refine ⟨⟨i + 1, n + (if x.1 ≠ 120 then 1 else 0), rfl, by omega, by split <;> omega, by omega⟩, by show l.length - (((i + 1 : Nat) : Int)).toNat < l.length - ((i : Int)).toNat; omega⟩
    · have g : ¬ (i : Int) < (l.length : Int) := of_decide_eq_false g
      rw [List.drop_of_length_le (by omega)] at hv
      show (n : Int) = _
      have : n + 0 = nv l := hv
      omega
  subst hr
  refine Tot.ite (fun g1 => ?_) (fun g1 => ?_)
  · have g1 : vs.length ≠ nv l := by
      have : ((nv l : Nat) : Int) ≠ ((vs.length : Nat) : Int) := by simpa using g1
      omega
    rw [if_pos g1]
    refine Tot.bindq (rAt_tot _ _) fun r hr => Tot.ret ?_
    subst hr; rfl
  have g1 : vs.length = nv l := by
    have : ((nv l : Nat) : Int) = ((vs.length : Nat) : Int) := by simpa using g1
    omega
  rw [if_neg (fun h => h g1)]
  refine Tot.bindq (P := fun z => (∃ o q, z = .inl (o, q) ∧ pks l vs 0 [] = (o, (0, 0))) ∨ z = .inr (pks l vs 0 [])) ?_ fun z hz => ?_
  · refine Tot.loop (fun st => ∃ i j : Nat, i ≤ l.length ∧ j ≤ vs.length ∧ (vs.drop j).length = nv (l.drop i) ∧ st.1.length ≤ 256 * i ∧ st.2.1 = (j : Int) ∧ st.2.2.1 = (i : Int) ∧ pks (l.drop i) (vs.drop j) j st.1 = pks l vs 0 []) (fun st => l.length - st.2.2.1.toNat)
      ⟨0, 0, by omega, by omega, by rw [List.drop_zero, List.drop_zero]; exact g1, by simp, rfl, rfl, rfl⟩ fun st ⟨i, j, hi, hj, hn, hlen, e1, e2, hp⟩ => ?_
    obtain ⟨out, jj, ii, ⟨f1, f2⟩⟩ := st
    simp only at e1 e2 hlen hp
    subst e1 e2
    refine Tot.ite (fun c => ?_) (fun c => Tot.ret ?_)
    · have c : (i : Int) < (l.length : Int) := of_decide_eq_true c
      have hil : i < l.length := by omega
      have hx := hgood _ (List.getElem_mem hil)
      have hxo := ho _ (List.getElem_mem hil)
      rw [drop_cons hil] at hn hp
      generalize hxx : l[i] = x at *
      have hidx : idx l (i : Int) = some x := by rw [R.idx_nat hil, hxx]
      have hnv : nv (x :: l.drop (i + 1)) = (if x.1 ≠ 120 then 1 else 0) + nv (l.drop (i + 1)) := rfl
      rw [hnv] at hn
      rw [pks_cons] at hp
      have e3 : IntKind.i64.wrap ((i : Int) + 1) = ((i + 1 : Nat) : Int) := by rw [R.i64_small (by omega) (by omega)]; omega
      refine Tot.bindq (P := fun z => (∃ o : List UInt8, ∃ j' : Nat, ∃ q, z = .inl (o, (j' : Int), q) ∧ j' ≤ vs.length ∧ (vs.drop j').length = nv (l.drop (i + 1)) ∧ o.length ≤ 256 * (i + 1) ∧ pks (l.drop (i + 1)) (vs.drop j') j' o = pks l vs 0 []) ∨ z = .inr (.inr (.inr (pks l vs 0 [])))) ?_ fun z hz => ?_
      · refine Tot.bind0 hidx (Tot.ite (fun d => ?_) (fun d => ?_))
        · have d : x.1 = 120 := by simpa using d
          rw [if_pos d] at hp
          rw [if_neg (fun h => h d), Nat.zero_add] at hn
          have hr := cnt_rng hx hxo d
          have hz : zeros x.2.1 = some (List.replicate x.2.1.toNat 0) := by unfold zeros; rw [if_pos ⟨by omega, by omega⟩]
          refine Tot.bind0 hidx (Tot.bind0 hz (Tot.bind0 (app_ok (by rw [List.length_replicate]; omega)) (Tot.ret (.inl ⟨_, j, (f1, f2), rfl, hj, hn, ?_, hp⟩))))
          show (out ++ List.replicate x.2.1.toNat 0).length ≤ 256 * (i + 1)
          rw [List.length_append, List.length_replicate]; omega
        · have d : x.1 ≠ 120 := by simpa using d
          rw [if_neg d] at hp
          rw [if_pos d] at hn
          have hjl : j < vs.length := by
            rw [List.length_drop] at hn; omega
          rw [drop_cons hjl] at hp
          have hvo := hv _ (List.getElem_mem hjl)
          have hidv : idx vs (j : Int) = some vs[j] := R.idx_nat hjl
          generalize vs[j] = v at *
          simp only at hp
          have e4 : IntKind.i64.wrap ((j : Int) + 1) = ((j + 1 : Nat) : Int) := by rw [R.i64_small (by omega) (by omega)]; omega
          refine Tot.bind0 hidx (Tot.bind0 hidv (Tot.bindq (rpacked_tot (v := v) hx hxo hvo.1 hvo.2 (by omega)) fun r hr => ?_))
          by_cases q : vldV v = false
          · rw [if_pos q] at hp hr
            subst hr
            refine Tot.it rfl (Tot.bindq (rAt_tot _ _) fun r hr => Tot.ret (.inr ?_))
            subst hr
            rw [← hp]
          · rw [if_neg q] at hp hr
            subst hr
            refine Tot.ite (fun u => ?_) (fun u => ?_)
            · have u : (pkF x v).2 ≠ 0 := by simpa using u
              rw [if_pos u] at hp
              refine Tot.bindq (rAt_tot _ _) fun r hr => Tot.ret (.inr ?_)
              subst hr
              rw [← hp]
            · have u : (pkF x v).2 = 0 := by simpa using u
              rw [if_neg (fun h => h u)] at hp
              have hl256 := pkF_len hx hxo v
              refine Tot.bind0 (app_ok (by show out.length + (pkF x v).1.length ≤ _; omega)) (Tot.ret (.inl ⟨_, j + 1, (f1, f2), ?_, by omega, ?_, ?_, hp⟩))
              · rw [e4]
              · rw [List.length_drop] at hn ⊢; omega
              · show (out ++ _).length ≤ _; rw [List.length_append]; omega
      · rcases hz with ⟨o, j', q, hz, z1, z2, z3, z4⟩ | hz
        · subst hz
          refine Tot.contl (Tot.ret ?_)
          rw [e3]
          exact ⟨⟨i + 1, j', by omega, z1, z2, z3, rfl, rfl, z4⟩, by show l.length - (((i + 1 : Nat) : Int)).toNat < l.length - ((i : Int)).toNat; omega⟩
        · subst hz
          exact Tot.contr (.inr rfl)
    · have c : ¬ (i : Int) < (l.length : Int) := of_decide_eq_false c
      rw [List.drop_of_length_le (by omega)] at hp
      exact .inl ⟨out, (f1, f2), rfl, hp.symm⟩
  · rcases hz with ⟨o, q, hz, h⟩ | hz
    · subst hz
      refine Tot.contl (Tot.ret ?_)
      rw [h]
    · subst hz
      exact Tot.contr rfl
end Go.Gv.P

