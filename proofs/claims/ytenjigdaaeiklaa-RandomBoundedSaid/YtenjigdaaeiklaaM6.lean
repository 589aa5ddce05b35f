import Derived.Test.YtenjigdaaeiklaaM5
set_option linter.all false
namespace Go.Gv.R
open Go Go.Gv Go.Gv.D

theorem vbits_false (n : Nat) (l : List Bool) : vbits (List.replicate n false ++ l) = 2 ^ n * vbits l := by
  rw [vbits_append, vbits_zeros, List.length_replicate]; omega
theorem Moved_tot {a : List Int} (ha : Ok3 a) (la : a.length ≤ 20000) {n : Nat} (hn : n ≤ 60000) : Tot (fun fuel => ref3_Moved fuel a n) (fun r => Ok3 r ∧ w r = w a * 2 ^ n) := by
  unfold ref3_Moved
  refine Tot.bindq (Ones_tot ha) fun o ⟨o1, o2, o3⟩ => ?_
  by_cases h0 : o = []
  · subst h0
    refine Tot.it rfl (Tot.ret ⟨Ok3.nil, ?_⟩)
    have : w a = 0 := by rw [← o1]; rfl
    rw [this]; simp [w, vb]
  · have hp : 0 < o.length := by
      cases o with
      | nil => exact absurd rfl h0
      | cons => simp
    have h1 : (((o.length : Nat) : Int) == 0) = false := beq_eq_false_iff_ne.2 (by omega)
    have h2 : IntKind.i64.wrap (0 - ((o.length : Nat) : Int)) = - (o.length : Int) := by rw [i64_small (by omega) (by omega)]; omega
    refine Tot.if_ (by rw [h1, h2, decide_eq_false (by omega)]; rfl) (Tot.if_ (decide_eq_false (by omega)) ?_)
    refine Tot.bind0 (a := List.replicate n false) (by unfold mkC; rw [if_pos ⟨by omega, by omega, by omega⟩]; simp) (Tot.bind0 (app_ok (by simp; omega)) ?_)
    refine Tot.bindq (Binary_tot (by simp; omega)) fun r ⟨r1, r2⟩ => Tot.ret ⟨r1, ?_⟩
    rw [r2, vbits_false, o1, Int.mul_comm]

theorem IMoved_tot {a : Bool × List Int} (h1 : a.1 = false) (ha : Ok3 a.2) (la : a.2.length ≤ 20000) {n : Nat} (hn : n ≤ 60000) : Tot (fun fuel => ref3_Int_Moved fuel a n) (fun r => r.1 = false ∧ Ok3 r.2 ∧ w r.2 = w a.2 * 2 ^ n) := by
  obtain ⟨x, l⟩ := a
  have h1 : x = false := h1
  subst h1
  unfold ref3_Int_Moved
  refine Tot.bindq (P := fun j => j = true) (Tot.it rfl (Tot.ret rfl)) fun j hj => ?_
  subst hj
  exact Tot.it rfl (Tot.bindq (Moved_tot ha la hn) fun r ⟨r1, r2⟩ => Tot.ret ⟨rfl, r1, r2⟩)

theorem Faults_tot {l : List (Bool × List Int)} (h : ∀ a ∈ l, okI a = true) (hl : l.length ≤ 1000) : Tot (fun fuel => ref3_Faults fuel l) (· = (0, 0)) := by
  unfold ref3_Faults
  refine Tot.bindq (P := fun x => ∃ y, x = .inl y) ?_ fun x ⟨y, hx⟩ => by subst hx; exact Tot.contl (Tot.ret rfl)
  refine Tot.loop (fun st => ∃ i : Nat, st.1 = (i : Int) ∧ i ≤ l.length) (fun st => l.length - st.1.toNat) ⟨0, rfl, by omega⟩ fun st ⟨i, e, hi⟩ => ?_
  rw [e]
  refine Tot.ite (fun hh => ?_) (fun hh => Tot.ret ⟨_, rfl⟩)
  have hh : i < l.length := by have : ((i : Nat) : Int) < (l.length : Int) := of_decide_eq_true hh; omega
  refine Tot.bind0 (idx_nat hh) (Tot.bind0 (a := true) (by
    show ref3_IntOk 0 l[i] = _
    rw [IntOk_eq, h _ (List.getElem_mem hh)]) (Tot.if_ rfl (Tot.ret ?_)))
  have hw : IntKind.i64.wrap ((i : Int) + 1) = ((i + 1 : Nat) : Int) := by rw [i64_small (by omega) (by omega)]; omega
  show (∃ j : Nat, IntKind.i64.wrap ((i : Int) + 1) = (j : Int) ∧ j ≤ l.length) ∧ l.length - (IntKind.i64.wrap ((i : Int) + 1)).toNat < l.length - ((i : Nat) : Int).toNat
  rw [hw]
  exact ⟨⟨i + 1, rfl, by omega⟩, by omega⟩

/-! ### choices -/
theorem sum_drop {l : List Int} {i : Nat} (h : i < l.length) : (l.drop i).sum = l[i] + (l.drop (i + 1)).sum := by
  rw [List.drop_eq_getElem_cons h, List.sum_cons]
theorem sum_snoc (a : List Int) (x : Int) : (a ++ [x]).sum = a.sum + x := by
  induction a with
  | nil => simp
  | cons y a ih => simp only [List.cons_append, List.sum_cons, ih]; omega
theorem sum_take {l : List Int} {i : Nat} (h : i < l.length) : (l.take (i + 1)).sum = (l.take i).sum + l[i] := by
  rw [List.take_succ_eq_append_getElem h, sum_snoc]
def Chosen (l : List Int) (i : Int) : Prop := ∃ j : Nat, i = (j : Int) ∧ ∃ h : j < l.length, 0 < l[j]
theorem Choose_tot {s c : Int} (h : (c.tmod 2 == 0) = false) (hc : U c) (hs : U s) (l : List Int) : Tot (fun fuel => random_Choose fuel (s, c) l) (fun r => (r.2.2.1 ≠ 0 ∧ r.1 = 0) ∨ (r.2.2.1 = 0 ∧ Chosen l r.1)) := by
  unfold random_Choose
  refine Tot.bind0 (a := (some (s, c), (0, 0))) (open_odd 0 s c h) ?_
  refine Tot.opt (fun e => by cases e) fun y e => ?_
  cases e
  refine Tot.if_ rfl (Tot.ite (fun hl => Tot.ret (.inl ⟨by show (2 : Int) ≠ 0; decide, rfl⟩)) (fun hl => ?_))
  have hl : l.length ≤ 1000 := by have : ¬ ((l.length : Nat) : Int) > 1000 := of_decide_eq_false hl; omega
  refine Tot.bindq (P := fun x => match x with | .inl st => st.1 = l.sum ∧ (∀ i (h : i < l.length), 0 ≤ l[i] ∧ l[i] ≤ 1000000) | .inr r => r.2.2.1 ≠ 0 ∧ r.1 = 0) ?_ fun x hx => ?_
  · refine Tot.loop (fun st : Int × Int × (Int × Int) × (Int × Int) => ∃ i : Nat, st.2.1 = (i : Int) ∧ i ≤ l.length ∧ st.1 = (l.take i).sum ∧ (0 : Int) ≤ st.1 ∧ st.1 ≤ (1000000 : Int) * (i : Int) ∧ ∀ j (h : j < l.length), j < i → 0 ≤ l[j] ∧ l[j] ≤ 1000000) (fun st => l.length - st.2.1.toNat)
      ⟨0, rfl, by omega, rfl, Int.le_refl 0, by show (0 : Int) ≤ _; omega, fun j _ h => by omega⟩ fun st ⟨i, e, hi, g1, g2, g3, g4⟩ => ?_
    obtain ⟨sm, k, z⟩ := st
    simp only at e g1 g2 g3
    subst e
    refine Tot.ite (fun hh => ?_) (fun hh => ?_)
    · have hh : i < l.length := by have : ((i : Nat) : Int) < (l.length : Int) := of_decide_eq_true hh; omega
      refine Tot.bind0 (idx_nat hh) (Tot.ite (fun hb => Tot.ret ⟨by show (4 : Int) ≠ 0; decide, rfl⟩) (fun hb => Tot.ret ?_))
      simp only [Bool.or_eq_false_iff, decide_eq_false_iff_not] at hb
      have hw : IntKind.i64.wrap ((i : Int) + 1) = ((i + 1 : Nat) : Int) := by rw [i64_small (by omega) (by omega)]; omega
      have hw2 : IntKind.i64.wrap (sm + l[i]) = sm + l[i] := i64_small (by omega) (by omega)
      simp only [hw, hw2]
      refine ⟨⟨i + 1, rfl, by omega, by rw [g1, sum_take hh], by omega, by omega, fun j hj hji => ?_⟩, by show l.length - (((i + 1 : Nat) : Int)).toNat < l.length - ((i : Nat) : Int).toNat; omega⟩
      rcases Nat.lt_or_eq_of_le (Nat.lt_succ_iff.1 hji) with h1 | h1
      · exact g4 j hj h1
      · subst h1; omega
    · have hh : i = l.length := by have : ¬ ((i : Nat) : Int) < (l.length : Int) := of_decide_eq_false hh; omega
      subst hh
      rw [List.take_length] at g1
      exact Tot.ret ⟨g1, fun j hj => g4 j hj hj⟩
  · cases x with
    | inr r => exact Tot.contr (.inl hx)
    | inl st =>
      obtain ⟨h1, h2⟩ := hx
      have hpos : ∀ k, k ≤ l.length → 0 ≤ (l.drop (l.length - k)).sum ∧ (l.drop (l.length - k)).sum ≤ 1000000 * k := by
        intro k
        induction k with
        | zero => intro _; simp
        | succ k ih =>
          intro hk
          have hlt : l.length - (k + 1) < l.length := by omega
          rw [sum_drop hlt, show l.length - (k + 1) + 1 = l.length - k by omega]
          have := ih (by omega)
          have := h2 _ hlt
          omega
      have hsum := hpos l.length (Nat.le_refl _)
      rw [Nat.sub_self, List.drop_zero] at hsum
      refine Tot.contl (Tot.ite (fun hz => Tot.ret (.inl ⟨by show (10 : Int) ≠ 0; decide, rfl⟩)) (fun hz => ?_))
      have hz : st.1 ≠ 0 := by simpa using hz
      rw [h1] at hz ⊢
      refine Tot.bindq (small_tot (odd_of' h hc) hs (n := l.sum) (by omega) (by omega)) fun r ⟨r1, r2, r3, r4⟩ => ?_
      refine Tot.bindq (P := fun i => Chosen l i) ?_ fun i hi => Tot.ret (.inr ⟨rfl, hi⟩)
      refine Tot.loop (fun st => ∃ i : Nat, st.2 = (i : Int) ∧ i ≤ l.length ∧ 0 ≤ st.1 ∧ st.1 < (l.drop i).sum) (fun st => l.length - st.2.toNat) ⟨0, rfl, by omega, r1, by simpa using r2⟩ fun st ⟨i, e, hi, g1, g2⟩ => ?_
      obtain ⟨x, k⟩ := st
      simp only at e g1 g2
      subst e
      have hlt : i < l.length := by
        rcases Nat.lt_or_ge i l.length with h | h
        · exact h
        · rw [List.drop_eq_nil_of_le h] at g2
          simp at g2
          omega
      have hsd := sum_drop hlt
      have hb := h2 i hlt
      refine Tot.bind0 (idx_nat hlt) (Tot.ite (fun hh => ?_) (fun hh => ?_))
      · have hh : x ≥ l[i] := of_decide_eq_true hh
        refine Tot.bind0 (idx_nat hlt) (Tot.ret ?_)
        have hbig := hpos (l.length - i) (by omega)
        rw [show l.length - (l.length - i) = i by omega] at hbig
        have hw : IntKind.i64.wrap ((i : Int) + 1) = ((i + 1 : Nat) : Int) := by rw [i64_small (by omega) (by omega)]; omega
        have hw2 : IntKind.i64.wrap (x - l[i]) = x - l[i] := i64_small (by omega) (by omega)
        simp only [hw, hw2]
        exact ⟨⟨i + 1, rfl, by omega, by omega, by omega⟩, by show l.length - (((i + 1 : Nat) : Int)).toNat < l.length - ((i : Nat) : Int).toNat; omega⟩
      · have hh : ¬ x ≥ l[i] := of_decide_eq_false hh
        refine Tot.ret ⟨i, rfl, hlt, by omega⟩

theorem RandomBounded_law (g : Int × Int) (bits : Int) (lo hi : Bool × List Int) (ws : List Int) (hg1 : U g.1) (hg2 : U g.2) (hd : Dg lo.2) (hd' : Dg hi.2) : Tot (fun fuel => law4_RandomBounded fuel g bits lo hi ws) (· = true) := by
  obtain ⟨s, c⟩ := g
  have hg1 : U s := hg1
  have hg2 : U c := hg2
  unfold law4_RandomBounded
  refine Tot.bindq draws_ok fun r hr => ?_
  subst hr
  refine Tot.if_ rfl (Tot.ite (fun h => Tot.ret rfl) (fun hc => ?_))
  refine Tot.bindq (P := fun x => x = .inl ()) ?_ fun x hx => ?_
  · refine Tot.ite (fun hb => ?_) (fun hb => Tot.ret rfl)
    simp only [Bool.and_eq_true, decide_eq_true_eq] at hb
    obtain ⟨n, rfl⟩ : ∃ n : Nat, bits = (n : Int) := ⟨bits.toNat, by omega⟩
    have hn : n < 4000 := by omega
    refine Tot.bindq (Number_tot (n := 1) (by decide) (by decide)) fun o ⟨o1, o2, o3⟩ => ?_
    have o1 : o.1 = false := o1
    have hol : o.2.length ≤ 20000 := by
      have := (o2.lenBig).2 (by rw [o3]; decide)
      omega
    refine Tot.bindq (IMoved_tot (a := (o.1, o.2)) o1 o2 hol (n := n) (by omega)) fun m ⟨m1, m2, m3⟩ => ?_
    have m3 : w m.2 = 2 ^ n := by
      have e : w (o.1, o.2).2 = 1 := by show w o.2 = 1; rw [o3]; rfl
      rw [m3, e, Int.one_mul]
    refine Tot.bindq (Limbs_tot m2) fun l ⟨l1, l2, l3, l4⟩ => ?_
    rw [m3] at l3
    have hpow : (2 : Int) ^ n < 4294967296 ^ 126 := by
      rw [show (4294967296 : Int) = 2 ^ 32 by decide, ← Int.pow_mul]
      have h1 : (2 : Int) ^ n < 2 ^ (n + 1) := by rw [Int.pow_succ]; have := pow_pos' (b := 2) (by decide) n; omega
      have h2 := vb_mono (b := 2) (by decide) (show n + 1 ≤ 32 * 126 by omega)
      omega
    have hpos : (0 : Int) < 2 ^ n := Int.pow_pos (by decide)
    have hl128 : l.length ≤ 128 := by
      rcases Nat.lt_or_ge 128 l.length with h | h
      · have h1 := val_big l1 l2 (fun e => by subst e; simp at h)
        have h2 := pow_mono (show 126 ≤ l.length - 1 by omega)
        omega
      · exact h
    have hl : OkL l := ⟨l1, l2, hl128⟩
    have hl0 : l ≠ [] := fun e => by subst e; simp [val] at l3; omega
    have hok : okI (false, l) = true := (OkI_iff (a := (false, l)) l1).2 ⟨hl, fun _ => rfl⟩
    refine Tot.bindq (Below_tot hc hg2 hg1 (n := (false, l)) l1) fun q hq => ?_
    unfold BelowR at hq
    rw [hok] at hq
    simp only [Bool.true_eq_false, if_false, hl0, or_self, Bool.false_eq_true] at hq
    obtain ⟨q1, q2, q3, q4⟩ := hq
    obtain ⟨k1, k2, k3⟩ := q4.ok
    -- the first try is taken
    have hstate : q.2.1 = (it c s ((n + 31) / 32), c) := by
      obtain ⟨size, m', p1, p2, p3, p4, p5, p6⟩ := q4
      have hlen : Len (val l - 1) (n : Int) := by
        rw [l3]
        refine ⟨by omega, by simp; omega, fun hp => ?_⟩
        simp only [Int.toNat_natCast]
        have : (2 : Int) ^ n = 2 ^ (n - 1) * 2 := by rw [← Int.pow_succ]; congr 1; omega
        have := pow_pos' (b := 2) (by decide) (n - 1)
        omega
      have hsz : (size : Int) = n := Len.unique p1 hlen (by omega)
      have hsz : size = n := by omega
      subst hsz
      have hm0 : m' = 0 := by
        rcases Nat.eq_zero_or_pos m' with h | h
        · exact h
        · have h1 := p6 0 h
          have h2 := (lm_facts c size (it c s (0 * ((size + 31) / 32)))).2.2.1
          unfold try_ at h1
          omega
      subst hm0
      rw [Nat.zero_add, Nat.one_mul] at p3
      exact Prod.ext p3 q2
    have hw : IntKind.u64.wrap (IntKind.i64.wrap ((IntKind.i64.wrap ((n : Int) + 31)).tdiv 32)) = (((n + 31) / 32 : Nat) : Int) := by
      rw [i64_small (x := (n : Int) + 31) (by omega) (by omega), Int.tdiv_eq_ediv_of_nonneg (by omega), i64_small (by omega) (by omega), u64_small (by omega) (by omega)]
      omega
    rw [hw]
    refine Tot.bindq (Skip_odd hc (n := (((n + 31) / 32 : Nat) : Int)) ⟨by omega, by omega⟩) fun t ht => ?_
    subst ht
    refine Tot.bindq (P := fun j => j = false) ?_ fun j hj => by subst hj; exact Tot.if_ rfl (Tot.ret rfl)
    refine Tot.if_ (by rw [q3]; rfl) (Tot.if_ rfl (Tot.if_ ?_ ?_))
    · rw [hstate]
      simp only [Int.toNat_natCast, wrap_U (U_it hg1 _)]
      simp
    · have hxo : OkI q.1 := ⟨k1, fun _ => q1⟩
      have hxk : okI q.1 = true := (OkI_iff k1.1).2 hxo
      refine Tot.bind0 (a := true) ((IntOk_eq 0 q.1).trans (by rw [hxk])) (Tot.if_ rfl (Tot.if_ (by rw [q1]) ?_))
      refine Tot.bindq (IntOf_tot (a := (q.1.1, q.1.2)) hxo) fun u ⟨u1, u2, u3, u4⟩ => ?_
      refine Tot.bindq (Order_tot (a := (u.1, u.2)) (b := (m.1, m.2)) u2 m2) fun v ⟨v1, v2⟩ => Tot.ret ?_
      have e1 : iv3 (u.1, u.2) = val q.1.2 := by
        show (if u.1 = true then - w u.2 else w u.2) = _
        rw [u1, q1, u3]; rfl
      have e2 : iv3 (m.1, m.2) = 2 ^ n := by
        show (if m.1 = true then - w m.2 else w m.2) = _
        rw [m1, m3]; rfl
      have := v1.2 (by rw [e1, e2, ← l3]; exact k3)
      exact decide_eq_false (by omega)
  subst hx
  refine Tot.contl ?_
  refine Tot.bindq (Between_tot (lo := lo) (hi := hi) hc hg2 hg1 hd hd') fun y hy => ?_
  refine Tot.bindq (P := fun j => j = false) ?_ fun j hj => ?_
  · refine Tot.ite (fun hz => ?_) (fun hz => Tot.ret rfl)
    have hz : y.2.2.1 = 0 := by simpa using hz
    unfold BetweenR at hy
    split at hy
    · rw [hy] at hz; cases hz
    rename_i h1
    split at hy
    · rw [hy] at hz; cases hz
    rename_i h2
    split at hy
    · rw [hy] at hz; cases hz
    rename_i h3
    split at hy
    · rw [hy] at hz; cases hz
    rename_i h4
    obtain ⟨x, y1, y2, y3, y4, y5⟩ := hy
    have h1 : okI lo = true := by simpa using h1
    have h2 : okI hi = true := by simpa using h2
    have olo := (OkI_iff hd).1 h1
    have ohi := (OkI_iff hd').1 h2
    obtain ⟨k1, k2, k3⟩ := y3.ok
    have hfl : ∀ a ∈ [(lo.1, lo.2), (hi.1, hi.2), (y.1.1, y.1.2)], okI a = true := fun a ha => by
      simp only [List.mem_cons, List.not_mem_nil, or_false] at ha
      rcases ha with h | h | h
      · subst h; exact h1
      · subst h; exact h2
      · subst h; exact (OkI_iff y4.1.1).2 y4
    refine Tot.bindq (Faults_tot hfl (by simp)) fun f hf => ?_
    subst hf
    refine Tot.if_ rfl ?_
    refine Tot.bindq (IntOf_tot (a := (y.1.1, y.1.2)) y4) fun a ⟨a1, a2, a3, _⟩ => Tot.bindq (IntOf_tot (a := (lo.1, lo.2)) olo) fun b ⟨b1, b2', b3, _⟩ => ?_
    have ea : iv3 (a.1, a.2) = ival y.1 := iv3_of a1 a3
    have eb : iv3 (b.1, b.2) = ival lo := iv3_of b1 b3
    refine Tot.bindq (Order_tot (a := (a.1, a.2)) (b := (b.1, b.2)) a2 b2') fun v ⟨v1, v2⟩ => ?_
    rw [ea, eb] at v1
    refine Tot.if_ (decide_eq_false (fun e => by have := v1.1 e; omega)) ?_
    refine Tot.bindq (IntOf_tot (a := (y.1.1, y.1.2)) y4) fun a' ⟨a1', a2', a3', _⟩ => Tot.bindq (IntOf_tot (a := (hi.1, hi.2)) ohi) fun d ⟨d1, d2, d3, _⟩ => ?_
    have ea' : iv3 (a'.1, a'.2) = ival y.1 := iv3_of a1' a3'
    have ed : iv3 (d.1, d.2) = ival hi := iv3_of d1 d3
    refine Tot.bindq (Order_tot (a := (a'.1, a'.2)) (b := (d.1, d.2)) a2' d2) fun u ⟨u1, u2⟩ => Tot.ret ?_
    rw [ea', ed] at u1 u2
    refine decide_eq_false (fun e => ?_)
    have h5 : ¬ ival y.1 < ival hi := fun h => by have := u1.2 h; omega
    have h6 : ¬ ival y.1 = ival hi := fun h => by have := u2.2 h; omega
    omega
  subst hj
  refine Tot.if_ rfl ?_
  refine Tot.bindq (Choose_tot hc hg2 hg1 ws) fun r hr => ?_
  refine Tot.bindq (P := fun j => j = true) ?_ fun j hj => Tot.ret hj
  rcases hr with ⟨h1, h2⟩ | ⟨h1, i, h2, h3, h4⟩
  · exact Tot.it (by simpa using h1) (Tot.it (by rw [h2]; rfl) (Tot.ret rfl))
  · refine Tot.if_ (by rw [h1]; rfl) (Tot.it (by rw [h1]; rfl) (Tot.it (decide_eq_true (by omega)) (Tot.it (decide_eq_true (by omega)) ?_)))
    rw [h2]
    exact Tot.bind0 (idx_nat h3) (Tot.ret (decide_eq_true h4))

theorem dg_of {l : List Int} (h : ∀ x ∈ l, inK .u32 x) : Dg l := fun x hx => inK_u32 (h x hx)
theorem RandomBounded_said (g : Int × Int) (bits : Int) (lo hi : Bool × List Int) (ws : List Int) (h0 : inK .u64 g.1 ∧ inK .u64 g.2) (_ : inK .i64 bits) (h2 : True ∧ (∀ x ∈ lo.2, inK .u32 x) ∧ lo.2.length ≤ maxLen)
    (h3 : True ∧ (∀ x ∈ hi.2, inK .u32 x) ∧ hi.2.length ≤ maxLen) (_ : (∀ x ∈ ws, inK .i64 x) ∧ ws.length ≤ maxLen) : Tot (fun fuel => law4_RandomBounded fuel g bits lo hi ws) (· = true) :=
  RandomBounded_law g bits lo hi ws (inK_u64 h0.1) (inK_u64 h0.2) (dg_of h2.2.1) (dg_of h3.2.1)
end Go.Gv.R
